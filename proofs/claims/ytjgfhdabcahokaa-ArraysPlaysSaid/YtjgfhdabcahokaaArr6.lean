/- Arrays: the walk of packed. -/
import Derived.Test.YtjgfhdabcahokaaArr4
import Derived.StillTailTactics
import Derived.BigQuiet
import Derived.Deep.QuietTactic
namespace Go.Proofs.Ytjgfhdabcahokaa
open Go.RowKit
open Go.Maps (Keyed string_keyed)
open Go.WideMaps Go.WideElems Go.WideAt

set_option maxHeartbeats 400000 in
theorem arr_packed_no (w : World) (F : Nat → Prop) (pb bm : Nat) (v : Value) (l : List Arr.Slot) (h : ArrAt w F pb bm v l) (hl : l.length ≤ 1000000000) (hc : l.length < 16 ∨ l.length < 2 * (Arr.live l).length) :
    Calls Try.prog 30 #[.pointer (some ⟨pb, 0, none⟩)] w fun e w' => e = .returned (.tuple #[]) ∧ ∃ n, w' = w.drewN n := by
  have a0 := h.head.cell 0
  have a1 := h.head.cell 1
  have hm := fun n => (h.map.of_block (w' := w.drewN n) rfl).run_len Try.underlying58 3
  obtain ⟨A, cap, hv⟩ := len_of_row h.row
  subst hv
  have hll : (Arr.live l).length ≤ l.length := List.length_filter_le _ _
  clear h
  generalize (Arr.live l).length = m at *
  by_cases h16 : (l.length : Int) < 16
  · go_enter Try.func30, Try.ntmps30
    go_wp2_with fail
    go_quiet (fail)
    go_wp2_with fail
    exact bodyPost_ret (v := .tuple #[]) (by simp [results, Try.results30, go_sem]) rfl ⟨rfl, _, rfl⟩
  · have hc2 : (l.length : Int) < 2 * (m : Int) := by omega
    have hd : decide ((l.length : Int) < 16) = false := by simpa using h16
    go_enter Try.func30, Try.ntmps30
    go_wp2_with fail
    go_quiet (fail)
    go_wp2_with fail
    exact bodyPost_ret (v := .tuple #[]) (by simp [results, Try.results30, go_sem]) rfl ⟨rfl, _, rfl⟩
set_option maxHeartbeats 1000000 in
set_option maxRecDepth 100000 in
theorem arr_packed_yes (w : World) (F : Nat → Prop) (pb bm : Nat) (v : Value) (l : List Arr.Slot) (h : ArrAt w F pb bm v l) (hl : l.length ≤ 1000000000) (hc1 : 16 ≤ l.length) (hc2 : 2 * (Arr.live l).length ≤ l.length) :
    Calls Try.prog 30 #[.pointer (some ⟨pb, 0, none⟩)] w fun e w' => e = .returned (.tuple #[]) ∧ ∃ v' F', ArrAt w' F' pb bm v' (Arr.live l) ∧ Tur F w w' ∧ ∀ g, F' g → F g ∨ w.heap.size ≤ g := by
  have a0 := h.head.cell 0
  have a1 := h.head.cell 1
  have hm := fun n => (h.map.of_block (w' := w.drewN n) rfl).run_len Try.underlying58 3
  obtain ⟨g, cap, hv, hlc, hcm⟩ := ownBlock_form h.row (by omega)
  subst hv
  have H := Lib.hid h
  have hd : decide ((l.length : Int) < 16) = false := by simp; omega
  have hd2 : decide ((l.length : Int) < 2 * ((Arr.live l).length : Int)) = false := by simp; omega
  have hll : (Arr.live l).length ≤ l.length := List.length_filter_le _ _
  clear h
  obtain ⟨m, hm0⟩ : ∃ m, m = (Arr.live l).length := ⟨_, rfl⟩
  rw [← hm0] at hm hd2 hll
  have HM := Lib.hid hm0
  clear hm0 hc2
  go_enter Try.func30, Try.ntmps30
  go_wp2_with fail
  go_quiet (fail)
  have h0 := H.out.drewN nq
  have ht0 := Tur.of_drewN (F := F) w nq
  clear a0 a1 hm hd hd2
  generalize w.drewN nq = w0 at *
  have a0 := h0.head.cell 0
  have a1 := h0.head.cell 1
  go_wp2_with fail
  obtain ⟨B, hB⟩ : ∃ B, B = w0.heap.size := ⟨_, rfl⟩
  have HB := Lib.hid hB
  clear hB
  have H0 := Lib.hid h0
  clear h0
  go_loopw [2, 4, 30] (fun u _ i wr => ∃ k : Nat, k ≤ l.length ∧ i = .int .i64 k ∧ wr.ownsRow B 66 5 u (Arr.live (l.take k)).length (Arr.vals (Arr.live (l.take k))) ∧ MapS Try.prog 9 3 wr bm m (Arr.half l k) ∧ Tur (fun x => x = bm ∨ B ≤ x) w0 wr) (fun _ _ i _ => l.length - (intOf i).toNat)
  case atStart => exact ⟨0, Nat.zero_le _, rfl, World.ownsRow_nil w0 B 66 5, by rw [Arr.half_zero, HM.out]; exact H0.out.map, Tur.refl _ _⟩
  case round =>
    obtain ⟨k, hk, rfl, hown, hmap, htr⟩ := hrel
    have hbs := htr.size
    rw [← HB.out] at hbs
    have hpbB : pb < B := by rw [HB.out]; exact H0.out.head.lt
    have hgB : g < B := by rw [HB.out]; exact (H0.out.row.lt g rfl).2
    have hbr : Blk wr pb 61 #[.map (some bm), .slice (some ⟨g, 0, none⟩) l.length cap] := (htr.block pb H0.out.head.lt (fun e => e.elim H0.out.pb_bm (fun e => by omega))).trans H0.out.head
    have hgr : wr.heap[g]? = w0.heap[g]? := htr.block g (H0.out.row.lt g rfl).2 (fun e => e.elim (fun e => H0.out.row_bm (by rw [← e]; rfl)) (fun e => by omega))
    have b0 := hbr.cell 0
    have b1 := hbr.cell 1
    have f1 := hbr.free 1
    by_cases hlt : k < l.length
    · obtain ⟨d0, d1, d2, d3, d4⟩ := H0.out.cell5 (g := g) rfl k hlt
      have cc : ∀ o, wr.cell? ⟨g, o, none⟩ = w0.cell? ⟨g, o, none⟩ := fun o => World.cell?_of_block (w := w0) hgr
      rw [← cc] at d0 d1 d2 d3 d4
      have hle : (Arr.live (l.take k)).length ≤ k := Nat.le_trans (List.length_filter_le _ _) (List.length_take_le _ _)
      have hz1 : (Arr.live (l.take k)).length + 1 ≤ maxLen := by unfold maxLen; omega
      have hz2 : ((Arr.live (l.take k)).length + 1) * 56 ≤ 140737488355328 := by omega
      have hkl : Hid (l[k].key.size ≤ maxLen) := H0.out.small _ (List.getElem_mem hlt)
      clear cc hgr
      unfold maxLen at hcm
      cases ho : l[k].off
      · rw [ho] at d4
        have HS := Lib.hid (Arr.half_step l H0.out.tidy k hlt ho)
        have HSome := Lib.hid (Arr.half_some l H0.out.tidy k hlt ho)
        have HN : Hid (Arr.live (l.take (k + 1)) = Arr.live (l.take k) ++ [l[k]]) := by unfold Hid; rw [Arr.live_take l k hlt, ho]; simp
        have HO : Hid (l[k].off = false) := ho
        clear ho
        generalize l[k] = s at *
        go_wp2_with fail
        have hx := hown.alloc (.cells #[.string s.key, .int .u8 s.cell.k, .int .u64 s.cell.n, .string s.cell.s, .bool false] 66)
        have hx2 := hmap.of_block (w' := wr.alloc (.cells #[.string s.key, .int .u8 s.cell.k, .int .u64 s.cell.n, .string s.cell.s, .bool false] 66)) (Below.heap_alloc _ _ _ hmap.lt)
        have hx3 := htr.trans (Tur.of_alloc (F := fun _ => False) wr (.cells #[.string s.key, .int .u8 s.cell.k, .int .u64 s.cell.n, .string s.cell.s, .bool false] 66)) (fun _ _ f => f.elim)
        have hx4 := Blk.new wr 66 #[.string s.key, .int .u8 s.cell.k, .int .u64 s.cell.n, .string s.cell.s, .bool false]
        have hx5 : Blk (wr.alloc (.cells #[.string s.key, .int .u8 s.cell.k, .int .u64 s.cell.n, .string s.cell.s, .bool false] 66)) pb _ _ := (Below.heap_alloc _ _ _ hbr.lt).trans hbr
        have hx6 : (wr.alloc (.cells #[.string s.key, .int .u8 s.cell.k, .int .u64 s.cell.n, .string s.cell.s, .bool false] 66)).heap.size = wr.heap.size + 1 := by simp
        clear hown hmap htr hbr b0 b1 f1 d0 d1 d2 d3 d4
        generalize wr.alloc (.cells #[.string s.key, .int .u8 s.cell.k, .int .u64 s.cell.n, .string s.cell.s, .bool false] 66) = w2 at *
        have HX6 := Lib.hid hx6
        clear hx6
        obtain ⟨R, hR⟩ : ∃ R, R = wr.heap.size := ⟨_, rfl⟩
        rw [← hR] at hx4 HX6
        rw [← hR]
        have HR := Lib.hid hR
        clear hR
        have b0 := hx5.cell 0
        have r0 := hx4.cell 0
        obtain ⟨U, ucap, hu⟩ := len_of_row hx
        have HU := Lib.hid hu
        rw [hu]
        clear hu
        go_still_tail 8, (by kernel_rfl)
        change wpList _ _ _ _ _ w2.drew
        have hy := hx.drew
        have hy2 := hx2.of_block (w' := w2.drew) rfl
        have hy3 := hx3.drew
        have hy4 : Blk w2.drew R _ _ := hx4
        have hy5 : Blk w2.drew pb _ _ := hx5
        have HY6 : Hid (w2.drew.heap.size = R + 1) := HX6
        clear hx hx2 hx3 hx4 hx5 HX6 b0 r0
        generalize w2.drew = w3 at *
        have hml : m < maxLen := by unfold maxLen; omega
        have hRg : (.slice U (Arr.live (l.take k)).length ucap : Value).ownBlock ≠ some bm := by
          rw [← HU.out]
          intro e
          obtain ⟨es, c, hb⟩ := hy2.is_map
          obtain ⟨cur, hc⟩ := row_cells hy e
          rw [hb] at hc; cases hc
        rw [HU.out] at hy
        have hRb : R ≠ bm := by
          rintro rfl
          obtain ⟨es, c, hb⟩ := hy2.is_map
          unfold Blk at hy4; rw [hb] at hy4; cases hy4
        go_wp2_with (first | (at_mapUpdate; refine wp_map_put rfl _ _ _ _ rfl klaw Try.underlying9 Try.underlying58 rfl hy2 hml _ (.int .i64 (Arr.live (l.take k)).length) _ rfl rfl (keyOf_string_mk Try.underlying9 hkl.out) ⟨_, plainElem_int Try.underlying3 (WalkArith.wf_i64 (by omega))⟩ ?_; intro w4 hmap4 hturn4; have ht4 := Tur.of_grown hturn4.grown; have hz4 : Blk w4 R _ _ := (ht4.block R hy4.lt (fun e => hRb (by injection e))).trans hy4; have g0 := hz4.cell 0; have g1 := hz4.cell 1; have g2 := hz4.cell 2; have g3 := hz4.cell 3; have g4 := hz4.cell 4; have hown4 : w4.ownsRow B 66 5 (.slice U (Arr.live (l.take k)).length ucap) _ _ := own_of_block hy (fun q hq => ht4.block q (hy.lt q hq).2 (fun e => hRg (hq.trans e))); have hB4 : B ≤ w4.heap.size := Nat.le_trans (by have := HY6.out; have := HR.out; omega) ht4.size) | (at_builtin; refine wp_app1_at rfl _ _ _ rfl 66 5 56 _ Try.underlying59 info_slot rfl (by decide) B (.slice U (Arr.live (l.take k)).length ucap) _ _ rfl hown4 [.string s.key, .int .u8 s.cell.k, .int .u64 s.cell.n, .string s.cell.s, .bool false] _ rfl rfl rfl (one_slot (s := ⟨s.key, s.cell, false⟩)) hz1 hz2 hB4 ?_; intro q2 cap2 w5 hlc2 hcm2 hown5 hgrow5 hat5))
        have hmap5 : MapS Try.prog 9 3 w5 bm m (Arr.half l (k + 1)) := by
          rw [← HS.out]
          have e : (if (Arr.half l k s.key.data.toList).isSome then m else m + 1) = m := by
            have := HSome.out
            rw [if_pos (by exact this)]
          rw [e] at hmap4
          exact hmap4.of_block (hgrow5.block bm hmap4.lt (fun e => hRg e.symm))
        have hown6 : w5.ownsRow B 66 5 (.slice (some ⟨q2, 0, none⟩) ((Arr.live (l.take k)).length + 1) cap2) (Arr.live (l.take (k + 1))).length (Arr.vals (Arr.live (l.take (k + 1)))) := by
          rw [HN.out, Arr.vals_append, List.length_append]
          have e : Arr.vals [s] = [.string s.key, .int .u8 s.cell.k, .int .u64 s.cell.n, .string s.cell.s, .bool false] := by
            have := HO.out; simp [Arr.vals, Arr.Slot.vals, this]
          rw [e]; exact hown5
        have htr6 : Tur (fun x => x = bm ∨ B ≤ x) w0 w5 := (hy3.trans ht4 (fun x _ e => .inl (by injection e))).trans (Tur.of_grown hgrow5) (fun x _ e => .inr ((hy.lt x e.symm).1))
        go_roundw
        case rel => first | exact ⟨k + 1, by omega, by go_num, hown6, hmap5, htr6⟩ | ((repeat apply Exists.intro); exact ⟨⟨k + 1, by omega, by go_num, hown6, hmap5, htr6⟩, rfl, rfl, rfl⟩)
        case measure => simp [intOf]; omega
      · rw [ho] at d4
        have HN : Hid (Arr.live (l.take (k + 1)) = Arr.live (l.take k)) := by unfold Hid; rw [Arr.live_take l k hlt, ho]; simp
        have HD : Hid (Arr.half l (k + 1) = Arr.half l k) := Arr.half_dead l k hlt ho
        clear ho
        generalize l[k] = s at *
        have hown2 := fun o => hown.alloc o
        have hmap2 := fun o => hmap.of_block (w' := wr.alloc o) (Below.heap_alloc _ _ _ hmap.lt)
        have htr2 := fun o => htr.trans (Tur.of_alloc (F := fun _ => False) wr o) (fun _ _ f => f.elim)
        rw [← HN.out] at hown2
        rw [← HD.out] at hmap2
        have K1 := Lib.hid hown2
        have K2 := Lib.hid hmap2
        have K3 := Lib.hid htr2
        clear hown2 hmap2 htr2 hown hmap htr
        go_wp2_with fail
        go_roundw
        case rel => exact ⟨k + 1, by omega, by go_num, K1.out _, K2.out _, K3.out _⟩
        case measure => simp [intOf]; omega
    · obtain rfl : k = l.length := by omega
      have HT : Hid (l.take l.length = l) := List.take_length
      rw [HT.out] at hown
      rw [Arr.half_all] at hmap
      have b0 := hbr.cell 0
      obtain ⟨U, ucap, hu⟩ := len_of_row hown
      have HU := Lib.hid hu
      have hown' := hown
      rw [hu] at hown' ⊢
      clear hu
      have K1 := Lib.hid hown'
      have K2 := Lib.hid hmap
      have K3 := Lib.hid htr
      have K4 := Lib.hid hbr
      clear hown' hown hmap htr hbr
      go_wp2_with fail
      go_end0
      have hUp : ∀ q, (.slice U (Arr.live l).length ucap : Value).ownBlock = some q → B ≤ q ∧ q < wr.heap.size := fun q hq => K1.out.lt q hq
      have hsz0 := ht0.size
      have hBB := HB.out
      refine ⟨rfl, .slice U (Arr.live l).length ucap, fun x => x = pb ∨ x = bm ∨ (.slice U (Arr.live l).length ucap : Value).ownBlock = some x, ⟨?_, .inl rfl, .inr (.inl rfl), fun q hq => .inr (.inr hq), K4.out.set 1 _, ?_, ?_, Arr.tidy_live H0.out.tidy, fun s hs => H0.out.small s (List.mem_filter.1 hs).1⟩, ?_, ?_⟩
      · intro x hx
        simp only [World.setCell, Array.size_modify]
        rcases hx with rfl | rfl | hx
        · exact K4.out.lt
        · exact K2.out.lt
        · exact (hUp x hx).2
      · rw [Arr.live_live, ← HM.out]
        exact K2.out.of_block (Below.heap_setCell _ _ _ _ (Ne.symm H0.out.pb_bm))
      · exact own_of_block (own_base K1.out (fun _ _ => Nat.zero_le _)) (fun q hq => Below.heap_setCell _ _ _ _ (fun e => by
          have := (hUp q hq).1
          have e' : q = pb := e
          omega))
      · have t1 : Tur F w0 wr := K3.out.mono (fun x hx e => by
          rcases e with rfl | e
          · exact H.out.fm
          · omega)
        exact (ht0.trans t1 (fun _ _ f => f)).trans (Tur.of_set ⟨pb, 1, none⟩ _) (fun x _ e => by subst e; exact H.out.fp)
      · intro x hx
        rcases hx with rfl | rfl | hx
        · exact .inl H.out.fp
        · exact .inl H.out.fm
        · exact .inr (by have := (hUp x hx).1; omega)
theorem arr_packed (w : World) (F : Nat → Prop) (pb bm : Nat) (v : Value) (l : List Arr.Slot) (h : ArrAt w F pb bm v l) (hl : l.length ≤ 1000000000) :
    Calls Try.prog 30 #[.pointer (some ⟨pb, 0, none⟩)] w fun e w' => e = .returned (.tuple #[]) ∧ ∃ v' F', ArrAt w' F' pb bm v' (Arr.packL l) ∧ Tur F w w' ∧ ∀ g, F' g → F g ∨ w.heap.size ≤ g := by
  unfold Arr.packL
  by_cases hc : l.length < 16 ∨ l.length < 2 * (Arr.live l).length
  · rw [if_pos hc]
    refine (arr_packed_no w F pb bm v l h hl hc).mono ?_
    rintro e w' ⟨rfl, n, rfl⟩
    exact ⟨rfl, v, F, h.drewN n, Tur.of_drewN _ _, fun _ h => .inl h⟩
  · rw [if_neg hc]
    exact arr_packed_yes w F pb bm v l h hl (by omega) (by omega)
end Go.Proofs.Ytjgfhdabcahokaa
