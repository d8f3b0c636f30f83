/- Arrays: the walks of Len, Clear, Keys. -/
import Derived.Test.YtjgfhdabcahokaaArr3
namespace Go.Proofs.Ytjgfhdabcahokaa
open Go.RowKit
open Go.Maps (Keyed string_keyed)
open Go.WideMaps Go.WideElems Go.WideAt

theorem arr_len (w : World) (F : Nat → Prop) (pb bm : Nat) (v : Value) (l : List Arr.Slot) (h : ArrAt w F pb bm v l) :
    Calls Try.prog 17 #[.pointer (some ⟨pb, 0, none⟩)] w fun e w' => e = .returned (.int .i64 (Arr.live l).length) ∧ w = w' := by
  have c0 := h.head.cell 0
  have hmap := h.map
  go_enter Try.func17, Try.ntmps17
  go_wp2_with fail
  refine (none_at _ pb (some bm) v h.head).mono ?_
  rintro e w' ⟨rfl, rfl⟩
  go_wp2_with (at_len; refine wp_map_len rfl _ _ rfl Try.underlying58 rfl hmap ?_)
  go_ret
  exact ⟨rfl, rfl⟩
theorem arr_len_none (w : World) (p : Value) (hn : Calls Try.prog 29 #[p] w fun e w' => e = .returned (.bool true) ∧ w = w') :
    Calls Try.prog 17 #[p] w fun e w' => e = .returned (.int .i64 0) ∧ w = w' := by
  have HN := Lib.hid hn
  clear hn
  go_enter Try.func17, Try.ntmps17
  go_wp2_with fail
  refine HN.out.mono ?_
  rintro e w' ⟨rfl, rfl⟩
  go_wp2_with fail
  go_ret
  exact ⟨rfl, rfl⟩
theorem arr_clear (w : World) (F : Nat → Prop) (pb bm : Nat) (v : Value) (l : List Arr.Slot) (h : ArrAt w F pb bm v l) :
    Calls Try.prog 20 #[.pointer (some ⟨pb, 0, none⟩)] w fun e w' => e = .returned (.tuple #[]) ∧ ArrAt w' F pb bm (.slice none 0 0) [] ∧ Tur F w w' := by
  have c0 := h.head.cell 0
  have hmap := h.map
  have H := Lib.hid h
  clear h
  go_enter Try.func20, Try.ntmps20
  go_wp2_with fail
  refine (none_at _ pb (some bm) v H.out.head).mono ?_
  rintro e w' ⟨rfl, rfl⟩
  go_wp2_with (with_reducible refine wp_map_clear rfl (.tmp 8) 58 rfl Try.underlying58 rfl hmap ?_; intro w1 hmap1 hturn1; obtain ⟨c1', f1', hr1, hd1, ht1⟩ := H.out.mapped hturn1; have c11 := c1' 1; have f11 := f1' 1; clear c1' f1' hturn1)
  go_end0
  have hpm := H.out.pb_bm
  refine ⟨rfl, ⟨fun k hk => by simp only [World.setCell, Array.size_modify]; exact Nat.lt_of_lt_of_le (H.out.flt k hk) ht1.size, H.out.fp, H.out.fm, fun g hg => by simp [Value.ownBlock] at hg, hd1.set 1 _, ?_, World.ownsRow_nil _ _ _ _, by simp [Arr.Tidy, Arr.keys, Arr.live], fun s hs => by simp at hs⟩, ?_⟩
  · have e : Arr.look [] = fun _ => none := by funext x; rfl
    rw [e]
    exact hmap1.of_block (Below.heap_setCell _ _ _ _ (Ne.symm hpm))
  · exact (ht1.mono (fun k _ hk => by subst hk; exact H.out.fm)).trans (Tur.of_set ⟨pb, 1, none⟩ _) (fun k _ hk => by subst hk; exact H.out.fp)
theorem arr_clear_none (w : World) (p : Value) (hn : Calls Try.prog 29 #[p] w fun e w' => e = .returned (.bool true) ∧ w = w') :
    Calls Try.prog 20 #[p] w fun e w' => e = .returned (.tuple #[]) ∧ w = w' := by
  have HN := Lib.hid hn
  clear hn
  go_enter Try.func20, Try.ntmps20
  go_wp2_with fail
  refine HN.out.mono ?_
  rintro e w' ⟨rfl, rfl⟩
  go_wp2_with fail
  go_end0
  exact ⟨rfl, rfl⟩
theorem arr_keys_none (w : World) (p : Value) (hn : Calls Try.prog 29 #[p] w fun e w' => e = .returned (.bool true) ∧ w = w') :
    Calls Try.prog 10 #[p] w fun e w' => e = .returned (.slice none 0 0) ∧ w = w' := by
  have HN := Lib.hid hn
  clear hn
  go_enter Try.func10, Try.ntmps10
  go_wp2_with fail
  refine HN.out.mono ?_
  rintro e w' ⟨rfl, rfl⟩
  go_wp2_with fail
  go_ret
  exact ⟨rfl, rfl⟩
theorem info_str : (Try.prog.info? 9).map (fun i => (i.zero, i.size, i.bytes)) = some (some (.string ⟨#[]⟩), 1, 16) := by kernel_rfl
set_option maxHeartbeats 1000000 in
theorem arr_keys (w : World) (F : Nat → Prop) (pb bm : Nat) (v : Value) (l : List Arr.Slot) (h : ArrAt w F pb bm v l) (hl : l.length ≤ 1000000000) :
    Calls Try.prog 10 #[.pointer (some ⟨pb, 0, none⟩)] w fun e w' => ∃ u, e = .returned u ∧ w'.ownsRow w.heap.size 9 1 u (Arr.live l).length (svals ((Arr.live l).map Arr.Slot.key)) ∧ Below w.heap.size w w' := by
  have c0 := h.head.cell 0
  have c1 := h.head.cell 1
  have H := Lib.hid h
  obtain ⟨A, cap, hv⟩ := len_of_row h.row
  subst hv
  clear h
  obtain ⟨B, hB⟩ : ∃ B, B = w.heap.size := ⟨_, rfl⟩
  have HB := Lib.hid hB
  clear hB
  go_enter Try.func10, Try.ntmps10
  go_wp2_with fail
  refine (none_at _ pb (some bm) _ H.out.head).mono ?_
  rintro e w' ⟨rfl, rfl⟩
  go_wp2_with fail
  go_loopw [3, 5, 13] (fun u _ i wr => ∃ k : Nat, k ≤ l.length ∧ i = .int .i64 k ∧ wr.ownsRow B 9 1 u (Arr.live (l.take k)).length (svals ((Arr.live (l.take k)).map Arr.Slot.key)) ∧ Below B w wr) (fun _ _ i _ => l.length - (intOf i).toNat)
  case atStart => exact ⟨0, Nat.zero_le _, rfl, World.ownsRow_nil w B 9 1, Below.refl _ _⟩
  case round =>
    obtain ⟨k, hk, rfl, hown, hbl⟩ := hrel
    have hbs := hbl.size
    rw [← HB.out] at hbs
    by_cases hlt : k < l.length
    · obtain ⟨g, cap', hv, hlc, hcm⟩ := ownBlock_form H.out.row (by omega)
      injection hv with e1 e2 e3
      subst e1
      have hgB : g < B := by rw [HB.out]; exact H.out.flt _ (H.out.fv g rfl)
      obtain ⟨d0, d1, d2, d3, d4⟩ := H.out.cell5 (g := g) rfl k hlt
      have cc : ∀ o, wr.cell? ⟨g, o, none⟩ = w.cell? ⟨g, o, none⟩ := fun o => hbl.cell (p := ⟨g, o, none⟩) hgB
      rw [← cc] at d0 d1 d2 d3 d4
      have HT : Hid (l.take (k + 1) = l.take k ++ [l[k]]) := List.take_succ_eq_append_getElem hlt
      have hle : (Arr.live (l.take k)).length ≤ k := Nat.le_trans (List.length_filter_le _ _) (List.length_take_le _ _)
      have hz1 : (Arr.live (l.take k)).length + 1 ≤ maxLen := by unfold maxLen; omega
      have hz2 : ((Arr.live (l.take k)).length + 1) * 16 ≤ 140737488355328 := by omega
      clear cc
      unfold maxLen at hcm
      generalize l[k] = s at *
      cases ho : s.off
      · rw [ho] at d4
        have HN : Hid (Arr.live (l.take (k + 1)) = Arr.live (l.take k) ++ [s]) := by unfold Hid; rw [HT.out, Arr.live_append]; simp [Arr.live, ho]
        clear ho HT
        go_wp2_with (at_builtin; refine wp_app1_at rfl _ _ _ rfl 9 1 16 (.string ⟨#[]⟩) Try.underlying25 info_str rfl (by decide) B u3 _ _ rfl (hown.alloc _) [.string s.key] (wr.heap.size + 1) (by simp) rfl rfl one_str hz1 hz2 (by simp; omega) ?_; intro g2 cap2 w2 hlc2 hcm2 hown2 hgrow2 _)
        have hbl2 : Below B w w2 := (hbl.alloc hbs _).trans (below_grown (hown.alloc _) hgrow2 (by simp; omega))
        have hown3 : w2.ownsRow B 9 1 (.slice (some ⟨g2, 0, none⟩) ((Arr.live (l.take k)).length + 1) cap2) (Arr.live (l.take (k + 1))).length (svals ((Arr.live (l.take (k + 1))).map Arr.Slot.key)) := by
          rw [HN.out]; simpa [svals] using hown2
        clear hown hown2 hbl hgrow2
        go_roundw
        case rel => first | exact ⟨k + 1, by omega, by go_num, hown3, hbl2⟩ | ((repeat apply Exists.intro); exact ⟨⟨k + 1, by omega, by go_num, hown3, hbl2⟩, rfl, rfl, rfl⟩)
        case measure => simp [intOf]; omega
      · rw [ho] at d4
        have HN : Hid (Arr.live (l.take (k + 1)) = Arr.live (l.take k)) := by unfold Hid; rw [HT.out, Arr.live_append]; simp [Arr.live, ho]
        clear ho HT
        have hbl2 := fun o => hbl.alloc hbs o
        have hown2 := fun o => hown.alloc o
        rw [← HN.out] at hown2
        clear hown hbl
        have HO := Lib.hid hown2
        have HBL := Lib.hid hbl2
        clear hown2 hbl2
        go_wp2_with fail
        go_roundw
        case rel => exact ⟨k + 1, by omega, by go_num, HO.out _, HBL.out _⟩
        case measure => simp [intOf]; omega
    · obtain rfl : k = l.length := by omega
      have HE : Hid (l.take l.length = l) := List.take_length
      rw [HE.out] at hown
      go_wp2_with fail
      go_ret
      exact ⟨_, rfl, by rw [← HB.out]; exact hown, by rw [← HB.out]; exact hbl⟩
end Go.Proofs.Ytjgfhdabcahokaa
