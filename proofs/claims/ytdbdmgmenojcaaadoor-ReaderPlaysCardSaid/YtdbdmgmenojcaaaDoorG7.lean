/- The document's world: with. -/
import Derived.Test.YtdbdmgmenojcaaaDoorG6
set_option linter.unusedVariables false
set_option linter.unusedSimpArgs false
namespace Go.Proofs.YtdbdmgmenojcaaaDoor
open Go.RowKit Wd
namespace Wd
def withP (name data : ByteArray) (p : ByteArray × ByteArray) : ByteArray × ByteArray := if p.1 = name then (p.1, data) else p
def withL (l : List (ByteArray × ByteArray)) (name data : ByteArray) : List (ByteArray × ByteArray) := l.map (withP name data) ++ if l.any (isFile name) then [] else [(name, data)]
theorem map_take_succ {α β : Type} (f : α → β) (l : List α) (k : Nat) (h : k < l.length) : (l.take (k + 1)).map f = (l.take k).map f ++ [f l[k]] := by
  rw [List.take_succ_eq_append_getElem h, List.map_append]; rfl
end Wd
theorem info_con : (Tryd.prog.info? 83).map (fun i => (i.zero, i.size, i.bytes)) = some (some (.agg #[.string ⟨#[]⟩, .string ⟨#[]⟩]), 2, 32) := by kernel_rfl
theorem one_con {a b : ByteArray} : ∀ u ∈ [Value.string a, .string b], u.oneCell' = true := by
  intro u hu
  simp at hu
  rcases hu with rfl | rfl <;> rfl
theorem fvals2_snoc (l : List (ByteArray × ByteArray)) (a b : ByteArray) : fvals2 l ++ [.string a, .string b] = fvals2 (l ++ [(a, b)]) := by simp [fvals2, fl2]
section
variable {K : Nat → Prop} {w : World} {s2 s3 vF vO vE : Value} {st : RSt}
set_option maxRecDepth 100000 in
set_option maxHeartbeats 4000000 in
theorem rf_with (A0 : Option Addr) (n0 c0 : Nat) (h : RAt K w s2 s3 vF vO vE st) (name data : ByteArray) (hn : st.files.length ≤ 100000) :
    Calls Tryd.prog 67 #[.agg (rwcells (.slice A0 n0 c0) s2 s3 vF vO vE st), .string name, .string data] w fun e w' => ∃ vF', e = .returned (.agg (rwcells (.slice A0 n0 c0) s2 s3 vF' vO vE { st with files := withL st.files name data })) ∧ RAt (Nw K w) w' s2 s3 vF' vO vE { st with files := withL st.files name data } ∧ Below w.heap.size w w' := by
  obtain ⟨A2, c2, A3, c3, AF, cF, AO, cO, AE, cE, rfl, rfl, rfl, rfl, rfl, hf1, hf2, -, -, -, -⟩ := h.forms
  have HH := Lib.hid h
  have hF := h.oF.row
  obtain ⟨-, hn9, AF', cF', hv, hc1, hc2, hcell⟩ := hF
  obtain ⟨rfl, -, rfl⟩ := Value.slice.inj hv
  have hb0 : Below w.heap.size w ((w.alloc (.cells (rwcells (.slice A0 n0 c0) (.slice A2 st.replies.length c2) (.slice A3 st.fails.length c3) (.slice AF st.files.length cF) (.slice AO st.opn.length cO) (.slice AE st.events.length cE) st) 46)).alloc (.cells #[.slice none 0 0, .string ⟨#[]⟩, .slice none 0 0, .slice none 0 0, .int .i64 0, .int .i64 0, .int .u64 0, .slice none 0 0, .int .i64 0, .slice none 0 0, .int .u64 0, .slice none 0 0] 46)) := ((Below.refl _ _).alloc (Nat.le_refl _) _).alloc (by simp) _
  have HB0 := Lib.hid hb0
  have HBW := Lib.hid ((Blk.new w 46 (rwcells (.slice A0 n0 c0) (.slice A2 st.replies.length c2) (.slice A3 st.fails.length c3) (.slice AF st.files.length cF) (.slice AO st.opn.length cO) (.slice AE st.events.length cE) st)).keep (Tur.of_alloc (F := fun _ => False) _ (.cells #[.slice none 0 0, .string ⟨#[]⟩, .slice none 0 0, .slice none 0 0, .int .i64 0, .int .i64 0, .int .u64 0, .slice none 0 0, .int .i64 0, .slice none 0 0, .int .u64 0, .slice none 0 0] 46)) (fun h => h))
  have hbr := Blk.new (w.alloc (.cells (rwcells (.slice A0 n0 c0) (.slice A2 st.replies.length c2) (.slice A3 st.fails.length c3) (.slice AF st.files.length cF) (.slice AO st.opn.length cO) (.slice AE st.events.length cE) st) 46)) 46 #[.slice none 0 0, .string ⟨#[]⟩, .slice none 0 0, .slice none 0 0, .int .i64 0, .int .i64 0, .int .u64 0, .slice none 0 0, .int .i64 0, .slice none 0 0, .int .u64 0, .slice none 0 0]
  rw [show (w.alloc (.cells (rwcells (.slice A0 n0 c0) (.slice A2 st.replies.length c2) (.slice A3 st.fails.length c3) (.slice AF st.files.length cF) (.slice AO st.opn.length cO) (.slice AE st.events.length cE) st) 46)).heap.size = w.heap.size + 1 by simp] at hbr
  have HBR := Lib.hid hbr
  have HSZ := Lib.hid (show ((w.alloc (.cells (rwcells (.slice A0 n0 c0) (.slice A2 st.replies.length c2) (.slice A3 st.fails.length c3) (.slice AF st.files.length cF) (.slice AO st.opn.length cO) (.slice AE st.events.length cE) st) 46)).alloc (.cells #[.slice none 0 0, .string ⟨#[]⟩, .slice none 0 0, .slice none 0 0, .int .i64 0, .int .i64 0, .int .u64 0, .slice none 0 0, .int .i64 0, .slice none 0 0, .int .u64 0, .slice none 0 0] 46)).heap.size = w.heap.size + 2 by simp)
  obtain ⟨nF, hnF⟩ : ∃ n, n = st.files.length := ⟨_, rfl⟩
  rw [← hnF] at hn9 hc1 hcell HB0 HBW HBR HSZ hn
  have hgoal : True := trivial
  have HNF := Lib.hid hnF
  have HC := Lib.hid hcell
  have hcap3 : cF < 9223372036854775808 := by unfold maxLen at hc2; omega
  rw [← hnF]
  clear h hb0 hbr hcell hv hgoal hnF hf1
  go_enter Tryd.func67, Tryd.ntmps67
  go_upto_region 2 with (fail)
  obtain ⟨B, hB⟩ : ∃ B, B = w.heap.size := ⟨_, rfl⟩
  rw [← hB] at HB0 HBW HBR HSZ ⊢
  obtain ⟨R, hR⟩ : ∃ R, R = B + 1 := ⟨_, rfl⟩
  rw [← hR] at HBR ⊢
  have HBE := Lib.hid (And.intro hB hR)
  clear hB hR
  generalize ((w.alloc (.cells (rwcells (.slice A0 n0 c0) (.slice A2 st.replies.length c2) (.slice A3 st.fails.length c3) (.slice AF nF cF) (.slice AO st.opn.length cO) (.slice AE st.events.length cE) st) 46)).alloc (.cells #[.slice none 0 0, .string ⟨#[]⟩, .slice none 0 0, .slice none 0 0, .int .i64 0, .int .i64 0, .int .u64 0, .slice none 0 0, .int .i64 0, .slice none 0 0, .int .u64 0, .slice none 0 0] 46)) = w1 at *
  go_wp2_with fail
  go_loopw [7, 8, 9] (fun lv tv iv wr => ∃ k : Nat, k ≤ nF ∧ iv = .int .i64 k ∧ tv = .bool ((st.files.take k).any (isFile name)) ∧ wr.ownsRow B 83 2 lv k (fvals2 ((st.files.take k).map (withP name data))) ∧ (∀ g, lv.ownBlock = some g → w1.heap.size ≤ g) ∧ Below w1.heap.size w1 wr) (fun _ _ i _ => nF - (intOf i).toNat)
  case atStart => exact ⟨0, Nat.zero_le _, rfl, rfl, World.ownsRow_nil _ _ _ _, (fun g hg => by cases hg), Below.refl _ _⟩
  case round =>
    obtain ⟨k, hk, rfl, rfl, hrow, hge, hbr⟩ := hrel
    have HROW := Lib.hid hrow
    have HGE := Lib.hid hge
    have HBR2 := Lib.hid hbr
    have c7 : wr.cell? ⟨B, 7, none⟩ = some (.slice AF nF cF) := (below_blk HBW.out hbr HBW.out.lt).cell 7
    obtain ⟨LA, LC, hlv, hl1, hl2⟩ := own_form hrow
    subst hlv
    clear hrow hge hbr
    by_cases hlt : k < nF
    · have hkl : k < st.files.length := by have := HNF.out; omega
      obtain ⟨b, oo, rfl, hbl, -, hcell⟩ := HC.out (by omega)
      have hbw1 : b < w1.heap.size := by have := HSZ.out; have := HBE.out; omega
      have hall : ∀ j, j < 2 → wr.cell? ⟨b, oo + (k * 2 + j), none⟩ = (fl2 st.files[k])[j]? := by
        intro j hj
        rw [HBR2.out.cell (p := ⟨b, oo + (k * 2 + j), none⟩) hbw1, HB0.out.cell (p := ⟨b, oo + (k * 2 + j), none⟩) (by have := HBE.out; show b < B; omega), hcell (k * 2 + j) (by omega), fvals2_get st.files k j hkl hj]
      have d0 : wr.cell? ⟨b, oo + k * 2, none⟩ = some (.string st.files[k].1) := hall 0 (by omega)
      have d1 : wr.cell? ⟨b, oo + k * 2 + 1, none⟩ = some (.string st.files[k].2) := by rw [Nat.add_assoc]; exact hall 1 (by omega)
      have HT := Lib.hid (any_take_succ (isFile name) st.files k hkl)
      have HM := Lib.hid (map_take_succ (withP name data) st.files k hkl)
      have HF1 : Hid (isFile name st.files[k] = decide (st.files[k].1 = name)) := rfl
      have HW1 : Hid (withP name data st.files[k] = if st.files[k].1 = name then (st.files[k].1, data) else (st.files[k].1, st.files[k].2)) := rfl
      clear hcell hall
      generalize st.files[k].1 = fo at *
      generalize st.files[k].2 = fd at *
      have hz1 : k + 1 ≤ maxLen := by unfold maxLen; omega
      have hz2 : (k + 1) * 32 ≤ 140737488355328 := by omega
      have HRW : Hid (B ≤ wr.heap.size) := by have := HBR2.out.size; have := HSZ.out; show B ≤ wr.heap.size; omega
      by_cases h1 : fo = name
      · have e1 : (fo.toList == name.toList) = true := by rw [str_eq]; exact decide_eq_true h1
        rw [if_pos h1] at HW1
        have HT2 : Hid ((st.files.take (k + 1)).any (isFile name) = true) := by unfold Hid; rw [HT.out, HF1.out, decide_eq_true h1, Bool.or_true]
        clear h1
        go_wp2_with (at_builtin; refine wp_app1_at rfl _ _ _ rfl 83 2 32 _ Tryd.underlying33 info_con rfl (by decide) B (.slice LA k LC) k _ rfl (HROW.out.alloc _) [.string fo, .string data] (wr.heap.size + 1) (by simp) rfl rfl one_con hz1 hz2 (by simp; have := HRW.out; omega) ?_; intro g2 cap2 w2 hlc2 hcm2 hown2 hgrow2 hat2)
        have HO2 : Hid (w2.ownsRow B 83 2 (.slice (some ⟨g2, 0, none⟩) (k + 1) cap2) (k + 1) (fvals2 ((st.files.take (k + 1)).map (withP name data)))) := by
          unfold Hid; rw [HM.out, HW1.out, ← fvals2_snoc]; exact hown2
        have HGE2 : Hid (w1.heap.size ≤ g2) := by
          rcases hat2 with h | h
          · exact HGE.out g2 h
          · have := HBR2.out.size; simp at h; show w1.heap.size ≤ g2; omega
        have HBZ : Hid (Below w1.heap.size w1 w2) := by
          have ha : Below w1.heap.size w1 (wr.alloc (.cells #[.string fo, .string data] 83)) := HBR2.out.alloc HBR2.out.size _
          exact ha.trans ((Tur.of_grown hgrow2).below _ ha.size (fun q hq h => by have := HGE.out q h.symm; omega))
        clear hown2 hgrow2 hat2
        go_wp2_with fail
        go_roundw
        case rel => exact ⟨k + 1, by omega, by go_num, by rw [HT2.out], HO2.out, fun g hg => by injection hg with hg; have := HGE2.out; change g2 = g at hg; omega, HBZ.out⟩
        case measure => simp [intOf]; omega
      · have e1 : (fo.toList == name.toList) = false := by rw [str_eq]; exact decide_eq_false h1
        rw [if_neg h1] at HW1
        have HT2 : Hid ((st.files.take (k + 1)).any (isFile name) = (st.files.take k).any (isFile name)) := by unfold Hid; rw [HT.out, HF1.out, decide_eq_false h1, Bool.or_false]
        clear h1
        go_wp2_with (at_builtin; refine wp_app1_at rfl _ _ _ rfl 83 2 32 _ Tryd.underlying33 info_con rfl (by decide) B (.slice LA k LC) k _ rfl (HROW.out.alloc _) [.string fo, .string fd] (wr.heap.size + 1) (by simp) rfl rfl one_con hz1 hz2 (by simp; have := HRW.out; omega) ?_; intro g2 cap2 w2 hlc2 hcm2 hown2 hgrow2 hat2)
        have HO2 : Hid (w2.ownsRow B 83 2 (.slice (some ⟨g2, 0, none⟩) (k + 1) cap2) (k + 1) (fvals2 ((st.files.take (k + 1)).map (withP name data)))) := by
          unfold Hid; rw [HM.out, HW1.out, ← fvals2_snoc]; exact hown2
        have HGE2 : Hid (w1.heap.size ≤ g2) := by
          rcases hat2 with h | h
          · exact HGE.out g2 h
          · have := HBR2.out.size; simp at h; show w1.heap.size ≤ g2; omega
        have HBZ : Hid (Below w1.heap.size w1 w2) := by
          have ha : Below w1.heap.size w1 (wr.alloc (.cells #[.string fo, .string fd] 83)) := HBR2.out.alloc HBR2.out.size _
          exact ha.trans ((Tur.of_grown hgrow2).below _ ha.size (fun q hq h => by have := HGE.out q h.symm; omega))
        clear hown2 hgrow2 hat2
        go_wp2_with fail
        go_roundw
        case rel => exact ⟨k + 1, by omega, by go_num, by rw [HT2.out], HO2.out, fun g hg => by injection hg with hg; have := HGE2.out; change g2 = g at hg; omega, HBZ.out⟩
        case measure => simp [intOf]; omega
    · have hkn : k = nF := by omega
      subst hkn
      have htk : st.files.take k = st.files := by rw [List.take_of_length_le (by have := HNF.out; omega)]
      have HTK := Lib.hid htk
      rw [htk] at HROW ⊢
      obtain ⟨an, han⟩ : ∃ an, an = st.files.any (isFile name) := ⟨_, rfl⟩
      rw [← han]
      have HAN := Lib.hid han
      have hz1 : k + 1 ≤ maxLen := by unfold maxLen; omega
      have hz2 : (k + 1) * 32 ≤ 140737488355328 := by omega
      have HRW : Hid (B ≤ wr.heap.size) := by have := HBR2.out.size; have := HSZ.out; show B ≤ wr.heap.size; omega
      clear htk han
      cases an
      · have HWL : Hid (st.files.map (withP name data) ++ [(name, data)] = withL st.files name data) := by unfold Hid withL; rw [← HAN.out]; rfl
        have HWLN : Hid ((withL st.files name data).length = st.files.length + 1) := by unfold Hid; rw [← HWL.out]; simp
        go_upto_region 13 with (at_builtin; refine wp_app1_at rfl _ _ _ rfl 83 2 32 _ Tryd.underlying33 info_con rfl (by decide) B (.slice LA k LC) k _ rfl HROW.out [.string name, .string data] wr.heap.size rfl rfl rfl one_con hz1 hz2 HRW.out ?_; intro g2 cap2 wz hlc2 hcm2 hown2 hgrow2 hat2)
        have HOZ : Hid (wz.ownsRow B 83 2 (.slice (some ⟨g2, 0, none⟩) (k + 1) cap2) (k + 1) (fvals2 (st.files.map (withP name data) ++ [(name, data)]))) := by
          unfold Hid; rw [← fvals2_snoc]; exact hown2
        have HGZ : Hid (∀ g, (.slice (some ⟨g2, 0, none⟩) (k + 1) cap2 : Value).ownBlock = some g → w1.heap.size ≤ g) := by
          intro g hg
          have e : g2 = g := by injection hg
          subst e
          rcases hat2 with h | h
          · exact HGE.out g2 h
          · have := HBR2.out.size; omega
        have HBZ : Hid (Below w1.heap.size w1 wz) := HBR2.out.trans ((Tur.of_grown hgrow2).below _ HBR2.out.size (fun q hq h => by have := HGE.out q h.symm; omega))
        have HLL : Hid (k + 1 = (withL st.files name data).length) := by unfold Hid; rw [HWLN.out]; have := HNF.out; omega
        clear hown2 hgrow2 hat2
        have HWB := Lib.hid (below_blk HBW.out HBZ.out HBW.out.lt)
        have HRB := Lib.hid (below_blk HBR.out HBZ.out HBR.out.lt)
        have HNE := Lib.hid (show ¬ R = B by have := HBE.out; omega)
        obtain ⟨LN, hLN⟩ : ∃ x, x = k + 1 := ⟨_, rfl⟩
        rw [← hLN] at HOZ HGZ ⊢
        have HLN := Lib.hid hLN
        clear hLN
        have y7 := HWB.out.free 7
        have c7z : wz.cell? ⟨B, 7, none⟩ = some (.slice AF k cF) := HWB.out.cell 7
        go_upto_region 14 with (fail)
        have HW4 : Hid (Blk (wz.setCell ⟨B, 7, none⟩ (.slice (some ⟨g2, 0, none⟩) LN cap2)) B 46 (rwcells (.slice A0 n0 c0) (.slice A2 st.replies.length c2) (.slice A3 st.fails.length c3) (.slice (some ⟨g2, 0, none⟩) LN cap2) (.slice AO st.opn.length cO) (.slice AE st.events.length cE) st)) := HWB.out.set 7 _
        have HR4 := Lib.hid (HRB.out.keep (Tur.of_set ⟨B, 7, none⟩ (.slice (some ⟨g2, 0, none⟩) LN cap2)) HNE.out)
        have HB4 := Lib.hid ((HB0.out.trans (HBZ.out.mono (by have := HB0.out.size; have := HBE.out; omega))).trans ((Tur.of_set (w := wz) ⟨B, 7, none⟩ (.slice (some ⟨g2, 0, none⟩) LN cap2)).below B (by have := HWB.out.lt; omega) (fun k hk h => by have h : k = B := h; omega)))
        have HO4 := Lib.hid (own_of_block HOZ.out (fun g hg => (Tur.of_set ⟨B, 7, none⟩ (.slice (some ⟨g2, 0, none⟩) LN cap2)).block g (own_lt HOZ.out hg).choose_spec.2 (fun h => by have h : g = B := h; have := HGZ.out g hg; have := HBW.out.lt; omega)))
        clear y7 c7z
        generalize wz.setCell ⟨B, 7, none⟩ (.slice (some ⟨g2, 0, none⟩) LN cap2) = w4 at *
        obtain ⟨⟨b0, b1, b2, b3, b4, b5, b6, b7, b8, b9, b10, b11⟩, -⟩ := HW4.out.twelve
        obtain ⟨⟨r0, r1, r2, r3, r4, r5, r6, r7, r8, r9, r10, r11⟩, q0, q1, q2, q3, q4, q5, q6, q7, q8, q9, q10, q11⟩ := HR4.out.twelve
        go_wp2_with fail
        have HS5 := Lib.hid (HR4.out.set12 (.slice A0 n0 c0) (.string st.stdin) (.slice A2 st.replies.length c2) (.slice A3 st.fails.length c3) (.int .i64 st.lim) (.int .i64 st.clock) (.int .u64 st.ch) (.slice (some ⟨g2, 0, none⟩) LN cap2) (.int .i64 st.taken) (.slice AO st.opn.length cO) (.int .u64 st.num) (.slice AE st.events.length cE))
        have HT5 := Lib.hid (Tur.set12 (w := w4) (g := R) (.slice A0 n0 c0) (.string st.stdin) (.slice A2 st.replies.length c2) (.slice A3 st.fails.length c3) (.int .i64 st.lim) (.int .i64 st.clock) (.int .u64 st.ch) (.slice (some ⟨g2, 0, none⟩) LN cap2) (.int .i64 st.taken) (.slice AO st.opn.length cO) (.int .u64 st.num) (.slice AE st.events.length cE))
        clear b0 b1 b2 b3 b4 b5 b6 b7 b8 b9 b10 b11 r0 r1 r2 r3 r4 r5 r6 r7 r8 r9 r10 r11 q0 q1 q2 q3 q4 q5 q6 q7 q8 q9 q10 q11
        generalize ((((((((((((w4.setCell ⟨R, 0, none⟩ (.slice A0 n0 c0)).setCell ⟨R, 1, none⟩ (.string st.stdin)).setCell ⟨R, 2, none⟩ (.slice A2 st.replies.length c2)).setCell ⟨R, 3, none⟩ (.slice A3 st.fails.length c3)).setCell ⟨R, 4, none⟩ (.int .i64 st.lim)).setCell ⟨R, 5, none⟩ (.int .i64 st.clock)).setCell ⟨R, 6, none⟩ (.int .u64 st.ch)).setCell ⟨R, 7, none⟩ (.slice (some ⟨g2, 0, none⟩) LN cap2)).setCell ⟨R, 8, none⟩ (.int .i64 st.taken)).setCell ⟨R, 9, none⟩ (.slice AO st.opn.length cO)).setCell ⟨R, 10, none⟩ (.int .u64 st.num)).setCell ⟨R, 11, none⟩ (.slice AE st.events.length cE)) = w5 at *
        obtain ⟨⟨x0, x1, x2, x3, x4, x5, x6, x7, x8, x9, x10, x11⟩, -⟩ := HS5.out.twelve
        have HB5 : Hid (Below w.heap.size w w5) := by
          have h := HB4.out.trans (HT5.out.below B (by have := HB4.out.size; have := HBE.out; omega) (fun k hk h => by have h : k = R := h; have := HBE.out; omega))
          rw [HBE.out.1] at h
          exact h
        have HO5 : Hid (w5.ownsRow w.heap.size 83 2 (.slice (some ⟨g2, 0, none⟩) LN cap2) (withL st.files name data).length (fvals2 (withL st.files name data))) := by
          have h := own_of_block HO4.out (fun g hg => HT5.out.block g (own_lt HO4.out hg).choose_spec.2 (fun h => by have h : g = R := h; have := HGZ.out g hg; have := HBR.out.lt; omega))
          rw [HBE.out.1] at h
          unfold Hid
          rw [← HWL.out, List.length_append, List.length_map]
          have e : LN = st.files.length + [(name, data)].length := by have := HLN.out; have := HNF.out; show LN = st.files.length + 1; omega
          rw [← e]
          exact h
        refine bodyPost_ret (v := .agg #[.slice A0 n0 c0, .string st.stdin, .slice A2 st.replies.length c2, .slice A3 st.fails.length c3, .int .i64 st.lim, .int .i64 st.clock, .int .u64 st.ch, .slice (some ⟨g2, 0, none⟩) LN cap2, .int .i64 st.taken, .slice AO st.opn.length cO, .int .u64 st.num, .slice AE st.events.length cE]) (by simp [results, Tryd.results67, go_sem, x0, x1, x2, x3, x4, x5, x6, x7, x8, x9, x10, x11]) rfl ⟨(.slice (some ⟨g2, 0, none⟩) LN cap2), rfl, HH.out.upF HB5.out HO5.out (by rw [HWLN.out]; have := HNF.out; omega), HB5.out⟩
      · have HWL : Hid (st.files.map (withP name data) = withL st.files name data) := by unfold Hid withL; rw [← HAN.out]; simp
        have HWLN : Hid ((withL st.files name data).length = st.files.length) := by unfold Hid; rw [← HWL.out]; simp
        go_upto_region 13 with (fail)
        have HOZ := Lib.hid HROW.out
        have HGZ := Lib.hid HGE.out
        have HBZ := Lib.hid HBR2.out
        generalize wr = wz at *
        have HWB := Lib.hid (below_blk HBW.out HBZ.out HBW.out.lt)
        have HRB := Lib.hid (below_blk HBR.out HBZ.out HBR.out.lt)
        have HNE := Lib.hid (show ¬ R = B by have := HBE.out; omega)
        obtain ⟨LN, hLN⟩ : ∃ x, x = k := ⟨_, rfl⟩
        rw [← hLN] at HOZ HGZ ⊢
        have HLN := Lib.hid hLN
        clear hLN
        have y7 := HWB.out.free 7
        have c7z : wz.cell? ⟨B, 7, none⟩ = some (.slice AF k cF) := HWB.out.cell 7
        go_upto_region 14 with (fail)
        have HW4 : Hid (Blk (wz.setCell ⟨B, 7, none⟩ (.slice LA LN LC)) B 46 (rwcells (.slice A0 n0 c0) (.slice A2 st.replies.length c2) (.slice A3 st.fails.length c3) (.slice LA LN LC) (.slice AO st.opn.length cO) (.slice AE st.events.length cE) st)) := HWB.out.set 7 _
        have HR4 := Lib.hid (HRB.out.keep (Tur.of_set ⟨B, 7, none⟩ (.slice LA LN LC)) HNE.out)
        have HB4 := Lib.hid ((HB0.out.trans (HBZ.out.mono (by have := HB0.out.size; have := HBE.out; omega))).trans ((Tur.of_set (w := wz) ⟨B, 7, none⟩ (.slice LA LN LC)).below B (by have := HWB.out.lt; omega) (fun k hk h => by have h : k = B := h; omega)))
        have HO4 := Lib.hid (own_of_block HOZ.out (fun g hg => (Tur.of_set ⟨B, 7, none⟩ (.slice LA LN LC)).block g (own_lt HOZ.out hg).choose_spec.2 (fun h => by have h : g = B := h; have := HGZ.out g hg; have := HBW.out.lt; omega)))
        clear y7 c7z
        generalize wz.setCell ⟨B, 7, none⟩ (.slice LA LN LC) = w4 at *
        obtain ⟨⟨b0, b1, b2, b3, b4, b5, b6, b7, b8, b9, b10, b11⟩, -⟩ := HW4.out.twelve
        obtain ⟨⟨r0, r1, r2, r3, r4, r5, r6, r7, r8, r9, r10, r11⟩, q0, q1, q2, q3, q4, q5, q6, q7, q8, q9, q10, q11⟩ := HR4.out.twelve
        go_wp2_with fail
        have HS5 := Lib.hid (HR4.out.set12 (.slice A0 n0 c0) (.string st.stdin) (.slice A2 st.replies.length c2) (.slice A3 st.fails.length c3) (.int .i64 st.lim) (.int .i64 st.clock) (.int .u64 st.ch) (.slice LA LN LC) (.int .i64 st.taken) (.slice AO st.opn.length cO) (.int .u64 st.num) (.slice AE st.events.length cE))
        have HT5 := Lib.hid (Tur.set12 (w := w4) (g := R) (.slice A0 n0 c0) (.string st.stdin) (.slice A2 st.replies.length c2) (.slice A3 st.fails.length c3) (.int .i64 st.lim) (.int .i64 st.clock) (.int .u64 st.ch) (.slice LA LN LC) (.int .i64 st.taken) (.slice AO st.opn.length cO) (.int .u64 st.num) (.slice AE st.events.length cE))
        clear b0 b1 b2 b3 b4 b5 b6 b7 b8 b9 b10 b11 r0 r1 r2 r3 r4 r5 r6 r7 r8 r9 r10 r11 q0 q1 q2 q3 q4 q5 q6 q7 q8 q9 q10 q11
        generalize ((((((((((((w4.setCell ⟨R, 0, none⟩ (.slice A0 n0 c0)).setCell ⟨R, 1, none⟩ (.string st.stdin)).setCell ⟨R, 2, none⟩ (.slice A2 st.replies.length c2)).setCell ⟨R, 3, none⟩ (.slice A3 st.fails.length c3)).setCell ⟨R, 4, none⟩ (.int .i64 st.lim)).setCell ⟨R, 5, none⟩ (.int .i64 st.clock)).setCell ⟨R, 6, none⟩ (.int .u64 st.ch)).setCell ⟨R, 7, none⟩ (.slice LA LN LC)).setCell ⟨R, 8, none⟩ (.int .i64 st.taken)).setCell ⟨R, 9, none⟩ (.slice AO st.opn.length cO)).setCell ⟨R, 10, none⟩ (.int .u64 st.num)).setCell ⟨R, 11, none⟩ (.slice AE st.events.length cE)) = w5 at *
        obtain ⟨⟨x0, x1, x2, x3, x4, x5, x6, x7, x8, x9, x10, x11⟩, -⟩ := HS5.out.twelve
        have HB5 : Hid (Below w.heap.size w w5) := by
          have h := HB4.out.trans (HT5.out.below B (by have := HB4.out.size; have := HBE.out; omega) (fun k hk h => by have h : k = R := h; have := HBE.out; omega))
          rw [HBE.out.1] at h
          exact h
        have HO5 : Hid (w5.ownsRow w.heap.size 83 2 (.slice LA LN LC) (withL st.files name data).length (fvals2 (withL st.files name data))) := by
          have h := own_of_block HO4.out (fun g hg => HT5.out.block g (own_lt HO4.out hg).choose_spec.2 (fun h => by have h : g = R := h; have := HGZ.out g hg; have := HBR.out.lt; omega))
          rw [HBE.out.1] at h
          unfold Hid
          rw [← HWL.out, List.length_map]
          have e : LN = st.files.length := by have := HLN.out; have := HNF.out; omega
          rw [← e]
          exact h
        refine bodyPost_ret (v := .agg #[.slice A0 n0 c0, .string st.stdin, .slice A2 st.replies.length c2, .slice A3 st.fails.length c3, .int .i64 st.lim, .int .i64 st.clock, .int .u64 st.ch, .slice LA LN LC, .int .i64 st.taken, .slice AO st.opn.length cO, .int .u64 st.num, .slice AE st.events.length cE]) (by simp [results, Tryd.results67, go_sem, x0, x1, x2, x3, x4, x5, x6, x7, x8, x9, x10, x11]) rfl ⟨(.slice LA LN LC), rfl, HH.out.upF HB5.out HO5.out (by rw [HWLN.out]; have := HNF.out; omega), HB5.out⟩

end
end Go.Proofs.YtdbdmgmenojcaaaDoor
namespace Go.Proofs.YtdbdmgmenojcaaaDoor
open Go.RowKit Wd
/-- Where the parts of a world's value lie. -/
structure Fm where
  A0 : Option Addr
  n0 : Nat
  c0 : Nat
  A2 : Option Addr
  c2 : Nat
  A3 : Option Addr
  c3 : Nat
  AF : Option Addr
  cF : Nat
  AO : Option Addr
  cO : Nat
  AE : Option Addr
  cE : Nat
def fcells (f : Fm) (st : RSt) : Array Value := #[.slice f.A0 f.n0 f.c0, .string st.stdin, .slice f.A2 st.replies.length f.c2, .slice f.A3 st.fails.length f.c3, .int .i64 st.lim, .int .i64 st.clock, .int .u64 st.ch, .slice f.AF st.files.length f.cF, .int .i64 st.taken, .slice f.AO st.opn.length f.cO, .int .u64 st.num, .slice f.AE st.events.length f.cE]
def RF (K : Nat → Prop) (w : World) (f : Fm) (st : RSt) : Prop := RAt K w (.slice f.A2 st.replies.length f.c2) (.slice f.A3 st.fails.length f.c3) (.slice f.AF st.files.length f.cF) (.slice f.AO st.opn.length f.cO) (.slice f.AE st.events.length f.cE) st
theorem fc_eq (f : Fm) (st : RSt) : fcells f st = rwcells (.slice f.A0 f.n0 f.c0) (.slice f.A2 st.replies.length f.c2) (.slice f.A3 st.fails.length f.c3) (.slice f.AF st.files.length f.cF) (.slice f.AO st.opn.length f.cO) (.slice f.AE st.events.length f.cE) st := rfl
def Kx (K : Nat → Prop) (n : Nat) : Nat → Prop := fun b => (K b ∧ b < n) ∨ n + 1 < b
/-- In a call: the receiver's own copy lies at B, the result at R. -/
structure RW (K : Nat → Prop) (w wi : World) (B R : Nat) (f : Fm) (st : RSt) : Prop where
  hB : B = w.heap.size
  hR : R = B + 1
  below : Below w.heap.size w wi
  big : R < wi.heap.size
  blk : Blk wi B 46 (fcells f st)
  res : Blk wi R 46 #[.slice none 0 0, .string ⟨#[]⟩, .slice none 0 0, .slice none 0 0, .int .i64 0, .int .i64 0, .int .u64 0, .slice none 0 0, .int .i64 0, .slice none 0 0, .int .u64 0, .slice none 0 0]
  rat : RF (Kx K B) wi f st
section
variable {K : Nat → Prop} {w wi wj : World} {B R : Nat} {f f' : Fm} {st st' : RSt}
theorem RF.pure (h : RF K wi f st) (hb : Below wi.heap.size wi wj) : RF K wj f st := RAt.pure h hb
theorem RF.mono {K' : Nat → Prop} (h : RF K wi f st) (hk : ∀ b, b < wi.heap.size → K b → K' b) : RF K' wi f st := RAt.mono h hk
theorem RF.mono0 (_ : RF K wi f st) (h : RF K w f st) (hb : Below w.heap.size w wi) : RF (Kx K w.heap.size) wi f st :=
  RF.pure (h.mono (K' := Kx K w.heap.size) (fun _ hb hk => .inl ⟨hk, hb⟩)) hb
theorem RW.start (h : RF K w f st) : RW K w ((w.alloc (.cells (fcells f st) 46)).alloc (.cells #[.slice none 0 0, .string ⟨#[]⟩, .slice none 0 0, .slice none 0 0, .int .i64 0, .int .i64 0, .int .u64 0, .slice none 0 0, .int .i64 0, .slice none 0 0, .int .u64 0, .slice none 0 0] 46)) w.heap.size (w.heap.size + 1) f st := by
  have hb : Below w.heap.size w ((w.alloc (.cells (fcells f st) 46)).alloc (.cells #[.slice none 0 0, .string ⟨#[]⟩, .slice none 0 0, .slice none 0 0, .int .i64 0, .int .i64 0, .int .u64 0, .slice none 0 0, .int .i64 0, .slice none 0 0, .int .u64 0, .slice none 0 0] 46)) := ((Below.refl _ _).alloc (Nat.le_refl _) _).alloc (by simp) _
  refine ⟨rfl, rfl, hb, by simp, (Blk.new w _ _).keep (Tur.of_alloc (F := fun _ => False) _ _) (fun h => h), ?_, (h.pure hb).mono0 h hb⟩
  have hr := Blk.new (w.alloc (.cells (fcells f st) 46)) 46 #[.slice none 0 0, .string ⟨#[]⟩, .slice none 0 0, .slice none 0 0, .int .i64 0, .int .i64 0, .int .u64 0, .slice none 0 0, .int .i64 0, .slice none 0 0, .int .u64 0, .slice none 0 0]
  rw [show (w.alloc (.cells (fcells f st) 46)).heap.size = w.heap.size + 1 by simp] at hr
  exact hr
theorem RW.pure (h : RW K w wi B R f st) (hb : Below wi.heap.size wi wj) : RW K w wj B R f st :=
  ⟨h.hB, h.hR, h.below.trans (hb.mono h.below.size), Nat.lt_of_lt_of_le h.big hb.size, below_blk h.blk hb h.blk.lt, below_blk h.res hb h.res.lt, h.rat.pure hb⟩
/-- What was told to the call lies behind R. -/
theorem RW.told (h : RW K w wi B R f st) (ht : RF (Nw (Kx K B) wi) wj f' st') : RF (Kx K B) wj f' st' :=
  ht.mono (fun b _ hk => by
    rcases hk with hk | hk
    · exact hk
    · have := h.big; have := h.hR; exact .inr (by omega))
theorem RF.kset (h : RF (Kx K B) wi f st) (hs : wj.heap.size = wi.heap.size) (hb : ∀ b, b ≠ B → b ≠ B + 1 → wj.heap[b]? = wi.heap[b]?) : RF (Kx K B) wj f st :=
  RAt.keep h (by omega) (fun b _ hk => hb b (by rcases hk with hk | hk <;> omega) (by rcases hk with hk | hk <;> omega))
theorem size_set12 {w : World} {g : Nat} (x0 x1 x2 x3 x4 x5 x6 x7 x8 x9 x10 x11 : Value) : ((((((((((((w.setCell ⟨g, 0, none⟩ x0).setCell ⟨g, 1, none⟩ x1).setCell ⟨g, 2, none⟩ x2).setCell ⟨g, 3, none⟩ x3).setCell ⟨g, 4, none⟩ x4).setCell ⟨g, 5, none⟩ x5).setCell ⟨g, 6, none⟩ x6).setCell ⟨g, 7, none⟩ x7).setCell ⟨g, 8, none⟩ x8).setCell ⟨g, 9, none⟩ x9).setCell ⟨g, 10, none⟩ x10).setCell ⟨g, 11, none⟩ x11).heap.size = w.heap.size := by simp [World.setCell]
theorem block_set12 {w : World} {g b : Nat} (x0 x1 x2 x3 x4 x5 x6 x7 x8 x9 x10 x11 : Value) (h : b ≠ g) : ((((((((((((w.setCell ⟨g, 0, none⟩ x0).setCell ⟨g, 1, none⟩ x1).setCell ⟨g, 2, none⟩ x2).setCell ⟨g, 3, none⟩ x3).setCell ⟨g, 4, none⟩ x4).setCell ⟨g, 5, none⟩ x5).setCell ⟨g, 6, none⟩ x6).setCell ⟨g, 7, none⟩ x7).setCell ⟨g, 8, none⟩ x8).setCell ⟨g, 9, none⟩ x9).setCell ⟨g, 10, none⟩ x10).setCell ⟨g, 11, none⟩ x11).heap[b]? = w.heap[b]? := by
  repeat (rw [Below.heap_setCell _ _ _ _ (show b ≠ g from h)])
/-- The receiver's copy turned into what was told. -/
theorem RW.stored (h : RW K w wi B R f st) (hb : Below wi.heap.size wi wj) (ht : RF (Nw (Kx K B) wi) wj f' st') : RW K w ((((((((((((wj.setCell ⟨B, 0, none⟩ (.slice f'.A0 f'.n0 f'.c0)).setCell ⟨B, 1, none⟩ (.string st'.stdin)).setCell ⟨B, 2, none⟩ (.slice f'.A2 st'.replies.length f'.c2)).setCell ⟨B, 3, none⟩ (.slice f'.A3 st'.fails.length f'.c3)).setCell ⟨B, 4, none⟩ (.int .i64 st'.lim)).setCell ⟨B, 5, none⟩ (.int .i64 st'.clock)).setCell ⟨B, 6, none⟩ (.int .u64 st'.ch)).setCell ⟨B, 7, none⟩ (.slice f'.AF st'.files.length f'.cF)).setCell ⟨B, 8, none⟩ (.int .i64 st'.taken)).setCell ⟨B, 9, none⟩ (.slice f'.AO st'.opn.length f'.cO)).setCell ⟨B, 10, none⟩ (.int .u64 st'.num)).setCell ⟨B, 11, none⟩ (.slice f'.AE st'.events.length f'.cE)) B R f' st' := by
  have h1 := h.pure hb
  have hs := size_set12 (w := wj) (g := B) (.slice f'.A0 f'.n0 f'.c0) (.string st'.stdin) (.slice f'.A2 st'.replies.length f'.c2) (.slice f'.A3 st'.fails.length f'.c3) (.int .i64 st'.lim) (.int .i64 st'.clock) (.int .u64 st'.ch) (.slice f'.AF st'.files.length f'.cF) (.int .i64 st'.taken) (.slice f'.AO st'.opn.length f'.cO) (.int .u64 st'.num) (.slice f'.AE st'.events.length f'.cE)
  have hk : ∀ b, b ≠ B → ((((((((((((wj.setCell ⟨B, 0, none⟩ (.slice f'.A0 f'.n0 f'.c0)).setCell ⟨B, 1, none⟩ (.string st'.stdin)).setCell ⟨B, 2, none⟩ (.slice f'.A2 st'.replies.length f'.c2)).setCell ⟨B, 3, none⟩ (.slice f'.A3 st'.fails.length f'.c3)).setCell ⟨B, 4, none⟩ (.int .i64 st'.lim)).setCell ⟨B, 5, none⟩ (.int .i64 st'.clock)).setCell ⟨B, 6, none⟩ (.int .u64 st'.ch)).setCell ⟨B, 7, none⟩ (.slice f'.AF st'.files.length f'.cF)).setCell ⟨B, 8, none⟩ (.int .i64 st'.taken)).setCell ⟨B, 9, none⟩ (.slice f'.AO st'.opn.length f'.cO)).setCell ⟨B, 10, none⟩ (.int .u64 st'.num)).setCell ⟨B, 11, none⟩ (.slice f'.AE st'.events.length f'.cE)).heap[b]? = wj.heap[b]? := fun b hb => block_set12 (.slice f'.A0 f'.n0 f'.c0) (.string st'.stdin) (.slice f'.A2 st'.replies.length f'.c2) (.slice f'.A3 st'.fails.length f'.c3) (.int .i64 st'.lim) (.int .i64 st'.clock) (.int .u64 st'.ch) (.slice f'.AF st'.files.length f'.cF) (.int .i64 st'.taken) (.slice f'.AO st'.opn.length f'.cO) (.int .u64 st'.num) (.slice f'.AE st'.events.length f'.cE) hb
  have hRB : R ≠ B := by have := h.hR; omega
  refine ⟨h.hB, h.hR, h1.below.trans ((Tur.set12 (w := wj) (g := B) (.slice f'.A0 f'.n0 f'.c0) (.string st'.stdin) (.slice f'.A2 st'.replies.length f'.c2) (.slice f'.A3 st'.fails.length f'.c3) (.int .i64 st'.lim) (.int .i64 st'.clock) (.int .u64 st'.ch) (.slice f'.AF st'.files.length f'.cF) (.int .i64 st'.taken) (.slice f'.AO st'.opn.length f'.cO) (.int .u64 st'.num) (.slice f'.AE st'.events.length f'.cE)).below _ h1.below.size (fun k hk e => by have e : k = B := e; have := h.hB; omega)), by rw [hs]; exact h1.big, h1.blk.set12 (.slice f'.A0 f'.n0 f'.c0) (.string st'.stdin) (.slice f'.A2 st'.replies.length f'.c2) (.slice f'.A3 st'.fails.length f'.c3) (.int .i64 st'.lim) (.int .i64 st'.clock) (.int .u64 st'.ch) (.slice f'.AF st'.files.length f'.cF) (.int .i64 st'.taken) (.slice f'.AO st'.opn.length f'.cO) (.int .u64 st'.num) (.slice f'.AE st'.events.length f'.cE), (hk R hRB).trans h1.res, (h.told ht).kset hs (fun b h1 _ => hk b h1)⟩
/-- A call's end: what is told. -/
theorem RW.done (h : RW K w wi B R f st) (hb : Below wi.heap.size wi wj) (ht : RF (Nw (Kx K B) wi) wj f' st') :
    Blk ((((((((((((wj.setCell ⟨R, 0, none⟩ (.slice f'.A0 f'.n0 f'.c0)).setCell ⟨R, 1, none⟩ (.string st'.stdin)).setCell ⟨R, 2, none⟩ (.slice f'.A2 st'.replies.length f'.c2)).setCell ⟨R, 3, none⟩ (.slice f'.A3 st'.fails.length f'.c3)).setCell ⟨R, 4, none⟩ (.int .i64 st'.lim)).setCell ⟨R, 5, none⟩ (.int .i64 st'.clock)).setCell ⟨R, 6, none⟩ (.int .u64 st'.ch)).setCell ⟨R, 7, none⟩ (.slice f'.AF st'.files.length f'.cF)).setCell ⟨R, 8, none⟩ (.int .i64 st'.taken)).setCell ⟨R, 9, none⟩ (.slice f'.AO st'.opn.length f'.cO)).setCell ⟨R, 10, none⟩ (.int .u64 st'.num)).setCell ⟨R, 11, none⟩ (.slice f'.AE st'.events.length f'.cE)) R 46 (fcells f' st') ∧ RF (Nw K w) ((((((((((((wj.setCell ⟨R, 0, none⟩ (.slice f'.A0 f'.n0 f'.c0)).setCell ⟨R, 1, none⟩ (.string st'.stdin)).setCell ⟨R, 2, none⟩ (.slice f'.A2 st'.replies.length f'.c2)).setCell ⟨R, 3, none⟩ (.slice f'.A3 st'.fails.length f'.c3)).setCell ⟨R, 4, none⟩ (.int .i64 st'.lim)).setCell ⟨R, 5, none⟩ (.int .i64 st'.clock)).setCell ⟨R, 6, none⟩ (.int .u64 st'.ch)).setCell ⟨R, 7, none⟩ (.slice f'.AF st'.files.length f'.cF)).setCell ⟨R, 8, none⟩ (.int .i64 st'.taken)).setCell ⟨R, 9, none⟩ (.slice f'.AO st'.opn.length f'.cO)).setCell ⟨R, 10, none⟩ (.int .u64 st'.num)).setCell ⟨R, 11, none⟩ (.slice f'.AE st'.events.length f'.cE)) f' st' ∧ Below w.heap.size w ((((((((((((wj.setCell ⟨R, 0, none⟩ (.slice f'.A0 f'.n0 f'.c0)).setCell ⟨R, 1, none⟩ (.string st'.stdin)).setCell ⟨R, 2, none⟩ (.slice f'.A2 st'.replies.length f'.c2)).setCell ⟨R, 3, none⟩ (.slice f'.A3 st'.fails.length f'.c3)).setCell ⟨R, 4, none⟩ (.int .i64 st'.lim)).setCell ⟨R, 5, none⟩ (.int .i64 st'.clock)).setCell ⟨R, 6, none⟩ (.int .u64 st'.ch)).setCell ⟨R, 7, none⟩ (.slice f'.AF st'.files.length f'.cF)).setCell ⟨R, 8, none⟩ (.int .i64 st'.taken)).setCell ⟨R, 9, none⟩ (.slice f'.AO st'.opn.length f'.cO)).setCell ⟨R, 10, none⟩ (.int .u64 st'.num)).setCell ⟨R, 11, none⟩ (.slice f'.AE st'.events.length f'.cE)) := by
  have h1 := h.pure hb
  have hs := size_set12 (w := wj) (g := R) (.slice f'.A0 f'.n0 f'.c0) (.string st'.stdin) (.slice f'.A2 st'.replies.length f'.c2) (.slice f'.A3 st'.fails.length f'.c3) (.int .i64 st'.lim) (.int .i64 st'.clock) (.int .u64 st'.ch) (.slice f'.AF st'.files.length f'.cF) (.int .i64 st'.taken) (.slice f'.AO st'.opn.length f'.cO) (.int .u64 st'.num) (.slice f'.AE st'.events.length f'.cE)
  have hk : ∀ b, b ≠ R → ((((((((((((wj.setCell ⟨R, 0, none⟩ (.slice f'.A0 f'.n0 f'.c0)).setCell ⟨R, 1, none⟩ (.string st'.stdin)).setCell ⟨R, 2, none⟩ (.slice f'.A2 st'.replies.length f'.c2)).setCell ⟨R, 3, none⟩ (.slice f'.A3 st'.fails.length f'.c3)).setCell ⟨R, 4, none⟩ (.int .i64 st'.lim)).setCell ⟨R, 5, none⟩ (.int .i64 st'.clock)).setCell ⟨R, 6, none⟩ (.int .u64 st'.ch)).setCell ⟨R, 7, none⟩ (.slice f'.AF st'.files.length f'.cF)).setCell ⟨R, 8, none⟩ (.int .i64 st'.taken)).setCell ⟨R, 9, none⟩ (.slice f'.AO st'.opn.length f'.cO)).setCell ⟨R, 10, none⟩ (.int .u64 st'.num)).setCell ⟨R, 11, none⟩ (.slice f'.AE st'.events.length f'.cE)).heap[b]? = wj.heap[b]? := fun b hb => block_set12 (.slice f'.A0 f'.n0 f'.c0) (.string st'.stdin) (.slice f'.A2 st'.replies.length f'.c2) (.slice f'.A3 st'.fails.length f'.c3) (.int .i64 st'.lim) (.int .i64 st'.clock) (.int .u64 st'.ch) (.slice f'.AF st'.files.length f'.cF) (.int .i64 st'.taken) (.slice f'.AO st'.opn.length f'.cO) (.int .u64 st'.num) (.slice f'.AE st'.events.length f'.cE) hb
  refine ⟨h1.res.set12 (.slice f'.A0 f'.n0 f'.c0) (.string st'.stdin) (.slice f'.A2 st'.replies.length f'.c2) (.slice f'.A3 st'.fails.length f'.c3) (.int .i64 st'.lim) (.int .i64 st'.clock) (.int .u64 st'.ch) (.slice f'.AF st'.files.length f'.cF) (.int .i64 st'.taken) (.slice f'.AO st'.opn.length f'.cO) (.int .u64 st'.num) (.slice f'.AE st'.events.length f'.cE), ((h.told ht).kset hs (fun b _ h2 => hk b (by have := h.hR; omega))).mono (fun b _ hk => ?_), h1.below.trans ((Tur.set12 (w := wj) (g := R) (.slice f'.A0 f'.n0 f'.c0) (.string st'.stdin) (.slice f'.A2 st'.replies.length f'.c2) (.slice f'.A3 st'.fails.length f'.c3) (.int .i64 st'.lim) (.int .i64 st'.clock) (.int .u64 st'.ch) (.slice f'.AF st'.files.length f'.cF) (.int .i64 st'.taken) (.slice f'.AO st'.opn.length f'.cO) (.int .u64 st'.num) (.slice f'.AE st'.events.length f'.cE)).below _ h1.below.size (fun k hk e => by have e : k = R := e; have := h.hB; have := h.hR; omega))⟩
  rcases hk with hk | hk
  · exact .inl hk.1
  · exact .inr (by have := h.hB; omega)
theorem RW.same (h : RW K w wi B R f st) : RF (Nw (Kx K B) wi) wi f st := h.rat.mono (fun _ _ hk => .inl hk)
end
end Go.Proofs.YtdbdmgmenojcaaaDoor
namespace Go.Proofs.YtdbdmgmenojcaaaDoor
open Go.RowKit Wd
section
variable {K : Nat → Prop} {w : World} {f : Fm} {st : RSt}
theorem fw_fails (h : RF K w f st) (op : Int) (name : ByteArray) :
    Calls Tryd.prog 47 #[.agg (fcells f st), .int .u8 op, .string name] w fun e w' => e = .returned (.bool (st.fails.any (isFl op name))) ∧ Below w.heap.size w w' := rf_fails _ h op name
theorem fw_file (h : RF K w f st) (name : ByteArray) :
    Calls Tryd.prog 66 #[.agg (fcells f st), .string name] w fun e w' => e = .returned (.tuple #[.string ((fileF st name).getD (⟨#[]⟩, ⟨#[]⟩)).2, .bool (fileF st name).isSome]) ∧ Below w.heap.size w w' := rf_file _ h name
theorem fw_find (h : RF K w f st) (kd : Int) (name : ByteArray) :
    Calls Tryd.prog 43 #[.agg (fcells f st), .int .u8 kd, .string name] w fun e w' => e = .returned (.int .i64 (ixV (findF st kd name))) ∧ Below w.heap.size w w' := rf_find _ h kd name
theorem fw_reply (h : RF K w f st) (cmd : ByteArray) :
    Calls Tryd.prog 44 #[.agg (fcells f st), .string cmd] w fun e w' => e = .returned (.tuple #[((replyF st cmd).getD rpZero).val, .bool (replyF st cmd).isSome]) ∧ Below w.heap.size w w' := rf_reply _ h cmd
theorem fw_event (h : RF K w f st) (ev : Ev) (hn : st.events.length ≤ 100000) :
    Calls Tryd.prog 45 #[.agg (fcells f st), .agg #[.int .u8 ev.k, .int .u8 ev.st, .string ev.name, .string ev.data, .int .i64 ev.status]] w fun e w' => ∃ f', e = .returned (.agg (fcells f' { st with events := st.events ++ [ev] })) ∧ RF (Nw K w) w' f' { st with events := st.events ++ [ev] } ∧ Below w.heap.size w w' := by
  refine (rf_event _ _ _ h ev hn).mono ?_
  rintro e w' ⟨vE', rfl, hr, hb⟩
  obtain ⟨AE, cE, rfl, -, -⟩ := own_form hr.oE.1
  exact ⟨{ f with AE := AE, cE := cE }, rfl, hr, hb⟩
theorem fw_with (h : RF K w f st) (name data : ByteArray) (hn : st.files.length ≤ 100000) :
    Calls Tryd.prog 67 #[.agg (fcells f st), .string name, .string data] w fun e w' => ∃ f', e = .returned (.agg (fcells f' { st with files := withL st.files name data })) ∧ RF (Nw K w) w' f' { st with files := withL st.files name data } ∧ Below w.heap.size w w' := by
  refine (rf_with _ _ _ h name data hn).mono ?_
  rintro e w' ⟨vF', rfl, hr, hb⟩
  obtain ⟨AF, cF, rfl, -, -⟩ := own_form hr.oF.1
  exact ⟨{ f with AF := AF, cF := cF }, rfl, hr, hb⟩
end
end Go.Proofs.YtdbdmgmenojcaaaDoor
namespace Go.Proofs.YtdbdmgmenojcaaaDoor
open Go.RowKit Wd
namespace Wd
def writeD (st : RSt) (k : Int) (name data : ByteArray) : RSt × Int :=
  if k ≠ 6 ∧ ((k ≠ 3 ∧ k ≠ 4 ∧ k ≠ 5) ∨ findF st k name = none) then (st, 16)
  else if st.fails.any (isFl 3 (if k = 6 then ⟨#[]⟩ else name)) = true then (st, 14)
  else if data.size = 0 then (st, 0)
  else ({ (if k = 3 ∨ k = 4 then { st with files := withL st.files name (((fileF st name).getD (⟨#[]⟩, ⟨#[]⟩)).2 ++ data) } else st) with events := st.events ++ [⟨2, k, (if k = 6 then ⟨#[]⟩ else name), data, 0⟩] }, 0)
end Wd
section
variable {K : Nat → Prop} {w : World} {f : Fm} {st : RSt}
/-- What Write tells at a name that is asked. -/
def WrPost (K : Nat → Prop) (w : World) (st' : RSt) (e' : Int) (e : Ending) (w' : World) : Prop := ∃ f', e = .returned (.tuple #[.agg (fcells f' st'), .int .i64 e']) ∧ RF (Nw K w) w' f' st' ∧ Below w.heap.size w w'





end
end Go.Proofs.YtdbdmgmenojcaaaDoor
namespace Go.Proofs.YtdbdmgmenojcaaaDoor
open Go.RowKit Wd
theorem info_sm : (Tryd.prog.info? 114).map (fun i => (i.zero, i.size, i.bytes)) = some (some (.agg #[.int .u8 0, .string ⟨#[]⟩, .string ⟨#[]⟩, .int .i64 0]), 4, 48) := by kernel_rfl
theorem one_sms (l : List RSm) : ∀ u ∈ svals4 l, u.oneCell' = true := by
  intro u hu
  simp only [svals4, List.mem_flatMap] at hu
  obtain ⟨e, -, hu⟩ := hu
  simp [RSm.vals] at hu
  rcases hu with rfl | rfl | rfl | rfl <;> rfl
theorem one_sm4 {a d : Int} {b c : ByteArray} : ∀ u ∈ [Value.int .u8 a, .string b, .string c, .int .i64 d], u.oneCell' = true := by
  intro u hu
  simp at hu
  rcases hu with rfl | rfl | rfl | rfl <;> rfl
theorem svals4_snoc (l : List RSm) (s : RSm) : svals4 l ++ [.int .u8 s.k, .string s.name, .string s.src, .int .i64 s.tk] = svals4 (l ++ [s]) := by simp [svals4, RSm.vals]
section
variable {K : Nat → Prop} {w wi wj : World} {B R : Nat} {f f' : Fm} {st st' : RSt}
theorem RF.setO {l : List RSm} {A : Option Addr} {c : Nat} (h : RF K wi f st) (hb : Below wi.heap.size wi wj) (ho : wj.ownsRow wi.heap.size 114 4 (.slice A l.length c) l.length (svals4 l)) (hl : l.length ≤ 1000000) :
    RF (Nw K wi) wj { f with AO := A, cO := c } { st with opn := l } := RAt.upO h hb ho hl
theorem RW.setO {l : List RSm} {A : Option Addr} {c : Nat} (h : RW K w wi B R f st) (hb : Below wi.heap.size wi wj) (ho : wj.ownsRow wi.heap.size 114 4 (.slice A l.length c) l.length (svals4 l)) (hl : l.length ≤ 1000000) :
    RW K w (wj.setCell ⟨B, 9, none⟩ (.slice A l.length c)) B R { f with AO := A, cO := c } { st with opn := l } := by
  have h1 := h.pure hb
  have hRB : R ≠ B := by have := h.hR; omega
  refine ⟨h.hB, h.hR, h1.below.trans ((Tur.of_set ⟨B, 9, none⟩ _).below _ h1.below.size (fun k hk e => by have e : k = B := e; have := h.hB; omega)), by have := h1.big; simpa [World.setCell] using this, h1.blk.set 9 _, h1.res.keep (Tur.of_set ⟨B, 9, none⟩ _) hRB, (h.told (RF.setO h.rat hb ho hl)).kset (by simp [World.setCell]) (fun b h1 _ => Below.heap_setCell _ _ _ _ h1)⟩
end
namespace Wd
def openF (st : RSt) (k : Int) (name : ByteArray) : List (ByteArray × ByteArray) :=
  if k = 3 then withL st.files name ⟨#[]⟩ else if k = 4 then withL st.files name ((fileF st name).getD (⟨#[]⟩, ⟨#[]⟩)).2 else st.files
def openS (st : RSt) (k : Int) (name : ByteArray) : ByteArray :=
  if k = 1 then ((fileF st name).getD (⟨#[]⟩, ⟨#[]⟩)).2 else if k = 2 then ((replyF st name).getD rpZero).out else ⟨#[]⟩
def openD (st : RSt) (k : Int) (name : ByteArray) : RSt × Int :=
  if k < 1 ∨ 5 < k then (st, 2)
  else if (findF st k name).isSome then (st, 0)
  else if st.lim ≤ st.opn.length then (st, 15)
  else if st.fails.any (isFl 1 name) = true ∨ (k = 1 ∧ name ≠ minus ∧ (fileF st name).isSome = false) then (st, 12)
  else ({ st with files := openF st k name, opn := st.opn ++ [⟨k, name, openS st k name, 0⟩], events := st.events ++ [⟨1, k, name, ⟨#[]⟩, 0⟩] }, 0)
end Wd
theorem sm_cells {w : World} {g : Nat} {t : TypeId} {a b c d : Value} (h : Blk w g t #[a, b, c, d]) : w.cell? ⟨g, 0, none⟩ = some a ∧ w.cell? ⟨g, 1, none⟩ = some b ∧ w.cell? ⟨g, 2, none⟩ = some c ∧ w.cell? ⟨g, 3, none⟩ = some d := ⟨h.cell 0, h.cell 1, h.cell 2, h.cell 3⟩
end Go.Proofs.YtdbdmgmenojcaaaDoor
