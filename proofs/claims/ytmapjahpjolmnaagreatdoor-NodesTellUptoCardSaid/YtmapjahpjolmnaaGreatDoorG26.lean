/- The document's shape. -/
import Derived.Test.YtmapjahpjolmnaaGreatDoorG25
import Derived.Test.YtmapjahpjolmnaaGreatDoorG19
import Derived.Test.YtmapjahpjolmnaaGreatDoorG17
import Derived.Lib.SlicesS
import Derived.Test.YtmapjahpjolmnaaGreatDoorG18
set_option linter.unusedVariables false
set_option linter.unusedSimpArgs false
namespace Go.Proofs.YtmapjahpjolmnaaGreatDoor
open Go.RowKit Tr
set_option maxRecDepth 20000
set_option maxHeartbeats 4000000 in
theorem r_shape_5 {w : World} (e : XS) {A1 A2 A3 : Option Addr} {c1 c2 c3 : Nat} (he : EsAt w w.heap.size e.exprs (.slice A1 e.exprs.length c1)) (hb : SsAt w w.heap.size e.body (.slice A2 e.body.length c2)) (hl : SsAt w w.heap.size e.els (.slice A3 e.els.length c3)) (hok : e.Ok) (hkk : e.k = 7 ∨ e.k = 8) :
    Calls Tryz.prog 61 #[svS e A1 A2 A3 c1 c2 c3] w fun en w' => en = .returned (.bool (shapeB nameB e)) ∧ Below w.heap.size w w' := by
  have hcb := hb.cap
  have HW23 := Lib.hid (wrap2_zero hb.len hl.len)
  have HW13 := Lib.hid (wrap2_zero he.len hl.len)
  have hcl := hl.cap
  have hce := he.cap
  have HE := Lib.hid he
  have HL := Lib.hid hl
  have HOK := Lib.hid hok
  have hb0 := (Below.refl w.heap.size w).alloc (Nat.le_refl _) (.cells #[.int .u8 e.k, .string e.s, .int .i64 e.n, .slice A1 e.exprs.length c1, .slice A2 e.body.length c2, .slice A3 e.els.length c3, .int .i64 e.line] 50)
  have hx0 := Blk.new w 50 #[.int .u8 e.k, .string e.s, .int .i64 e.n, .slice A1 e.exprs.length c1, .slice A2 e.body.length c2, .slice A3 e.els.length c3, .int .i64 e.line]
  clear hb he hl hok
  unfold svS
  go_enter Tryz.func61, Tryz.ntmps61
  go_upto_region 1 with (fail)
  generalize w.alloc (.cells #[.int .u8 e.k, .string e.s, .int .i64 e.n, .slice A1 e.exprs.length c1, .slice A2 e.body.length c2, .slice A3 e.els.length c3, .int .i64 e.line] 50) = w1 at *
  obtain ⟨X, hX⟩ : ∃ X, X = w.heap.size := ⟨_, rfl⟩
  rw [← hX] at hx0 ⊢
  clear hX
  have HBW : Hid (X < w1.drew.heap.size) := hx0.lt
  have HCD : Hid (scellsT w1.drew X 0 e (.slice A1 e.exprs.length c1) (.slice A2 e.body.length c2) (.slice A3 e.els.length c3)) := ⟨hx0.cell 0, hx0.cell 1, hx0.cell 2, hx0.cell 3, hx0.cell 4, hx0.cell 5, hx0.cell 6⟩
  have HBD := Lib.hid hb0.drew
  have HED := Lib.hid (HE.out.keep HBD.out)
  have HLD := Lib.hid (HL.out.keep HBD.out)
  have HSZ : Hid (w.heap.size ≤ w1.drew.heap.size) := hb0.size
  have HBOX : Hid (Blk w1.drew X 50 #[.int .u8 e.k, .string e.s, .int .i64 e.n, .slice A1 e.exprs.length c1, .slice A2 e.body.length c2, .slice A3 e.els.length c3, .int .i64 e.line]) := hx0
  clear hb0 hx0
  obtain ⟨x0, x1, x2, x3, x4, x5, x6⟩ := HCD.out
  refine wp_region_noPanic ?_
  refine wp_region_ord (fun wd => wd.cell? ⟨X, 0 + 3, none⟩ = some (.slice A1 e.exprs.length c1) ∧ wd.cell? ⟨X, 0 + 4, none⟩ = some (.slice A2 e.body.length c2) ∧ wd.cell? ⟨X, 0 + 5, none⟩ = some (.slice A3 e.els.length c3)) (.read 0 (.read 1 (.read 2 (.read 3 (.read 4 (.read 5 (.read 6 (.read 7 (.read 8 (.read 9 (.read 10 (.read 11 .done)))))))))))) (by kernel_rfl) (by kernel_rfl) (fun _ _ _ _ _ h => h) ⟨x3, x4, x5⟩ ?_
  simp only [Ord.ops, List.getElem?_toArray, List.getElem?_cons_zero, List.getElem?_cons_succ]
  clear HE HL
  generalize w1.drew = wq at *
  have HLP := Lib.hid (r_loop (A2 := A2) (c2 := c2) e (HLD.out.mono HSZ.out) (HED.out.mono HSZ.out))
  unfold svS at HLP
  have hse := sEmpty e.s
  obtain ⟨z, hz⟩ : ∃ z, z = e.s.toList.isEmpty := ⟨_, rfl⟩
  rw [← hz] at hse
  have HZZ : Hid (e.s.toList = [] ↔ z = true) := by unfold Hid; rw [hz, List.isEmpty_iff]
  simp only [Nat.zero_add] at x0 x1 x2 x3 x4 x5 x6
  iterate 12 (
    refine ord_read ?_ (fun wd hS M hM => ?_) ?_ ?_
    rotate_left
    · have HM := Lib.hid hM
      obtain ⟨z1, z2, z3⟩ := hS
      simp only [Nat.zero_add] at z1 z2 z3
      clear hM
      repeat (first | go_values | go_skip | go_guarded | go_step | go_upon)
      exact HM.out
    · rfl)
  refine NoPanic.normal (?_ : _)
  clear hz
  have HSHH := Lib.hid (shape_is nameB e)
  rw [← hse] at HSHH
  obtain ⟨m1, hm1⟩ : ∃ x, e.exprs.length = x := ⟨_, rfl⟩
  obtain ⟨m2, hm2⟩ : ∃ x, e.body.length = x := ⟨_, rfl⟩
  obtain ⟨m3, hm3⟩ : ∃ x, e.els.length = x := ⟨_, rfl⟩
  rw [hm1] at x3 HSHH hce HW13 HLP
  rw [hm2] at x4 HSHH hcb HW23 HLP
  rw [hm3] at x5 HSHH hcl HW23 HW13 HLP
  rw [hm1, hm2, hm3]
  have HM1 := Lib.hid hm1
  have HM2 := Lib.hid hm2
  have HM3 := Lib.hid hm3
  clear hm1 hm2 hm3 HBOX
  by_cases hk7 : e.k = 7
  · have HSH : Hid (shapeB nameB e = loopB e) := by
      unfold Hid
      rw [HSHH.out, hk7]
      rfl
    rw [hk7] at x0 HLP
    clear hk7
    go_wp2_with fail
    all_goals
     refine (show Calls Tryz.prog 70 #[.agg #[.int .u8 7, .string e.s, .int .i64 e.n, .slice A1 m1 c1, .slice A2 m2 c2, .slice A3 m3 c3, .int .i64 e.line]] wq (fun en w2 => en = .returned (.bool (loopB e)) ∧ Below wq.heap.size wq w2) from HLP.out).mono ?_
     rintro en w2 ⟨rfl, hb2⟩
     have HB2 := Lib.hid (HBD.out.trans (hb2.mono (HSZ.out)))
     clear hb2
     go_wp2_with fail
     go_ret
     exact ⟨congrArg (fun b => Ending.returned (.bool b)) HSH.out.symm, HB2.out⟩
  by_cases hk8 : e.k = 8
  · have HSH : Hid (shapeB nameB e = (nameB e.s && (decide (e.n = 0) && (one4 e.exprs && decide (m3 = 0))))) := by
      unfold Hid
      rw [HSHH.out, hk8]
      rfl
    rw [hk8] at x0
    clear hk8
    by_cases h1 : m1 = 1
    · have hp : 0 < e.exprs.length := by rw [HM1.out, h1]; decide
      obtain ⟨kb, ko, kv, hA, hkb, hy, hkk⟩ := HED.out.head hp
      obtain ⟨B1, n1, e1, -, -⟩ := hkk.form
      subst e1
      have ho4 : one4 e.exprs = decide (e.exprs[0].k = 4) := one4_is _ (by rw [HM1.out, h1])
      have HSI : Hid (shapeB nameB e = (nameB e.s && (decide (e.n = 0) && (decide (e.exprs[0].k = 4) && decide (m3 = 0))))) := by
        unfold Hid
        rw [HSH.out, ho4]
      have HY := Lib.hid hy
      have HKB := Lib.hid hkb
      clear ho4 hy hkk HSH hkb
      generalize e.exprs[0] = x at *
      subst hA
      go_wp2_with fail
      all_goals
        refine (r_Name e.s _ HOK.out.2.1).mono ?_
        rintro en w2 ⟨rfl, hb2⟩
        have HB2 := Lib.hid (HBD.out.trans (hb2.mono (HSZ.out)))
        obtain ⟨u0, u1, u2, u3, u4, u5, u6⟩ := HCD.out.keep hb2 HBW.out
        obtain ⟨y0, y1, y2, y3⟩ := HY.out.keep (hb2.mono (HSZ.out)) HKB.out
        rw [HM1.out] at u3
        rw [HM2.out] at u4
        rw [HM3.out] at u5
        clear hb2
        have HSH := HSI
        go_wp2_with fail
        all_goals (clear y0 y1 y2 y3 HY HKB HSI; (go_ret; refine ⟨congrArg (fun b => Ending.returned (.bool b)) ?_, HB2.out⟩; refine Eq.trans ?_ HSH.out.symm; have hzz := HZZ.out; have hw23 := HW23.out; have hw13 := HW13.out; clear HZZ HW23 HW13 HSH HCD HBD HED HLD HSZ HOK HBW HLP x0 x1 x2 x3 x4 x5 x6 u0 u1 u2 u3 u4 u5 u6 hse hcb hcl hce HM1 HM2 HM3; simp_all <;> first | omega | (rw [Bool.eq_iff_iff]; simp only [Bool.and_eq_true, Bool.or_eq_true, Bool.not_eq_true', beq_iff_eq, decide_eq_true_eq, decide_eq_false_iff_not] <;> omega)))
    · have HSI : Hid (shapeB nameB e = false) := by
        unfold Hid
        rw [HSH.out, one4_not _ (by rw [HM1.out]; exact h1)]
        simp
      clear HSH
      go_wp2_with fail
      all_goals
        refine (r_Name e.s _ HOK.out.2.1).mono ?_
        rintro en w2 ⟨rfl, hb2⟩
        have HB2 := Lib.hid (HBD.out.trans (hb2.mono (HSZ.out)))
        obtain ⟨u0, u1, u2, u3, u4, u5, u6⟩ := HCD.out.keep hb2 HBW.out
        rw [HM1.out] at u3
        rw [HM2.out] at u4
        rw [HM3.out] at u5
        clear hb2
        have HSH := HSI
        go_wp2_with fail
        all_goals (clear HSI; (go_ret; refine ⟨congrArg (fun b => Ending.returned (.bool b)) ?_, HB2.out⟩; refine Eq.trans ?_ HSH.out.symm; have hzz := HZZ.out; have hw23 := HW23.out; have hw13 := HW13.out; clear HZZ HW23 HW13 HSH HCD HBD HED HLD HSZ HOK HBW HLP x0 x1 x2 x3 x4 x5 x6 u0 u1 u2 u3 u4 u5 u6 hse hcb hcl hce HM1 HM2 HM3; simp_all <;> first | omega | (rw [Bool.eq_iff_iff]; simp only [Bool.and_eq_true, Bool.or_eq_true, Bool.not_eq_true', beq_iff_eq, decide_eq_true_eq, decide_eq_false_iff_not] <;> omega)))
  exfalso
  omega
end Go.Proofs.YtmapjahpjolmnaaGreatDoor
namespace Go.Proofs.YtmapjahpjolmnaaGreatDoor
open Go.RowKit Tr
set_option maxRecDepth 20000
set_option maxHeartbeats 4000000 in
theorem r_shape_o {w : World} (e : XS) {A1 A2 A3 : Option Addr} {c1 c2 c3 : Nat} (he : EsAt w w.heap.size e.exprs (.slice A1 e.exprs.length c1)) (hb : SsAt w w.heap.size e.body (.slice A2 e.body.length c2)) (hl : SsAt w w.heap.size e.els (.slice A3 e.els.length c3)) (hok : e.Ok) (hk1 : ¬ e.k = 1) (hk2 : ¬ e.k = 2) (hk3 : ¬ e.k = 3) (hk4 : ¬ e.k = 4) (hk5 : ¬ e.k = 5) (hk6 : ¬ e.k = 6) (hk7 : ¬ e.k = 7) (hk8 : ¬ e.k = 8) (hk9 : ¬ e.k = 9) (hk10 : ¬ e.k = 10) (hk11 : ¬ e.k = 11) (hk12 : ¬ e.k = 12) (hk13 : ¬ e.k = 13) (hk14 : ¬ e.k = 14) (hk15 : ¬ e.k = 15) :
    Calls Tryz.prog 61 #[svS e A1 A2 A3 c1 c2 c3] w fun en w' => en = .returned (.bool (shapeB nameB e)) ∧ Below w.heap.size w w' := by
  have hcb := hb.cap
  have HW23 := Lib.hid (wrap2_zero hb.len hl.len)
  have HW13 := Lib.hid (wrap2_zero he.len hl.len)
  have hcl := hl.cap
  have hce := he.cap
  have HE := Lib.hid he
  have HL := Lib.hid hl
  have HOK := Lib.hid hok
  have hb0 := (Below.refl w.heap.size w).alloc (Nat.le_refl _) (.cells #[.int .u8 e.k, .string e.s, .int .i64 e.n, .slice A1 e.exprs.length c1, .slice A2 e.body.length c2, .slice A3 e.els.length c3, .int .i64 e.line] 50)
  have hx0 := Blk.new w 50 #[.int .u8 e.k, .string e.s, .int .i64 e.n, .slice A1 e.exprs.length c1, .slice A2 e.body.length c2, .slice A3 e.els.length c3, .int .i64 e.line]
  clear hb he hl hok
  unfold svS
  go_enter Tryz.func61, Tryz.ntmps61
  go_upto_region 1 with (fail)
  generalize w.alloc (.cells #[.int .u8 e.k, .string e.s, .int .i64 e.n, .slice A1 e.exprs.length c1, .slice A2 e.body.length c2, .slice A3 e.els.length c3, .int .i64 e.line] 50) = w1 at *
  obtain ⟨X, hX⟩ : ∃ X, X = w.heap.size := ⟨_, rfl⟩
  rw [← hX] at hx0 ⊢
  clear hX
  have HBW : Hid (X < w1.drew.heap.size) := hx0.lt
  have HCD : Hid (scellsT w1.drew X 0 e (.slice A1 e.exprs.length c1) (.slice A2 e.body.length c2) (.slice A3 e.els.length c3)) := ⟨hx0.cell 0, hx0.cell 1, hx0.cell 2, hx0.cell 3, hx0.cell 4, hx0.cell 5, hx0.cell 6⟩
  have HBD := Lib.hid hb0.drew
  have HED := Lib.hid (HE.out.keep HBD.out)
  have HLD := Lib.hid (HL.out.keep HBD.out)
  have HSZ : Hid (w.heap.size ≤ w1.drew.heap.size) := hb0.size
  have HBOX : Hid (Blk w1.drew X 50 #[.int .u8 e.k, .string e.s, .int .i64 e.n, .slice A1 e.exprs.length c1, .slice A2 e.body.length c2, .slice A3 e.els.length c3, .int .i64 e.line]) := hx0
  clear hb0 hx0
  obtain ⟨x0, x1, x2, x3, x4, x5, x6⟩ := HCD.out
  refine wp_region_noPanic ?_
  refine wp_region_ord (fun wd => wd.cell? ⟨X, 0 + 3, none⟩ = some (.slice A1 e.exprs.length c1) ∧ wd.cell? ⟨X, 0 + 4, none⟩ = some (.slice A2 e.body.length c2) ∧ wd.cell? ⟨X, 0 + 5, none⟩ = some (.slice A3 e.els.length c3)) (.read 0 (.read 1 (.read 2 (.read 3 (.read 4 (.read 5 (.read 6 (.read 7 (.read 8 (.read 9 (.read 10 (.read 11 .done)))))))))))) (by kernel_rfl) (by kernel_rfl) (fun _ _ _ _ _ h => h) ⟨x3, x4, x5⟩ ?_
  simp only [Ord.ops, List.getElem?_toArray, List.getElem?_cons_zero, List.getElem?_cons_succ]
  clear HE HL
  generalize w1.drew = wq at *
  have HLP := Lib.hid (r_loop (A2 := A2) (c2 := c2) e (HLD.out.mono HSZ.out) (HED.out.mono HSZ.out))
  unfold svS at HLP
  have hse := sEmpty e.s
  obtain ⟨z, hz⟩ : ∃ z, z = e.s.toList.isEmpty := ⟨_, rfl⟩
  rw [← hz] at hse
  have HZZ : Hid (e.s.toList = [] ↔ z = true) := by unfold Hid; rw [hz, List.isEmpty_iff]
  simp only [Nat.zero_add] at x0 x1 x2 x3 x4 x5 x6
  iterate 12 (
    refine ord_read ?_ (fun wd hS M hM => ?_) ?_ ?_
    rotate_left
    · have HM := Lib.hid hM
      obtain ⟨z1, z2, z3⟩ := hS
      simp only [Nat.zero_add] at z1 z2 z3
      clear hM
      repeat (first | go_values | go_skip | go_guarded | go_step | go_upon)
      exact HM.out
    · rfl)
  refine NoPanic.normal (?_ : _)
  clear hz
  have HSHH := Lib.hid (shape_is nameB e)
  rw [← hse] at HSHH
  obtain ⟨m1, hm1⟩ : ∃ x, e.exprs.length = x := ⟨_, rfl⟩
  obtain ⟨m2, hm2⟩ : ∃ x, e.body.length = x := ⟨_, rfl⟩
  obtain ⟨m3, hm3⟩ : ∃ x, e.els.length = x := ⟨_, rfl⟩
  rw [hm1] at x3 HSHH hce HW13 HLP
  rw [hm2] at x4 HSHH hcb HW23 HLP
  rw [hm3] at x5 HSHH hcl HW23 HW13 HLP
  rw [hm1, hm2, hm3]
  have HM1 := Lib.hid hm1
  have HM2 := Lib.hid hm2
  have HM3 := Lib.hid hm3
  clear hm1 hm2 hm3 HBOX
  have HSH : Hid (shapeB nameB e = false) := by
    unfold Hid
    rw [HSHH.out]
    unfold shapeF
    simp only [hk1, hk2, hk3, hk4, hk5, hk6, hk7, hk8, hk9, hk10, hk11, hk12, hk13, hk14, hk15, if_false, or_false]
  go_wp2_with fail
  all_goals (go_ret; refine ⟨congrArg (fun b => Ending.returned (.bool b)) ?_, HBD.out⟩; refine Eq.trans ?_ HSH.out.symm; have hzz := HZZ.out; have hw23 := HW23.out; have hw13 := HW13.out; clear HZZ HW23 HW13 HSH HCD HBD HED HLD HSZ HOK HBW HLP x0 x1 x2 x3 x4 x5 x6 hse hcb hcl hce HM1 HM2 HM3; simp_all <;> first | omega | (rw [Bool.eq_iff_iff]; simp only [Bool.and_eq_true, Bool.or_eq_true, Bool.not_eq_true', beq_iff_eq, decide_eq_true_eq, decide_eq_false_iff_not] <;> omega))
theorem r_shape {w : World} (e : XS) {A1 A2 A3 : Option Addr} {c1 c2 c3 : Nat} (he : EsAt w w.heap.size e.exprs (.slice A1 e.exprs.length c1)) (hb : SsAt w w.heap.size e.body (.slice A2 e.body.length c2)) (hl : SsAt w w.heap.size e.els (.slice A3 e.els.length c3)) (hok : e.Ok) :
    Calls Tryz.prog 61 #[svS e A1 A2 A3 c1 c2 c3] w fun en w' => en = .returned (.bool (shapeB nameB e)) ∧ Below w.heap.size w w' := by
  by_cases g_1 : e.k = 1 ∨ e.k = 2 ∨ e.k = 3
  · exact r_shape_1 e he hb hl hok g_1
  by_cases g_2 : e.k = 4 ∨ e.k = 5 ∨ e.k = 6 ∨ e.k = 9
  · exact r_shape_2 e he hb hl hok g_2
  by_cases g_3 : e.k = 10 ∨ e.k = 11 ∨ e.k = 12
  · exact r_shape_3 e he hb hl hok g_3
  by_cases g_4 : e.k = 13 ∨ e.k = 15 ∨ e.k = 14
  · exact r_shape_4 e he hb hl hok g_4
  by_cases g_5 : e.k = 7 ∨ e.k = 8
  · exact r_shape_5 e he hb hl hok g_5
  exact r_shape_o e he hb hl hok (by omega) (by omega) (by omega) (by omega) (by omega) (by omega) (by omega) (by omega) (by omega) (by omega) (by omega) (by omega) (by omega) (by omega) (by omega)
end Go.Proofs.YtmapjahpjolmnaaGreatDoor
namespace Go.Proofs.YtmapjahpjolmnaaGreatDoor
open Go.RowKit Tr
set_option maxRecDepth 20000
theorem bs_at {t : ByteArray} {i : Nat} (h : i < t.size) : t.data.toList.drop i = t[i] :: t.data.toList.drop (i + 1) := by
  have h1 : i < t.data.toList.length := h
  exact List.drop_eq_getElem_cons h1
set_option maxHeartbeats 1000000 in
theorem r_Pattern (s : ByteArray) (w : World) (hs : s.size ≤ maxLen) : Calls Tryz.prog 63 #[.string s] w fun e w' => e = .returned (.bool (patB s.data.toList)) ∧ w' = w := by
  have hsz : s.size < 9223372036854775808 := by unfold maxLen at hs; omega
  go_enter Tryz.func63, Tryz.ntmps63
  go_wp2_with fail
  go_loopw [3] (fun v wr => ∃ i : Nat, v = .int .i64 i ∧ i ≤ s.size ∧ patB (s.data.toList.drop i) = patB s.data.toList ∧ wr = w) (fun v _ => s.size - (intOf v).toNat)
  case atStart => exact ⟨0, rfl, Nat.zero_le _, rfl, rfl⟩
  case round =>
    obtain ⟨i, rfl, hi, hp, hw⟩ := hrel
    have HW := Lib.hid hw
    have HP := Lib.hid hp
    clear hp hw
    by_cases h0 : i < s.size
    · have HC := Lib.hid (bs_at h0)
      by_cases hn : s[i].toNat = 10
      · have c1 : ((s[i].toNat : Int) == 10) = true := by simp; omega
        have HF : Hid (patB s.data.toList = false) := by
          unfold Hid
          have h := HP.out
          rw [HC.out, pat_cons, if_pos (show s[i] = 10 from u8_is hn)] at h
          exact h.symm
        go_wp2_with fail
        go_ret
        exact ⟨by rw [HF.out]; rfl, HW.out⟩
      · have c1 : ((s[i].toNat : Int) == 10) = false := by simp; omega
        by_cases hb : s[i].toNat = 92
        · have c2 : ((s[i].toNat : Int) == 92) = true := by simp; omega
          by_cases h1 : i + 1 < s.size
          · have HC2 := Lib.hid (bs_at h1)
            have HE : Hid (patB s.data.toList = if s[i + 1] = 47 ∨ s[i + 1] = 10 then false else patB (s.data.toList.drop (i + 1 + 1))) := by
              unfold Hid
              have h := HP.out
              rw [HC.out, HC2.out, pat_cons, if_neg (show ¬ s[i] = 10 from u8_ne (by decide) hn), if_pos (show s[i] = 92 from u8_is hb)] at h
              exact h.symm
            by_cases hd : s[i + 1].toNat = 47 ∨ s[i + 1].toNat = 10
            · have HF : Hid (patB s.data.toList = false) := by
                unfold Hid
                rw [HE.out, if_pos]
                rcases hd with hd | hd
                · exact .inl (u8_is hd)
                · exact .inr (u8_is hd)
              by_cases hd1 : s[i + 1].toNat = 47
              · have c3 : ((s[i + 1].toNat : Int) == 47) = true := by simp; omega
                go_wp2_with fail
                go_ret
                exact ⟨by rw [HF.out]; rfl, HW.out⟩
              · have c3 : ((s[i + 1].toNat : Int) == 47) = false := by simp; omega
                have c4 : ((s[i + 1].toNat : Int) == 10) = true := by simp; omega
                go_wp2_with fail
                go_ret
                exact ⟨by rw [HF.out]; rfl, HW.out⟩
            · have c3 : ((s[i + 1].toNat : Int) == 47) = false := by simp; omega
              have c4 : ((s[i + 1].toNat : Int) == 10) = false := by simp; omega
              have HN : Hid (patB (s.data.toList.drop (i + 1 + 1)) = patB s.data.toList) := by
                unfold Hid
                rw [HE.out, if_neg]
                rintro (e | e)
                · exact hd (.inl (by rw [e]; rfl))
                · exact hd (.inr (by rw [e]; rfl))
              go_wp2_with fail
              go_roundw
              case rel => exact ⟨i + 1 + 1, by go_num, by omega, HN.out, HW.out⟩
              case measure => simp [intOf]; omega
          · have HF : Hid (patB s.data.toList = false) := by
              unfold Hid
              have h := HP.out
              rw [HC.out, List.drop_of_length_le (by show s.size ≤ i + 1; omega), pat_cons, if_neg (show ¬ s[i] = 10 from u8_ne (by decide) hn), if_pos (show s[i] = 92 from u8_is hb)] at h
              exact h.symm
            go_wp2_with fail
            go_ret
            exact ⟨by rw [HF.out]; rfl, HW.out⟩
        · have c2 : ((s[i].toNat : Int) == 92) = false := by simp; omega
          have HN : Hid (patB (s.data.toList.drop (i + 1)) = patB s.data.toList) := by
            unfold Hid
            have h := HP.out
            rw [HC.out, pat_cons, if_neg (show ¬ s[i] = 10 from u8_ne (by decide) hn), if_neg (show ¬ s[i] = 92 from u8_ne (by decide) hb)] at h
            exact h
          go_wp2_with fail
          go_roundw
          case rel => exact ⟨i + 1, by go_num, by omega, HN.out, HW.out⟩
          case measure => simp [intOf]; omega
    · have HF : Hid (patB s.data.toList = true) := by
        unfold Hid
        have h := HP.out
        rw [List.drop_of_length_le (show s.data.toList.length ≤ i from by show s.size ≤ i; omega)] at h
        rw [← h]
        rfl
      go_wp2_with fail
      go_ret
      exact ⟨by rw [HF.out]; rfl, HW.out⟩
end Go.Proofs.YtmapjahpjolmnaaGreatDoor
namespace Go.Proofs.YtmapjahpjolmnaaGreatDoor
open Go.RowKit Tr
set_option maxRecDepth 20000
theorem r_Lvalue (k : Int) (s : ByteArray) (n : Int) (A : Option Addr) (m c : Nat) (w : World) : Calls Tryz.prog 54 #[.agg #[.int .u8 k, .string s, .int .u64 n, .slice A m c]] w fun e w' => e = .returned (.bool (decide (k = 4) || (decide (k = 5) || decide (k = 6)))) ∧ Below w.heap.size w w' := by
  have HB := Lib.hid ((Below.refl w.heap.size w).alloc (Nat.le_refl _) (.cells #[.int .u8 k, .string s, .int .u64 n, .slice A m c] 29))
  go_enter Tryz.func54, Tryz.ntmps54
  go_wp2_with fail
  all_goals
    go_ret
    refine ⟨?_, by have := HB.out; simp_all⟩
    (by_cases h4 : k = 4 <;> by_cases h5 : k = 5 <;> by_cases h6 : k = 6 <;> simp_all)
set_option maxHeartbeats 4000000 in
theorem r_kids (k : Int) (s : ByteArray) (n : Int) (A : Option Addr) (m c : Nat) (w : World) (hn0 : 0 ≤ n) (hn1 : n < 18446744073709551616) : Calls Tryz.prog 52 #[.agg #[.int .u8 k, .string s, .int .u64 n, .slice A m c]] w fun e w' => e = .returned (.tuple #[.int .i64 (kidsN k n).1, .int .i64 (kidsN k n).2]) ∧ Below w.heap.size w w' := by
  have HB := Lib.hid ((Below.refl w.heap.size w).alloc (Nat.le_refl _) (.cells #[.int .u8 k, .string s, .int .u64 n, .slice A m c] 29))
  have hways : k = 1 ∨ k = 2 ∨ k = 3 ∨ k = 4 ∨ k = 5 ∨ k = 6 ∨ k = 7 ∨ k = 8 ∨ k = 9 ∨ k = 10 ∨ k = 11 ∨ k = 12 ∨ k = 13 ∨ k = 14 ∨ k = 15 ∨ k = 16 ∨ k = 17 ∨ k = 18 ∨ k = 19 ∨ k = 20 ∨ k = 21 ∨ k = 22 ∨ k = 23 ∨ (k < 1 ∨ 23 < k) := by omega
  rcases hways with rfl | rfl | rfl | rfl | rfl | rfl | rfl | rfl | rfl | rfl | rfl | rfl | rfl | rfl | rfl | rfl | rfl | rfl | rfl | rfl | rfl | rfl | rfl | hk
  rotate_right 2
  · -- 23: a getline
    have h1 : kidsN 23 n = ((if 8 ≤ n then 1 else 0) + (if 1 < n % 8 then 1 else 0), (if 8 ≤ n then 1 else 0) + (if 1 < n % 8 then 1 else 0)) := rfl
    by_cases h8 : 8 ≤ n <;> by_cases h9 : 1 < n % 8
    all_goals
      simp only [h8, h9, if_true, if_false] at h1
      have H1 := Lib.hid h1
      clear h1
      go_enter Tryz.func52, Tryz.ntmps52
      go_wp2_with fail
      go_ret2
      rw [H1.out]
      exact ⟨rfl, HB.out⟩
  · have HK := Lib.hid (show kidsN k n = (-1, -1) by
      unfold kidsN
      rw [if_neg (by omega), if_neg (by omega), if_neg (by omega), if_neg (by omega), if_neg (by omega), if_neg (by omega), if_neg (by omega)])
    have n1 : (k == 1) = false := by rw [beq_eq_false_iff_ne]; omega
    have n2 : (k == 2) = false := by rw [beq_eq_false_iff_ne]; omega
    have n3 : (k == 3) = false := by rw [beq_eq_false_iff_ne]; omega
    have n4 : (k == 4) = false := by rw [beq_eq_false_iff_ne]; omega
    have n5 : (k == 5) = false := by rw [beq_eq_false_iff_ne]; omega
    have n6 : (k == 6) = false := by rw [beq_eq_false_iff_ne]; omega
    have n7 : (k == 7) = false := by rw [beq_eq_false_iff_ne]; omega
    have n8 : (k == 8) = false := by rw [beq_eq_false_iff_ne]; omega
    have n9 : (k == 9) = false := by rw [beq_eq_false_iff_ne]; omega
    have n10 : (k == 10) = false := by rw [beq_eq_false_iff_ne]; omega
    have n11 : (k == 11) = false := by rw [beq_eq_false_iff_ne]; omega
    have n12 : (k == 12) = false := by rw [beq_eq_false_iff_ne]; omega
    have n13 : (k == 13) = false := by rw [beq_eq_false_iff_ne]; omega
    have n14 : (k == 14) = false := by rw [beq_eq_false_iff_ne]; omega
    have n15 : (k == 15) = false := by rw [beq_eq_false_iff_ne]; omega
    have n16 : (k == 16) = false := by rw [beq_eq_false_iff_ne]; omega
    have n17 : (k == 17) = false := by rw [beq_eq_false_iff_ne]; omega
    have n18 : (k == 18) = false := by rw [beq_eq_false_iff_ne]; omega
    have n19 : (k == 19) = false := by rw [beq_eq_false_iff_ne]; omega
    have n20 : (k == 20) = false := by rw [beq_eq_false_iff_ne]; omega
    have n21 : (k == 21) = false := by rw [beq_eq_false_iff_ne]; omega
    have n22 : (k == 22) = false := by rw [beq_eq_false_iff_ne]; omega
    have n23 : (k == 23) = false := by rw [beq_eq_false_iff_ne]; omega
    clear hk
    go_enter Tryz.func52, Tryz.ntmps52
    go_wp2_with fail
    go_ret2
    rw [HK.out]
    exact ⟨rfl, HB.out⟩
  all_goals
    go_enter Tryz.func52, Tryz.ntmps52
    go_wp2_with fail
    go_ret2
    exact ⟨rfl, HB.out⟩
theorem r_has13 {w : World} {Bd : Nat} {l : List ByteArray} {v : Value} (h : TsAt w Bd l v) (s : ByteArray) : Calls Tryz.prog 64 #[.string s, v] w fun e w' => e = .returned (.bool (Lib.containsS l s)) ∧ w' = w := by
  obtain ⟨A, cap, rfl, hc, hm, hat⟩ := h.form
  have HAT := Lib.hid hat
  have hcl : cap < 9223372036854775808 := by unfold maxLen at hm; omega
  clear h hat
  go_enter Tryz.func64, Tryz.ntmps64
  go_wp2_with fail
  go_loopw [5] (fun v wr => ∃ i : Nat, v = .int .i64 i ∧ i ≤ l.length ∧ (∀ j (h : j < l.length), j < i → s ≠ l[j]) ∧ wr = w) (fun v _ => l.length - (intOf v).toNat)
  case atStart => exact ⟨0, rfl, Nat.zero_le _, fun j h h2 => absurd h2 (Nat.not_lt_zero _), rfl⟩
  case round =>
    obtain ⟨i, rfl, hi, hall, hw⟩ := hrel
    have HW := Lib.hid hw
    have HALL := Lib.hid hall
    by_cases hlt : i < l.length
    · obtain ⟨b, o, rfl, hbB, hcells⟩ := HAT.out (by omega)
      have hx : wr.cell? ⟨b, o + i, none⟩ = some (.string l[i]) := by rw [hw]; exact hcells i hlt
      clear hcells hall hw
      by_cases heq : s = l[i]
      · have HF : Hid (Lib.containsS l s = true) := by unfold Hid; rw [Lib.containsS_iff, heq]; exact List.getElem_mem _
        have hb : (s.toList == l[i].toList) = true := by rw [heq]; exact beq_self_eq_true _
        clear heq
        go_wp2_with fail
        go_ret
        exact ⟨by rw [HF.out]; rfl, HW.out⟩
      · have HN : Hid (∀ j (h : j < l.length), j < i + 1 → s ≠ l[j]) := fun j hj hj2 => by
          rcases Nat.lt_succ_iff_lt_or_eq.1 hj2 with h | h
          · exact HALL.out j hj h
          · subst h; exact heq
        have hb : (s.toList == l[i].toList) = false := by
          rw [beq_eq_false_iff_ne]
          intro h
          apply heq
          rw [ByteArray.toList_eq, ByteArray.toList_eq] at h
          exact ByteArray.ext (Array.toList_inj.1 h)
        clear heq
        go_wp2_with fail
        go_roundw
        case rel => exact ⟨i + 1, by go_num, by omega, HN.out, HW.out⟩
        case measure => simp [intOf]; omega
    · clear hw
      have HF : Hid (Lib.containsS l s = false) := by
        unfold Hid
        rw [Bool.eq_false_iff]
        intro h
        rw [Lib.containsS_iff] at h
        obtain ⟨j, hj, he⟩ := List.getElem_of_mem h
        exact hall j hj (by omega) he.symm
      clear hall
      go_wp2_with fail
      go_ret
      exact ⟨by rw [HF.out]; rfl, HW.out⟩
end Go.Proofs.YtmapjahpjolmnaaGreatDoor
namespace Go.Proofs.YtmapjahpjolmnaaGreatDoor
open Go.RowKit Tr
set_option maxRecDepth 20000
namespace Tr
def sg7 : List ByteArray := [⟨#[61]⟩, ⟨#[43, 61]⟩, ⟨#[45, 61]⟩, ⟨#[42, 61]⟩, ⟨#[47, 61]⟩, ⟨#[37, 61]⟩, ⟨#[94, 61]⟩]
def sg13 : List ByteArray := [⟨#[126]⟩, ⟨#[33, 126]⟩]
def sg14 : List ByteArray := [⟨#[60]⟩, ⟨#[60, 61]⟩, ⟨#[61, 61]⟩, ⟨#[33, 61]⟩, ⟨#[62]⟩, ⟨#[62, 61]⟩]
def sg16 : List ByteArray := [⟨#[43]⟩, ⟨#[45]⟩, ⟨#[42]⟩, ⟨#[47]⟩, ⟨#[37]⟩, ⟨#[94]⟩]
def sg19 : List ByteArray := [⟨#[43, 43]⟩, ⟨#[45, 45]⟩]
def sg22 : List ByteArray := [⟨#[108, 101, 110, 103, 116, 104]⟩, ⟨#[115, 117, 98, 115, 116, 114]⟩, ⟨#[105, 110, 100, 101, 120]⟩, ⟨#[115, 112, 108, 105, 116]⟩, ⟨#[115, 117, 98]⟩, ⟨#[103, 115, 117, 98]⟩, ⟨#[109, 97, 116, 99, 104]⟩, ⟨#[115, 112, 114, 105, 110, 116, 102]⟩, ⟨#[116, 111, 108, 111, 119, 101, 114]⟩, ⟨#[116, 111, 117, 112, 112, 101, 114]⟩, ⟨#[105, 110, 116]⟩, ⟨#[115, 114, 97, 110, 100]⟩, ⟨#[114, 97, 110, 100]⟩, ⟨#[99, 108, 111, 115, 101]⟩, ⟨#[115, 121, 115, 116, 101, 109]⟩]
def signs (k : Int) : List ByteArray := if k = 7 then sg7 else if k = 13 then sg13 else if k = 14 then sg14 else if k = 16 then sg16 else if k = 19 ∨ k = 20 then sg19 else if k = 22 then sg22 else []
/-- What the document asks of an expression, but for its kids. -/
def docB (e : XE) : Bool := kidsB e && (saysB nameB Lib.containsS signs e && (!firstB e || kidLB e))
def sayW (sg : ByteArray) : List ByteArray := (Lib.fields sg.data.toList).map fun l => ⟨l.toArray⟩
end Tr
theorem fl7 : sayW ⟨#[61, 32, 43, 61, 32, 45, 61, 32, 42, 61, 32, 47, 61, 32, 37, 61, 32, 94, 61]⟩ = sg7 := by kernel_rfl
theorem fl13 : sayW ⟨#[126, 32, 33, 126]⟩ = sg13 := by kernel_rfl
theorem fl14 : sayW ⟨#[60, 32, 60, 61, 32, 61, 61, 32, 33, 61, 32, 62, 32, 62, 61]⟩ = sg14 := by kernel_rfl
theorem fl16 : sayW ⟨#[43, 32, 45, 32, 42, 32, 47, 32, 37, 32, 94]⟩ = sg16 := by kernel_rfl
theorem fl19 : sayW ⟨#[43, 43, 32, 45, 45]⟩ = sg19 := by kernel_rfl
theorem fl22 : sayW ⟨#[108, 101, 110, 103, 116, 104, 32, 115, 117, 98, 115, 116, 114, 32, 105, 110, 100, 101, 120, 32, 115, 112, 108, 105, 116, 32, 115, 117, 98, 32, 103, 115, 117, 98, 32, 109, 97, 116, 99, 104, 32, 115, 112, 114, 105, 110, 116, 102, 32, 116, 111, 108, 111, 119, 101, 114, 32, 116, 111, 117, 112, 112, 101, 114, 32, 105, 110, 116, 32, 115, 114, 97, 110, 100, 32, 114, 97, 110, 100, 32, 99, 108, 111, 115, 101, 32, 115, 121, 115, 116, 101, 109]⟩ = sg22 := by kernel_rfl
theorem row_al (e : XE) (k : Int) (hk : e.k = k) (h1 : ¬ k = 1) (h2 : ¬ k = 2) (h3 : ¬ k = 3) (h4 : ¬ k = 23) (r : KRow) (hr : kindOf k = some r) : alB e = (gdB e r.lo r.hi r.first && saysF r.says e.s) := by
  subst hk
  exact al_is e h1 h2 h3 h4 r hr
theorem says_w (sg s : ByteArray) (h1 : sg ≠ kName) (h2 : sg ≠ kNo) : saysF sg s = Lib.containsS (sayW sg) s := by
  unfold saysF
  rw [if_neg h1, if_neg h2]
  rfl
theorem doc_eq (e : XE) (k : Int) (hk : e.k = k) : docB e = (decide (0 ≤ (kidsN k e.n).1) && (decide ((kidsN k e.n).1 ≤ e.kids.length) && (decide ((kidsN k e.n).2 < 0) || decide ((e.kids.length : Int) ≤ (kidsN k e.n).2))) && (saysB nameB Lib.containsS signs e && (!firstB e || kidLB e))) := by
  subst hk
  rfl
theorem mix (b c n s f : Bool) : (true && (b && c) && ((n && s) && f)) = ((n && (b && (c && f))) && s) := by
  cases b <;> cases c <;> cases n <;> cases s <;> cases f <;> rfl
theorem al_row (e : XE) (k lo hi : Int) (sg : ByteArray) (fst sb : Bool) (hk : e.k = k) (h1 : ¬ k = 1) (h2 : ¬ k = 2) (h3 : ¬ k = 3) (h4 : ¬ k = 23) (hr : kindOf k = some ⟨k, lo, hi, sg, fst⟩) (hkn : kidsN k e.n = (lo, hi)) (hlo : 0 ≤ lo)
    (hs : saysB nameB Lib.containsS signs e = (decide (e.n = 0) && sb)) (hf : firstB e = fst) (hsay : saysF sg e.s = sb) : docB e = alB e := by
  rw [row_al e k hk h1 h2 h3 h4 _ hr, doc_eq e k hk, hkn, hs, hf, decide_eq_true hlo]
  unfold gdB
  simp only
  rw [hsay]
  exact mix _ _ _ _ _
theorem al_k4 (e : XE) (hk : e.k = 4) : docB e = alB e := al_row e 4 0 (0) kName false (nameB e.s) hk (by decide) (by decide) (by decide) (by decide) (by rfl) (by rfl) (by decide) (by unfold saysB; rw [hk]; rfl) (by unfold firstB; rw [hk]; rfl) (rfl)
theorem al_k5 (e : XE) (hk : e.k = 5) : docB e = alB e := al_row e 5 1 (-1) kName false (nameB e.s) hk (by decide) (by decide) (by decide) (by decide) (by rfl) (by rfl) (by decide) (by unfold saysB; rw [hk]; rfl) (by unfold firstB; rw [hk]; rfl) (rfl)
theorem al_k12 (e : XE) (hk : e.k = 12) : docB e = alB e := al_row e 12 1 (-1) kName false (nameB e.s) hk (by decide) (by decide) (by decide) (by decide) (by rfl) (by rfl) (by decide) (by unfold saysB; rw [hk]; rfl) (by unfold firstB; rw [hk]; rfl) (rfl)
theorem al_k6 (e : XE) (hk : e.k = 6) : docB e = alB e := al_row e 6 1 (1) kNo false (decide (e.s.size = 0)) hk (by decide) (by decide) (by decide) (by decide) (by rfl) (by rfl) (by decide) (by rw [Bool.and_comm]; unfold saysB; rw [hk]; rfl) (by unfold firstB; rw [hk]; rfl) (rfl)
theorem al_k11 (e : XE) (hk : e.k = 11) : docB e = alB e := al_row e 11 1 (1) kNo false (decide (e.s.size = 0)) hk (by decide) (by decide) (by decide) (by decide) (by rfl) (by rfl) (by decide) (by rw [Bool.and_comm]; unfold saysB; rw [hk]; rfl) (by unfold firstB; rw [hk]; rfl) (rfl)
theorem al_k17 (e : XE) (hk : e.k = 17) : docB e = alB e := al_row e 17 1 (1) kNo false (decide (e.s.size = 0)) hk (by decide) (by decide) (by decide) (by decide) (by rfl) (by rfl) (by decide) (by rw [Bool.and_comm]; unfold saysB; rw [hk]; rfl) (by unfold firstB; rw [hk]; rfl) (rfl)
theorem al_k18 (e : XE) (hk : e.k = 18) : docB e = alB e := al_row e 18 1 (1) kNo false (decide (e.s.size = 0)) hk (by decide) (by decide) (by decide) (by decide) (by rfl) (by rfl) (by decide) (by rw [Bool.and_comm]; unfold saysB; rw [hk]; rfl) (by unfold firstB; rw [hk]; rfl) (rfl)
theorem al_k7 (e : XE) (hk : e.k = 7) : docB e = alB e := al_row e 7 2 (2) ⟨#[61, 32, 43, 61, 32, 45, 61, 32, 42, 61, 32, 47, 61, 32, 37, 61, 32, 94, 61]⟩ true (Lib.containsS sg7 e.s) hk (by decide) (by decide) (by decide) (by decide) (by rfl) (by rfl) (by decide) (by unfold saysB; rw [hk]; rfl) (by unfold firstB; rw [hk]; rfl) (by rw [says_w _ _ (by decide) (by decide), fl7])
theorem al_k8 (e : XE) (hk : e.k = 8) : docB e = alB e := al_row e 8 3 (3) kNo false (decide (e.s.size = 0)) hk (by decide) (by decide) (by decide) (by decide) (by rfl) (by rfl) (by decide) (by rw [Bool.and_comm]; unfold saysB; rw [hk]; rfl) (by unfold firstB; rw [hk]; rfl) (rfl)
theorem al_k9 (e : XE) (hk : e.k = 9) : docB e = alB e := al_row e 9 2 (2) kNo false (decide (e.s.size = 0)) hk (by decide) (by decide) (by decide) (by decide) (by rfl) (by rfl) (by decide) (by rw [Bool.and_comm]; unfold saysB; rw [hk]; rfl) (by unfold firstB; rw [hk]; rfl) (rfl)
theorem al_k10 (e : XE) (hk : e.k = 10) : docB e = alB e := al_row e 10 2 (2) kNo false (decide (e.s.size = 0)) hk (by decide) (by decide) (by decide) (by decide) (by rfl) (by rfl) (by decide) (by rw [Bool.and_comm]; unfold saysB; rw [hk]; rfl) (by unfold firstB; rw [hk]; rfl) (rfl)
theorem al_k15 (e : XE) (hk : e.k = 15) : docB e = alB e := al_row e 15 2 (2) kNo false (decide (e.s.size = 0)) hk (by decide) (by decide) (by decide) (by decide) (by rfl) (by rfl) (by decide) (by rw [Bool.and_comm]; unfold saysB; rw [hk]; rfl) (by unfold firstB; rw [hk]; rfl) (rfl)
theorem al_k13 (e : XE) (hk : e.k = 13) : docB e = alB e := al_row e 13 2 (2) ⟨#[126, 32, 33, 126]⟩ false (Lib.containsS sg13 e.s) hk (by decide) (by decide) (by decide) (by decide) (by rfl) (by rfl) (by decide) (by unfold saysB; rw [hk]; rfl) (by unfold firstB; rw [hk]; rfl) (by rw [says_w _ _ (by decide) (by decide), fl13])
theorem al_k14 (e : XE) (hk : e.k = 14) : docB e = alB e := al_row e 14 2 (2) ⟨#[60, 32, 60, 61, 32, 61, 61, 32, 33, 61, 32, 62, 32, 62, 61]⟩ false (Lib.containsS sg14 e.s) hk (by decide) (by decide) (by decide) (by decide) (by rfl) (by rfl) (by decide) (by unfold saysB; rw [hk]; rfl) (by unfold firstB; rw [hk]; rfl) (by rw [says_w _ _ (by decide) (by decide), fl14])
theorem al_k16 (e : XE) (hk : e.k = 16) : docB e = alB e := al_row e 16 2 (2) ⟨#[43, 32, 45, 32, 42, 32, 47, 32, 37, 32, 94]⟩ false (Lib.containsS sg16 e.s) hk (by decide) (by decide) (by decide) (by decide) (by rfl) (by rfl) (by decide) (by unfold saysB; rw [hk]; rfl) (by unfold firstB; rw [hk]; rfl) (by rw [says_w _ _ (by decide) (by decide), fl16])
theorem al_k19 (e : XE) (hk : e.k = 19) : docB e = alB e := al_row e 19 1 (1) ⟨#[43, 43, 32, 45, 45]⟩ true (Lib.containsS sg19 e.s) hk (by decide) (by decide) (by decide) (by decide) (by rfl) (by rfl) (by decide) (by unfold saysB; rw [hk]; rfl) (by unfold firstB; rw [hk]; rfl) (by rw [says_w _ _ (by decide) (by decide), fl19])
theorem al_k20 (e : XE) (hk : e.k = 20) : docB e = alB e := al_row e 20 1 (1) ⟨#[43, 43, 32, 45, 45]⟩ true (Lib.containsS sg19 e.s) hk (by decide) (by decide) (by decide) (by decide) (by rfl) (by rfl) (by decide) (by unfold saysB; rw [hk]; rfl) (by unfold firstB; rw [hk]; rfl) (by rw [says_w _ _ (by decide) (by decide), fl19])
theorem al_k21 (e : XE) (hk : e.k = 21) : docB e = alB e := al_row e 21 0 (-1) kName false (nameB e.s) hk (by decide) (by decide) (by decide) (by decide) (by rfl) (by rfl) (by decide) (by unfold saysB; rw [hk]; rfl) (by unfold firstB; rw [hk]; rfl) (rfl)
theorem al_k22 (e : XE) (hk : e.k = 22) : docB e = alB e := al_row e 22 0 (-1) ⟨#[108, 101, 110, 103, 116, 104, 32, 115, 117, 98, 115, 116, 114, 32, 105, 110, 100, 101, 120, 32, 115, 112, 108, 105, 116, 32, 115, 117, 98, 32, 103, 115, 117, 98, 32, 109, 97, 116, 99, 104, 32, 115, 112, 114, 105, 110, 116, 102, 32, 116, 111, 108, 111, 119, 101, 114, 32, 116, 111, 117, 112, 112, 101, 114, 32, 105, 110, 116, 32, 115, 114, 97, 110, 100, 32, 114, 97, 110, 100, 32, 99, 108, 111, 115, 101, 32, 115, 121, 115, 116, 101, 109]⟩ false (Lib.containsS sg22 e.s) hk (by decide) (by decide) (by decide) (by decide) (by rfl) (by rfl) (by decide) (by unfold saysB; rw [hk]; rfl) (by unfold firstB; rw [hk]; rfl) (by rw [says_w _ _ (by decide) (by decide), fl22])
theorem al_k1 (e : XE) (hk : e.k = 1) : docB e = alB e := by
  have hs : saysB nameB Lib.containsS signs e = (decide (e.s.size = 0) && decide (e.n < 9218868437227405312)) := by unfold saysB; rw [hk]; rfl
  have hf : firstB e = false := by unfold firstB; rw [hk]; rfl
  rw [doc_eq e 1 hk, show kidsN 1 e.n = (0, 0) from rfl, hs, hf]
  unfold alB
  rw [if_pos hk, Bool.eq_iff_iff]
  simp only [Bool.and_eq_true, Bool.or_eq_true, decide_eq_true_eq, Bool.not_false]
  constructor
  · rintro ⟨⟨-, -, h⟩, ⟨h1, h2⟩, -⟩
    exact ⟨h1, by omega, h2⟩
  · rintro ⟨h1, h2, h3⟩
    exact ⟨⟨by decide, by omega, .inr (by omega)⟩, ⟨h1, h3⟩, .inl trivial⟩
theorem al_k2 (e : XE) (hk : e.k = 2) : docB e = alB e := by
  have hs : saysB nameB Lib.containsS signs e = decide (e.n = 0) := by unfold saysB; rw [hk]; rfl
  have hf : firstB e = false := by unfold firstB; rw [hk]; rfl
  rw [doc_eq e 2 hk, show kidsN 2 e.n = (0, 0) from rfl, hs, hf]
  unfold alB
  rw [if_neg (by rw [hk]; decide), if_pos hk, Bool.eq_iff_iff]
  simp only [Bool.and_eq_true, Bool.or_eq_true, decide_eq_true_eq, Bool.not_false]
  constructor
  · rintro ⟨⟨-, -, h⟩, h1, -⟩
    exact ⟨h1, by omega⟩
  · rintro ⟨h1, h2⟩
    exact ⟨⟨by decide, by omega, .inr (by omega)⟩, h1, .inl trivial⟩
theorem al_k3 (e : XE) (hk : e.k = 3) : docB e = alB e := by
  have hs : saysB nameB Lib.containsS signs e = (decide (e.n = 0) && patB e.s.data.toList) := by unfold saysB; rw [hk]; rfl
  have hf : firstB e = false := by unfold firstB; rw [hk]; rfl
  rw [doc_eq e 3 hk, show kidsN 3 e.n = (0, 0) from rfl, hs, hf]
  unfold alB
  rw [if_neg (by rw [hk]; decide), if_neg (by rw [hk]; decide), if_pos hk, Bool.eq_iff_iff]
  simp only [Bool.and_eq_true, Bool.or_eq_true, decide_eq_true_eq, Bool.not_false]
  constructor
  · rintro ⟨⟨-, -, h⟩, ⟨h1, h3⟩, -⟩
    exact ⟨h1, by omega, h3⟩
  · rintro ⟨h1, h2, h3⟩
    exact ⟨⟨by decide, by omega, .inr (by omega)⟩, ⟨h1, h3⟩, .inl trivial⟩
theorem al_k23 (e : XE) (hk : e.k = 23) (hn : 0 ≤ e.n) : docB e = alB e := by
  have hs : saysB nameB Lib.containsS signs e = (decide (e.s.size = 0) && (decide (1 ≤ e.n ∧ e.n ≤ 3) || decide (9 ≤ e.n ∧ e.n ≤ 11))) := by unfold saysB; rw [hk]; rfl
  have hf : firstB e = decide (8 ≤ e.n) := by
    unfold firstB
    rw [hk]
    show (false || (false || (false || (true && decide (8 ≤ e.n))))) = _
    simp
  rw [doc_eq e 23 hk, show kidsN 23 e.n = ((if 8 ≤ e.n then 1 else 0) + (if 1 < e.n % 8 then 1 else 0), (if 8 ≤ e.n then 1 else 0) + (if 1 < e.n % 8 then 1 else 0)) from rfl, hs, hf]
  have ha : alB e = getB e := by
    unfold alB
    rw [if_neg (by rw [hk]; decide), if_neg (by rw [hk]; decide), if_neg (by rw [hk]; decide), if_pos hk]
  rw [ha, Bool.eq_iff_iff]
  unfold getB getN
  simp only [Bool.and_eq_true, Bool.or_eq_true, decide_eq_true_eq, Bool.not_eq_true', decide_eq_false_iff_not]
  by_cases h8 : 8 ≤ e.n <;> by_cases h1 : 1 < e.n % 8
  all_goals
    simp only [h8, h1, if_true, if_false]
    constructor
    · rintro ⟨⟨a1, a2, a3⟩, ⟨b1, b2⟩, c⟩
      refine ⟨b1, by omega, by omega, by omega, ?_⟩
      rcases c with c | c
      · first
          | exact absurd trivial c
          | exact .inl (by omega)
      · exact .inr c
    · rintro ⟨b1, a1, a2, a3, c⟩
      refine ⟨⟨by omega, by omega, .inr (by omega)⟩, ⟨b1, by omega⟩, ?_⟩
      rcases c with c | c
      · first
          | exact .inl not_false
          | (exfalso; omega)
      · exact .inr c
theorem kinds_range : ∀ r ∈ kindsM, 4 ≤ r.k ∧ r.k ≤ 22 := by decide
theorem al_none (e : XE) (h : e.k < 1 ∨ 23 < e.k) : docB e = alB e := by
  have hq : kindOf e.k = none := by
    unfold kindOf
    rw [List.find?_eq_none]
    intro r hr
    have := kinds_range r hr
    simp only [beq_iff_eq]
    omega
  have hkn : kidsN e.k e.n = (-1, -1) := by
    unfold kidsN
    rw [if_neg (by omega), if_neg (by omega), if_neg (by omega), if_neg (by omega), if_neg (by omega), if_neg (by omega), if_neg (by omega)]
  have hb : alB e = false := by
    unfold alB
    rw [if_neg (by omega), if_neg (by omega), if_neg (by omega), if_neg (by omega), hq]
  rw [hb, doc_eq e e.k rfl, hkn]
  rfl
/-- The document's rule is the program's. -/
theorem al_doc (e : XE) (hok : e.Ok) : docB e = alB e := by
  have hn : 0 ≤ e.n := by have := hok.2.2; simp [Lit.wf, IntKind.min, IntKind.max, IntKind.bits, IntKind.signed] at this; omega
  by_cases h0 : e.k < 1 ∨ 23 < e.k
  · exact al_none e h0
  have hw : e.k = 1 ∨ e.k = 2 ∨ e.k = 3 ∨ e.k = 4 ∨ e.k = 5 ∨ e.k = 6 ∨ e.k = 7 ∨ e.k = 8 ∨ e.k = 9 ∨ e.k = 10 ∨ e.k = 11 ∨ e.k = 12 ∨ e.k = 13 ∨ e.k = 14 ∨ e.k = 15 ∨ e.k = 16 ∨ e.k = 17 ∨ e.k = 18 ∨ e.k = 19 ∨ e.k = 20 ∨ e.k = 21 ∨ e.k = 22 ∨ e.k = 23 := by omega
  rcases hw with h | h | h | h | h | h | h | h | h | h | h | h | h | h | h | h | h | h | h | h | h | h | h
  · exact al_k1 e h
  · exact al_k2 e h
  · exact al_k3 e h
  · exact al_k4 e h
  · exact al_k5 e h
  · exact al_k6 e h
  · exact al_k7 e h
  · exact al_k8 e h
  · exact al_k9 e h
  · exact al_k10 e h
  · exact al_k11 e h
  · exact al_k12 e h
  · exact al_k13 e h
  · exact al_k14 e h
  · exact al_k15 e h
  · exact al_k16 e h
  · exact al_k17 e h
  · exact al_k18 e h
  · exact al_k19 e h
  · exact al_k20 e h
  · exact al_k21 e h
  · exact al_k22 e h
  · exact al_k23 e h hn
end Go.Proofs.YtmapjahpjolmnaaGreatDoor
