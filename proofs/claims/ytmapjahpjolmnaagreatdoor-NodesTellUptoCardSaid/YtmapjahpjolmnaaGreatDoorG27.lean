/- The document's says. -/
import Derived.Test.YtmapjahpjolmnaaGreatDoorG26
import Derived.Test.YtmapjahpjolmnaaGreatDoorG16
set_option linter.unusedVariables false
set_option linter.unusedSimpArgs false
namespace Go.Proofs.YtmapjahpjolmnaaGreatDoor
open Go.RowKit Tr
set_option maxRecDepth 20000
theorem ts_lit (w : World) (t : TypeId) (xs : List ByteArray) (hx : xs.length ≤ 1000) : TsAt (w.alloc (.cells (xs.map Value.string).toArray t)) (w.heap.size + 1) xs (.slice (some ⟨w.heap.size, 0, none⟩) xs.length xs.length) := by
  have hb := Blk.new w t (xs.map Value.string).toArray
  refine ⟨some ⟨w.heap.size, 0, none⟩, xs.length, rfl, Nat.le_refl _, by unfold maxLen; omega, fun _ => ⟨w.heap.size, 0, rfl, by omega, fun i h => ?_⟩⟩
  rw [hb.cell (0 + i)]
  simp [h]
theorem r_Builtins (w : World) : Calls Tryz.prog 65 #[] w fun e w' => e = .returned (.slice (some ⟨w.heap.size, 0, none⟩) 15 15) ∧ w' = w.alloc (.cells (sg22.map Value.string).toArray 9) := by
  go_enter Tryz.func65, Tryz.ntmps65
  go_wp2_with fail
  go_ret
  exact ⟨rfl, rfl⟩
set_option maxHeartbeats 4000000 in
theorem r_says {w : World} (e : XE) (A : Option Addr) (c : Nat) (hok : e.Ok) : Calls Tryz.prog 53 #[evE e A c] w fun en w' => en = .returned (.bool (saysB nameB Lib.containsS signs e)) ∧ Below w.heap.size w w' := by
  have HOK := Lib.hid hok
  obtain ⟨w2, hw2, hb2, hB0⟩ : ∃ w2, w2 = w.alloc (.cells #[.int .u8 e.k, .string e.s, .int .u64 e.n, .slice A e.kids.length c] 29) ∧ Below w.heap.size w w2 ∧ Blk w2 w.heap.size 29 #[.int .u8 e.k, .string e.s, .int .u64 e.n, .slice A e.kids.length c] := ⟨_, rfl, (Below.refl _ _).alloc (Nat.le_refl _) _, Blk.new w _ _⟩
  have HW2 := Lib.hid hw2
  have HB2 := Lib.hid hb2
  have HX := Lib.hid hB0
  clear hw2 hb2 hB0 hok
  obtain ⟨z, hz⟩ : ∃ z, decide (e.s.size = 0) = z := ⟨_, rfl⟩
  have HZZ : Hid (e.s.toList = [] ↔ z = true) := by unfold Hid; rw [← hz, ← sEmpty, List.isEmpty_iff]
  unfold evE
  by_cases hk7 : e.k = 7
  · have hk := hk7
    have HF : Hid (saysB nameB Lib.containsS signs e = (decide (e.n = 0) && Lib.containsS sg7 e.s)) := by unfold Hid saysB; rw [hk]; rfl
    have HT : Hid (TsAt (w2.alloc (.cells #[.string ⟨#[61]⟩, .string ⟨#[43, 61]⟩, .string ⟨#[45, 61]⟩, .string ⟨#[42, 61]⟩, .string ⟨#[47, 61]⟩, .string ⟨#[37, 61]⟩, .string ⟨#[94, 61]⟩] 9)) (w2.heap.size + 1) sg7 (.slice (some ⟨w2.heap.size, 0, none⟩) 7 7)) := ts_lit w2 9 sg7 (by decide)
    have HBT := Lib.hid (HB2.out.alloc HB2.out.size (.cells #[.string ⟨#[61]⟩, .string ⟨#[43, 61]⟩, .string ⟨#[45, 61]⟩, .string ⟨#[42, 61]⟩, .string ⟨#[47, 61]⟩, .string ⟨#[37, 61]⟩, .string ⟨#[94, 61]⟩] 9))
    rw [hk] at HW2 HX ⊢
    clear hz hk hk7
    go_enter Tryz.func53, Tryz.ntmps53
    go_upto_region 14 with (fail)
    rw [← HW2.out]
    clear HW2
    have x1 : w2.cell? ⟨w.heap.size, 1, none⟩ = some (.string e.s) := HX.out.cell 1
    have x2 : w2.cell? ⟨w.heap.size, 2, none⟩ = some (.int .u64 e.n) := HX.out.cell 2
    by_cases hn : e.n = 0
    · rw [hn] at x2
      rw [decide_eq_true hn] at HF
      go_wp2_with fail
      refine (r_has13 HT.out e.s).mono ?_
      rintro en w3 ⟨rfl, rfl⟩
      go_wp2_with fail
      go_ret
      exact ⟨by rw [HF.out]; rfl, HBT.out⟩
    · rw [decide_eq_false hn] at HF
      go_wp2_with fail
      go_ret
      exact ⟨by rw [HF.out]; rfl, HB2.out⟩
  by_cases hk13 : e.k = 13
  · have hk := hk13
    have HF : Hid (saysB nameB Lib.containsS signs e = (decide (e.n = 0) && Lib.containsS sg13 e.s)) := by unfold Hid saysB; rw [hk]; rfl
    have HT : Hid (TsAt (w2.alloc (.cells #[.string ⟨#[126]⟩, .string ⟨#[33, 126]⟩] 9)) (w2.heap.size + 1) sg13 (.slice (some ⟨w2.heap.size, 0, none⟩) 2 2)) := ts_lit w2 9 sg13 (by decide)
    have HBT := Lib.hid (HB2.out.alloc HB2.out.size (.cells #[.string ⟨#[126]⟩, .string ⟨#[33, 126]⟩] 9))
    rw [hk] at HW2 HX ⊢
    clear hz hk hk13
    go_enter Tryz.func53, Tryz.ntmps53
    go_upto_region 16 with (fail)
    rw [← HW2.out]
    clear HW2
    have x1 : w2.cell? ⟨w.heap.size, 1, none⟩ = some (.string e.s) := HX.out.cell 1
    have x2 : w2.cell? ⟨w.heap.size, 2, none⟩ = some (.int .u64 e.n) := HX.out.cell 2
    by_cases hn : e.n = 0
    · rw [hn] at x2
      rw [decide_eq_true hn] at HF
      go_wp2_with fail
      refine (r_has13 HT.out e.s).mono ?_
      rintro en w3 ⟨rfl, rfl⟩
      go_wp2_with fail
      go_ret
      exact ⟨by rw [HF.out]; rfl, HBT.out⟩
    · rw [decide_eq_false hn] at HF
      go_wp2_with fail
      go_ret
      exact ⟨by rw [HF.out]; rfl, HB2.out⟩
  by_cases hk14 : e.k = 14
  · have hk := hk14
    have HF : Hid (saysB nameB Lib.containsS signs e = (decide (e.n = 0) && Lib.containsS sg14 e.s)) := by unfold Hid saysB; rw [hk]; rfl
    have HT : Hid (TsAt (w2.alloc (.cells #[.string ⟨#[60]⟩, .string ⟨#[60, 61]⟩, .string ⟨#[61, 61]⟩, .string ⟨#[33, 61]⟩, .string ⟨#[62]⟩, .string ⟨#[62, 61]⟩] 9)) (w2.heap.size + 1) sg14 (.slice (some ⟨w2.heap.size, 0, none⟩) 6 6)) := ts_lit w2 9 sg14 (by decide)
    have HBT := Lib.hid (HB2.out.alloc HB2.out.size (.cells #[.string ⟨#[60]⟩, .string ⟨#[60, 61]⟩, .string ⟨#[61, 61]⟩, .string ⟨#[33, 61]⟩, .string ⟨#[62]⟩, .string ⟨#[62, 61]⟩] 9))
    rw [hk] at HW2 HX ⊢
    clear hz hk hk14
    go_enter Tryz.func53, Tryz.ntmps53
    go_upto_region 18 with (fail)
    rw [← HW2.out]
    clear HW2
    have x1 : w2.cell? ⟨w.heap.size, 1, none⟩ = some (.string e.s) := HX.out.cell 1
    have x2 : w2.cell? ⟨w.heap.size, 2, none⟩ = some (.int .u64 e.n) := HX.out.cell 2
    by_cases hn : e.n = 0
    · rw [hn] at x2
      rw [decide_eq_true hn] at HF
      go_wp2_with fail
      refine (r_has13 HT.out e.s).mono ?_
      rintro en w3 ⟨rfl, rfl⟩
      go_wp2_with fail
      go_ret
      exact ⟨by rw [HF.out]; rfl, HBT.out⟩
    · rw [decide_eq_false hn] at HF
      go_wp2_with fail
      go_ret
      exact ⟨by rw [HF.out]; rfl, HB2.out⟩
  by_cases hk16 : e.k = 16
  · have hk := hk16
    have HF : Hid (saysB nameB Lib.containsS signs e = (decide (e.n = 0) && Lib.containsS sg16 e.s)) := by unfold Hid saysB; rw [hk]; rfl
    have HT : Hid (TsAt (w2.alloc (.cells #[.string ⟨#[43]⟩, .string ⟨#[45]⟩, .string ⟨#[42]⟩, .string ⟨#[47]⟩, .string ⟨#[37]⟩, .string ⟨#[94]⟩] 9)) (w2.heap.size + 1) sg16 (.slice (some ⟨w2.heap.size, 0, none⟩) 6 6)) := ts_lit w2 9 sg16 (by decide)
    have HBT := Lib.hid (HB2.out.alloc HB2.out.size (.cells #[.string ⟨#[43]⟩, .string ⟨#[45]⟩, .string ⟨#[42]⟩, .string ⟨#[47]⟩, .string ⟨#[37]⟩, .string ⟨#[94]⟩] 9))
    rw [hk] at HW2 HX ⊢
    clear hz hk hk16
    go_enter Tryz.func53, Tryz.ntmps53
    go_upto_region 20 with (fail)
    rw [← HW2.out]
    clear HW2
    have x1 : w2.cell? ⟨w.heap.size, 1, none⟩ = some (.string e.s) := HX.out.cell 1
    have x2 : w2.cell? ⟨w.heap.size, 2, none⟩ = some (.int .u64 e.n) := HX.out.cell 2
    by_cases hn : e.n = 0
    · rw [hn] at x2
      rw [decide_eq_true hn] at HF
      go_wp2_with fail
      refine (r_has13 HT.out e.s).mono ?_
      rintro en w3 ⟨rfl, rfl⟩
      go_wp2_with fail
      go_ret
      exact ⟨by rw [HF.out]; rfl, HBT.out⟩
    · rw [decide_eq_false hn] at HF
      go_wp2_with fail
      go_ret
      exact ⟨by rw [HF.out]; rfl, HB2.out⟩
  by_cases hk19 : e.k = 19
  · have hk := hk19
    have HF : Hid (saysB nameB Lib.containsS signs e = (decide (e.n = 0) && Lib.containsS sg19 e.s)) := by unfold Hid saysB; rw [hk]; rfl
    have HT : Hid (TsAt (w2.alloc (.cells #[.string ⟨#[43, 43]⟩, .string ⟨#[45, 45]⟩] 9)) (w2.heap.size + 1) sg19 (.slice (some ⟨w2.heap.size, 0, none⟩) 2 2)) := ts_lit w2 9 sg19 (by decide)
    have HBT := Lib.hid (HB2.out.alloc HB2.out.size (.cells #[.string ⟨#[43, 43]⟩, .string ⟨#[45, 45]⟩] 9))
    rw [hk] at HW2 HX ⊢
    clear hz hk hk19
    go_enter Tryz.func53, Tryz.ntmps53
    go_upto_region 23 with (fail)
    rw [← HW2.out]
    clear HW2
    have x1 : w2.cell? ⟨w.heap.size, 1, none⟩ = some (.string e.s) := HX.out.cell 1
    have x2 : w2.cell? ⟨w.heap.size, 2, none⟩ = some (.int .u64 e.n) := HX.out.cell 2
    by_cases hn : e.n = 0
    · rw [hn] at x2
      rw [decide_eq_true hn] at HF
      go_wp2_with fail
      refine (r_has13 HT.out e.s).mono ?_
      rintro en w3 ⟨rfl, rfl⟩
      go_wp2_with fail
      go_ret
      exact ⟨by rw [HF.out]; rfl, HBT.out⟩
    · rw [decide_eq_false hn] at HF
      go_wp2_with fail
      go_ret
      exact ⟨by rw [HF.out]; rfl, HB2.out⟩
  by_cases hk20 : e.k = 20
  · have hk := hk20
    have HF : Hid (saysB nameB Lib.containsS signs e = (decide (e.n = 0) && Lib.containsS sg19 e.s)) := by unfold Hid saysB; rw [hk]; rfl
    have HT : Hid (TsAt (w2.alloc (.cells #[.string ⟨#[43, 43]⟩, .string ⟨#[45, 45]⟩] 9)) (w2.heap.size + 1) sg19 (.slice (some ⟨w2.heap.size, 0, none⟩) 2 2)) := ts_lit w2 9 sg19 (by decide)
    have HBT := Lib.hid (HB2.out.alloc HB2.out.size (.cells #[.string ⟨#[43, 43]⟩, .string ⟨#[45, 45]⟩] 9))
    rw [hk] at HW2 HX ⊢
    clear hz hk hk20
    go_enter Tryz.func53, Tryz.ntmps53
    go_upto_region 23 with (fail)
    rw [← HW2.out]
    clear HW2
    have x1 : w2.cell? ⟨w.heap.size, 1, none⟩ = some (.string e.s) := HX.out.cell 1
    have x2 : w2.cell? ⟨w.heap.size, 2, none⟩ = some (.int .u64 e.n) := HX.out.cell 2
    by_cases hn : e.n = 0
    · rw [hn] at x2
      rw [decide_eq_true hn] at HF
      go_wp2_with fail
      refine (r_has13 HT.out e.s).mono ?_
      rintro en w3 ⟨rfl, rfl⟩
      go_wp2_with fail
      go_ret
      exact ⟨by rw [HF.out]; rfl, HBT.out⟩
    · rw [decide_eq_false hn] at HF
      go_wp2_with fail
      go_ret
      exact ⟨by rw [HF.out]; rfl, HB2.out⟩
  by_cases hk1 : e.k = 1
  · have HF : Hid (saysB nameB Lib.containsS signs e = (z && decide (e.n < 9218868437227405312))) := by unfold Hid saysB; rw [hk1, hz]; rfl
    rw [hk1] at HW2 HX ⊢
    clear hz hk1
    go_enter Tryz.func53, Tryz.ntmps53
    go_upto_region 3 with (fail)
    rw [← HW2.out]
    clear HW2
    have x1 : w2.cell? ⟨w.heap.size, 1, none⟩ = some (.string e.s) := HX.out.cell 1
    have x2 : w2.cell? ⟨w.heap.size, 2, none⟩ = some (.int .u64 e.n) := HX.out.cell 2
    have x3 := True.intro
    go_wp2_with fail
    all_goals (go_ret; refine ⟨congrArg (fun b => Ending.returned (.bool b)) ?_, HB2.out⟩; refine Eq.trans ?_ HF.out.symm; have hzz := HZZ.out; clear HZZ HF HB2 HX HOK x1 x2 x3; (try simp_all) <;> first | rfl | omega | (rw [Bool.eq_iff_iff]; simp only [Bool.and_eq_true, Bool.or_eq_true, Bool.not_eq_true', beq_iff_eq, decide_eq_true_eq] <;> omega))
  by_cases hk2 : e.k = 2
  · have HF : Hid (saysB nameB Lib.containsS signs e = decide (e.n = 0)) := by unfold Hid saysB; rw [hk2]; rfl
    rw [hk2] at HW2 HX ⊢
    clear hz hk2
    go_enter Tryz.func53, Tryz.ntmps53
    go_upto_region 5 with (fail)
    rw [← HW2.out]
    clear HW2
    have x1 : w2.cell? ⟨w.heap.size, 1, none⟩ = some (.string e.s) := HX.out.cell 1
    have x2 : w2.cell? ⟨w.heap.size, 2, none⟩ = some (.int .u64 e.n) := HX.out.cell 2
    have x3 := True.intro
    go_wp2_with fail
    all_goals (go_ret; refine ⟨congrArg (fun b => Ending.returned (.bool b)) ?_, HB2.out⟩; refine Eq.trans ?_ HF.out.symm; have hzz := HZZ.out; clear HZZ HF HB2 HX HOK x1 x2 x3; (try simp_all) <;> first | rfl | omega | (rw [Bool.eq_iff_iff]; simp only [Bool.and_eq_true, Bool.or_eq_true, Bool.not_eq_true', beq_iff_eq, decide_eq_true_eq] <;> omega))
  by_cases hk3 : e.k = 3
  · have HF : Hid (saysB nameB Lib.containsS signs e = (decide (e.n = 0) && patB e.s.data.toList)) := by unfold Hid saysB; rw [hk3]; rfl
    have HPT := Lib.hid (r_Pattern e.s w2 HOK.out.2.1)
    rw [hk3] at HW2 HX ⊢
    clear hz hk3
    go_enter Tryz.func53, Tryz.ntmps53
    go_upto_region 7 with (fail)
    rw [← HW2.out]
    clear HW2
    have x1 : w2.cell? ⟨w.heap.size, 1, none⟩ = some (.string e.s) := HX.out.cell 1
    have x2 : w2.cell? ⟨w.heap.size, 2, none⟩ = some (.int .u64 e.n) := HX.out.cell 2
    have x3 := True.intro
    generalize patB e.s.data.toList = pb at *
    go_wp2_with (with_reducible (refine HPT.out.mono ?_); rintro en w3 ⟨rfl, rfl⟩)
    all_goals (clear HPT; (go_ret; refine ⟨congrArg (fun b => Ending.returned (.bool b)) ?_, HB2.out⟩; refine Eq.trans ?_ HF.out.symm; have hzz := HZZ.out; clear HZZ HF HB2 HX HOK x1 x2 x3; (try simp_all) <;> first | rfl | omega | (rw [Bool.eq_iff_iff]; simp only [Bool.and_eq_true, Bool.or_eq_true, Bool.not_eq_true', beq_iff_eq, decide_eq_true_eq] <;> omega)))
  by_cases hk4 : e.k = 4
  · have HF : Hid (saysB nameB Lib.containsS signs e = (decide (e.n = 0) && nameB e.s)) := by unfold Hid saysB; rw [hk4]; rfl
    have HNM := Lib.hid (r_Name e.s w2 HOK.out.2.1)
    rw [hk4] at HW2 HX ⊢
    clear hz hk4
    go_enter Tryz.func53, Tryz.ntmps53
    go_upto_region 12 with (fail)
    rw [← HW2.out]
    clear HW2
    have x1 : w2.cell? ⟨w.heap.size, 1, none⟩ = some (.string e.s) := HX.out.cell 1
    have x2 : w2.cell? ⟨w.heap.size, 2, none⟩ = some (.int .u64 e.n) := HX.out.cell 2
    have x3 := True.intro
    by_cases hn : e.n = 0
    · rw [hn] at x2
      rw [decide_eq_true hn] at HF
      go_wp2_with fail
      refine HNM.out.mono ?_
      rintro en w3 ⟨rfl, hb3⟩
      have HB3 := Lib.hid (HB2.out.trans (hb3.mono HB2.out.size))
      clear hb3
      go_wp2_with fail
      go_ret
      exact ⟨by rw [HF.out]; rfl, HB3.out⟩
    · rw [decide_eq_false hn] at HF
      go_wp2_with fail
      go_ret
      exact ⟨by rw [HF.out]; rfl, HB2.out⟩
  by_cases hk5 : e.k = 5
  · have HF : Hid (saysB nameB Lib.containsS signs e = (decide (e.n = 0) && nameB e.s)) := by unfold Hid saysB; rw [hk5]; rfl
    have HNM := Lib.hid (r_Name e.s w2 HOK.out.2.1)
    rw [hk5] at HW2 HX ⊢
    clear hz hk5
    go_enter Tryz.func53, Tryz.ntmps53
    go_upto_region 12 with (fail)
    rw [← HW2.out]
    clear HW2
    have x1 : w2.cell? ⟨w.heap.size, 1, none⟩ = some (.string e.s) := HX.out.cell 1
    have x2 : w2.cell? ⟨w.heap.size, 2, none⟩ = some (.int .u64 e.n) := HX.out.cell 2
    have x3 := True.intro
    by_cases hn : e.n = 0
    · rw [hn] at x2
      rw [decide_eq_true hn] at HF
      go_wp2_with fail
      refine HNM.out.mono ?_
      rintro en w3 ⟨rfl, hb3⟩
      have HB3 := Lib.hid (HB2.out.trans (hb3.mono HB2.out.size))
      clear hb3
      go_wp2_with fail
      go_ret
      exact ⟨by rw [HF.out]; rfl, HB3.out⟩
    · rw [decide_eq_false hn] at HF
      go_wp2_with fail
      go_ret
      exact ⟨by rw [HF.out]; rfl, HB2.out⟩
  by_cases hk12 : e.k = 12
  · have HF : Hid (saysB nameB Lib.containsS signs e = (decide (e.n = 0) && nameB e.s)) := by unfold Hid saysB; rw [hk12]; rfl
    have HNM := Lib.hid (r_Name e.s w2 HOK.out.2.1)
    rw [hk12] at HW2 HX ⊢
    clear hz hk12
    go_enter Tryz.func53, Tryz.ntmps53
    go_upto_region 12 with (fail)
    rw [← HW2.out]
    clear HW2
    have x1 : w2.cell? ⟨w.heap.size, 1, none⟩ = some (.string e.s) := HX.out.cell 1
    have x2 : w2.cell? ⟨w.heap.size, 2, none⟩ = some (.int .u64 e.n) := HX.out.cell 2
    have x3 := True.intro
    by_cases hn : e.n = 0
    · rw [hn] at x2
      rw [decide_eq_true hn] at HF
      go_wp2_with fail
      refine HNM.out.mono ?_
      rintro en w3 ⟨rfl, hb3⟩
      have HB3 := Lib.hid (HB2.out.trans (hb3.mono HB2.out.size))
      clear hb3
      go_wp2_with fail
      go_ret
      exact ⟨by rw [HF.out]; rfl, HB3.out⟩
    · rw [decide_eq_false hn] at HF
      go_wp2_with fail
      go_ret
      exact ⟨by rw [HF.out]; rfl, HB2.out⟩
  by_cases hk21 : e.k = 21
  · have HF : Hid (saysB nameB Lib.containsS signs e = (decide (e.n = 0) && nameB e.s)) := by unfold Hid saysB; rw [hk21]; rfl
    have HNM := Lib.hid (r_Name e.s w2 HOK.out.2.1)
    rw [hk21] at HW2 HX ⊢
    clear hz hk21
    go_enter Tryz.func53, Tryz.ntmps53
    go_upto_region 12 with (fail)
    rw [← HW2.out]
    clear HW2
    have x1 : w2.cell? ⟨w.heap.size, 1, none⟩ = some (.string e.s) := HX.out.cell 1
    have x2 : w2.cell? ⟨w.heap.size, 2, none⟩ = some (.int .u64 e.n) := HX.out.cell 2
    have x3 := True.intro
    by_cases hn : e.n = 0
    · rw [hn] at x2
      rw [decide_eq_true hn] at HF
      go_wp2_with fail
      refine HNM.out.mono ?_
      rintro en w3 ⟨rfl, hb3⟩
      have HB3 := Lib.hid (HB2.out.trans (hb3.mono HB2.out.size))
      clear hb3
      go_wp2_with fail
      go_ret
      exact ⟨by rw [HF.out]; rfl, HB3.out⟩
    · rw [decide_eq_false hn] at HF
      go_wp2_with fail
      go_ret
      exact ⟨by rw [HF.out]; rfl, HB2.out⟩
  by_cases hk23 : e.k = 23
  · have HF : Hid (saysB nameB Lib.containsS signs e = (z && (decide (1 ≤ e.n ∧ e.n ≤ 3) || decide (9 ≤ e.n ∧ e.n ≤ 11)))) := by unfold Hid saysB; rw [hk23, hz]; rfl
    rw [hk23] at HW2 HX ⊢
    clear hz hk23
    go_enter Tryz.func53, Tryz.ntmps53
    go_upto_region 27 with (fail)
    rw [← HW2.out]
    clear HW2
    have x1 : w2.cell? ⟨w.heap.size, 1, none⟩ = some (.string e.s) := HX.out.cell 1
    have x2 : w2.cell? ⟨w.heap.size, 2, none⟩ = some (.int .u64 e.n) := HX.out.cell 2
    have x3 := True.intro
    go_wp2_with fail
    all_goals (go_ret; refine ⟨congrArg (fun b => Ending.returned (.bool b)) ?_, HB2.out⟩; refine Eq.trans ?_ HF.out.symm; have hzz := HZZ.out; clear HZZ HF HB2 HX HOK x1 x2 x3; (try simp_all) <;> first | rfl | omega | (rw [Bool.eq_iff_iff]; simp only [Bool.and_eq_true, Bool.or_eq_true, Bool.not_eq_true', beq_iff_eq, decide_eq_true_eq] <;> omega))
  by_cases hk22 : e.k = 22
  · have HF : Hid (saysB nameB Lib.containsS signs e = (decide (e.n = 0) && Lib.containsS sg22 e.s)) := by unfold Hid saysB; rw [hk22]; rfl
    rw [hk22] at HW2 HX ⊢
    clear hz hk22
    go_enter Tryz.func53, Tryz.ntmps53
    go_upto_region 25 with (fail)
    rw [← HW2.out]
    clear HW2
    have x1 : w2.cell? ⟨w.heap.size, 1, none⟩ = some (.string e.s) := HX.out.cell 1
    have x2 : w2.cell? ⟨w.heap.size, 2, none⟩ = some (.int .u64 e.n) := HX.out.cell 2
    have x3 := True.intro
    have c1 : w2.drew.cell? ⟨w.heap.size, 1, none⟩ = some (.string e.s) := x1
    have c2 : w2.drew.cell? ⟨w.heap.size, 2, none⟩ = some (.int .u64 e.n) := x2
    have HBD := Lib.hid HB2.out.drew
    have HLT : Hid (w.heap.size < w2.drew.heap.size) := HX.out.lt
    refine wp_region_noPanic ?_
    refine wp_region_ord (fun wd => wd.cell? ⟨w.heap.size, 1, none⟩ = some (.string e.s) ∧ wd.cell? ⟨w.heap.size, 2, none⟩ = some (.int .u64 e.n)) (.read 0 (.read 1 (.read 2 (.read 3 (.read 4 (.read 5 (.alone 6 (.alone 7 (.alone 8 (.alone 9 .done)))))))))) (by kernel_rfl) (by kernel_rfl) (fun _ _ _ _ _ h => h) ⟨c1, c2⟩ ?_
    simp only [Ord.ops, List.getElem?_toArray, List.getElem?_cons_zero, List.getElem?_cons_succ]
    have HS0 := Lib.hid (And.intro c1 c2)
    clear x1 x2 x3 c1 c2
    generalize w2.drew = wq at *
    by_cases hn : e.n = 0
    · rw [hn] at HS0 ⊢
      rw [decide_eq_true hn] at HF
      iterate 6 (refine ord_read ?_ (fun wd hS M hM => ?_) ?_ ?_; rotate_left; (have HM := Lib.hid hM; obtain ⟨q1, q2⟩ := hS; clear hM; (repeat (first | go_values | go_skip | go_guarded | go_step | go_upon)); exact HM.out); rfl)
      refine ord_alone (fun M hM => ?_)
      have HM := Lib.hid hM
      clear hM
      repeat (first | go_values | go_skip | go_guarded | go_step | go_upon)
      refine (r_Builtins wq).mono ?_
      rintro en w3 ⟨rfl, rfl⟩
      dsimp only
      repeat (first | go_values | go_skip | go_guarded | go_step | go_upon)
      have hba := (Below.refl wq.heap.size wq).alloc (Nat.le_refl _) (.cells (sg22.map Value.string).toArray 9)
      have HT : Hid (TsAt (wq.alloc (.cells (sg22.map Value.string).toArray 9)) (wq.heap.size + 1) sg22 (.slice (some ⟨wq.heap.size, 0, none⟩) 15 15)) := ts_lit wq 9 sg22 (by decide)
      have HSA := Lib.hid (And.intro ((cell_keep hba HLT.out).trans HS0.out.1) ((cell_keep hba HLT.out).trans HS0.out.2))
      have HBA := Lib.hid (HBD.out.trans (hba.mono HBD.out.size))
      clear hba
      generalize wq.alloc (.cells (sg22.map Value.string).toArray 9) = wa at *
      refine HM.out _ _ HSA.out ?_
      clear HM M
      refine ord_alone (fun M hM => ?_)
      have HM := Lib.hid hM
      clear hM
      repeat (first | go_values | go_skip | go_guarded | go_step | go_upon)
      refine (r_has13 HT.out e.s).mono ?_
      rintro en w4 ⟨rfl, rfl⟩
      dsimp only
      repeat (first | go_values | go_skip | go_guarded | go_step | go_upon)
      refine HM.out _ _ HSA.out ?_
      clear HM M
      iterate 2 (
        refine ord_alone (fun M hM => ?_)
        have HM := Lib.hid hM
        clear hM
        repeat (first | go_values | go_skip | go_guarded | go_step | go_upon)
        refine HM.out _ _ HSA.out ?_
        clear HM M)
      refine NoPanic.normal (?_ : _)
      go_wp2_with fail
      go_ret
      exact ⟨by rw [HF.out]; rfl, HBA.out⟩
    · rw [decide_eq_false hn] at HF
      have hnb : (e.n == 0) = false := by rw [beq_eq_false_iff_ne]; exact hn
      iterate 6 (refine ord_read ?_ (fun wd hS M hM => ?_) ?_ ?_; rotate_left; (have HM := Lib.hid hM; obtain ⟨q1, q2⟩ := hS; clear hM; (repeat (first | go_values | go_skip | go_guarded | go_step | go_upon)); exact HM.out); rfl)
      iterate 4 (
        refine ord_alone (fun M hM => ?_)
        have HM := Lib.hid hM
        clear hM
        repeat (first | go_values | go_skip | go_guarded | go_step | go_upon)
        refine HM.out _ _ HS0.out ?_
        clear HM M)
      refine NoPanic.normal (?_ : _)
      go_wp2_with fail
      go_ret
      exact ⟨by rw [HF.out]; rfl, HBD.out⟩
  have HF : Hid (saysB nameB Lib.containsS signs e = (z && decide (e.n = 0))) := by
    unfold Hid saysB
    rw [if_neg hk1, if_neg hk2, if_neg hk3, if_neg (by omega), if_neg (by omega), if_neg hk23, hz]
  clear hz
  go_enter Tryz.func53, Tryz.ntmps53
  go_upto_region 28 with (fail)
  rw [← HW2.out]
  clear HW2
  have x1 : w2.cell? ⟨w.heap.size, 1, none⟩ = some (.string e.s) := HX.out.cell 1
  have x2 : w2.cell? ⟨w.heap.size, 2, none⟩ = some (.int .u64 e.n) := HX.out.cell 2
  have x3 := True.intro
  go_wp2_with fail
  all_goals (go_ret; refine ⟨congrArg (fun b => Ending.returned (.bool b)) ?_, HB2.out⟩; refine Eq.trans ?_ HF.out.symm; have hzz := HZZ.out; clear HZZ HF HB2 HX HOK x1 x2 x3; (try simp_all) <;> first | rfl | omega | (rw [Bool.eq_iff_iff]; simp only [Bool.and_eq_true, Bool.or_eq_true, Bool.not_eq_true', beq_iff_eq, decide_eq_true_eq] <;> omega))
end Go.Proofs.YtmapjahpjolmnaaGreatDoor
namespace Go.Proofs.YtmapjahpjolmnaaGreatDoor
open Go.RowKit Tr
set_option maxRecDepth 20000
theorem kid_first {e : XE} (hn : 0 ≤ e.n) (h : firstB e = true) (h1 : (kidsN e.k e.n).1 ≤ e.kids.length) : 0 < e.kids.length := by
  unfold firstB at h
  simp only [Bool.or_eq_true, Bool.and_eq_true, decide_eq_true_eq] at h
  rcases h with h | h | h | ⟨h, h2⟩
  · rw [h, show kidsN 7 e.n = (2, 2) from rfl] at h1; simp only at h1; omega
  · rw [h, show kidsN 19 e.n = (1, 1) from rfl] at h1; simp only at h1; omega
  · rw [h, show kidsN 20 e.n = (1, 1) from rfl] at h1; simp only at h1; omega
  · rw [h, show kidsN 23 e.n = ((if 8 ≤ e.n then 1 else 0) + (if 1 < e.n % 8 then 1 else 0), (if 8 ≤ e.n then 1 else 0) + (if 1 < e.n % 8 then 1 else 0)) from rfl, if_pos h2] at h1
    simp only at h1
    split at h1 <;> omega
set_option maxHeartbeats 4000000 in
theorem r_expr1 {w : World} (e : XE) (A : Option Addr) (c : Nat) (m : Int) (h : EsAt w w.heap.size e.kids (.slice A e.kids.length c)) (hok : e.Ok) (hm0 : 0 ≤ m) (hm1 : m ≤ 1000)
    (ih : 1 ≤ m → ∀ w', Below w.heap.size w w' → Calls Tryz.prog 49 #[.slice A e.kids.length c, .int .i64 (m - 1)] w' fun en w2 => en = .returned (.bool (exprsR alB e.kids (m - 1))) ∧ Below w'.heap.size w' w2) :
    Calls Tryz.prog 36 #[evE e A c, .int .i64 m] w fun en w' => en = .returned (.bool (exprR alB e m)) ∧ Below w.heap.size w w' := by
  have hcap := h.cap
  have hn : 0 ≤ e.n ∧ e.n < 18446744073709551616 := by have := hok.2.2; simp [Lit.wf, IntKind.min, IntKind.max, IntKind.bits, IntKind.signed] at this; omega
  have HIH := Lib.hid ih
  have HE := Lib.hid h
  have HOK := Lib.hid hok
  have hb0 := (Below.refl w.heap.size w).alloc (Nat.le_refl _) (.cells #[.int .u8 e.k, .string e.s, .int .u64 e.n, .slice A e.kids.length c] 29)
  have hx0 := Blk.new w 29 #[.int .u8 e.k, .string e.s, .int .u64 e.n, .slice A e.kids.length c]
  have HAL := Lib.hid (al_doc e hok)
  clear h hok ih
  by_cases hml : m < 1
  · have HF : Hid (exprR alB e m = false) := by unfold Hid; rw [exprR_eq, if_pos hml]
    have HBC := Lib.hid hb0
    unfold evE
    clear hb0 hx0
    go_enter Tryz.func36, Tryz.ntmps36
    go_wp2_with fail
    go_ret
    exact ⟨by rw [HF.out]; rfl, HBC.out⟩
  have HR : Hid (exprR alB e m = (docB e && exprsR alB e.kids (m - 1))) := by unfold Hid; rw [exprR_eq, if_neg hml, HAL.out]
  have HKD := Lib.hid (fun w' => r_kids e.k e.s e.n A e.kids.length c w' hn.1 hn.2)
  have HSY := Lib.hid (fun w' => r_says (w := w') e A c HOK.out)
  have HDB : Hid (docB e = (kidsB e && (saysB nameB Lib.containsS signs e && (!firstB e || kidLB e)))) := rfl
  unfold evE at HSY ⊢
  go_enter Tryz.func36, Tryz.ntmps36
  go_upto_region 3 with (fail)
  generalize w.alloc (.cells #[.int .u8 e.k, .string e.s, .int .u64 e.n, .slice A e.kids.length c] 29) = w1 at *
  have HBC := Lib.hid hb0
  have HX := Lib.hid hx0
  clear hb0 hx0
  obtain ⟨X, hX⟩ : ∃ X, X = w.heap.size := ⟨_, rfl⟩
  rw [← hX] at HX ⊢
  have HXW := Lib.hid hX
  clear hX
  have x0 : w1.cell? ⟨X, 0, none⟩ = some (.int .u8 e.k) := HX.out.cell 0
  have x1 : w1.cell? ⟨X, 1, none⟩ = some (.string e.s) := HX.out.cell 1
  have x2 : w1.cell? ⟨X, 2, none⟩ = some (.int .u64 e.n) := HX.out.cell 2
  have x3 : w1.cell? ⟨X, 3, none⟩ = some (.slice A e.kids.length c) := HX.out.cell 3
  go_upto_region 4 with (with_reducible (refine (HKD.out w1).mono ?_); rintro en w2 ⟨rfl, hb⟩; (have hbz := HBC.out.trans (hb.mono HBC.out.size); have HXZ := Lib.hid (HX.out.keep (Tur.of_gr (F := fun _ => False) hb) (fun h => h)); clear HBC HX hb; have HBC := Lib.hid hbz; have HX := HXZ; clear hbz HXZ); clear x0 x1 x2 x3)
  have hkb : kidsB e = (decide (0 ≤ (kidsN e.k e.n).1) && (decide ((kidsN e.k e.n).1 ≤ e.kids.length) && (decide ((kidsN e.k e.n).2 < 0) || decide ((e.kids.length : Int) ≤ (kidsN e.k e.n).2)))) := rfl
  have HKF := Lib.hid (kid_first (e := e) hn.1)
  obtain ⟨⟨fr, tp⟩, hft⟩ : ∃ p, kidsN e.k e.n = p := ⟨_, rfl⟩
  have HFT := Lib.hid hft
  rw [hft] at hkb HKF ⊢
  clear hft
  dsimp only at hkb HKF ⊢
  have x0 : w2.cell? ⟨X, 0, none⟩ = some (.int .u8 e.k) := HX.out.cell 0
  have x1 : w2.cell? ⟨X, 1, none⟩ = some (.string e.s) := HX.out.cell 1
  have x2 : w2.cell? ⟨X, 2, none⟩ = some (.int .u64 e.n) := HX.out.cell 2
  have x3 : w2.cell? ⟨X, 3, none⟩ = some (.slice A e.kids.length c) := HX.out.cell 3
  by_cases hf0 : fr < 0
  · have HF : Hid (exprR alB e m = false) := by unfold Hid; rw [HR.out, HDB.out, hkb, decide_eq_false (by omega)]; rfl
    clear hkb
    go_wp2_with fail
    go_ret
    exact ⟨by rw [HF.out]; rfl, HBC.out⟩
  by_cases hf1 : (e.kids.length : Int) < fr
  · have HF : Hid (exprR alB e m = false) := by unfold Hid; rw [HR.out, HDB.out, hkb, decide_eq_false (show ¬ fr ≤ (e.kids.length : Int) by omega), Bool.false_and, Bool.and_false]; rfl
    clear hkb
    go_wp2_with fail
    go_ret
    exact ⟨by rw [HF.out]; rfl, HBC.out⟩
  by_cases hf2 : 0 ≤ tp ∧ tp < (e.kids.length : Int)
  · have HF : Hid (exprR alB e m = false) := by unfold Hid; rw [HR.out, HDB.out, hkb, decide_eq_false (show ¬ tp < 0 by omega), decide_eq_false (show ¬ (e.kids.length : Int) ≤ tp by omega), Bool.or_self, Bool.and_false, Bool.and_false]; rfl
    obtain ⟨hf3, hf4⟩ := hf2
    clear hkb
    go_wp2_with fail
    go_ret
    exact ⟨by rw [HF.out]; rfl, HBC.out⟩
  have hkt : kidsB e = true := by
    rw [hkb, decide_eq_true (by omega), decide_eq_true (by omega)]
    by_cases ht : tp < 0
    · rw [decide_eq_true ht]; rfl
    · rw [decide_eq_true (show (e.kids.length : Int) ≤ tp by omega), Bool.or_true]; rfl
  rw [hkt, Bool.true_and] at HDB
  clear hkb hkt
  have hf5 : tp < 0 ∨ (0 ≤ tp ∧ (e.kids.length : Int) ≤ tp) := by omega
  clear hf2
  obtain ⟨sb, hsb⟩ : ∃ b, saysB nameB Lib.containsS signs e = b := ⟨_, rfl⟩
  have HSB := Lib.hid hsb
  rw [hsb] at HDB
  have HS2 : Hid (∀ w', Calls Tryz.prog 53 #[.agg #[.int .u8 e.k, .string e.s, .int .u64 e.n, .slice A e.kids.length c]] w' fun en w2 => en = .returned (.bool sb) ∧ Below w'.heap.size w' w2) := fun w' => by have := HSY.out w'; rw [hsb] at this; exact this
  clear hsb HSY HSB
  have HLV := Lib.hid (fun h0 : 0 < e.kids.length => HE.out.head h0)
  have HKL := Lib.hid (fun h0 : 0 < e.kids.length => kidL_is (e := e) h0)
  have HKN := Lib.hid (fun h0 : ¬ 0 < e.kids.length => kidL_not (e := e) h0)
  have HFR : Hid (firstB e = true → 0 < e.kids.length) := fun h0 => HKF.out h0 (by omega)
  clear HKF
  cases sb
  · have HF : Hid (exprR alB e m = false) := by unfold Hid; rw [HR.out, HDB.out]; rfl
    rcases hf5 with hf6 | ⟨hf6, hf7⟩
    all_goals
      go_wp2_with (with_reducible (refine (HS2.out w2).mono ?_); rintro en w3 ⟨rfl, hb⟩; (have hbz := HBC.out.trans (hb.mono HBC.out.size); have HXZ := Lib.hid (HX.out.keep (Tur.of_gr (F := fun _ => False) hb) (fun h => h)); clear HBC HX hb; have HBC := Lib.hid hbz; have HX := HXZ; clear hbz HXZ); clear x0 x1 x2 x3)
      go_ret
      exact ⟨by rw [HF.out]; rfl, HBC.out⟩
  rw [Bool.true_and] at HDB
  have hkk : (e.k = 7 ∧ firstB e = true) ∨ (e.k ≠ 7 ∧ e.k = 19 ∧ firstB e = true) ∨ (e.k ≠ 7 ∧ e.k ≠ 19 ∧ e.k = 20 ∧ firstB e = true) ∨ (e.k ≠ 7 ∧ e.k ≠ 19 ∧ e.k ≠ 20 ∧ e.k = 23 ∧ 8 ≤ e.n ∧ firstB e = true) ∨ (e.k ≠ 7 ∧ e.k ≠ 19 ∧ e.k ≠ 20 ∧ e.k = 23 ∧ e.n < 8 ∧ firstB e = false) ∨ (e.k ≠ 7 ∧ e.k ≠ 19 ∧ e.k ≠ 20 ∧ e.k ≠ 23 ∧ firstB e = false) := by
    unfold firstB
    by_cases a1 : e.k = 7
    · simp [a1]
    by_cases a2 : e.k = 19
    · simp [a2]
    by_cases a3 : e.k = 20
    · simp [a3]
    by_cases a4 : e.k = 23
    · by_cases a5 : 8 ≤ e.n
      · simp [a4, a5]
      · simp [a4, a5]; omega
    · simp [a1, a2, a3, a4]
  have HKW := Lib.hid hkk
  clear hkk
  rcases hf5 with hf6 | ⟨hf6, hf7⟩
  all_goals
    go_upto_region 6 with (with_reducible (refine (HS2.out w2).mono ?_); rintro en w3 ⟨rfl, hb⟩; (have hbz := HBC.out.trans (hb.mono HBC.out.size); have HXZ := Lib.hid (HX.out.keep (Tur.of_gr (F := fun _ => False) hb) (fun h => h)); clear HBC HX hb; have HBC := Lib.hid hbz; have HX := HXZ; clear hbz HXZ); clear x0 x1 x2 x3)
    have x0 : w3.cell? ⟨X, 0, none⟩ = some (.int .u8 e.k) := HX.out.cell 0
    have x1 : w3.cell? ⟨X, 1, none⟩ = some (.string e.s) := HX.out.cell 1
    have x2 : w3.cell? ⟨X, 2, none⟩ = some (.int .u64 e.n) := HX.out.cell 2
    have x3 : w3.cell? ⟨X, 3, none⟩ = some (.slice A e.kids.length c) := HX.out.cell 3
    rcases HKW.out with ⟨a_7, hF⟩ | ⟨a_7, a_19, hF⟩ | ⟨a_7, a_19, a_20, hF⟩ | ⟨a_7, a_19, a_20, a_23, a_8, hF⟩ | ⟨a_7, a_19, a_20, a_23, a_8, hF⟩ | ⟨a_7, a_19, a_20, a_23, hF⟩
    · have b7 : (e.k == 7) = true := beq_iff_eq.2 a_7
      clear a_7 HKW
      (have hp0 := HFR.out hF; obtain ⟨kb, ko, kv, hA, hkb, hy, hkk⟩ := HLV.out hp0; obtain ⟨B1, n1, e1, -, -⟩ := hkk.form; subst e1; obtain ⟨z0, z1, z2, z3⟩ := hy.keep HBC.out hkb; have hlx : kidLB e = lvalB (e.kids[0]'hp0) := HKL.out hp0; clear hkk hy; generalize (e.kids[0]'hp0) = x at *; subst hA; obtain ⟨lv, hlv⟩ : ∃ lv, (decide (x.k = 4) || (decide (x.k = 5) || decide (x.k = 6))) = lv := ⟨_, rfl⟩; have HLW : Hid (Calls Tryz.prog 54 #[.agg #[.int .u8 x.k, .string x.s, .int .u64 x.n, .slice B1 x.kids.length n1]] w3 fun en w' => en = .returned (.bool lv) ∧ Below w3.heap.size w3 w') := (by have h := r_Lvalue x.k x.s x.n B1 x.kids.length n1 w3; rw [hlv] at h; exact h); have HLE : Hid (kidLB e = lv) := (by unfold Hid; rw [hlx]; exact hlv); clear hlx hlv; cases lv; (case false => (have HF : Hid (exprR alB e m = false) := (by unfold Hid; rw [HR.out, HDB.out, hF, HLE.out]; rfl); go_wp2_with (with_reducible (refine HLW.out.mono ?_); rintro en w4 ⟨rfl, hb⟩; (have hbz := HBC.out.trans (hb.mono HBC.out.size); have HXZ := Lib.hid (HX.out.keep (Tur.of_gr (F := fun _ => False) hb) (fun h => h)); clear HBC HX hb; have HBC := Lib.hid hbz; have HX := HXZ; clear hbz HXZ); clear x0 x1 x2 x3 z0 z1 z2 z3); go_ret; exact ⟨by rw [HF.out]; rfl, HBC.out⟩)); (case true => (have HF : Hid (exprR alB e m = exprsR alB e.kids (m - 1)) := (by unfold Hid; rw [HR.out, HDB.out, hF, HLE.out]; rfl); go_wp2_with fail; refine HLW.out.mono ?_; rintro en w4 ⟨rfl, hb⟩; (have hbz := HBC.out.trans (hb.mono HBC.out.size); have HXZ := Lib.hid (HX.out.keep (Tur.of_gr (F := fun _ => False) hb) (fun h => h)); clear HBC HX hb; have HBC := Lib.hid hbz; have HX := HXZ; clear hbz HXZ); clear x0 x1 x2 x3 z0 z1 z2 z3; have x3 : w4.cell? ⟨X, 3, none⟩ = some (.slice (some ⟨kb, ko, none⟩) e.kids.length c) := HX.out.cell 3; go_wp2_with fail; refine (HIH.out (by omega) _ HBC.out).mono ?_; rintro en w5 ⟨rfl, hb⟩; (have hbz := HBC.out.trans (hb.mono HBC.out.size); have HXZ := Lib.hid (HX.out.keep (Tur.of_gr (F := fun _ => False) hb) (fun h => h)); clear HBC HX hb; have HBC := Lib.hid hbz; have HX := HXZ; clear hbz HXZ); clear x3; go_wp2_with fail; go_ret; exact ⟨by rw [HF.out]; rfl, HBC.out⟩)))
    · have b7 : (e.k == 7) = false := beq_eq_false_iff_ne.2 a_7; have b19 : (e.k == 19) = true := beq_iff_eq.2 a_19
      clear a_7 a_19 HKW
      (have hp0 := HFR.out hF; obtain ⟨kb, ko, kv, hA, hkb, hy, hkk⟩ := HLV.out hp0; obtain ⟨B1, n1, e1, -, -⟩ := hkk.form; subst e1; obtain ⟨z0, z1, z2, z3⟩ := hy.keep HBC.out hkb; have hlx : kidLB e = lvalB (e.kids[0]'hp0) := HKL.out hp0; clear hkk hy; generalize (e.kids[0]'hp0) = x at *; subst hA; obtain ⟨lv, hlv⟩ : ∃ lv, (decide (x.k = 4) || (decide (x.k = 5) || decide (x.k = 6))) = lv := ⟨_, rfl⟩; have HLW : Hid (Calls Tryz.prog 54 #[.agg #[.int .u8 x.k, .string x.s, .int .u64 x.n, .slice B1 x.kids.length n1]] w3 fun en w' => en = .returned (.bool lv) ∧ Below w3.heap.size w3 w') := (by have h := r_Lvalue x.k x.s x.n B1 x.kids.length n1 w3; rw [hlv] at h; exact h); have HLE : Hid (kidLB e = lv) := (by unfold Hid; rw [hlx]; exact hlv); clear hlx hlv; cases lv; (case false => (have HF : Hid (exprR alB e m = false) := (by unfold Hid; rw [HR.out, HDB.out, hF, HLE.out]; rfl); go_wp2_with (with_reducible (refine HLW.out.mono ?_); rintro en w4 ⟨rfl, hb⟩; (have hbz := HBC.out.trans (hb.mono HBC.out.size); have HXZ := Lib.hid (HX.out.keep (Tur.of_gr (F := fun _ => False) hb) (fun h => h)); clear HBC HX hb; have HBC := Lib.hid hbz; have HX := HXZ; clear hbz HXZ); clear x0 x1 x2 x3 z0 z1 z2 z3); go_ret; exact ⟨by rw [HF.out]; rfl, HBC.out⟩)); (case true => (have HF : Hid (exprR alB e m = exprsR alB e.kids (m - 1)) := (by unfold Hid; rw [HR.out, HDB.out, hF, HLE.out]; rfl); go_wp2_with fail; refine HLW.out.mono ?_; rintro en w4 ⟨rfl, hb⟩; (have hbz := HBC.out.trans (hb.mono HBC.out.size); have HXZ := Lib.hid (HX.out.keep (Tur.of_gr (F := fun _ => False) hb) (fun h => h)); clear HBC HX hb; have HBC := Lib.hid hbz; have HX := HXZ; clear hbz HXZ); clear x0 x1 x2 x3 z0 z1 z2 z3; have x3 : w4.cell? ⟨X, 3, none⟩ = some (.slice (some ⟨kb, ko, none⟩) e.kids.length c) := HX.out.cell 3; go_wp2_with fail; refine (HIH.out (by omega) _ HBC.out).mono ?_; rintro en w5 ⟨rfl, hb⟩; (have hbz := HBC.out.trans (hb.mono HBC.out.size); have HXZ := Lib.hid (HX.out.keep (Tur.of_gr (F := fun _ => False) hb) (fun h => h)); clear HBC HX hb; have HBC := Lib.hid hbz; have HX := HXZ; clear hbz HXZ); clear x3; go_wp2_with fail; go_ret; exact ⟨by rw [HF.out]; rfl, HBC.out⟩)))
    · have b7 : (e.k == 7) = false := beq_eq_false_iff_ne.2 a_7; have b19 : (e.k == 19) = false := beq_eq_false_iff_ne.2 a_19; have b20 : (e.k == 20) = true := beq_iff_eq.2 a_20
      clear a_7 a_19 a_20 HKW
      (have hp0 := HFR.out hF; obtain ⟨kb, ko, kv, hA, hkb, hy, hkk⟩ := HLV.out hp0; obtain ⟨B1, n1, e1, -, -⟩ := hkk.form; subst e1; obtain ⟨z0, z1, z2, z3⟩ := hy.keep HBC.out hkb; have hlx : kidLB e = lvalB (e.kids[0]'hp0) := HKL.out hp0; clear hkk hy; generalize (e.kids[0]'hp0) = x at *; subst hA; obtain ⟨lv, hlv⟩ : ∃ lv, (decide (x.k = 4) || (decide (x.k = 5) || decide (x.k = 6))) = lv := ⟨_, rfl⟩; have HLW : Hid (Calls Tryz.prog 54 #[.agg #[.int .u8 x.k, .string x.s, .int .u64 x.n, .slice B1 x.kids.length n1]] w3 fun en w' => en = .returned (.bool lv) ∧ Below w3.heap.size w3 w') := (by have h := r_Lvalue x.k x.s x.n B1 x.kids.length n1 w3; rw [hlv] at h; exact h); have HLE : Hid (kidLB e = lv) := (by unfold Hid; rw [hlx]; exact hlv); clear hlx hlv; cases lv; (case false => (have HF : Hid (exprR alB e m = false) := (by unfold Hid; rw [HR.out, HDB.out, hF, HLE.out]; rfl); go_wp2_with (with_reducible (refine HLW.out.mono ?_); rintro en w4 ⟨rfl, hb⟩; (have hbz := HBC.out.trans (hb.mono HBC.out.size); have HXZ := Lib.hid (HX.out.keep (Tur.of_gr (F := fun _ => False) hb) (fun h => h)); clear HBC HX hb; have HBC := Lib.hid hbz; have HX := HXZ; clear hbz HXZ); clear x0 x1 x2 x3 z0 z1 z2 z3); go_ret; exact ⟨by rw [HF.out]; rfl, HBC.out⟩)); (case true => (have HF : Hid (exprR alB e m = exprsR alB e.kids (m - 1)) := (by unfold Hid; rw [HR.out, HDB.out, hF, HLE.out]; rfl); go_wp2_with fail; refine HLW.out.mono ?_; rintro en w4 ⟨rfl, hb⟩; (have hbz := HBC.out.trans (hb.mono HBC.out.size); have HXZ := Lib.hid (HX.out.keep (Tur.of_gr (F := fun _ => False) hb) (fun h => h)); clear HBC HX hb; have HBC := Lib.hid hbz; have HX := HXZ; clear hbz HXZ); clear x0 x1 x2 x3 z0 z1 z2 z3; have x3 : w4.cell? ⟨X, 3, none⟩ = some (.slice (some ⟨kb, ko, none⟩) e.kids.length c) := HX.out.cell 3; go_wp2_with fail; refine (HIH.out (by omega) _ HBC.out).mono ?_; rintro en w5 ⟨rfl, hb⟩; (have hbz := HBC.out.trans (hb.mono HBC.out.size); have HXZ := Lib.hid (HX.out.keep (Tur.of_gr (F := fun _ => False) hb) (fun h => h)); clear HBC HX hb; have HBC := Lib.hid hbz; have HX := HXZ; clear hbz HXZ); clear x3; go_wp2_with fail; go_ret; exact ⟨by rw [HF.out]; rfl, HBC.out⟩)))
    · have b7 : (e.k == 7) = false := beq_eq_false_iff_ne.2 a_7; have b19 : (e.k == 19) = false := beq_eq_false_iff_ne.2 a_19; have b20 : (e.k == 20) = false := beq_eq_false_iff_ne.2 a_20; have b23 : (e.k == 23) = true := beq_iff_eq.2 a_23
      clear a_7 a_19 a_20 a_23 HKW
      (have hp0 := HFR.out hF; obtain ⟨kb, ko, kv, hA, hkb, hy, hkk⟩ := HLV.out hp0; obtain ⟨B1, n1, e1, -, -⟩ := hkk.form; subst e1; obtain ⟨z0, z1, z2, z3⟩ := hy.keep HBC.out hkb; have hlx : kidLB e = lvalB (e.kids[0]'hp0) := HKL.out hp0; clear hkk hy; generalize (e.kids[0]'hp0) = x at *; subst hA; obtain ⟨lv, hlv⟩ : ∃ lv, (decide (x.k = 4) || (decide (x.k = 5) || decide (x.k = 6))) = lv := ⟨_, rfl⟩; have HLW : Hid (Calls Tryz.prog 54 #[.agg #[.int .u8 x.k, .string x.s, .int .u64 x.n, .slice B1 x.kids.length n1]] w3 fun en w' => en = .returned (.bool lv) ∧ Below w3.heap.size w3 w') := (by have h := r_Lvalue x.k x.s x.n B1 x.kids.length n1 w3; rw [hlv] at h; exact h); have HLE : Hid (kidLB e = lv) := (by unfold Hid; rw [hlx]; exact hlv); clear hlx hlv; cases lv; (case false => (have HF : Hid (exprR alB e m = false) := (by unfold Hid; rw [HR.out, HDB.out, hF, HLE.out]; rfl); go_wp2_with (with_reducible (refine HLW.out.mono ?_); rintro en w4 ⟨rfl, hb⟩; (have hbz := HBC.out.trans (hb.mono HBC.out.size); have HXZ := Lib.hid (HX.out.keep (Tur.of_gr (F := fun _ => False) hb) (fun h => h)); clear HBC HX hb; have HBC := Lib.hid hbz; have HX := HXZ; clear hbz HXZ); clear x0 x1 x2 x3 z0 z1 z2 z3); go_ret; exact ⟨by rw [HF.out]; rfl, HBC.out⟩)); (case true => (have HF : Hid (exprR alB e m = exprsR alB e.kids (m - 1)) := (by unfold Hid; rw [HR.out, HDB.out, hF, HLE.out]; rfl); go_wp2_with fail; refine HLW.out.mono ?_; rintro en w4 ⟨rfl, hb⟩; (have hbz := HBC.out.trans (hb.mono HBC.out.size); have HXZ := Lib.hid (HX.out.keep (Tur.of_gr (F := fun _ => False) hb) (fun h => h)); clear HBC HX hb; have HBC := Lib.hid hbz; have HX := HXZ; clear hbz HXZ); clear x0 x1 x2 x3 z0 z1 z2 z3; have x3 : w4.cell? ⟨X, 3, none⟩ = some (.slice (some ⟨kb, ko, none⟩) e.kids.length c) := HX.out.cell 3; go_wp2_with fail; refine (HIH.out (by omega) _ HBC.out).mono ?_; rintro en w5 ⟨rfl, hb⟩; (have hbz := HBC.out.trans (hb.mono HBC.out.size); have HXZ := Lib.hid (HX.out.keep (Tur.of_gr (F := fun _ => False) hb) (fun h => h)); clear HBC HX hb; have HBC := Lib.hid hbz; have HX := HXZ; clear hbz HXZ); clear x3; go_wp2_with fail; go_ret; exact ⟨by rw [HF.out]; rfl, HBC.out⟩)))
    · have b7 : (e.k == 7) = false := beq_eq_false_iff_ne.2 a_7; have b19 : (e.k == 19) = false := beq_eq_false_iff_ne.2 a_19; have b20 : (e.k == 20) = false := beq_eq_false_iff_ne.2 a_20; have b23 : (e.k == 23) = true := beq_iff_eq.2 a_23
      clear a_7 a_19 a_20 a_23 HKW
      (have HF : Hid (exprR alB e m = exprsR alB e.kids (m - 1)) := (by unfold Hid; rw [HR.out, HDB.out, hF]; rfl); go_wp2_with (with_reducible (refine (HIH.out (by omega) w3 HBC.out).mono ?_); rintro en w4 ⟨rfl, hb⟩; (have hbz := HBC.out.trans (hb.mono HBC.out.size); have HXZ := Lib.hid (HX.out.keep (Tur.of_gr (F := fun _ => False) hb) (fun h => h)); clear HBC HX hb; have HBC := Lib.hid hbz; have HX := HXZ; clear hbz HXZ); clear x0 x1 x2 x3); go_ret; exact ⟨by rw [HF.out]; rfl, HBC.out⟩)
    · have b7 : (e.k == 7) = false := beq_eq_false_iff_ne.2 a_7; have b19 : (e.k == 19) = false := beq_eq_false_iff_ne.2 a_19; have b20 : (e.k == 20) = false := beq_eq_false_iff_ne.2 a_20; have b23 : (e.k == 23) = false := beq_eq_false_iff_ne.2 a_23
      clear a_7 a_19 a_20 a_23 HKW
      (have HF : Hid (exprR alB e m = exprsR alB e.kids (m - 1)) := (by unfold Hid; rw [HR.out, HDB.out, hF]; rfl); go_wp2_with (with_reducible (refine (HIH.out (by omega) w3 HBC.out).mono ?_); rintro en w4 ⟨rfl, hb⟩; (have hbz := HBC.out.trans (hb.mono HBC.out.size); have HXZ := Lib.hid (HX.out.keep (Tur.of_gr (F := fun _ => False) hb) (fun h => h)); clear HBC HX hb; have HBC := Lib.hid hbz; have HX := HXZ; clear hbz HXZ); clear x0 x1 x2 x3); go_ret; exact ⟨by rw [HF.out]; rfl, HBC.out⟩)
end Go.Proofs.YtmapjahpjolmnaaGreatDoor
namespace Go.Proofs.YtmapjahpjolmnaaGreatDoor
open Go.RowKit Tr
set_option maxRecDepth 20000
theorem exprsR_take (al : XE → Bool) (m : Int) (l : List XE) (i : Nat) (h : i < l.length) : exprsR al (l.take (i + 1)) m = (exprsR al (l.take i) m && exprR al l[i] m) := by
  induction l generalizing i with
  | nil => simp at h
  | cons x l ih =>
    cases i with
    | zero => simp [exprsR_cons, exprsR_nil]
    | succ i =>
      rw [List.take_succ_cons, List.take_succ_cons, exprsR_cons, exprsR_cons, ih i (by simpa using h), Bool.and_assoc]
      rfl
theorem exprsR_false (al : XE → Bool) (m : Int) (l : List XE) (i : Nat) (h : i < l.length) (hf : exprR al l[i] m = false) : exprsR al l m = false := by
  induction l generalizing i with
  | nil => simp at h
  | cons x l ih =>
    rw [exprsR_cons]
    cases i with
    | zero =>
      have : exprR al x m = false := hf
      rw [this]; rfl
    | succ i => rw [ih i (by simpa using h) (by simpa using hf), Bool.and_false]
set_option maxHeartbeats 4000000 in
theorem r_exprs {w0 : World} {Bd : Nat} {l : List XE} {v : Value} (hB0 : Bd ≤ w0.heap.size) (h : EsAt w0 Bd l v) : ∀ (m : Int), 0 ≤ m → m ≤ 1000 → ∀ w, Below Bd w0 w →
    Calls Tryz.prog 49 #[v, .int .i64 m] w fun e w' => e = .returned (.bool (exprsR alB l m)) ∧ Below w.heap.size w w' := by
  induction h with
  | @mk l A cap kv hc hm hat hok hk ih =>
    intro m hm0 hm1 w hbl
    have HAT := Lib.hid hat
    have HIH := Lib.hid ih
    have HOK := Lib.hid hok
    have HK := Lib.hid hk
    have HBL := Lib.hid hbl
    have hcl : cap < 9223372036854775808 := by unfold maxLen at hm; omega
    clear hat ih hok hk hbl
    go_enter Tryz.func49, Tryz.ntmps49
    go_wp2_with fail
    go_loopw [5] (fun v wr => ∃ i : Nat, v = .int .i64 i ∧ i ≤ l.length ∧ exprsR alB (l.take i) m = true ∧ Below w.heap.size w wr) (fun v _ => l.length - (intOf v).toNat)
    case atStart => exact ⟨0, rfl, Nat.zero_le _, by rw [List.take_zero, exprsR_nil], Below.refl _ _⟩
    case round =>
      obtain ⟨i, rfl, hi, her, hbr⟩ := hrel
      have HER := Lib.hid her
      have HBR := Lib.hid hbr
      have hsz := HBL.out.size
      have HBW : Hid (Below Bd w0 wr) := HBL.out.trans (hbr.mono (by omega))
      clear her hbr
      by_cases hlt : i < l.length
      · obtain ⟨b, o, rfl, hbB, hcells⟩ := HAT.out (by omega)
        obtain ⟨y0, y1, y2, y3⟩ := (hcells i hlt).keep HBW.out hbB
        obtain ⟨A1, n1, e1, -, -⟩ := (HK.out i hlt).form
        have hkk := HK.out i hlt
        have hIH := HIH.out i hlt
        rw [e1] at y3 hkk hIH
        have hst := exprsR_take alB m l i hlt
        have HFL := Lib.hid (exprsR_false alB m l i hlt)
        have hB1 : Bd ≤ wr.heap.size := Nat.le_trans hB0 HBW.out.size
        have HCALL := Lib.hid (r_expr1 (w := wr) l[i] A1 n1 m ((hkk.keep HBW.out).mono hB1) (HOK.out i hlt) hm0 hm1 (fun h1 w' hb' => hIH (m - 1) (by omega) (by omega) w' (HBW.out.trans (hb'.mono hB1))))
        unfold evE at HCALL
        have HST := Lib.hid hst
        clear hcells hkk hIH e1 hst
        generalize l[i] = x at *
        go_wp2_with fail
        refine HCALL.out.mono ?_
        rintro en w2 ⟨rfl, hb2⟩
        have HB2 := Lib.hid (HBR.out.trans (hb2.mono HBR.out.size))
        clear hb2 y0 y1 y2 y3
        cases hx : exprR alB x m
        · have HF : Hid (exprsR alB l m = false) := HFL.out hx
          clear hx
          go_wp2_with fail
          go_ret
          exact ⟨by rw [HF.out]; rfl, HB2.out⟩
        · have HN : Hid (exprsR alB (l.take (i + 1)) m = true) := by unfold Hid; rw [HST.out, HER.out, hx]; rfl
          clear hx
          go_wp2_with fail
          go_roundw
          case rel => exact ⟨i + 1, by go_num, by omega, HN.out, HB2.out⟩
          case measure => simp [intOf]; omega
      · rw [List.take_of_length_le (by omega)] at HER
        go_wp2_with fail
        go_ret
        exact ⟨by rw [HER.out]; rfl, HBR.out⟩
end Go.Proofs.YtmapjahpjolmnaaGreatDoor
namespace Go.Proofs.YtmapjahpjolmnaaGreatDoor
open Go.RowKit Tr
set_option maxRecDepth 20000
section
variable (al : XE → Bool) (sh : XS → Bool)
theorem stmtsR_take {m : Int} (hm : 1 ≤ m) (l : List XS) (i : Nat) (h : i < l.length) : stmtsR al sh (l.take (i + 1)) m = (stmtsR al sh (l.take i) m && stmtR al sh l[i] m) := by
  induction l generalizing i with
  | nil => simp at h
  | cons x l ih =>
    cases i with
    | zero => simp only [List.take_succ_cons, List.take_zero, stmtsR_cons, stmtsR_nil, List.getElem_cons_zero]; rw [if_neg (by omega)]; simp
    | succ i =>
      rw [List.take_succ_cons, List.take_succ_cons, stmtsR_cons, stmtsR_cons, if_neg (by omega), if_neg (by omega), ih i (by simpa using h), Bool.and_assoc]
      rfl
theorem stmtsR_false {m : Int} (l : List XS) (i : Nat) (h : i < l.length) (hf : stmtR al sh l[i] m = false) : stmtsR al sh l m = false := by
  induction l generalizing i with
  | nil => simp at h
  | cons x l ih =>
    rw [stmtsR_cons]
    split
    · rfl
    · cases i with
      | zero =>
        have : stmtR al sh x m = false := hf
        rw [this]; rfl
      | succ i => rw [ih i (by simpa using h) (by simpa using hf), Bool.and_false]
end
set_option maxHeartbeats 4000000 in
theorem r_stmts {w0 : World} {Bd : Nat} {l : List XS} {v : Value} (hB0 : Bd ≤ w0.heap.size) (h : SsAt w0 Bd l v) : ∀ (m : Int), 0 ≤ m → m ≤ 1000 → ∀ w, Below Bd w0 w →
    Calls Tryz.prog 50 #[v, .int .i64 m] w fun e w' => e = .returned (.bool (stmtsR alB (shapeB nameB) l m)) ∧ Below w.heap.size w w' := by
  induction h with
  | @mk l A cap ev bv lvv hc hm hat hok hee hbb hll ih1 ih2 =>
    intro m hm0 hm1 w hbl
    have HAT := Lib.hid hat
    have HIH1 := Lib.hid ih1
    have HIH2 := Lib.hid ih2
    have HOK := Lib.hid hok
    have HEE := Lib.hid hee
    have HBV := Lib.hid hbb
    have HLV := Lib.hid hll
    have HBL := Lib.hid hbl
    have hcl : cap < 9223372036854775808 := by unfold maxLen at hm; omega
    clear hat ih1 ih2 hok hee hbb hll hbl
    go_enter Tryz.func50, Tryz.ntmps50
    rcases Nat.eq_zero_or_pos l.length with hz | hp
    · obtain rfl : l = [] := List.eq_nil_of_length_eq_zero hz
      have HR : Hid (stmtsR alB (shapeB nameB) [] m = true) := by unfold Hid; rw [stmtsR_nil]
      clear hz
      go_wp2_with fail
      go_loopw [5] (fun v wr => v = .int .i64 0 ∧ wr = w) (fun _ _ => 0)
      case atStart => exact ⟨rfl, rfl⟩
      case round =>
        obtain ⟨rfl, hwr⟩ := hrel
        have HWR := Lib.hid hwr
        clear hwr
        go_wp2_with fail
        go_ret
        exact ⟨by rw [HR.out]; rfl, by rw [HWR.out]; exact Below.refl _ _⟩
    by_cases hml : m < 1
    · have HR : Hid (stmtsR alB (shapeB nameB) l m = false) := by
        unfold Hid
        cases l with
        | nil => simp at hp
        | cons x r => rw [stmtsR_cons, if_pos hml]
      go_wp2_with fail
      go_ret
      exact ⟨by rw [HR.out]; rfl, Below.refl _ _⟩
    have hml2 : 1 ≤ m := by omega
    have HP := Lib.hid hp
    go_wp2_with fail
    go_loopw [5] (fun v wr => ∃ i : Nat, v = .int .i64 i ∧ i ≤ l.length ∧ stmtsR alB (shapeB nameB) (l.take i) m = true ∧ Below w.heap.size w wr) (fun v _ => l.length - (intOf v).toNat)
    case atStart => exact ⟨0, rfl, Nat.zero_le _, by rw [List.take_zero, stmtsR_nil], Below.refl _ _⟩
    case round =>
      obtain ⟨i, rfl, hi, her, hbr⟩ := hrel
      have HER := Lib.hid her
      have HBR := Lib.hid hbr
      have hsz := HBL.out.size
      have HBW : Hid (Below Bd w0 wr) := HBL.out.trans (hbr.mono (by omega))
      clear her hbr
      by_cases hlt : i < l.length
      · obtain ⟨b, o, rfl, hbB, hcells⟩ := HAT.out (by omega)
        have HCC := Lib.hid (hcells i hlt)
        have HBB := Lib.hid hbB
        obtain ⟨A1, n1, e1, -, -⟩ := (HEE.out i hlt).form
        obtain ⟨A2, n2, e2, -, -⟩ := (HBV.out i hlt).form
        obtain ⟨A3, n3, e3, -, -⟩ := (HLV.out i hlt).form
        have hke := HEE.out i hlt
        have hkb := HBV.out i hlt
        have hkl := HLV.out i hlt
        have hIHb := HIH1.out i hlt (m - 1) (by omega) (by omega)
        have hIHl := HIH2.out i hlt (m - 1) (by omega) (by omega)
        rw [e1] at HCC hke
        rw [e2] at HCC hkb hIHb
        rw [e3] at HCC hkl hIHl
        have hB1 : Bd ≤ wr.heap.size := Nat.le_trans hB0 HBW.out.size
        have HC1 := Lib.hid (r_shape (w := wr) l[i] ((hke.keep HBW.out).mono hB1) ((hkb.keep HBW.out).mono hB1) ((hkl.keep HBW.out).mono hB1) (HOK.out i hlt))
        unfold svS at HC1
        have HC2 := Lib.hid (fun w' hb' => r_exprs hB0 hke (m - 1) (by omega) (by omega) w' hb')
        have HIHB := Lib.hid hIHb
        have HIHL := Lib.hid hIHl
        have HST := Lib.hid (stmtsR_take alB (shapeB nameB) hml2 l i hlt)
        have HFL := Lib.hid (stmtsR_false alB (shapeB nameB) (m := m) l i hlt)
        have HEQ := Lib.hid (stmtR_eq alB (shapeB nameB) l[i] m)
        obtain ⟨y0, y1, y2, y3, y4, y5, y6⟩ := HCC.out.keep HBW.out HBB.out
        clear hcells hbB hke hkb hkl hIHb hIHl e1 e2 e3
        generalize l[i] = s at *
        cases hsh : shapeB nameB s
        · have HF : Hid (stmtsR alB (shapeB nameB) l m = false) := HFL.out (by rw [HEQ.out, hsh]; rfl)
          rw [hsh] at HC1
          clear hsh
          go_wp2_with fail
          refine HC1.out.mono ?_
          rintro en w2 ⟨rfl, hb2⟩
          have HB2 := Lib.hid (HBR.out.trans (hb2.mono HBR.out.size))
          clear hb2 y0 y1 y2 y3 y4 y5 y6
          go_wp2_with fail
          go_ret
          exact ⟨by rw [HF.out]; rfl, HB2.out⟩
        rw [hsh] at HC1 HEQ
        clear hsh
        go_wp2_with fail
        refine HC1.out.mono ?_
        rintro en w2 ⟨rfl, hb2⟩
        have HB2 := Lib.hid (HBR.out.trans (hb2.mono HBR.out.size))
        have HW2 : Hid (Below Bd w0 w2) := HBW.out.trans (hb2.mono hB1)
        clear hb2 y0 y1 y2 y3 y4 y5 y6
        obtain ⟨y0, y1, y2, y3, y4, y5, y6⟩ := HCC.out.keep HW2.out HBB.out
        go_wp2_with fail
        refine (HC2.out w2 HW2.out).mono ?_
        rintro en w3 ⟨rfl, hb3⟩
        have HB3 := Lib.hid (HB2.out.trans (hb3.mono HB2.out.size))
        have HW3 : Hid (Below Bd w0 w3) := HW2.out.trans (hb3.mono (Nat.le_trans hB0 HW2.out.size))
        clear hb3 y0 y1 y2 y3 y4 y5 y6
        obtain ⟨y0, y1, y2, y3, y4, y5, y6⟩ := HCC.out.keep HW3.out HBB.out
        cases hx : exprsR alB s.exprs (m - 1)
        · have HF : Hid (stmtsR alB (shapeB nameB) l m = false) := HFL.out (by rw [HEQ.out, hx]; rfl)
          clear hx
          go_wp2_with fail
          go_ret
          exact ⟨by rw [HF.out]; rfl, HB3.out⟩
        rw [hx] at HEQ
        clear hx
        go_wp2_with fail
        refine (HIHB.out w3 HW3.out).mono ?_
        rintro en w4 ⟨rfl, hb4⟩
        have HB4 := Lib.hid (HB3.out.trans (hb4.mono HB3.out.size))
        have HW4 : Hid (Below Bd w0 w4) := HW3.out.trans (hb4.mono (Nat.le_trans hB0 HW3.out.size))
        clear hb4 y0 y1 y2 y3 y4 y5 y6
        obtain ⟨y0, y1, y2, y3, y4, y5, y6⟩ := HCC.out.keep HW4.out HBB.out
        cases hx : stmtsR alB (shapeB nameB) s.body (m - 1)
        · have HF : Hid (stmtsR alB (shapeB nameB) l m = false) := HFL.out (by rw [HEQ.out, hx]; rfl)
          clear hx
          go_wp2_with fail
          go_ret
          exact ⟨by rw [HF.out]; rfl, HB4.out⟩
        rw [hx] at HEQ
        clear hx
        go_wp2_with fail
        refine (HIHL.out w4 HW4.out).mono ?_
        rintro en w5 ⟨rfl, hb5⟩
        have HB5 := Lib.hid (HB4.out.trans (hb5.mono HB4.out.size))
        clear hb5 y0 y1 y2 y3 y4 y5 y6
        cases hx : stmtsR alB (shapeB nameB) s.els (m - 1)
        · have HF : Hid (stmtsR alB (shapeB nameB) l m = false) := HFL.out (by rw [HEQ.out, hx]; rfl)
          clear hx
          go_wp2_with fail
          go_ret
          exact ⟨by rw [HF.out]; rfl, HB5.out⟩
        have HN : Hid (stmtsR alB (shapeB nameB) (l.take (i + 1)) m = true) := by unfold Hid; rw [HST.out, HER.out, HEQ.out, hx]; rfl
        clear hx
        go_wp2_with fail
        go_roundw
        case rel => exact ⟨i + 1, by go_num, by omega, HN.out, HB5.out⟩
        case measure => simp [intOf]; omega
      · rw [List.take_of_length_le (by omega)] at HER
        go_wp2_with fail
        go_ret
        exact ⟨by rw [HER.out]; rfl, HBR.out⟩
end Go.Proofs.YtmapjahpjolmnaaGreatDoor
