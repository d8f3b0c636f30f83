/- The document's item. -/
import Derived.Test.YtmapjahpjolmnaaGreatDoorG27
import Derived.Test.YtmapjahpjolmnaaGreatDoorG20
import Derived.Test.YtmapjahpjolmnaaGreatDoorG22
import Derived.Test.YtmapjahpjolmnaaGreatDoorG18
import Derived.Test.YtmapjahpjolmnaaGreatDoorG24
import Derived.Test.YtmapjahpjolmnaaGreatDoorG1
import Derived.Deep.RegionHeld3
set_option linter.unusedVariables false
set_option linter.unusedSimpArgs false
namespace Go.Proofs.YtmapjahpjolmnaaGreatDoor
open Go.RowKit Tr
set_option maxRecDepth 20000
theorem TsAt.cap {w : World} {Bd : Nat} {l : List ByteArray} {A : Option Addr} {c : Nat} (h : TsAt w Bd l (.slice A l.length c)) : l.length ≤ c ∧ c < 9223372036854775808 := by
  obtain ⟨_, _, hv, h1, h2, -⟩ := h.form
  injection hv with _ _ hcc
  unfold maxLen at h2
  omega
theorem TsAt.len {w : World} {Bd : Nat} {l : List ByteArray} {v : Value} (h : TsAt w Bd l v) : l.length ≤ 9223372036854775807 := by
  obtain ⟨A, c, rfl, h1, h2, -⟩ := h.form
  unfold maxLen at h2
  omega
theorem all_false {l : List ByteArray} {f : ByteArray → Bool} (i : Nat) (h : i < l.length) (hf : f l[i] = false) : l.all f = false := List.all_eq_false.2 ⟨l[i], List.getElem_mem _, by simp [hf]⟩
theorem all_take {l : List ByteArray} {f : ByteArray → Bool} (i : Nat) (h : i < l.length) (hf : f l[i] = true) (ht : (l.take i).all f = true) : (l.take (i + 1)).all f = true := by
  rw [List.take_succ_eq_append_getElem h, List.all_append, ht]
  simp [hf]
/-- An item, by value. -/
def ivI (x : XI) (p e b : Value) : Value := .agg #[.int .u8 x.k, .string x.name, p, e, .bool x.has, b, .int .i64 x.line]
set_option maxHeartbeats 4000000 in
theorem r_item {w : World} (x : XI) {A1 A2 A3 : Option Addr} {c1 c2 c3 : Nat} (ht : TsAt w w.heap.size x.params (.slice A1 x.params.length c1)) (he : EsAt w w.heap.size x.exprs (.slice A2 x.exprs.length c2)) (hb : SsAt w w.heap.size x.body (.slice A3 x.body.length c3)) (hok : x.Ok) :
    Calls Tryz.prog 34 #[ivI x (.slice A1 x.params.length c1) (.slice A2 x.exprs.length c2) (.slice A3 x.body.length c3)] w fun en w' => en = .returned (.bool (itemB nameB x && insideB nameB alB x)) ∧ Below w.heap.size w w' := by
  have hcb := hb.cap
  have hce := he.cap
  have hct := ht.cap
  have HWZ := Lib.hid (wrap2_zero ht.len he.len)
  have HTP := Lib.hid ht
  have HOK := Lib.hid hok
  have HRE := Lib.hid (fun w' hb' => r_exprs (Nat.le_refl _) he 60 (by decide) (by decide) w' hb')
  have HRS := Lib.hid (fun w' hb' => r_stmts (Nat.le_refl _) hb 60 (by decide) (by decide) w' hb')
  have hb0 := (Below.refl w.heap.size w).alloc (Nat.le_refl _) (.cells #[.int .u8 x.k, .string x.name, .slice A1 x.params.length c1, .slice A2 x.exprs.length c2, .bool x.has, .slice A3 x.body.length c3, .int .i64 x.line] 45)
  have hx0 := Blk.new w 45 #[.int .u8 x.k, .string x.name, .slice A1 x.params.length c1, .slice A2 x.exprs.length c2, .bool x.has, .slice A3 x.body.length c3, .int .i64 x.line]
  clear ht he hb hok
  have HIN : Hid (insideB nameB alB x = (exprsR alB x.exprs 60 && stmtsR alB (shapeB nameB) x.body 60)) := rfl
  have HTX := Lib.hid (item_is nameB x)
  unfold ivI
  go_enter Tryz.func34, Tryz.ntmps34
  go_upto_region 1 with (fail)
  generalize w.alloc (.cells #[.int .u8 x.k, .string x.name, .slice A1 x.params.length c1, .slice A2 x.exprs.length c2, .bool x.has, .slice A3 x.body.length c3, .int .i64 x.line] 45) = w1 at *
  have HBC := Lib.hid hb0
  have HX := Lib.hid hx0
  clear hb0 hx0
  obtain ⟨X, hX⟩ : ∃ X, X = w.heap.size := ⟨_, rfl⟩
  rw [← hX] at HX ⊢
  have HXW := Lib.hid hX
  clear hX
  have x3 : w1.cell? ⟨X, 3, none⟩ = some (.slice A2 x.exprs.length c2) := HX.out.cell 3
  cases hbe : exprsR alB x.exprs 60
  · have HF : Hid ((itemB nameB x && insideB nameB alB x) = false) := by unfold Hid; rw [HIN.out, hbe, Bool.false_and, Bool.and_false]
    rw [hbe] at HRE
    go_wp2_with (with_reducible (refine (HRE.out w1 HBC.out).mono ?_); rintro en w4 ⟨rfl, hb⟩; (have hbz := HBC.out.trans (hb.mono HBC.out.size); have HXZ := Lib.hid (HX.out.keep (Tur.of_gr (F := fun _ => False) hb) (fun h => h)); clear HBC HX hb; have HBC := Lib.hid hbz; have HX := HXZ; clear hbz HXZ); clear x3)
    go_ret
    exact ⟨by rw [HF.out]; rfl, HBC.out⟩
  rw [hbe] at HRE HIN
  clear hbe
  cases hbs : stmtsR alB (shapeB nameB) x.body 60
  · have HF : Hid ((itemB nameB x && insideB nameB alB x) = false) := by unfold Hid; rw [HIN.out, hbs, Bool.and_false, Bool.and_false]
    rw [hbs] at HRS
    go_wp2_with fail
    refine (HRE.out w1 HBC.out).mono ?_
    rintro en w4 ⟨rfl, hb⟩
    (have hbz := HBC.out.trans (hb.mono HBC.out.size); have HXZ := Lib.hid (HX.out.keep (Tur.of_gr (F := fun _ => False) hb) (fun h => h)); clear HBC HX hb; have HBC := Lib.hid hbz; have HX := HXZ; clear hbz HXZ)
    clear x3
    have x5 : w4.cell? ⟨X, 5, none⟩ = some (.slice A3 x.body.length c3) := HX.out.cell 5
    go_wp2_with fail
    refine (HRS.out w4 HBC.out).mono ?_
    rintro en w5 ⟨rfl, hb⟩
    (have hbz := HBC.out.trans (hb.mono HBC.out.size); have HXZ := Lib.hid (HX.out.keep (Tur.of_gr (F := fun _ => False) hb) (fun h => h)); clear HBC HX hb; have HBC := Lib.hid hbz; have HX := HXZ; clear hbz HXZ)
    clear x5
    go_wp2_with fail
    go_ret
    exact ⟨by rw [HF.out]; rfl, HBC.out⟩
  rw [hbs] at HRS HIN
  clear hbs
  have hin : insideB nameB alB x = true := by rw [HIN.out]; rfl
  have HQ : Hid ((itemB nameB x && insideB nameB alB x) = itemB nameB x) := by unfold Hid; rw [hin, Bool.and_true]
  clear hin HIN
  go_wp2_with fail
  refine (HRE.out w1 HBC.out).mono ?_
  rintro en w4 ⟨rfl, hb⟩
  (have hbz := HBC.out.trans (hb.mono HBC.out.size); have HXZ := Lib.hid (HX.out.keep (Tur.of_gr (F := fun _ => False) hb) (fun h => h)); clear HBC HX hb; have HBC := Lib.hid hbz; have HX := HXZ; clear hbz HXZ)
  clear x3 HRE
  have x5 : w4.cell? ⟨X, 5, none⟩ = some (.slice A3 x.body.length c3) := HX.out.cell 5
  go_upto_region 3 with (with_reducible (refine (HRS.out w4 HBC.out).mono ?_); rintro en w5 ⟨rfl, hb⟩; (have hbz := HBC.out.trans (hb.mono HBC.out.size); have HXZ := Lib.hid (HX.out.keep (Tur.of_gr (F := fun _ => False) hb) (fun h => h)); clear HBC HX hb; have HBC := Lib.hid hbz; have HX := HXZ; clear hbz HXZ); clear x5 HRS)
  have x0 : w5.cell? ⟨X, 0, none⟩ = some (.int .u8 x.k) := HX.out.cell 0
  have x1 : w5.cell? ⟨X, 1, none⟩ = some (.string x.name) := HX.out.cell 1
  have x2 : w5.cell? ⟨X, 2, none⟩ = some (.slice A1 x.params.length c1) := HX.out.cell 2
  have x3 : w5.cell? ⟨X, 3, none⟩ = some (.slice A2 x.exprs.length c2) := HX.out.cell 3
  have x4 : w5.cell? ⟨X, 4, none⟩ = some (.bool x.has) := HX.out.cell 4
  have x5 : w5.cell? ⟨X, 5, none⟩ = some (.slice A3 x.body.length c3) := HX.out.cell 5
  obtain ⟨z, hz⟩ : ∃ z, z = decide (x.name.size = 0) := ⟨_, rfl⟩
  have HZZ : Hid (x.name.toList = [] ↔ z = true) := by unfold Hid; rw [hz, ← sEmpty, List.isEmpty_iff]
  rw [← hz] at HTX
  clear hz
  obtain ⟨m2, hm2⟩ : ∃ y, x.exprs.length = y := ⟨_, rfl⟩
  obtain ⟨m3, hm3⟩ : ∃ y, x.body.length = y := ⟨_, rfl⟩
  rw [hm2] at x3 HTX hce HWZ
  rw [hm3] at x5 HTX hcb
  have HM2 := Lib.hid hm2
  have HM3 := Lib.hid hm3
  clear hm2 hm3
  obtain ⟨hs, hhs⟩ : ∃ y, x.has = y := ⟨_, rfl⟩
  rw [hhs] at x4 HTX
  have HHS := Lib.hid hhs
  clear hhs
  by_cases hk1 : x.k = 1
  · obtain ⟨m1, hm1⟩ : ∃ y, x.params.length = y := ⟨_, rfl⟩
    rw [hm1] at x2 HTX hct HWZ
    clear hm1 HTP
    have HIT : Hid (itemB nameB x = ((z && decide (m1 = 0)) && (decide (m2 = 0) && !hs))) := by
      unfold Hid
      rw [HTX.out, hk1]
      rfl
    rw [hk1] at x0
    clear hk1 HTX
    have HSZ := HWZ.out
    clear HWZ
    by_cases hmz : m1 + m2 = 0
    · obtain rfl : m1 = 0 := by omega
      obtain rfl : m2 = 0 := by omega
      clear HSZ
      as_aux_lemma =>
        go_wp2_with fail
        all_goals (go_ret; refine ⟨congrArg (fun b => Ending.returned (.bool b)) ?_, HBC.out⟩; refine Eq.trans ?_ (HQ.out.trans HIT.out).symm; have hzz := HZZ.out; clear HQ HZZ HIT HBC HX HOK x0 x1 x2 x3 x4 x5 hce hcb hct; simp_all <;> first | omega | (rw [Bool.eq_iff_iff]; simp only [Bool.and_eq_true, Bool.or_eq_true, Bool.not_eq_true', beq_iff_eq, decide_eq_true_eq] <;> omega))
    · rw [decide_eq_false hmz] at HSZ
      as_aux_lemma =>
        go_wp2_with fail
        all_goals (go_ret; refine ⟨congrArg (fun b => Ending.returned (.bool b)) ?_, HBC.out⟩; refine Eq.trans ?_ (HQ.out.trans HIT.out).symm; have hzz := HZZ.out; clear HQ HZZ HIT HBC HX HOK x0 x1 x2 x3 x4 x5 hce hcb hct; simp_all <;> first | omega | (rw [Bool.eq_iff_iff]; simp only [Bool.and_eq_true, Bool.or_eq_true, Bool.not_eq_true', beq_iff_eq, decide_eq_true_eq] <;> omega))
  by_cases hk2 : x.k = 2
  · obtain ⟨m1, hm1⟩ : ∃ y, x.params.length = y := ⟨_, rfl⟩
    rw [hm1] at x2 HTX hct HWZ
    clear hm1 HTP
    have HIT : Hid (itemB nameB x = ((z && decide (m1 = 0)) && (decide (m2 = 0) && !hs))) := by
      unfold Hid
      rw [HTX.out, hk2]
      rfl
    rw [hk2] at x0
    clear hk2 HTX
    have HSZ := HWZ.out
    clear HWZ
    by_cases hmz : m1 + m2 = 0
    · obtain rfl : m1 = 0 := by omega
      obtain rfl : m2 = 0 := by omega
      clear HSZ
      as_aux_lemma =>
        go_wp2_with fail
        all_goals (go_ret; refine ⟨congrArg (fun b => Ending.returned (.bool b)) ?_, HBC.out⟩; refine Eq.trans ?_ (HQ.out.trans HIT.out).symm; have hzz := HZZ.out; clear HQ HZZ HIT HBC HX HOK x0 x1 x2 x3 x4 x5 hce hcb hct; simp_all <;> first | omega | (rw [Bool.eq_iff_iff]; simp only [Bool.and_eq_true, Bool.or_eq_true, Bool.not_eq_true', beq_iff_eq, decide_eq_true_eq] <;> omega))
    · rw [decide_eq_false hmz] at HSZ
      as_aux_lemma =>
        go_wp2_with fail
        all_goals (go_ret; refine ⟨congrArg (fun b => Ending.returned (.bool b)) ?_, HBC.out⟩; refine Eq.trans ?_ (HQ.out.trans HIT.out).symm; have hzz := HZZ.out; clear HQ HZZ HIT HBC HX HOK x0 x1 x2 x3 x4 x5 hce hcb hct; simp_all <;> first | omega | (rw [Bool.eq_iff_iff]; simp only [Bool.and_eq_true, Bool.or_eq_true, Bool.not_eq_true', beq_iff_eq, decide_eq_true_eq] <;> omega))
  by_cases hk3 : x.k = 3
  · obtain ⟨m1, hm1⟩ : ∃ y, x.params.length = y := ⟨_, rfl⟩
    rw [hm1] at x2 HTX hct HWZ
    clear hm1 HTP
    have HIT : Hid (itemB nameB x = ((z && decide (m1 = 0)) && (decide (m2 ≤ 2) && (hs || decide (0 < m2 ∧ m3 = 0))))) := by
      unfold Hid
      rw [HTX.out, hk3]
      rfl
    rw [hk3] at x0
    clear hk3 HTX
    as_aux_lemma =>
      go_wp2_with fail
      all_goals (go_ret; refine ⟨congrArg (fun b => Ending.returned (.bool b)) ?_, HBC.out⟩; refine Eq.trans ?_ (HQ.out.trans HIT.out).symm; have hzz := HZZ.out; clear HQ HZZ HIT HBC HWZ HX HOK x0 x1 x2 x3 x4 x5 hce hcb hct; simp_all <;> first | omega | (rw [Bool.eq_iff_iff]; simp only [Bool.and_eq_true, Bool.or_eq_true, Bool.not_eq_true', beq_iff_eq, decide_eq_true_eq] <;> omega))
  by_cases hk4 : x.k = 4
  · have HIT : Hid (itemB nameB x = (nameB x.name && (decide (x.params.length ≤ 20) && (x.params.all nameB && (decide (m2 = 0) && !hs))))) := by
      unfold Hid
      rw [HTX.out, hk4]
      rfl
    rw [hk4] at x0
    clear hk4 HTX HWZ
    as_aux_lemma =>
      go_wp2_with fail
      clear x0 x1 x2 x3 x4 x5
      go_loopw [3] (fun v wr => ∃ i : Nat, v = .int .i64 i ∧ i ≤ x.params.length ∧ (x.params.take i).all nameB = true ∧ Below w.heap.size w wr ∧ Blk wr X 45 #[.int .u8 x.k, .string x.name, .slice A1 x.params.length c1, .slice A2 x.exprs.length c2, .bool x.has, .slice A3 x.body.length c3, .int .i64 x.line]) (fun v _ => x.params.length - (intOf v).toNat)
      case atStart => exact ⟨0, rfl, Nat.zero_le _, rfl, HBC.out, HX.out⟩
      case round =>
        obtain ⟨i, rfl, hi, hal, hbr, hxr⟩ := hrel
        clear HBC HX
        have HAL := Lib.hid hal
        have HBC := Lib.hid hbr
        have HX := Lib.hid hxr
        clear hal hbr hxr
        have x2 : wr.cell? ⟨X, 2, none⟩ = some (.slice A1 x.params.length c1) := HX.out.cell 2
        by_cases hlt : i < x.params.length
        · obtain ⟨_, _, hv, -, -, hat⟩ := HTP.out.form
          obtain ⟨b, o, hA, hbB, hcells⟩ := hat (by omega)
          have hA2 : A1 = some ⟨b, o, none⟩ := by
            injection hv with h1
            rw [h1]; exact hA
          subst hA2
          have hy : wr.cell? ⟨b, o + i, none⟩ = some (.string x.params[i]) := (cell_keep HBC.out hbB).trans (hcells i hlt)
          clear hv hA hcells hat
          have HNM := Lib.hid (r_Name x.params[i] wr (HOK.out.2.2.2 _ (List.getElem_mem _)))
          have HAF := Lib.hid (all_false (f := nameB) i hlt)
          have HAT := Lib.hid (fun hf => all_take (f := nameB) i hlt hf HAL.out)
          generalize x.params[i] = p at *
          cases hp : nameB p
          · have HF : Hid (itemB nameB x = false) := by unfold Hid; rw [HIT.out, HAF.out hp, Bool.false_and, Bool.and_false, Bool.and_false]
            rw [hp] at HNM
            clear hp
            go_wp2_with fail
            refine HNM.out.mono ?_
            rintro en w6 ⟨rfl, hb⟩
            (have hbz := HBC.out.trans (hb.mono HBC.out.size); have HXZ := Lib.hid (HX.out.keep (Tur.of_gr (F := fun _ => False) hb) (fun h => h)); clear HBC HX hb; have HBC := Lib.hid hbz; have HX := HXZ; clear hbz HXZ)
            clear x2 hy
            go_wp2_with fail
            go_ret
            exact ⟨by rw [HQ.out, HF.out]; rfl, HBC.out⟩
          have HAN := Lib.hid (HAT.out hp)
          rw [hp] at HNM
          clear hp HAT HAF
          go_wp2_with fail
          refine HNM.out.mono ?_
          rintro en w6 ⟨rfl, hb⟩
          (have hbz := HBC.out.trans (hb.mono HBC.out.size); have HXZ := Lib.hid (HX.out.keep (Tur.of_gr (F := fun _ => False) hb) (fun h => h)); clear HBC HX hb; have HBC := Lib.hid hbz; have HX := HXZ; clear hbz HXZ)
          clear x2 hy
          go_wp2_with fail
          go_roundw
          case rel => exact ⟨i + 1, by go_num, by omega, HAN.out, HBC.out, HX.out⟩
          case measure => simp [intOf]; omega
        have hal : x.params.all nameB = true := by have := HAL.out; rw [List.take_of_length_le (by omega)] at this; exact this
        rw [hal, Bool.true_and] at HIT
        clear hal HAL HTP
        have HNM := Lib.hid (r_Name x.name wr HOK.out.2.1)
        have x1 : wr.cell? ⟨X, 1, none⟩ = some (.string x.name) := HX.out.cell 1
        cases hp : nameB x.name
        · rw [hp] at HNM HIT
          clear hp
          go_wp2_with fail
          refine HNM.out.mono ?_
          rintro en w6 ⟨rfl, hb⟩
          (have hbz := HBC.out.trans (hb.mono HBC.out.size); have HXZ := Lib.hid (HX.out.keep (Tur.of_gr (F := fun _ => False) hb) (fun h => h)); clear HBC HX hb; have HBC := Lib.hid hbz; have HX := HXZ; clear hbz HXZ)
          clear x1 x2
          go_wp2_with fail
          go_ret
          exact ⟨by rw [HQ.out, HIT.out]; rfl, HBC.out⟩
        rw [hp, Bool.true_and] at HIT
        rw [hp] at HNM
        clear hp
        obtain ⟨m1, hm1⟩ : ∃ y, x.params.length = y := ⟨_, rfl⟩
        rw [hm1] at x2 HIT hct
        go_wp2_with fail
        refine HNM.out.mono ?_
        rintro en w6 ⟨rfl, hb⟩
        (have hbz := HBC.out.trans (hb.mono HBC.out.size); have HXZ := Lib.hid (HX.out.keep (Tur.of_gr (F := fun _ => False) hb) (fun h => h)); clear HBC HX hb; have HBC := Lib.hid hbz; have HX := HXZ; clear hbz HXZ)
        clear x1 x2 HNM
        have x2 : w6.cell? ⟨X, 2, none⟩ = some (.slice A1 m1 c1) := by have h := HX.out.cell 2; rw [hm1] at h; exact h
        have x3 : w6.cell? ⟨X, 3, none⟩ = some (.slice A2 m2 c2) := by have h := HX.out.cell 3; rw [HM2.out] at h; exact h
        have x4 : w6.cell? ⟨X, 4, none⟩ = some (.bool hs) := by have h := HX.out.cell 4; rw [HHS.out] at h; exact h
        clear hm1 hlt hi
        go_wp2_with fail
        all_goals
          go_ret
          refine ⟨congrArg (fun b => Ending.returned (.bool b)) ?_, HBC.out⟩
          refine Eq.trans ?_ (HQ.out.trans HIT.out).symm
          clear HQ HIT HBC HX HOK x2 x3 x4 hce hcb hct HZZ HM2 HHS HM3
          simp_all <;> first | omega | (rw [Bool.eq_iff_iff]; simp only [Bool.and_eq_true, Bool.or_eq_true, Bool.not_eq_true', beq_iff_eq, decide_eq_true_eq] <;> omega)
  have HIT : Hid (itemB nameB x = false) := by
    unfold Hid
    rw [HTX.out]
    unfold itemF
    simp only [hk1, hk2, hk3, hk4, if_false, or_false]
  obtain ⟨m1, hm1⟩ : ∃ y, x.params.length = y := ⟨_, rfl⟩
  rw [hm1] at x2 HTX hct HWZ
  clear hm1 HTP HTX
  go_wp2_with fail
  go_ret
  exact ⟨by rw [HQ.out, HIT.out]; rfl, HBC.out⟩
end Go.Proofs.YtmapjahpjolmnaaGreatDoor
namespace Go.Proofs.YtmapjahpjolmnaaGreatDoor
open Go.RowKit Tr
set_option maxRecDepth 20000
theorem sizeI_take (l : List XI) (i : Nat) (h : i < l.length) : (l.take (i + 1)).foldl sizeI (0, 0) = (((l.take i).foldl sizeI (0, 0)).1 + (sizeEs l[i].exprs 61).1 + (sizeSs l[i].body 61).1, max (max ((l.take i).foldl sizeI (0, 0)).2 (sizeEs l[i].exprs 61).2) (sizeSs l[i].body 61).2) := by
  rw [List.take_succ_eq_append_getElem h, List.foldl_append, List.foldl_cons, List.foldl_nil]
  rfl
theorem foldI_le1 : ∀ (l : List XI) (a : Int × Int), (l.foldl sizeI a).1 ≤ a.1 + numP l
  | [], a => by simp [numP]
  | x :: l, a => by
    have h := foldI_le1 l (sizeI a x)
    have h1 := sizeEs_leK x.exprs 61
    have h2 := sizeSs_leK x.body 61
    have h3 : (sizeI a x).1 = a.1 + (sizeEs x.exprs 61).1 + (sizeSs x.body 61).1 := rfl
    rw [List.foldl_cons]
    simp only [numP, List.map_cons, List.sum_cons, numI] at h ⊢
    omega
theorem foldI_take_le (l : List XI) (i : Nat) : ((l.take i).foldl sizeI (0, 0)).1 ≤ numP l := by
  have h1 := foldI_le1 (l.take i) (0, 0)
  have h2 := numP_take l i
  simp only at h1
  omega
theorem foldI_nn : ∀ (l : List XI) (a : Int × Int), 0 ≤ a.2 → a.2 ≤ 61 → 0 ≤ (l.foldl sizeI a).2 ∧ (l.foldl sizeI a).2 ≤ 61
  | [], a, h, h2 => ⟨h, h2⟩
  | x :: l, a, h, h2 => by
    have k1 := sizeEs_top x.exprs 61 (by decide)
    have k2 := sizeSs_top x.body 61 (by decide)
    rw [List.foldl_cons]
    exact foldI_nn l _ (by unfold sizeI; simp only; omega) (by unfold sizeI; simp only; omega)
theorem numI_at {l : List XI} {i : Nat} (h : i < l.length) : numI l[i] ≤ numP l := numI_le (List.getElem_mem h)
set_option maxHeartbeats 4000000 in
theorem r_Size {w : World} {l : List XI} {v : Value} (h : IsAt w w.heap.size l v) (hz : numP l ≤ 1500000) :
    Calls Tryz.prog 9 #[.agg #[v]] w fun e w' => e = .returned (.tuple #[.int .i64 (sizeP l).1, .int .i64 (sizeP l).2]) ∧ Below w.heap.size w w' := by
  obtain ⟨A, cap, pv, ev, bv, rfl, hc, hm, hat, hin⟩ := h.form
  have HAT := Lib.hid hat
  have HIN := Lib.hid hin
  have hcl : cap < 9223372036854775808 := by unfold maxLen at hm; omega
  have HB1 := Lib.hid ((Below.refl w.heap.size w).alloc (Nat.le_refl _) (.cells #[.slice A l.length cap] 24))
  have HP1 := Lib.hid (Blk.new w 24 #[.slice A l.length cap])
  have HZ := Lib.hid hz
  clear h hat hin hz
  go_enter Tryz.func9, Tryz.ntmps9
  go_upto_region 2 with (fail)
  generalize w.alloc (.cells #[.slice A l.length cap] 24) = w1 at *
  have x0 : w1.cell? ⟨w.heap.size, 0, none⟩ = some (.slice A l.length cap) := HP1.out.cell 0
  go_wp2_with fail
  clear x0
  go_loopw [4, 5, 6] (fun v4 v5 v6 wr => ∃ i : Nat, v6 = .int .i64 i ∧ i ≤ l.length ∧ v4 = .int .i64 ((l.take i).foldl sizeI (0, 0)).1 ∧ v5 = .int .i64 ((l.take i).foldl sizeI (0, 0)).2 ∧ wr = w1) (fun _ _ v6 _ => l.length - (intOf v6).toNat)
  case atStart => exact ⟨0, rfl, Nat.zero_le _, by simp, by simp, rfl⟩
  case round =>
    obtain ⟨i, rfl, hi, rfl, rfl, hwr⟩ := hrel
    have HWR := Lib.hid hwr
    have hle := foldI_take_le l i
    have hnn := foldI_nn (l.take i) (0, 0) (Int.le_refl _) (by decide)
    have hn1 := sizeI_n1 (l.take i) (0, 0)
    have hz := HZ.out
    have x0 : wr.cell? ⟨w.heap.size, 0, none⟩ = some (.slice A l.length cap) := by rw [hwr]; exact HP1.out.cell 0
    clear hwr
    by_cases hlt : i < l.length
    · obtain ⟨b, o, rfl, hbB, hcells⟩ := HAT.out (by omega)
      obtain ⟨y0, y1, y2, y3, y4, y5, y6⟩ := (hcells i hlt).keep (show Below w.heap.size w wr by rw [HWR.out]; exact HB1.out) hbB
      obtain ⟨-, -, hep, hbp⟩ := HIN.out i hlt
      have hni := numI_at hlt
      unfold numI at hni
      have HC1 := Lib.hid (r_sizeE (hep.keep (show Below w.heap.size w wr by rw [HWR.out]; exact HB1.out)) 61 (by decide) (by decide) (by omega))
      have HC2 := Lib.hid (r_sizeS (hbp.keep (show Below w.heap.size w wr by rw [HWR.out]; exact HB1.out)) 61 (by decide) (by decide) (by omega))
      have hst := sizeI_take l i hlt
      have hle2 := foldI_take_le l (i + 1)
      have k1 := sizeEs_n1 l[i].exprs 61
      have k2 := sizeSs_n1 l[i].body 61
      have k4 := sizeEs_nn l[i].exprs 61
      have k5 := sizeSs_nn l[i].body 61
      have k7 := sizeEs_top l[i].exprs 61 (by decide)
      have k8 := sizeSs_top l[i].body 61 (by decide)
      clear hcells hbB hep hbp hni
      rw [hst] at hle2
      have HST := Lib.hid hst
      clear hst
      generalize (l.take i).foldl sizeI (0, 0) = c at *
      generalize sizeEs l[i].exprs 61 = q at *
      generalize sizeSs l[i].body 61 = r at *
      obtain ⟨c1, c2⟩ := c
      obtain ⟨q1, q2⟩ := q
      obtain ⟨r1, r2⟩ := r
      dsimp only at *
      go_wp2_with fail
      refine HC1.out.mono ?_
      rintro en w2 ⟨rfl, rfl⟩
      go_wp2_with fail
      all_goals
        refine HC2.out.mono ?_
        rintro en w3 ⟨rfl, rfl⟩
        go_wp2_with fail
        all_goals
          go_roundw
          case rel => exact ⟨i + 1, by go_num, by omega, by rw [HST.out], by rw [HST.out]; first | rfl | (simp only [Value.int.injEq, true_and]; omega), HWR.out⟩
          case measure => simp [intOf]; omega
    · rw [List.take_of_length_le (by omega)] at hle hnn hn1
      rw [List.take_of_length_le (by omega)]
      have HR : Hid (l.foldl sizeI (0, 0) = sizeP l) := rfl
      rw [HR.out] at hle hnn hn1 ⊢
      obtain ⟨⟨c1, c2⟩, hcc⟩ : ∃ c, sizeP l = c := ⟨_, rfl⟩
      have HCC := Lib.hid hcc
      rw [hcc] at hle hnn hn1 ⊢
      clear hcc HR
      dsimp only at hle hnn hn1 ⊢
      go_wp2_with fail
      go_ret2
      rw [HCC.out]
      exact ⟨rfl, by rw [HWR.out]; exact HB1.out⟩
end Go.Proofs.YtmapjahpjolmnaaGreatDoor
namespace Go.Proofs.YtmapjahpjolmnaaGreatDoor
open Go.RowKit Tr
set_option maxRecDepth 20000
theorem r_Expr {w : World} (e : XE) (A : Option Addr) (c : Nat) (h : EsAt w w.heap.size e.kids (.slice A e.kids.length c)) (hok : e.Ok) :
    Calls Tryz.prog 13 #[evE e A c] w fun en w' => en = .returned (.bool (exprR alB e 60)) ∧ Below w.heap.size w w' := by
  have hb0 := (Below.refl w.heap.size w).alloc (Nat.le_refl _) (.cells #[.int .u8 e.k, .string e.s, .int .u64 e.n, .slice A e.kids.length c] 29)
  have hx0 := Blk.new w 29 #[.int .u8 e.k, .string e.s, .int .u64 e.n, .slice A e.kids.length c]
  have HE := Lib.hid h
  have HOK := Lib.hid hok
  clear h hok
  unfold evE
  go_enter Tryz.func13, Tryz.ntmps13
  go_upto_region 1 with (fail)
  generalize w.alloc (.cells #[.int .u8 e.k, .string e.s, .int .u64 e.n, .slice A e.kids.length c] 29) = w1 at *
  have hk := (HE.out.keep hb0).mono hb0.size
  have HC := Lib.hid (r_expr1 (w := w1) e A c 60 hk HOK.out (by decide) (by decide) (fun h1 w' hb' => r_exprs (Nat.le_refl _) hk (60 - 1) (by decide) (by decide) w' hb'))
  unfold evE at HC
  have x0 : w1.cell? ⟨w.heap.size, 0, none⟩ = some (.int .u8 e.k) := hx0.cell 0
  have x1 : w1.cell? ⟨w.heap.size, 1, none⟩ = some (.string e.s) := hx0.cell 1
  have x2 : w1.cell? ⟨w.heap.size, 2, none⟩ = some (.int .u64 e.n) := hx0.cell 2
  have x3 : w1.cell? ⟨w.heap.size, 3, none⟩ = some (.slice A e.kids.length c) := hx0.cell 3
  have HB0 := Lib.hid hb0
  clear hb0 hx0 hk
  go_wp2_with fail
  refine HC.out.mono ?_
  rintro en w2 ⟨rfl, hb2⟩
  have HB := Lib.hid (HB0.out.trans (hb2.mono HB0.out.size))
  clear hb2 x0 x1 x2 x3
  go_wp2_with fail
  go_ret
  exact ⟨rfl, HB.out⟩
set_option maxHeartbeats 4000000 in
theorem r_Right {w : World} {l : List XI} {v : Value} (h : IsAt w w.heap.size l v) (hz : numP l ≤ 1500000) :
    Calls Tryz.prog 11 #[.agg #[v]] w fun e w' => e = .returned (.bool (rightB nameB alB l)) ∧ Below w.heap.size w w' := by
  obtain ⟨A, cap, pv, ev, bv, hv, hc, hm, hat, hin⟩ := h.form
  have HIS := Lib.hid h
  have HAT := Lib.hid hat
  have HIN := Lib.hid hin
  have hcl : cap < 9223372036854775808 := by unfold maxLen at hm; omega
  have hb0 := (Below.refl w.heap.size w).alloc (Nat.le_refl _) (.cells #[.slice A l.length cap] 24)
  have hx0 := Blk.new w 24 #[.slice A l.length cap]
  have HZ := Lib.hid hz
  subst hv
  clear h hat hin hz
  have HRB : Hid (rightB nameB alB l = (decide ((sizeP l).1 ≤ 4000 ∧ (sizeP l).2 ≤ 60) && l.all (fun x => itemB nameB x && insideB nameB alB x))) := rfl
  go_enter Tryz.func11, Tryz.ntmps11
  go_upto_region 1 with (fail)
  generalize w.alloc (.cells #[.slice A l.length cap] 24) = w1 at *
  have HBC := Lib.hid hb0
  have HX := Lib.hid hx0
  clear hb0 hx0
  obtain ⟨X, hX⟩ : ∃ X, X = w.heap.size := ⟨_, rfl⟩
  rw [← hX] at HX ⊢
  have HXW := Lib.hid hX
  clear hX
  have x0 : w1.cell? ⟨X, 0, none⟩ = some (.slice A l.length cap) := HX.out.cell 0
  have HS := Lib.hid (r_Size (w := w1) ((HIS.out.keep HBC.out).mono HBC.out.size) HZ.out)
  go_upto_region 2 with (with_reducible (refine HS.out.mono ?_); rintro en w2 ⟨rfl, hb⟩; have hbz := HBC.out.trans (hb.mono HBC.out.size); have HXZ := Lib.hid (HX.out.keep (Tur.of_gr (F := fun _ => False) hb) (fun h => h)); clear HBC HX hb HS x0; have HBC := Lib.hid hbz; have HX := HXZ; clear hbz HXZ)
  obtain ⟨⟨c1, c2⟩, hcc⟩ : ∃ c, sizeP l = c := ⟨_, rfl⟩
  rw [hcc] at HRB ⊢
  clear hcc
  dsimp only at HRB ⊢
  by_cases h1 : 4000 < c1
  · have HF : Hid (rightB nameB alB l = false) := by unfold Hid; rw [HRB.out, decide_eq_false (by omega)]; rfl
    go_wp2_with fail
    go_ret
    exact ⟨by rw [HF.out]; rfl, HBC.out⟩
  by_cases h2 : 60 < c2
  · have HF : Hid (rightB nameB alB l = false) := by unfold Hid; rw [HRB.out, decide_eq_false (by omega)]; rfl
    go_wp2_with fail
    go_ret
    exact ⟨by rw [HF.out]; rfl, HBC.out⟩
  have HR : Hid (rightB nameB alB l = l.all (fun x => itemB nameB x && insideB nameB alB x)) := by unfold Hid; rw [HRB.out, decide_eq_true (by omega)]; rfl
  clear HRB
  go_wp2_with fail
  clear h1 h2
  go_loopw [5] (fun v wr => ∃ i : Nat, v = .int .i64 i ∧ i ≤ l.length ∧ (l.take i).all (fun x => itemB nameB x && insideB nameB alB x) = true ∧ Below w.heap.size w wr ∧ Blk wr X 24 #[.slice A l.length cap]) (fun v _ => l.length - (intOf v).toNat)
  case atStart => exact ⟨0, rfl, Nat.zero_le _, rfl, HBC.out, HX.out⟩
  case round =>
    obtain ⟨i, rfl, hi, hal, hbr, hxr⟩ := hrel
    clear HBC HX
    have HAL := Lib.hid hal
    have HBC := Lib.hid hbr
    have HX := Lib.hid hxr
    clear hal hbr hxr
    have x0 : wr.cell? ⟨X, 0, none⟩ = some (.slice A l.length cap) := HX.out.cell 0
    by_cases hlt : i < l.length
    · obtain ⟨b, o, rfl, hbB, hcells⟩ := HAT.out (by omega)
      obtain ⟨hok, htp, hep, hbp⟩ := HIN.out i hlt
      have HCC := Lib.hid ((hcells i hlt).keep HBC.out hbB)
      obtain ⟨B1, n1, e1, -, -, -⟩ := htp.form
      obtain ⟨B2, n2, e2, -, -⟩ := hep.form
      obtain ⟨B3, n3, e3, -, -⟩ := hbp.form
      rw [e1] at htp HCC
      rw [e2] at hep HCC
      rw [e3] at hbp HCC
      have HIT := Lib.hid (r_item (w := wr) l[i] ((htp.keep HBC.out).mono HBC.out.size) ((hep.keep HBC.out).mono HBC.out.size) ((hbp.keep HBC.out).mono HBC.out.size) hok)
      unfold ivI at HIT
      have HFL : Hid ((itemB nameB l[i] && insideB nameB alB l[i]) = false → l.all (fun x => itemB nameB x && insideB nameB alB x) = false) := fun hf => List.all_eq_false.2 ⟨l[i], List.getElem_mem _, by rw [hf]; decide⟩
      have HST : Hid ((itemB nameB l[i] && insideB nameB alB l[i]) = true → (l.take (i + 1)).all (fun x => itemB nameB x && insideB nameB alB x) = true) := fun hf => by
        rw [List.take_succ_eq_append_getElem hlt, List.all_append, HAL.out, List.all_cons, hf]
        rfl
      obtain ⟨y0, y1, y2, y3, y4, y5, y6⟩ := HCC.out
      clear hcells hbB hok htp hep hbp e1 e2 e3 HCC
      generalize l[i] = x at *
      obtain ⟨r, hr⟩ : ∃ r, (itemB nameB x && insideB nameB alB x) = r := ⟨_, rfl⟩
      rw [hr] at HIT HFL HST
      clear hr
      cases r
      · have HF : Hid (rightB nameB alB l = false) := by unfold Hid; rw [HR.out, HFL.out rfl]
        go_wp2_with fail
        refine HIT.out.mono ?_
        rintro en w6 ⟨rfl, hb⟩
        have hbz := HBC.out.trans (hb.mono HBC.out.size)
        have HBF := Lib.hid hbz
        clear hbz hb x0 y0 y1 y2 y3 y4 y5 y6
        go_wp2_with fail
        go_ret
        exact ⟨by rw [HF.out]; rfl, HBF.out⟩
      · have HN := Lib.hid (HST.out rfl)
        go_wp2_with fail
        refine HIT.out.mono ?_
        rintro en w6 ⟨rfl, hb⟩
        have HBF := Lib.hid (HBC.out.trans (hb.mono HBC.out.size))
        have HXF := Lib.hid (HX.out.keep (Tur.of_gr (F := fun _ => False) hb) (fun h => h))
        clear hb x0 y0 y1 y2 y3 y4 y5 y6
        go_wp2_with fail
        go_roundw
        case rel => exact ⟨i + 1, by go_num, by omega, HN.out, HBF.out, HXF.out⟩
        case measure => simp [intOf]; omega
    · rw [List.take_of_length_le (by omega)] at HAL
      have HF : Hid (rightB nameB alB l = true) := by unfold Hid; rw [HR.out, HAL.out]
      go_wp2_with fail
      go_ret
      exact ⟨by rw [HF.out]; rfl, HBC.out⟩
end Go.Proofs.YtmapjahpjolmnaaGreatDoor
namespace Go.Proofs.YtmapjahpjolmnaaGreatDoor
open Go.RowKit Tr
set_option maxRecDepth 20000
namespace Tr
theorem foldI_leK : ∀ (l : List XI) (a : Int × Int), (l.foldl sizeI a).1 ≤ a.1 + numP l
  | [], a => by simp [numP]
  | x :: l, a => by
    have h := foldI_leK l (sizeI a x)
    have h1 := sizeEs_leK x.exprs 61
    have h2 := sizeSs_leK x.body 61
    have h3 : (sizeI a x).1 = a.1 + (sizeEs x.exprs 61).1 + (sizeSs x.body 61).1 := rfl
    rw [List.foldl_cons]
    simp only [numP, List.map_cons, List.sum_cons, numI] at h ⊢
    omega
theorem sizeP_numK (l : List XI) : (sizeP l).1 ≤ numP l := by have h : (sizeP l).1 ≤ (0 : Int) + numP l := foldI_leK l (0, 0); omega
end Tr
set_option maxHeartbeats 4000000 in
theorem l_tell0 {w : World} {l : List XI} {v : Value} (e : XE) {A : Option Addr} {c : Nat} (h : IsAt w w.heap.size l v) (hz : numP l ≤ 1500000) (he : EsAt w w.heap.size e.kids (.slice A e.kids.length c)) (hok : e.Ok) (hze : numE e ≤ 1500000) (htab : Lib.TabIs Tryz.prog w "strings.asciiSpace" .u8 Lib.asciiSpaceTab) :
    Calls Tryz.prog 3 #[.agg #[v], .agg #[.int .u8 e.k, .string e.s, .int .u64 e.n, .slice A e.kids.length c]] w (Yes w) := by
  have HTB := Lib.hid (Lib.tabBelow_of_tabIs htab)
  obtain ⟨AP, cap, -, -, -, rfl, -, -, -, -⟩ := h.form
  have HH := Lib.hid h
  have HK := Lib.hid he
  have HOK := Lib.hid hok
  have HZ := Lib.hid hz
  have HZE := Lib.hid hze
  obtain ⟨w2, hw2, hb2, hx2, hy2, -⟩ := two_new w 24 29 #[.slice AP l.length cap] #[.int .u8 e.k, .string e.s, .int .u64 e.n, .slice A e.kids.length c]
  have HW2 := Lib.hid hw2
  have HBC := Lib.hid hb2
  have HP := Lib.hid hx2
  have HE := Lib.hid hy2
  clear h he hok hz hze htab hw2 hb2 hx2 hy2
  go_enter Tryz.func3, Tryz.ntmps3
  go_upto_region 1 with (fail)
  rw [← HW2.out]
  clear HW2
  obtain ⟨X, hX⟩ : ∃ x, x = w.heap.size + 1 := ⟨_, rfl⟩
  rw [← hX] at HE ⊢
  clear hX
  have HHG := Lib.hid (w_HugeA ((HH.out.keep HBC.out).mono HBC.out.size) HZ.out 100 3000 (by decide) (by decide) (by decide) (by decide))
  have p0 : w2.cell? ⟨w.heap.size, 0, none⟩ = some (.slice AP l.length cap) := HP.out.cell 0
  go_wp2_with fail
  refine HHG.out.mono ?_
  rintro en w3 ⟨hbo, rfl, hb, hno⟩
  have HNO := Lib.hid hno
  (have hbz := HBC.out.trans (hb.mono HBC.out.size); have HPZ := Lib.hid (HP.out.keep (Tur.of_gr (F := fun _ => False) hb) (fun h => h)); have HEZ := Lib.hid (HE.out.keep (Tur.of_gr (F := fun _ => False) hb) (fun h => h)); clear HBC HP HE hb; have HBC := Lib.hid hbz; have HP := HPZ; have HE := HEZ; clear hbz HPZ HEZ)
  clear hno HHG p0
  cases hbo
  rotate_left
  · go_wp2_with fail
    refine (w_awake (HTB.out _ HBC.out)).mono ?_
    rintro en w4 ⟨rfl, hb⟩
    (have hbz := HBC.out.trans (hb.mono HBC.out.size); have HPZ := Lib.hid (HP.out.keep (Tur.of_gr (F := fun _ => False) hb) (fun h => h)); have HEZ := Lib.hid (HE.out.keep (Tur.of_gr (F := fun _ => False) hb) (fun h => h)); clear HBC HP HE hb; have HBC := Lib.hid hbz; have HP := HPZ; have HE := HEZ; clear hbz HPZ HEZ)
    go_wp2_with fail
    go_ret
    exact ⟨rfl, HBC.out⟩
  have HN3 := Lib.hid (HNO.out rfl)
  clear HNO
  have HHX := Lib.hid (w_HugeExpr (w := w3) e ((HK.out.keep HBC.out).mono HBC.out.size) HOK.out HZE.out)
  have y0 : w3.cell? ⟨X, 0, none⟩ = some (.int .u8 e.k) := HE.out.cell 0
  have y1 : w3.cell? ⟨X, 1, none⟩ = some (.string e.s) := HE.out.cell 1
  have y2 : w3.cell? ⟨X, 2, none⟩ = some (.int .u64 e.n) := HE.out.cell 2
  have y3 : w3.cell? ⟨X, 3, none⟩ = some (.slice A e.kids.length c) := HE.out.cell 3
  go_wp2_with fail
  refine HHX.out.mono ?_
  rintro en w4 ⟨hbo, rfl, hb⟩
  (have hbz := HBC.out.trans (hb.mono HBC.out.size); have HPZ := Lib.hid (HP.out.keep (Tur.of_gr (F := fun _ => False) hb) (fun h => h)); have HEZ := Lib.hid (HE.out.keep (Tur.of_gr (F := fun _ => False) hb) (fun h => h)); clear HBC HP HE hb; have HBC := Lib.hid hbz; have HP := HPZ; have HE := HEZ; clear hbz HPZ HEZ)
  clear HHX y0 y1 y2 y3
  cases hbo
  rotate_left
  · go_wp2_with fail
    refine (w_awake (HTB.out _ HBC.out)).mono ?_
    rintro en w5 ⟨rfl, hb⟩
    (have hbz := HBC.out.trans (hb.mono HBC.out.size); have HPZ := Lib.hid (HP.out.keep (Tur.of_gr (F := fun _ => False) hb) (fun h => h)); have HEZ := Lib.hid (HE.out.keep (Tur.of_gr (F := fun _ => False) hb) (fun h => h)); clear HBC HP HE hb; have HBC := Lib.hid hbz; have HP := HPZ; have HE := HEZ; clear hbz HPZ HEZ)
    go_wp2_with fail
    go_ret
    exact ⟨rfl, HBC.out⟩
  have HS1 : Hid ((sizeP l).1 ≤ 1000000) := by have := sizeP_numK l; have := HN3.out.1; unfold Hid; omega
  have HCP := Lib.hid (w_copyP (w := w4) ((HH.out.keep HBC.out).mono HBC.out.size) HZ.out (by have := HN3.out.2.1; omega) (fun x hx => by have := HN3.out.2.2 x hx; omega))
  have p0 : w4.cell? ⟨w.heap.size, 0, none⟩ = some (.slice AP l.length cap) := HP.out.cell 0
  go_wp2_with fail
  refine HCP.out.mono ?_
  rintro en w5 ⟨v5, rfl, hI, hb⟩
  obtain ⟨AQ, cq, -, -, -, rfl, -, -, -, -⟩ := hI.form
  have HI := Lib.hid hI
  (have hbz := HBC.out.trans (hb.mono HBC.out.size); have HPZ := Lib.hid (HP.out.keep (Tur.of_gr (F := fun _ => False) hb) (fun h => h)); have HEZ := Lib.hid (HE.out.keep (Tur.of_gr (F := fun _ => False) hb) (fun h => h)); clear HBC HP HE hb; have HBC := Lib.hid hbz; have HP := HPZ; have HE := HEZ; clear hbz HPZ HEZ)
  clear hI HCP p0
  have hb := (Below.refl w5.heap.size w5).alloc (Nat.le_refl _) (.cells #[.slice AQ l.length cq] 24)
  have HN := Lib.hid (Blk.new w5 24 #[.slice AQ l.length cq])
  have HBI := Lib.hid hb
  go_upto_region 4 with (fail)
  (have hbz := HBC.out.trans (hb.mono HBC.out.size); have HPZ := Lib.hid (HP.out.keep (Tur.of_gr (F := fun _ => False) hb) (fun h => h)); have HEZ := Lib.hid (HE.out.keep (Tur.of_gr (F := fun _ => False) hb) (fun h => h)); clear HBC HP HE hb; have HBC := Lib.hid hbz; have HP := HPZ; have HE := HEZ; clear hbz HPZ HEZ)
  generalize w5.alloc (.cells #[.slice AQ l.length cq] 24) = w6 at *
  obtain ⟨N, hN⟩ : ∃ x, x = w5.heap.size := ⟨_, rfl⟩
  rw [← hN] at HN ⊢
  clear hN
  have HSG := Lib.hid (w_Size ((HI.out.keep HBI.out).mono HBI.out.size) HS1.out)
  have n0 : w6.cell? ⟨N, 0, none⟩ = some (.slice AQ l.length cq) := HN.out.cell 0
  obtain ⟨⟨sn, sd⟩, hsz⟩ : ∃ s, sizeP l = s := ⟨_, rfl⟩
  rw [hsz] at HSG
  go_wp2_with fail
  refine HSG.out.mono ?_
  rintro en w7 ⟨rfl, hb⟩
  (have HNZ := Lib.hid (HN.out.keep (Tur.of_gr (F := fun _ => False) hb) (fun h => h)); have HIZ := Lib.hid (HBI.out.trans (hb.mono HBI.out.size)); clear HN HBI; have HN := HNZ; have HBI := HIZ; clear HNZ HIZ; (have hbz := HBC.out.trans (hb.mono HBC.out.size); have HPZ := Lib.hid (HP.out.keep (Tur.of_gr (F := fun _ => False) hb) (fun h => h)); have HEZ := Lib.hid (HE.out.keep (Tur.of_gr (F := fun _ => False) hb) (fun h => h)); clear HBC HP HE hb; have HBC := Lib.hid hbz; have HP := HPZ; have HE := HEZ; clear hbz HPZ HEZ))
  clear HSG n0
  have HSG := Lib.hid (r_Size ((HH.out.keep HBC.out).mono HBC.out.size) HZ.out)
  rw [hsz] at HSG
  clear hsz
  have p0 : w7.cell? ⟨w.heap.size, 0, none⟩ = some (.slice AP l.length cap) := HP.out.cell 0
  go_wp2_with fail
  refine HSG.out.mono ?_
  rintro en w8 ⟨rfl, hb⟩
  (have HNZ := Lib.hid (HN.out.keep (Tur.of_gr (F := fun _ => False) hb) (fun h => h)); have HIZ := Lib.hid (HBI.out.trans (hb.mono HBI.out.size)); clear HN HBI; have HN := HNZ; have HBI := HIZ; clear HNZ HIZ; (have hbz := HBC.out.trans (hb.mono HBC.out.size); have HPZ := Lib.hid (HP.out.keep (Tur.of_gr (F := fun _ => False) hb) (fun h => h)); have HEZ := Lib.hid (HE.out.keep (Tur.of_gr (F := fun _ => False) hb) (fun h => h)); clear HBC HP HE hb; have HBC := Lib.hid hbz; have HP := HPZ; have HE := HEZ; clear hbz HPZ HEZ))
  clear HSG p0
  go_upto_region 6 with (fail)
  obtain ⟨rb, hrb⟩ : ∃ r, rightB nameB alB l = r := ⟨_, rfl⟩
  obtain ⟨eb, heb⟩ : ∃ r, exprR alB e 60 = r := ⟨_, rfl⟩
  have HR1 := Lib.hid (fun wd (hS : Below w8.heap.size w8 wd) => w_Right (w := wd) ((HI.out.keep (HBI.out.trans (hS.mono HBI.out.size))).mono (Nat.le_trans HBI.out.size hS.size)) HS1.out (HTB.out _ (HBC.out.trans (hS.mono HBC.out.size))))
  have HR2 := Lib.hid (fun wd (hS : Below w8.heap.size w8 wd) => r_Right (w := wd) ((HH.out.keep (HBC.out.trans (hS.mono HBC.out.size))).mono (Nat.le_trans HBC.out.size hS.size)) HZ.out)
  have HX1 := Lib.hid (fun wd (hS : Below w8.heap.size w8 wd) => w_Expr (w := wd) e A c ((HK.out.keep (HBC.out.trans (hS.mono HBC.out.size))).mono (Nat.le_trans HBC.out.size hS.size)) HOK.out (HTB.out _ (HBC.out.trans (hS.mono HBC.out.size))))
  have HX2 := Lib.hid (fun wd (hS : Below w8.heap.size w8 wd) => r_Expr (w := wd) e A c ((HK.out.keep (HBC.out.trans (hS.mono HBC.out.size))).mono (Nat.le_trans HBC.out.size hS.size)) HOK.out)
  have HSM := Lib.hid (fun wd (hS : Below w8.heap.size w8 wd) => w_sameP (w := wd) ((HI.out.keep (HBI.out.trans (hS.mono HBI.out.size))).mono (Nat.le_trans HBI.out.size hS.size)) ((HH.out.keep (HBC.out.trans (hS.mono HBC.out.size))).mono (Nat.le_trans HBC.out.size hS.size)))
  have HAW := Lib.hid (fun wd (hS : Below w8.heap.size w8 wd) => w_awake (w := wd) (HTB.out _ (HBC.out.trans (hS.mono HBC.out.size))))
  rw [hrb] at HR1 HR2
  rw [heb] at HX1 HX2
  clear hrb heb
  (try unfold evE at HX1)
  (try unfold evE at HX2)
  refine wp_region_det (fun wd => Below w8.heap.size w8 wd) (by kernel_rfl) (by kernel_rfl) (drew_B _) ?_
  iterate 31 (
    refine det_step ?_ (fun wd hS M hM => ?_) ?_ ?_
    rotate_left
    · have HS := Lib.hid hS
      have HM := Lib.hid hM
      have hp := HP.out.keep (Tur.of_gr (F := fun _ => False) hS) (fun h => h)
      have hn := HN.out.keep (Tur.of_gr (F := fun _ => False) hS) (fun h => h)
      have he := HE.out.keep (Tur.of_gr (F := fun _ => False) hS) (fun h => h)
      have p0 : wd.cell? ⟨w.heap.size, 0, none⟩ = some (.slice AP l.length cap) := hp.cell 0
      have n0 : wd.cell? ⟨N, 0, none⟩ = some (.slice AQ l.length cq) := hn.cell 0
      have y0 : wd.cell? ⟨X, 0, none⟩ = some (.int .u8 e.k) := he.cell 0
      have y1 : wd.cell? ⟨X, 1, none⟩ = some (.string e.s) := he.cell 1
      have y2 : wd.cell? ⟨X, 2, none⟩ = some (.int .u64 e.n) := he.cell 2
      have y3 : wd.cell? ⟨X, 3, none⟩ = some (.slice A e.kids.length c) := he.cell 3
      clear hS hM hp hn he
      go_wp2_with (first
        | ((with_reducible refine (HR1.out _ HS.out).mono ?_); rintro en w9 ⟨rfl, hb9⟩)
        | ((with_reducible refine (HR2.out _ HS.out).mono ?_); rintro en w9 ⟨rfl, hb9⟩)
        | ((with_reducible refine (HX1.out _ HS.out).mono ?_); rintro en w9 ⟨rfl, hb9⟩)
        | ((with_reducible refine (HX2.out _ HS.out).mono ?_); rintro en w9 ⟨rfl, hb9⟩)
        | ((with_reducible refine (HSM.out _ HS.out).mono ?_); rintro en w9 ⟨rfl, hb9⟩)
        | ((with_reducible refine (HAW.out _ HS.out).mono ?_); rintro en w9 ⟨rfl, hb9⟩)
        | fail)
      (first
        | exact HM.out _ HS.out
        | exact HM.out _ (HS.out.trans (hb9.mono HS.out.size)))
    · rfl)
  intro wd hS
  have HBZ : Hid (Below w.heap.size w wd) := HBC.out.trans (hS.mono HBC.out.size)
  clear hS
  go_wp2_with fail
  go_ret
  exact ⟨rfl, HBZ.out⟩
open Go.ChangeShapes Go.WideShapes Go.Deep in
theorem agg_openK {w : World} {base : Nat} {r : Reach} {t : TypeId} {fs : Array Field} {v : Value} {H : Type} {enc : TypeId × Value → H} {d : DataW H} {p : List MemPlace} {spare : Nat → Bool} {held : Bool} (hu : Tryz.prog.underlying t = some (.struct fs))
    (hval : Value.okWide Tryz.prog w r base t v) (k : DataW.Trod enc Tryz.prog w 0 spare held t v d p) : ∃ cs fuel, v = .agg cs ∧ DataW.trod enc Tryz.prog w 0 spare held fuel t cs.toList = some (d, p) := by
  unfold Value.okWide at hval
  rw [hu] at hval
  obtain ⟨cs, rfl, -⟩ := hval
  obtain ⟨fuel, hf⟩ := k
  exact ⟨cs, fuel, rfl, by simpa [Value.cells] using hf⟩
set_option maxRecDepth 100000 in
theorem l_tell {H : Type} {enc : TypeId × Value → H} {d0 d1 : DataW H} {p0 p1 : List MemPlace} {s0 s1 : Nat → Bool} {g0 g1 : Bool} {r0 r1 : Reach} {b0 b1 : Nat} (v0 v1 : Value) (w : World) (hsh : w.ShapedOpen Tryz.prog) (htab : Lib.TabIs Tryz.prog w "strings.asciiSpace" .u8 Lib.asciiSpaceTab) (hbk : Rows.uptoBulkAll [d0, d1] ≤ 1048576)
    (hv0 : Value.okWide Tryz.prog w r0 b0 24 v0) (k0 : DataW.Trod enc Tryz.prog w 0 s0 g0 24 v0 d0 p0)
    (hv1 : Value.okWide Tryz.prog w r1 b1 29 v1) (k1 : DataW.Trod enc Tryz.prog w 0 s1 g1 29 v1 d1 p1) :
    Calls Tryz.prog 3 #[v0, v1] w fun e w' => e = .returned (.bool true) ∧ Below w.heap.size w w' := by
  have hb0 : Rows.uptoBulk d0 ≤ 1048576 := Nat.le_trans (bulk_part (by simp)) hbk
  have hb1 : Rows.uptoBulk d1 ≤ 1048576 := Nat.le_trans (bulk_part (by simp)) hbk
  obtain ⟨vs, fuel, rfl, h⟩ := agg_openK Tryz.underlying24 hv0 k0
  obtain ⟨us, fuel2, rfl, h2⟩ := agg_openK Tryz.underlying29 hv1 k1
  obtain ⟨cs⟩ := vs
  obtain ⟨ds⟩ := us
  obtain ⟨l, v, hcs, hI, hn⟩ := t_program h
  obtain ⟨⟨e, kv⟩, ⟨⟨hok, hk⟩, hne⟩, hds⟩ := t_expr h2
  have e1 : cs = [v] := hcs
  subst e1
  have e2 : ds = [.int .u8 e.k, .string e.s, .int .u64 e.n, kv] := hds
  subst e2
  dsimp only at hn hne hok hk
  obtain ⟨A, c, rfl, -, -⟩ := hk.form
  exact l_tell0 e hI (by omega) hk hok (by omega) htab
end Go.Proofs.YtmapjahpjolmnaaGreatDoor
