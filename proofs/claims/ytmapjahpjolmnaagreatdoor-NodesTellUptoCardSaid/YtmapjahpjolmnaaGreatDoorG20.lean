/- nodes.item. -/
import Derived.Test.YtmapjahpjolmnaaGreatDoorG17
import Derived.Test.YtmapjahpjolmnaaGreatDoorG18
import Derived.Test.YtmapjahpjolmnaaGreatDoorG19
import Derived.Test.YtmapjahpjolmnaaGreatDoorG16
set_option linter.unusedVariables false
set_option linter.unusedSimpArgs false
namespace Go.Proofs.YtmapjahpjolmnaaGreatDoor
open Go.RowKit Tr
set_option maxRecDepth 20000
theorem w_item1 (s : ByteArray) (w : World) (hs : s.size ≤ maxLen) : Calls Tryz.prog 48 #[.string s] w fun e w' => e = .returned (.bool (!nameB s)) ∧ Below w.heap.size w w' := by
  go_enter Tryz.func48, Tryz.ntmps48
  go_wp2_with fail
  refine (w_name s w hs).mono ?_
  rintro en w2 ⟨rfl, hb2⟩
  have HB2 := Lib.hid hb2
  clear hb2
  go_wp2_with fail
  all_goals
    go_ret
    exact ⟨rfl, HB2.out⟩
set_option maxHeartbeats 4000000 in
theorem w_idx {w : World} {Bd : Nat} {l : List ByteArray} {v : Value} (h : TsAt w Bd l v) (hB : Bd ≤ w.heap.size) (hs : ∀ p ∈ l, p.size ≤ maxLen) :
    Calls Tryz.prog 60 #[v, .func (.func 48) #[] #[]] w fun e w' => (∃ i : Int, e = .returned (.int .i64 i) ∧ decide (0 ≤ i) = !(l.all nameB) ∧ -1 ≤ i) ∧ Below w.heap.size w w' := by
  obtain ⟨A, cap, rfl, hc, hm, hat⟩ := h.form
  have HAT := Lib.hid hat
  have HS := Lib.hid hs
  have HB := Lib.hid hB
  have hcl : cap < 9223372036854775808 := by unfold maxLen at hm; omega
  clear h hat hs hB
  go_enter Tryz.func60, Tryz.ntmps60
  go_wp2_with fail
  go_loopw [4, 8] (fun _ v wr => ∃ i : Nat, v = .int .i64 i ∧ i ≤ l.length ∧ Below w.heap.size w wr ∧ ∀ j (h : j < l.length), j < i → nameB l[j] = true) (fun _ v _ => l.length - (intOf v).toNat)
  case atStart => exact ⟨0, rfl, Nat.zero_le _, Below.refl _ _, fun j h h2 => absurd h2 (Nat.not_lt_zero _)⟩
  case round =>
    obtain ⟨i, rfl, hi, hbr, hall⟩ := hrel
    have HBR := Lib.hid hbr
    have HALL := Lib.hid hall
    clear hbr hall
    by_cases hlt : i < l.length
    · obtain ⟨b, o, rfl, hbB, hcells⟩ := HAT.out (by omega)
      have hx : wr.cell? ⟨b, o + i, none⟩ = some (.string l[i]) := (cell_keep HBR.out (Nat.lt_of_lt_of_le hbB HB.out)).trans (hcells i hlt)
      clear hcells
      go_wp2_with fail
      refine (w_item1 l[i] wr (HS.out _ (List.getElem_mem _))).mono ?_
      rintro en w2 ⟨rfl, hb2⟩
      have HB2 := Lib.hid (HBR.out.trans (hb2.mono HBR.out.size))
      clear hb2 hx
      cases hn : nameB l[i]
      · have HF : Hid (l.all nameB = false) := List.all_eq_false.2 ⟨l[i], List.getElem_mem _, by simp [hn]⟩
        clear hn
        go_wp2_with fail
        go_ret
        exact ⟨⟨i, rfl, by rw [HF.out, decide_eq_true (by omega)]; rfl, by omega⟩, HB2.out⟩
      · have HN : Hid (∀ j (h : j < l.length), j < i + 1 → nameB l[j] = true) := fun j hj hj2 => by
          rcases Nat.lt_succ_iff_lt_or_eq.1 hj2 with h | h
          · exact HALL.out j hj h
          · subst h; exact hn
        clear hn
        go_wp2_with fail
        go_roundw
        case rel => exact ⟨i + 1, by go_num, by omega, HB2.out, HN.out⟩
        case measure => simp [intOf]; omega
    · have HF : Hid (l.all nameB = true) := List.all_eq_true.2 (fun x hx => by
        obtain ⟨j, hj, rfl⟩ := List.getElem_of_mem hx
        exact HALL.out j hj (by omega))
      go_wp2_with fail
      go_ret
      exact ⟨⟨-1, rfl, by rw [HF.out]; rfl, by omega⟩, HBR.out⟩
theorem w_has {w : World} {Bd : Nat} {l : List ByteArray} {v : Value} (h : TsAt w Bd l v) (hB : Bd ≤ w.heap.size) (hs : ∀ p ∈ l, p.size ≤ maxLen) :
    Calls Tryz.prog 47 #[v, .func (.func 48) #[] #[]] w fun e w' => e = .returned (.bool (!(l.all nameB))) ∧ Below w.heap.size w w' := by
  have HI := Lib.hid (w_idx h hB hs)
  obtain ⟨A, cap, rfl, -, -, -⟩ := h.form
  clear h hs
  go_enter Tryz.func47, Tryz.ntmps47
  go_wp2_with fail
  refine HI.out.mono ?_
  rintro en w2 ⟨⟨i, rfl, hi, h1⟩, hb2⟩
  have HX := Lib.hid hi
  have HB2 := Lib.hid hb2
  clear hi hb2
  go_wp2_with fail
  all_goals
    go_ret
    exact ⟨congrArg (fun b => Ending.returned (.bool b)) HX.out, HB2.out⟩
def itemF (k : Int) (z : Bool) (mp me mb : Nat) (has nm al : Bool) : Bool :=
  if k = 1 ∨ k = 2 then (z && decide (mp = 0)) && (decide (me = 0) && !has)
  else if k = 3 then (z && decide (mp = 0)) && (decide (me ≤ 2) && (has || decide (0 < me ∧ mb = 0)))
  else if k = 4 then nm && (decide (mp ≤ 20) && (al && (decide (me = 0) && !has)))
  else false
theorem item_is (nm : ByteArray → Bool) (x : XI) : itemB nm x = itemF x.k (decide (x.name.size = 0)) x.params.length x.exprs.length x.body.length x.has (nm x.name) (x.params.all nm) := rfl
set_option maxHeartbeats 4000000 in
theorem w_item {w : World} {b o : Nat} (x : XI) {A1 A2 A3 : Option Addr} {c1 c2 c3 : Nat} (hc : icells w b o x (.slice A1 x.params.length c1) (.slice A2 x.exprs.length c2) (.slice A3 x.body.length c3)) (ht : TsAt w w.heap.size x.params (.slice A1 x.params.length c1)) (he : EsAt w w.heap.size x.exprs (.slice A2 x.exprs.length c2)) (hb : SsAt w w.heap.size x.body (.slice A3 x.body.length c3)) (hbw : b < w.heap.size) (hok : x.Ok) :
    Calls Tryz.prog 33 #[.pointer (some ⟨b, o, none⟩)] w fun en w' => en = .returned (.bool (itemB nameB x)) ∧ Below w.heap.size w w' := by
  have HC := Lib.hid hc
  have hcb := hb.cap
  have hce := he.cap
  have hct : x.params.length ≤ c1 ∧ c1 < 9223372036854775808 := by
    obtain ⟨_, _, hv, h1, h2, -⟩ := ht.form
    injection hv with _ _ hcc
    unfold maxLen at h2
    omega
  have HTP := Lib.hid ht
  have HOK := Lib.hid hok
  have HBW := Lib.hid hbw
  have HBB := Lib.hid (Below.refl w.heap.size w)
  obtain ⟨x0, x1, x2, x3, x4, x5, x6⟩ := hc
  clear hb he ht hok
  have HTX := Lib.hid (item_is nameB x)
  obtain ⟨z, hz⟩ : ∃ z, z = decide (x.name.size = 0) := ⟨_, rfl⟩
  have HZZ : Hid (x.name.toList = [] ↔ z = true) := by unfold Hid; rw [hz, ← sEmpty, List.isEmpty_iff]
  rw [← hz] at HTX
  clear hz
  obtain ⟨m1, hm1⟩ : ∃ y, x.params.length = y := ⟨_, rfl⟩
  obtain ⟨m2, hm2⟩ : ∃ y, x.exprs.length = y := ⟨_, rfl⟩
  obtain ⟨m3, hm3⟩ : ∃ y, x.body.length = y := ⟨_, rfl⟩
  rw [hm1] at x2 HTX hct HTP HC
  rw [hm2] at x3 HTX hce HC
  rw [hm3] at x5 HTX hcb HC
  clear hm1 hm2 hm3
  obtain ⟨hs, hhs⟩ : ∃ y, x.has = y := ⟨_, rfl⟩
  rw [hhs] at x4 HTX
  go_enter Tryz.func33, Tryz.ntmps33
  by_cases hk1 : x.k = 1
  · have HIT : Hid (itemB nameB x = ((z && decide (m1 = 0)) && (decide (m2 = 0) && !hs))) := by
      unfold Hid
      rw [HTX.out, hk1]
      rfl
    rw [hk1] at x0
    clear hk1
    go_wp2_with fail
    all_goals (go_ret; refine ⟨congrArg (fun b => Ending.returned (.bool b)) ?_, HBB.out⟩; refine Eq.trans ?_ HIT.out.symm; have hzz := HZZ.out; clear HZZ HIT HC HBB HBW HTX HTP HOK x0 x1 x2 x3 x4 x5 x6 hce hcb hct; simp_all <;> first | omega | (rw [Bool.eq_iff_iff]; simp only [Bool.and_eq_true, Bool.or_eq_true, Bool.not_eq_true', beq_iff_eq, decide_eq_true_eq] <;> omega))
  by_cases hk2 : x.k = 2
  · have HIT : Hid (itemB nameB x = ((z && decide (m1 = 0)) && (decide (m2 = 0) && !hs))) := by
      unfold Hid
      rw [HTX.out, hk2]
      rfl
    rw [hk2] at x0
    clear hk2
    go_wp2_with fail
    all_goals (go_ret; refine ⟨congrArg (fun b => Ending.returned (.bool b)) ?_, HBB.out⟩; refine Eq.trans ?_ HIT.out.symm; have hzz := HZZ.out; clear HZZ HIT HC HBB HBW HTX HTP HOK x0 x1 x2 x3 x4 x5 x6 hce hcb hct; simp_all <;> first | omega | (rw [Bool.eq_iff_iff]; simp only [Bool.and_eq_true, Bool.or_eq_true, Bool.not_eq_true', beq_iff_eq, decide_eq_true_eq] <;> omega))
  by_cases hk3 : x.k = 3
  · have HIT : Hid (itemB nameB x = ((z && decide (m1 = 0)) && (decide (m2 ≤ 2) && (hs || decide (0 < m2 ∧ m3 = 0))))) := by
      unfold Hid
      rw [HTX.out, hk3]
      rfl
    rw [hk3] at x0
    clear hk3
    go_wp2_with fail
    all_goals (go_ret; refine ⟨congrArg (fun b => Ending.returned (.bool b)) ?_, HBB.out⟩; refine Eq.trans ?_ HIT.out.symm; have hzz := HZZ.out; clear HZZ HIT HC HBB HBW HTX HTP HOK x0 x1 x2 x3 x4 x5 x6 hce hcb hct; simp_all <;> first | omega | (rw [Bool.eq_iff_iff]; simp only [Bool.and_eq_true, Bool.or_eq_true, Bool.not_eq_true', beq_iff_eq, decide_eq_true_eq] <;> omega))
  by_cases hk4 : x.k = 4
  · have HIT : Hid (itemB nameB x = (nameB x.name && (decide (m1 ≤ 20) && (x.params.all nameB && (decide (m2 = 0) && !hs))))) := by
      unfold Hid
      rw [HTX.out, hk4]
      rfl
    rw [hk4] at x0
    clear hk4
    obtain ⟨pa, hpa⟩ : ∃ y, x.params.all nameB = y := ⟨_, rfl⟩
    have HPA := Lib.hid hpa
    rw [hpa] at HIT
    clear hpa
    go_wp2_with fail
    all_goals
      refine (w_name x.name _ HOK.out.2.1).mono ?_
      rintro en w2 ⟨rfl, hb2⟩
      have HB2 := Lib.hid hb2
      obtain ⟨u0, u1, u2, u3, u4, u5, u6⟩ := HC.out.keep hb2 HBW.out
      clear hb2
      rw [hhs] at u4
      go_wp2_with fail
      all_goals first
        | (go_ret; refine ⟨congrArg (fun b => Ending.returned (.bool b)) ?_, HB2.out⟩; refine Eq.trans ?_ HIT.out.symm; have hzz := HZZ.out; clear HZZ HIT HC HBB HB2 HBW HTX HTP HOK x0 x1 x2 x3 x4 x5 x6 u0 u1 u2 u3 u4 u5 u6 hce hcb hct; simp_all <;> first | omega | (rw [Bool.eq_iff_iff]; simp only [Bool.and_eq_true, Bool.or_eq_true, Bool.not_eq_true', beq_iff_eq, decide_eq_true_eq] <;> omega))
        | skip
      all_goals
        refine (w_has (HTP.out.keep HB2.out) HB2.out.size HOK.out.2.2.2).mono ?_
        rintro en w3 ⟨rfl, hb3⟩
        have HB3 := Lib.hid (HB2.out.trans (hb3.mono HB2.out.size))
        obtain ⟨v0, v1, v2, v3, v4, v5, v6⟩ := HC.out.keep HB3.out HBW.out
        rw [hhs] at v4
        rw [HPA.out]
        clear hb3
        go_wp2_with fail
        all_goals (go_ret; refine ⟨congrArg (fun b => Ending.returned (.bool b)) ?_, HB3.out⟩; refine Eq.trans ?_ HIT.out.symm; have hzz := HZZ.out; have hpa := HPA.out; clear HPA HZZ HIT HC HBB HB2 HB3 HBW HTX HTP HOK x0 x1 x2 x3 x4 x5 x6 u0 u1 u2 u3 u4 u5 u6 v0 v1 v2 v3 v4 v5 v6 hce hcb hct; simp_all <;> first | omega | (rw [Bool.eq_iff_iff]; simp only [Bool.and_eq_true, Bool.or_eq_true, Bool.not_eq_true', beq_iff_eq, decide_eq_true_eq] <;> omega))
  have HIT : Hid (itemB nameB x = false) := by
    unfold Hid
    rw [HTX.out]
    unfold itemF
    simp only [hk1, hk2, hk3, hk4, if_false, or_false]
  go_wp2_with fail
  all_goals (go_ret; refine ⟨congrArg (fun b => Ending.returned (.bool b)) ?_, HBB.out⟩; refine Eq.trans ?_ HIT.out.symm; have hzz := HZZ.out; clear HZZ HIT HC HBB HBW HTX HTP HOK x0 x1 x2 x3 x4 x5 x6 hce hcb hct; simp_all <;> first | omega | (rw [Bool.eq_iff_iff]; simp only [Bool.and_eq_true, Bool.or_eq_true, Bool.not_eq_true', beq_iff_eq, decide_eq_true_eq] <;> omega))
end Go.Proofs.YtmapjahpjolmnaaGreatDoor
namespace Go.Proofs.YtmapjahpjolmnaaGreatDoor
open Go.RowKit Tr
set_option maxRecDepth 20000
set_option maxHeartbeats 4000000 in
theorem w_right1 {gb ab mb wb B : Nat} {wcs : Array Value} {w0 w : World} {a : Bool} (hI : AlI gb ab mb wb B wcs w0 a w) (hB : B ≤ w0.heap.size) (hg : B ≤ gb) (htab : Lib.TabBelow Tryz.prog B w0 "strings.asciiSpace" .u8 Lib.asciiSpaceTab)
    {b o : Nat} (e : XE) {kv : Value} (d : Int) (hc : ecells w b o e kv) (hk : EsAt w B e.kids kv) (hok : e.Ok) :
    Calls Tryz.prog 29 #[.pointer (some ⟨b, o, none⟩), .int .i64 d, .pointer (some ⟨gb, 0, none⟩), .pointer (some ⟨ab, 0, none⟩)] w fun en w' => en = .returned (.tuple #[]) ∧ AlI gb ab mb wb B wcs w0 (stA alB a e d) w' ∧ Tur (· = gb) w w' := by
  obtain ⟨A, c, rfl, -, -⟩ := hk.form
  have HI := Lib.hid hI
  have HTB := Lib.hid htab
  have HC := Lib.hid hc
  have HK := Lib.hid hk
  have HOK := Lib.hid hok
  have HBB := Lib.hid hB
  have HGG := Lib.hid hg
  have HNE : Hid (b ≠ gb) := by
    rintro rfl
    have h0 := hc.1
    have h1 := hI.g
    unfold Blk at h1
    unfold World.cell? at h0
    rw [h1] at h0
    match o with
    | 0 => simp at h0
    | _ + 1 => simp at h0
  clear hI htab hc hk hok hB hg
  go_enter Tryz.func29, Tryz.ntmps29
  have HID := Lib.hid HI.out.drew
  have HCD : Hid (ecells w.drew b o e (.slice A e.kids.length c)) := HC.out
  have HKD := Lib.hid (HK.out.keep (Below.refl B w).drew)
  have HTD : Hid (Tur (· = gb) w w.drew) := Tur.of_drew w
  have hS0 : w.drew.cell? ⟨ab, 0, none⟩ = some (.map (some mb)) ∧ ecells w.drew b o e (.slice A e.kids.length c) := ⟨HID.out.al.cell 0, HCD.out⟩
  refine wp_region_noPanic ?_
  refine wp_region_ord (fun wd => wd.cell? ⟨ab, 0, none⟩ = some (.map (some mb)) ∧ ecells wd b o e (.slice A e.kids.length c)) (.alone 0 (.read 1 (.read 2 (.read 3 (.read 4 (.read 5 (.alone 6 (.alone 7 (.alone 8 .done))))))))) (by kernel_rfl) (by kernel_rfl) (fun _ _ _ _ _ h => h) hS0 ?_
  simp only [Ord.ops, List.getElem?_toArray, List.getElem?_cons_zero, List.getElem?_cons_succ]
  have HS0 := Lib.hid hS0
  clear hS0
  generalize w.drew = wq at *
  cases a
  · have HR : Hid (stA alB false e d = false) := rfl
    have x0 : wq.cell? ⟨gb, 0, none⟩ = some (.bool false) := HID.out.g.cell 0
    have f0 := HID.out.g.free 0
    (refine ord_alone (fun M hM => ?_); have HM := Lib.hid hM; clear hM; (repeat (first | go_values | go_skip | go_guarded | go_step | go_upon)); refine HM.out _ _ HS0.out ?_; clear HM M)
    (iterate 5 (refine ord_read ?_ (fun wd hS M hM => ?_) ?_ ?_; rotate_left; (have HM := Lib.hid hM; obtain ⟨q0, q1, q2, q3, q4⟩ := hS; clear hM; (repeat (first | go_values | go_skip | go_guarded | go_step | go_upon)); exact HM.out); rfl))
    (refine ord_alone (fun M hM => ?_); have HM := Lib.hid hM; clear hM; (repeat (first | go_values | go_skip | go_guarded | go_step | go_upon)); refine HM.out _ _ HS0.out ?_; clear HM M)
    (refine ord_alone (fun M hM => ?_); have HM := Lib.hid hM; clear hM; (repeat (first | go_values | go_skip | go_guarded | go_step | go_upon)); refine HM.out _ _ HS0.out ?_; clear HM M)
    (refine ord_alone (fun M hM => ?_); have HM := Lib.hid hM; clear hM; (repeat (first | go_values | go_skip | go_guarded | go_step | go_upon)); have HN := Lib.hid (HID.out.set (a' := false) HBB.out HGG.out); have HTN := Lib.hid (HTD.out.trans (Tur.of_set ⟨gb, 0, none⟩ (.bool false)) (fun _ _ h => h)); refine HM.out _ _ ⟨HN.out.al.cell 0, ecells.tur HS0.out.2 (Tur.of_set ⟨gb, 0, none⟩ _) HNE.out⟩ ?_; clear HM M; refine NoPanic.normal (?_ : _); go_wp2_with fail; go_end0)
    refine ⟨rfl, by rw [HR.out]; exact HN.out, HTN.out⟩
  · have HR : Hid (stA alB true e d = alB e) := by unfold Hid stA; rw [Bool.true_and]
    have x0 : wq.cell? ⟨gb, 0, none⟩ = some (.bool true) := HID.out.g.cell 0
    have f0 := HID.out.g.free 0
    (refine ord_alone (fun M hM => ?_); have HM := Lib.hid hM; clear hM; (repeat (first | go_values | go_skip | go_guarded | go_step | go_upon)); refine HM.out _ _ HS0.out ?_; clear HM M)
    (iterate 5 (refine ord_read ?_ (fun wd hS M hM => ?_) ?_ ?_; rotate_left; (have HM := Lib.hid hM; obtain ⟨q0, q1, q2, q3, q4⟩ := hS; clear hM; (repeat (first | go_values | go_skip | go_guarded | go_step | go_upon)); exact HM.out); rfl))
    refine ord_alone (fun M hM => ?_)
    have HM := Lib.hid hM
    clear hM
    clear x0 f0
    have HCAL := Lib.hid (w_alone e A c mb (HKD.out.mono (Nat.le_trans HBB.out HID.out.below.size)) HOK.out HID.out.map (HTB.out _ HID.out.below))
    unfold evE at HCAL
    repeat (first | go_values | go_skip | go_guarded | go_step | go_upon)
    refine HCAL.out.mono ?_
    rintro en w3 ⟨rfl, hb3⟩
    have HI3 := Lib.hid (HID.out.gr HBB.out hb3)
    have HT3 : Hid (Tur (· = gb) w w3) := HTD.out.trans (Tur.of_gr hb3) (fun _ _ h => h)
    have HS3 : Hid (w3.cell? ⟨ab, 0, none⟩ = some (.map (some mb)) ∧ ecells w3 b o e (.slice A e.kids.length c)) := ⟨HI3.out.al.cell 0, ecells_gr HS0.out.2 hb3⟩
    clear hb3
    dsimp only
    repeat (first | go_values | go_skip | go_guarded | go_step | go_upon)
    refine HM.out _ _ HS3.out ?_
    clear HM M HID HS0 HTD
    have HID := HI3
    have HS0 := HS3
    have HTD := HT3
    clear HI3 HS3 HT3
    generalize w3 = wq at *
    generalize alB e = ra at *
    have x0 : wq.cell? ⟨gb, 0, none⟩ = some (.bool true) := HID.out.g.cell 0
    have f0 := HID.out.g.free 0
    (refine ord_alone (fun M hM => ?_); have HM := Lib.hid hM; clear hM; (repeat (first | go_values | go_skip | go_guarded | go_step | go_upon)); refine HM.out _ _ HS0.out ?_; clear HM M)
    (refine ord_alone (fun M hM => ?_); have HM := Lib.hid hM; clear hM; (repeat (first | go_values | go_skip | go_guarded | go_step | go_upon)); have HN := Lib.hid (HID.out.set (a' := ra) HBB.out HGG.out); have HTN := Lib.hid (HTD.out.trans (Tur.of_set ⟨gb, 0, none⟩ (.bool ra)) (fun _ _ h => h)); refine HM.out _ _ ⟨HN.out.al.cell 0, ecells.tur HS0.out.2 (Tur.of_set ⟨gb, 0, none⟩ _) HNE.out⟩ ?_; clear HM M; refine NoPanic.normal (?_ : _); go_wp2_with fail; go_end0)
    refine ⟨rfl, by rw [HR.out]; exact HN.out, HTN.out⟩
set_option maxHeartbeats 4000000 in
theorem w_right2 {gb ab mb wb B : Nat} {wcs : Array Value} {w0 w : World} {a : Bool} (hI : AlI gb ab mb wb B wcs w0 a w) (hB : B ≤ w0.heap.size) (hg : B ≤ gb)
    {b o : Nat} (e : XS) {ev bv lv : Value} (p : Value) (hc : scellsT w b o e ev bv lv) (he : EsAt w B e.exprs ev) (hb : SsAt w B e.body bv) (hl : SsAt w B e.els lv) (hok : e.Ok) (hbB : b < B) :
    Calls Tryz.prog 31 #[.pointer (some ⟨b, o, none⟩), p, .pointer (some ⟨gb, 0, none⟩)] w fun en w' => en = .returned (.tuple #[]) ∧ AlI gb ab mb wb B wcs w0 (a && shapeB nameB e) w' ∧ Tur (· = gb) w w' := by
  obtain ⟨A1, c1, rfl, -, -⟩ := he.form
  obtain ⟨A2, c2, rfl, -, -⟩ := hb.form
  obtain ⟨A3, c3, rfl, -, -⟩ := hl.form
  have hBw : B ≤ w.heap.size := Nat.le_trans hB hI.below.size
  have HCALL := Lib.hid (w_shape e hc (he.mono hBw) (hb.mono hBw) (hl.mono hBw) (Nat.lt_of_lt_of_le hbB hBw) hok)
  have HI := Lib.hid hI
  have HBB := Lib.hid hB
  have HGG := Lib.hid hg
  clear hc he hb hl hok hI hB hg hBw hbB
  cases a
  · have x0 : w.cell? ⟨gb, 0, none⟩ = some (.bool false) := HI.out.g.cell 0
    have f0 := HI.out.g.free 0
    have HN := Lib.hid (HI.out.set (a' := false) HBB.out HGG.out)
    go_enter Tryz.func31, Tryz.ntmps31
    go_wp2_with fail
    go_end0
    exact ⟨rfl, HN.out, Tur.of_set ⟨gb, 0, none⟩ _⟩
  · have x0 : w.cell? ⟨gb, 0, none⟩ = some (.bool true) := HI.out.g.cell 0
    generalize shapeB nameB e = sb at *
    go_enter Tryz.func31, Tryz.ntmps31
    go_wp2_with fail
    refine HCALL.out.mono ?_
    rintro en w2 ⟨rfl, hb2⟩
    have HI2 := Lib.hid (HI.out.gr HBB.out hb2)
    have HT2 : Hid (Tur (· = gb) w w2) := Tur.of_gr hb2
    have f0 := HI2.out.g.free 0
    have x0' : w2.cell? ⟨gb, 0, none⟩ = some (.bool true) := HI2.out.g.cell 0
    clear hb2
    go_wp2_with fail
    go_end0
    have HN := Lib.hid (HI2.out.set (a' := sb) HBB.out HGG.out)
    exact ⟨rfl, HN.out, HT2.out.trans (Tur.of_set ⟨gb, 0, none⟩ _) (fun _ _ h => h)⟩
theorem wkRight {gb ab mb wb B : Nat} {w0 : World} (hB : B ≤ w0.heap.size) (hg : B ≤ gb) (htab : Lib.TabBelow Tryz.prog B w0 "strings.asciiSpace" .u8 Lib.asciiSpaceTab) :
    WkS (AlI gb ab mb wb B #[.func (.func 29) #[] #[.pointer (some ⟨gb, 0, none⟩), .pointer (some ⟨ab, 0, none⟩)], .func (.func 31) #[] #[.pointer (some ⟨gb, 0, none⟩)], .int .i64 60] w0) (stA alB) (stB (shapeB nameB)) 60 B wb 29 #[.pointer (some ⟨gb, 0, none⟩), .pointer (some ⟨ab, 0, none⟩)] 31 #[.pointer (some ⟨gb, 0, none⟩)] (· = gb) w0 where
  e := {
    m0 := by decide
    m1 := by decide
    box := fun a w h => h.wk
    below := fun a w h => h.below
    drew := fun a w h => h.drew
    run := fun args w => by rfl
    call := fun a w b o e kv d h hc hk _ hok _ _ => w_right1 h hB hg htab e d hc hk hok }
  run := fun args w => by rfl
  call := fun a w b o e ev bv lv d h hc he hb hl hlt hok _ _ => w_right2 h hB hg e _ hc he hb hl hok hlt
end Go.Proofs.YtmapjahpjolmnaaGreatDoor
namespace Go.Proofs.YtmapjahpjolmnaaGreatDoor
open Go.RowKit Tr
set_option maxRecDepth 20000
theorem TsAt.mono {w : World} {Bd B : Nat} {l : List ByteArray} {v : Value} (h : TsAt w Bd l v) (hB : Bd ≤ B) : TsAt w B l v := by
  obtain ⟨A, cap, h1, h2, h3, h4⟩ := h.form
  refine ⟨A, cap, h1, h2, h3, fun hp => ?_⟩
  obtain ⟨b, o, e1, e2, e3⟩ := h4 hp
  exact ⟨b, o, e1, Nat.lt_of_lt_of_le e2 hB, e3⟩
theorem IsAt.mono {w : World} {Bd B : Nat} {l : List XI} {v : Value} (h : IsAt w Bd l v) (hB : Bd ≤ B) : IsAt w B l v := by
  obtain ⟨A, cap, pv, ev, bv, h1, h2, h3, h4, h5⟩ := h.form
  refine ⟨A, cap, pv, ev, bv, h1, h2, h3, fun hp => ?_, fun i h => ?_⟩
  · obtain ⟨b, o, e1, e2, e3⟩ := h4 hp
    exact ⟨b, o, e1, Nat.lt_of_lt_of_le e2 hB, e3⟩
  · obtain ⟨a, b, c, d⟩ := h5 i h
    exact ⟨a, b.mono hB, c.mono hB, d.mono hB⟩
set_option maxHeartbeats 4000000 in
theorem w_Right {w : World} {l : List XI} {v : Value} (h : IsAt w w.heap.size l v) (hz : (sizeP l).1 ≤ 1000000) (htab : Lib.TabIs Tryz.prog w "strings.asciiSpace" .u8 Lib.asciiSpaceTab) :
    Calls Tryz.prog 10 #[.agg #[v]] w fun e w' => e = .returned (.bool (rightB nameB alB l)) ∧ Below w.heap.size w w' := by
  obtain ⟨A, cap, pv, ev, bv, rfl, hc, hm, hat, hin⟩ := h.form
  have HH := Lib.hid h
  have HAT := Lib.hid hat
  have HIN := Lib.hid hin
  have HTB := Lib.hid (Lib.tabBelow_of_tabIs htab)
  have hcl : cap < 9223372036854775808 := by unfold maxLen at hm; omega
  clear h hat hin htab
  have HP0 := Lib.hid (Blk.new w 24 #[.slice A l.length cap])
  have HB0 := Lib.hid ((Below.refl w.heap.size w).alloc (Nat.le_refl _) (.cells #[.slice A l.length cap] 24))
  have HSZ := Lib.hid (w_Size (w := w.alloc (.cells #[.slice A l.length cap] 24)) (l := l) (v := .slice A l.length cap) ((HH.out.keep HB0.out).mono (by simp)) hz)
  go_enter Tryz.func10, Tryz.ntmps10
  go_upto_region 2 with (with_reducible (refine HSZ.out.mono ?_); rintro en w2 ⟨rfl, hb2⟩; have HB2 := Lib.hid hb2; clear hb2)
  have HBW : Hid (Below w.heap.size w w2) := HB0.out.trans (HB2.out.mono HB0.out.size)
  have HP2 : Hid (Blk w2 w.heap.size 24 #[.slice A l.length cap]) := HP0.out.keep (Tur.of_gr (F := fun _ => False) HB2.out) (fun h => h)
  clear HB2 HP0 HB0 HSZ
  by_cases h1 : 4000 < (sizeP l).1
  · have HF : Hid (rightB nameB alB l = false) := by unfold Hid rightB; rw [decide_eq_false (by omega), Bool.false_and]
    go_wp2_with fail
    go_ret
    exact ⟨by rw [HF.out]; rfl, HBW.out⟩
  by_cases h2 : 60 < (sizeP l).2
  · have HF : Hid (rightB nameB alB l = false) := by unfold Hid rightB; rw [decide_eq_false (by omega), Bool.false_and]
    go_wp2_with fail
    go_ret
    exact ⟨by rw [HF.out]; rfl, HBW.out⟩
  have HRE := Lib.hid (right_eq nameB alB l (by omega))
  have HGN := Lib.hid (Blk.new w2 4 #[.bool true])
  have HGB := Lib.hid ((Below.refl w2.heap.size w2).alloc (Nat.le_refl _) (.cells #[.bool true] 4))
  have HKD := Lib.hid (w_kinds (w2.alloc (.cells #[.bool true] 4)))
  go_upto_region 6 with (with_reducible (refine HKD.out.mono ?_); rintro en w3 ⟨rfl, hk3⟩; have HK3 := Lib.hid hk3; clear hk3)
  obtain ⟨wa, hwa, hba, hA0, hA1, hsa⟩ := two_new w3 67 62 #[.map (some (w2.heap.size + 1))] #[.func (.func 29) #[] #[.pointer (some ⟨w2.heap.size, 0, none⟩), .pointer (some ⟨w3.heap.size, 0, none⟩)], .func (.func 31) #[] #[.pointer (some ⟨w2.heap.size, 0, none⟩)], .int .i64 60]
  have hk3 := HK3.out
  have hmp : MapLit w3 (w2.heap.size + 1) kindsL := by have h := hk3.map; rw [World.size_alloc] at h; exact h
  have hb3 : Below w2.heap.size w2 w3 := HGB.out.trans (hk3.below.mono HGB.out.size)
  have hBa : Below w.heap.size w wa := (HBW.out.trans (hb3.mono HBW.out.size)).trans (hba.mono (Nat.le_trans HBW.out.size hb3.size))
  have hPa := (HP2.out.keep (Tur.of_gr (F := fun _ => False) hb3) (fun h => h)).keep (Tur.of_gr (F := fun _ => False) hba) (fun h => h)
  have hGa := (HGN.out.keep (Tur.of_gr (F := fun _ => False) hk3.below) (fun h => h)).keep (Tur.of_gr (F := fun _ => False) hba) (fun h => h)
  have hMa : MapLit wa (w2.heap.size + 1) kindsL := tur_map hmp (Tur.of_gr (F := fun _ => False) hba) (fun h => h)
  have HIA : Hid (AlI w2.heap.size w3.heap.size (w2.heap.size + 1) (w3.heap.size + 1) w.heap.size #[.func (.func 29) #[] #[.pointer (some ⟨w2.heap.size, 0, none⟩), .pointer (some ⟨w3.heap.size, 0, none⟩)], .func (.func 31) #[] #[.pointer (some ⟨w2.heap.size, 0, none⟩)], .int .i64 60] w true wa) := ⟨hBa, hGa, hA0, hMa, hA1⟩
  have HPA := Lib.hid hPa
  have HW := Lib.hid (wkRight (ab := w3.heap.size) (mb := w2.heap.size + 1) (wb := w3.heap.size + 1) (Nat.le_refl _) HBW.out.size HTB.out)
  have HNE : Hid (w.heap.size ≠ w2.heap.size) := Nat.ne_of_lt HP2.out.lt
  have HGL := Lib.hid HBW.out.size
  clear hk3 hmp hb3 hBa hPa hGa hMa hba hA0 hA1 hsa HKD HK3 HGN HGB HP2
  go_upto_region 7 with (fail)
  rw [← hwa]
  clear hwa
  generalize w2.heap.size = gb at *
  generalize w3.heap.size = ab at *
  obtain ⟨wb, hwb⟩ : ∃ x, x = ab + 1 := ⟨_, rfl⟩
  rw [← hwb] at HIA HW ⊢
  clear hwb
  have x0 : wa.cell? ⟨w.heap.size, 0, none⟩ = some (.slice A l.length cap) := HPA.out.cell 0
  go_wp2_with fail
  clear x0
  go_loopw [8, 28] (fun _ v wr => ∃ i : Nat, v = .int .i64 i ∧ i ≤ l.length ∧ AlI gb ab (gb + 1) wb w.heap.size #[.func (.func 29) #[] #[.pointer (some ⟨gb, 0, none⟩), .pointer (some ⟨ab, 0, none⟩)], .func (.func 31) #[] #[.pointer (some ⟨gb, 0, none⟩)], .int .i64 60] w ((l.take i).foldl (stR nameB alB) true) wr ∧ Blk wr w.heap.size 24 #[.slice A l.length cap]) (fun _ v _ => l.length - (intOf v).toNat)
  case atStart => exact ⟨0, rfl, Nat.zero_le _, HIA.out, HPA.out⟩
  case round =>
    obtain ⟨i, rfl, hi, hir, hpr⟩ := hrel
    have HR := Lib.hid hir
    have HPR := Lib.hid hpr
    clear hir hpr HIA HPA
    by_cases hlt : i < l.length
    · obtain ⟨b, o, rfl, hbB, hcells⟩ := HAT.out (by omega)
      have HCW := Lib.hid (hcells i hlt)
      have HBB := Lib.hid hbB
      obtain ⟨hok, htp, hep, hbp⟩ := HIN.out i hlt
      have HOK := Lib.hid hok
      obtain ⟨A1, n1, e1, -, -, -⟩ := htp.form
      obtain ⟨A2, n2, e2, -, -⟩ := hep.form
      obtain ⟨A3, n3, e3, -, -⟩ := hbp.form
      rw [e1] at htp HCW
      rw [e2] at hep HCW
      rw [e3] at hbp HCW
      have HTP := Lib.hid htp
      have HEP := Lib.hid hep
      have HBP := Lib.hid hbp
      clear hcells hbB hok htp hep hbp e1 e2 e3
      have HNX : Hid ((l.take (i + 1)).foldl (stR nameB alB) true = foldI (stA alB) (stB (shapeB nameB)) 60 ((l.take i).foldl (stR nameB alB) true && itemB nameB l[i]) l[i]) := by
        unfold Hid
        rw [List.take_succ_eq_append_getElem hlt, List.foldl_append, List.foldl_cons, List.foldl_nil]
        rfl
      generalize (l.take i).foldl (stR nameB alB) true = a at *
      have x0 : wr.cell? ⟨w.heap.size, 0, none⟩ = some (.slice (some ⟨b, o, none⟩) l.length cap) := HPR.out.cell 0
      have f0 := HR.out.g.free 0
      have HIT := Lib.hid (w_item (w := wr) l[i] (HCW.out.keep HR.out.below HBB.out) ((HTP.out.keep HR.out.below).mono HR.out.below.size) ((HEP.out.keep HR.out.below).mono HR.out.below.size) ((HBP.out.keep HR.out.below).mono HR.out.below.size) (Nat.lt_of_lt_of_le HBB.out HR.out.below.size) HOK.out)
      cases a
      · have x1 : wr.cell? ⟨gb, 0, none⟩ = some (.bool false) := HR.out.g.cell 0
        have HI1 := Lib.hid (HR.out.set (a' := false) (Nat.le_refl _) HGL.out)
        have HP1 := Lib.hid (HPR.out.keep (Tur.of_set (w := wr) ⟨gb, 0, none⟩ (.bool false)) HNE.out)
        go_upto_region 11 with (fail)
        generalize wr.setCell ⟨gb, 0, none⟩ (.bool false) = w1 at *
        rw [Bool.false_and] at HNX
        clear x0 x1 f0 HIT
        (have HC1 := Lib.hid (HCW.out.keep HI1.out.below HBB.out); have x0 : w1.cell? ⟨w.heap.size, 0, none⟩ = some (.slice (some ⟨b, o, none⟩) l.length cap) := HP1.out.cell 0; have y3 := HC1.out.2.2.2.1; clear HC1; go_upto_region 12 with (with_reducible (refine (w_exprs HW.out.e HEP.out 1 _ w1 HI1.out (by decide) (by decide)).mono ?_); rintro en w4 ⟨rfl, hI4, ht4⟩; have HI4 := Lib.hid hI4; have HP4 := Lib.hid (HP1.out.keep ht4 HNE.out); clear hI4 ht4 x0 y3); have HC4 := Lib.hid (HCW.out.keep HI4.out.below HBB.out); have x0 : w4.cell? ⟨w.heap.size, 0, none⟩ = some (.slice (some ⟨b, o, none⟩) l.length cap) := HP4.out.cell 0; have y5 := HC4.out.2.2.2.2.2.1; clear HC4; go_upto_region 13 with (with_reducible (refine (w_stmts HW.out HBP.out 1 _ w4 HI4.out (by decide) (by decide)).mono ?_); rintro en w5 ⟨rfl, hI5, ht5⟩; have HI5 := Lib.hid hI5; have HP5 := Lib.hid (HP4.out.keep ht5 HNE.out); clear hI5 ht5 x0 y5); have HI6 := Lib.hid (show AlI gb ab (gb + 1) wb w.heap.size #[.func (.func 29) #[] #[.pointer (some ⟨gb, 0, none⟩), .pointer (some ⟨ab, 0, none⟩)], .func (.func 31) #[] #[.pointer (some ⟨gb, 0, none⟩)], .int .i64 60] w ((l.take (i + 1)).foldl (stR nameB alB) true) w5 from (by rw [HNX.out]; exact HI5.out)); clear HI5; go_wp2_with fail; go_roundw; (case rel => exact ⟨i + 1, by go_num, by omega, HI6.out, HP5.out⟩); (case measure => simp [intOf]; omega))
      · have x1 : wr.cell? ⟨gb, 0, none⟩ = some (.bool true) := HR.out.g.cell 0
        rw [Bool.true_and] at HNX
        generalize itemB nameB l[i] = ib at *
        go_upto_region 11 with (fail)
        refine HIT.out.mono ?_
        rintro en w2 ⟨rfl, hb2⟩
        have HI2 := Lib.hid (HR.out.gr (Nat.le_refl _) hb2)
        have HP2 := Lib.hid (HPR.out.keep (Tur.of_gr (F := fun _ => False) hb2) (fun h => h))
        have f2 := HI2.out.g.free 0
        have x2 : w2.cell? ⟨gb, 0, none⟩ = some (.bool true) := HI2.out.g.cell 0
        clear hb2 x1 f0
        go_upto_region 11 with (fail)
        have HI1 := Lib.hid (HI2.out.set (a' := ib) (Nat.le_refl _) HGL.out)
        have HP1 := Lib.hid (HP2.out.keep (Tur.of_set (w := w2) ⟨gb, 0, none⟩ (.bool ib)) HNE.out)
        generalize w2.setCell ⟨gb, 0, none⟩ (.bool ib) = w1 at *
        clear x0 x2 f2 HIT HI2 HP2
        (have HC1 := Lib.hid (HCW.out.keep HI1.out.below HBB.out); have x0 : w1.cell? ⟨w.heap.size, 0, none⟩ = some (.slice (some ⟨b, o, none⟩) l.length cap) := HP1.out.cell 0; have y3 := HC1.out.2.2.2.1; clear HC1; go_upto_region 12 with (with_reducible (refine (w_exprs HW.out.e HEP.out 1 _ w1 HI1.out (by decide) (by decide)).mono ?_); rintro en w4 ⟨rfl, hI4, ht4⟩; have HI4 := Lib.hid hI4; have HP4 := Lib.hid (HP1.out.keep ht4 HNE.out); clear hI4 ht4 x0 y3); have HC4 := Lib.hid (HCW.out.keep HI4.out.below HBB.out); have x0 : w4.cell? ⟨w.heap.size, 0, none⟩ = some (.slice (some ⟨b, o, none⟩) l.length cap) := HP4.out.cell 0; have y5 := HC4.out.2.2.2.2.2.1; clear HC4; go_upto_region 13 with (with_reducible (refine (w_stmts HW.out HBP.out 1 _ w4 HI4.out (by decide) (by decide)).mono ?_); rintro en w5 ⟨rfl, hI5, ht5⟩; have HI5 := Lib.hid hI5; have HP5 := Lib.hid (HP4.out.keep ht5 HNE.out); clear hI5 ht5 x0 y5); have HI6 := Lib.hid (show AlI gb ab (gb + 1) wb w.heap.size #[.func (.func 29) #[] #[.pointer (some ⟨gb, 0, none⟩), .pointer (some ⟨ab, 0, none⟩)], .func (.func 31) #[] #[.pointer (some ⟨gb, 0, none⟩)], .int .i64 60] w ((l.take (i + 1)).foldl (stR nameB alB) true) w5 from (by rw [HNX.out]; exact HI5.out)); clear HI5; go_wp2_with fail; go_roundw; (case rel => exact ⟨i + 1, by go_num, by omega, HI6.out, HP5.out⟩); (case measure => simp [intOf]; omega))
    · rw [List.take_of_length_le (by omega), HRE.out] at HR
      have x1 := HR.out.g.cell 0
      have HBF := Lib.hid HR.out.below
      clear HR HPR
      go_wp2_with fail
      go_ret
      exact ⟨rfl, HBF.out⟩
end Go.Proofs.YtmapjahpjolmnaaGreatDoor
namespace Go.Proofs.YtmapjahpjolmnaaGreatDoor
open Go.RowKit
namespace Tr
abbrev e0 : ByteArray := ⟨#[]⟩
section
variable {al : XE → Bool} (h0 : al (.mk 1 e0 0 []) = true) (h1 : ∀ x, al (.mk 11 e0 0 [x]) = true)
include h0 h1
end
section
variable (nm : ByteArray → Bool) {al : XE → Bool} (h0 : al (.mk 1 e0 0 []) = true) (h1 : ∀ x, al (.mk 11 e0 0 [x]) = true)
end
end Tr
end Go.Proofs.YtmapjahpjolmnaaGreatDoor
namespace Go.Proofs.YtmapjahpjolmnaaGreatDoor
open Go.RowKit Tr
set_option maxRecDepth 20000
def aNum : XE := .mk 1 e0 0 []
theorem aw1 : exprR alB (.mk 16 ⟨#[43]⟩ 0 [aNum, aNum]) 60 = true := by kernel_rfl
theorem aw2 : exprR alB (.mk 16 ⟨#[43, 43]⟩ 0 [aNum, aNum]) 60 = false := by kernel_rfl
theorem aw3 : exprR alB (.mk 4 ⟨#[105, 110]⟩ 0 []) 60 = false := by kernel_rfl
theorem aw4 : exprR alB (.mk 3 ⟨#[97, 92]⟩ 0 []) 60 = false := by kernel_rfl
theorem aw5 : rightB nameB alB [⟨1, e0, [], [], false, [.mk 7 e0 2 [aNum] [] [] 0], 0⟩] = true := by kernel_rfl
theorem aw6 : rightB nameB alB [⟨3, e0, [], [], false, [], 0⟩] = false := by kernel_rfl
section
variable {w : World} {Bd X c : Nat} {t : TypeId}
theorem EsAt.nil (w : World) (Bd : Nat) : EsAt w Bd [] (.slice none 0 0) := by
  refine EsAt.mk (l := []) (fun _ => .tuple #[]) (Nat.le_refl _) (Nat.zero_le _) (fun h => absurd h (Nat.lt_irrefl 0)) (fun i h => absurd h (Nat.not_lt_zero i)) (fun i h => absurd h (Nat.not_lt_zero i))
theorem SsAt.nil (w : World) (Bd : Nat) : SsAt w Bd [] (.slice none 0 0) := by
  refine SsAt.mk (l := []) (fun _ => .tuple #[]) (fun _ => .tuple #[]) (fun _ => .tuple #[]) (Nat.le_refl _) (Nat.zero_le _) (fun h => absurd h (Nat.lt_irrefl 0)) (fun i h => absurd h (Nat.not_lt_zero i)) (fun i h => absurd h (Nat.not_lt_zero i)) (fun i h => absurd h (Nat.not_lt_zero i)) (fun i h => absurd h (Nat.not_lt_zero i))
theorem TsAt.nil (w : World) (Bd : Nat) : TsAt w Bd [] (.slice none 0 0) := ⟨none, 0, rfl, Nat.le_refl _, Nat.zero_le _, fun h => absurd h (Nat.lt_irrefl 0)⟩
theorem EsAt.one {e : XE} {kv : Value} (hc : ecells w X 0 e kv) (hX : X < Bd) (hk : EsAt w Bd e.kids kv) (hok : e.Ok) (h1 : 1 ≤ c) (hm : c ≤ maxLen) : EsAt w Bd [e] (.slice (some ⟨X, 0, none⟩) 1 c) := by
  refine EsAt.mk (l := [e]) (fun _ => kv) h1 hm (fun _ => ⟨X, 0, rfl, hX, fun i h => ?_⟩) (fun i h => ?_) (fun i h => ?_) <;> (obtain rfl : i = 0 := by simp at h; omega)
  · simpa using hc
  · exact hok
  · exact hk
theorem SsAt.one {e : XS} {ev bv lv : Value} (hc : scellsT w X 0 e ev bv lv) (hX : X < Bd) (he : EsAt w Bd e.exprs ev) (hb : SsAt w Bd e.body bv) (hl : SsAt w Bd e.els lv) (hok : e.Ok) (h1 : 1 ≤ c) (hm : c ≤ maxLen) : SsAt w Bd [e] (.slice (some ⟨X, 0, none⟩) 1 c) := by
  refine SsAt.mk (l := [e]) (fun _ => ev) (fun _ => bv) (fun _ => lv) h1 hm (fun _ => ⟨X, 0, rfl, hX, fun i h => ?_⟩) (fun i h => ?_) (fun i h => ?_) (fun i h => ?_) (fun i h => ?_) <;> (obtain rfl : i = 0 := by simp at h; omega)
  · simpa using hc
  · exact hok
  · exact he
  · exact hb
  · exact hl
theorem IsAt.one {e : XI} {pv ev bv : Value} (hc : icells w X 0 e pv ev bv) (hX : X < Bd) (hp : TsAt w Bd e.params pv) (he : EsAt w Bd e.exprs ev) (hb : SsAt w Bd e.body bv) (hok : e.Ok) : IsAt w Bd [e] (.slice (some ⟨X, 0, none⟩) 1 1) := by
  refine ⟨some ⟨X, 0, none⟩, 1, fun _ => pv, fun _ => ev, fun _ => bv, rfl, Nat.le_refl _, by unfold maxLen; omega, fun _ => ⟨X, 0, rfl, hX, fun i h => ?_⟩, fun i h => ?_⟩ <;> (obtain rfl : i = 0 := by simp at h; omega)
  · simpa using hc
  · exact ⟨hok, hp, he, hb⟩
theorem EsAt.two {e f : XE} {kv fv : Value} (hc : ecells w X 0 e kv) (hd : ecells w X 4 f fv) (hX : X < Bd) (hk : EsAt w Bd e.kids kv) (hf : EsAt w Bd f.kids fv) (hok : e.Ok) (hof : f.Ok) : EsAt w Bd [e, f] (.slice (some ⟨X, 0, none⟩) 2 2) := by
  refine EsAt.mk (l := [e, f]) (fun i => if i = 0 then kv else fv) (Nat.le_refl _) (by unfold maxLen; simp) (fun _ => ⟨X, 0, rfl, hX, fun i h => ?_⟩) (fun i h => ?_) (fun i h => ?_) <;> (obtain rfl | rfl : i = 0 ∨ i = 1 := by simp at h; omega)
  · simpa using hc
  · simpa using hd
  · exact hok
  · exact hof
  · exact hk
  · exact hf
end
theorem four_new (w : World) (t0 t1 t2 t3 : TypeId) (c0 c1 c2 c3 : Array Value) : ∃ w4, w4 = (((w.alloc (.cells c0 t0)).alloc (.cells c1 t1)).alloc (.cells c2 t2)).alloc (.cells c3 t3) ∧ Below w.heap.size w w4 ∧
    Blk w4 w.heap.size t0 c0 ∧ Blk w4 (w.heap.size + 1) t1 c1 ∧ Blk w4 (w.heap.size + 1 + 1) t2 c2 ∧ Blk w4 (w.heap.size + 1 + 1 + 1) t3 c3 ∧ w4.heap.size = w.heap.size + 4 := by
  refine ⟨_, rfl, ((((Below.refl _ _).alloc (Nat.le_refl _) _).alloc (by simp) _).alloc (by simp; omega) _).alloc (by simp; omega) _, ?_, ?_, ?_, ?_, by simp⟩
  · exact alloc_keep (alloc_keep (alloc_keep (Blk.new w t0 c0) _) _) _
  · have h := Blk.new (w.alloc (.cells c0 t0)) t1 c1
    rw [World.size_alloc] at h
    exact alloc_keep (alloc_keep h _) _
  · have h := Blk.new ((w.alloc (.cells c0 t0)).alloc (.cells c1 t1)) t2 c2
    rw [World.size_alloc, World.size_alloc] at h
    exact alloc_keep h _
  · have h := Blk.new (((w.alloc (.cells c0 t0)).alloc (.cells c1 t1)).alloc (.cells c2 t2)) t3 c3
    rw [World.size_alloc, World.size_alloc, World.size_alloc] at h
    exact h
/-- A program of one item, a statement in it. -/
def rule1 (s : XS) : List XI := [⟨1, e0, [], [], false, [s], 0⟩]
theorem x_rule {w : World} (s : XS) {ev bv lv : Value} (he : EsAt w w.heap.size s.exprs ev) (hb : SsAt w w.heap.size s.body bv) (hl : SsAt w w.heap.size s.els lv) (hok : s.Ok) :
    Calls Tryz.prog 17 #[.agg #[.int .u8 s.k, .string s.s, .int .i64 s.n, ev, bv, lv, .int .i64 s.line]] w fun en w' => ∃ v, en = .returned (.agg #[v]) ∧ IsAt w' w'.heap.size (rule1 s) v ∧ Below w.heap.size w w' := by
  have HE := Lib.hid he
  have HB := Lib.hid hb
  have HL := Lib.hid hl
  obtain ⟨A1, c1, rfl, -, -⟩ := he.form
  obtain ⟨A2, c2, rfl, -, -⟩ := hb.form
  obtain ⟨A3, c3, rfl, -, -⟩ := hl.form
  obtain ⟨w2, hw2, hb2, -, hR1, hB0, hB1, hsz⟩ := four_new w 50 24 50 45 #[.int .u8 s.k, .string s.s, .int .i64 s.n, .slice A1 s.exprs.length c1, .slice A2 s.body.length c2, .slice A3 s.els.length c3, .int .i64 s.line] #[.slice (some ⟨w.heap.size + 1 + 1 + 1, 0, none⟩) 1 1] #[.int .u8 s.k, .string s.s, .int .i64 s.n, .slice A1 s.exprs.length c1, .slice A2 s.body.length c2, .slice A3 s.els.length c3, .int .i64 s.line] #[.int .u8 1, .string ⟨#[]⟩, .slice none 0 0, .slice none 0 0, .bool false, .slice (some ⟨w.heap.size + 1 + 1, 0, none⟩) 1 1, .int .i64 0]
  clear he hb hl
  have HW2 := Lib.hid hw2
  have HB2 := Lib.hid hb2
  have HR1 := Lib.hid hR1
  have HB0 := Lib.hid hB0
  have HB1 := Lib.hid hB1
  have HSZ := Lib.hid hsz
  clear hw2 hb2 hR1 hB0 hB1 hsz
  go_enter Tryz.func17, Tryz.ntmps17
  go_wp2_with fail
  rw [← HW2.out]
  have hs := HSZ.out
  have x1 : w2.cell? ⟨w.heap.size + 1, 0, none⟩ = some (.slice (some ⟨w.heap.size + 1 + 1 + 1, 0, none⟩) 1 1) := HR1.out.cell 0
  refine bodyPost_ret (v := .agg #[.slice (some ⟨w.heap.size + 1 + 1 + 1, 0, none⟩) 1 1]) (by simp [results, Tryz.results17, go_sem, x1]) rfl ⟨_, rfl, ?_, HB2.out⟩
  have hsi : SsAt w2 w2.heap.size [s] (.slice (some ⟨w.heap.size + 1 + 1, 0, none⟩) 1 1) := SsAt.one ⟨HB0.out.cell 0, HB0.out.cell 1, HB0.out.cell 2, HB0.out.cell 3, HB0.out.cell 4, HB0.out.cell 5, HB0.out.cell 6⟩ (by omega) ((HE.out.keep HB2.out).mono HB2.out.size) ((HB.out.keep HB2.out).mono HB2.out.size) ((HL.out.keep HB2.out).mono HB2.out.size) hok (Nat.le_refl _) (by unfold maxLen; simp)
  exact IsAt.one (e := ⟨1, e0, [], [], false, [s], 0⟩) ⟨HB1.out.cell 0, HB1.out.cell 1, HB1.out.cell 2, HB1.out.cell 3, HB1.out.cell 4, HB1.out.cell 5, HB1.out.cell 6⟩ (by omega) (TsAt.nil _ _) (EsAt.nil _ _) hsi ⟨rfl, Nat.zero_le _, rfl, fun p hp => by cases hp⟩
set_option maxHeartbeats 4000000 in
theorem w_awake {w : World} (htab : Lib.TabIs Tryz.prog w "strings.asciiSpace" .u8 Lib.asciiSpaceTab) :
    Calls Tryz.prog 6 #[] w fun e w' => e = .returned (.bool true) ∧ Below w.heap.size w w' := by
  have HTB := Lib.hid (Lib.tabBelow_of_tabIs htab)
  have hb1 := (Below.refl w.heap.size w).alloc (Nat.le_refl _) (.cells #[.int .u8 1, .string ⟨#[]⟩, .int .u64 0, .slice none 0 0, .int .u8 1, .string ⟨#[]⟩, .int .u64 0, .slice none 0 0] 29)
  have hbl := Blk.new w 29 #[.int .u8 1, .string ⟨#[]⟩, .int .u64 0, .slice none 0 0, .int .u8 1, .string ⟨#[]⟩, .int .u64 0, .slice none 0 0]
  have hsz : (w.alloc (.cells #[.int .u8 1, .string ⟨#[]⟩, .int .u64 0, .slice none 0 0, .int .u8 1, .string ⟨#[]⟩, .int .u64 0, .slice none 0 0] 29)).heap.size = w.heap.size + 1 := World.size_alloc ..
  clear htab
  go_enter Tryz.func6, Tryz.ntmps6
  go_upto_region 3 with (fail)
  generalize w.alloc (.cells #[.int .u8 1, .string ⟨#[]⟩, .int .u64 0, .slice none 0 0, .int .u8 1, .string ⟨#[]⟩, .int .u64 0, .slice none 0 0] 29) = w1 at *
  have hn : aNum.Ok := ⟨by decide, by decide, by decide⟩
  have h2 : EsAt w1 w1.heap.size [aNum, aNum] (.slice (some ⟨w.heap.size, 0, none⟩) 2 2) := EsAt.two ⟨hbl.cell 0, hbl.cell 1, hbl.cell 2, hbl.cell 3⟩ ⟨hbl.cell 4, hbl.cell 5, hbl.cell 6, hbl.cell 7⟩ (by omega) (EsAt.nil _ _) (EsAt.nil _ _) hn hn
  have h1 : EsAt w1 w1.heap.size [aNum] (.slice (some ⟨w.heap.size, 0, none⟩) 1 2) := EsAt.one ⟨hbl.cell 0, hbl.cell 1, hbl.cell 2, hbl.cell 3⟩ (by omega) (EsAt.nil _ _) hn (by decide) (by unfold maxLen; decide)
  have HC1 : Hid (∀ w', Below w1.heap.size w1 w' → Calls Tryz.prog 12 #[.agg #[.int .u8 16, .string ⟨#[43]⟩, .int .u64 0, .slice (some ⟨w.heap.size, 0, none⟩) 2 2]] w' fun en w2 => en = .returned (.bool true) ∧ Below w'.heap.size w' w2) := fun w' h => by
    have hx := w_Expr (w := w') (.mk 16 ⟨#[43]⟩ 0 [aNum, aNum]) (some ⟨w.heap.size, 0, none⟩) 2 ((h2.keep h).mono h.size) ⟨by decide, by decide, by decide⟩ (HTB.out _ (hb1.trans (h.mono (by omega))))
    rw [aw1] at hx
    exact hx
  have HC2 : Hid (∀ w', Below w1.heap.size w1 w' → Calls Tryz.prog 12 #[.agg #[.int .u8 16, .string ⟨#[43, 43]⟩, .int .u64 0, .slice (some ⟨w.heap.size, 0, none⟩) 2 2]] w' fun en w2 => en = .returned (.bool false) ∧ Below w'.heap.size w' w2) := fun w' h => by
    have hx := w_Expr (w := w') (.mk 16 ⟨#[43, 43]⟩ 0 [aNum, aNum]) (some ⟨w.heap.size, 0, none⟩) 2 ((h2.keep h).mono h.size) ⟨by decide, by decide, by decide⟩ (HTB.out _ (hb1.trans (h.mono (by omega))))
    rw [aw2] at hx
    exact hx
  have HC3 : Hid (∀ w', Below w1.heap.size w1 w' → Calls Tryz.prog 12 #[.agg #[.int .u8 4, .string ⟨#[105, 110]⟩, .int .u64 0, .slice none 0 0]] w' fun en w2 => en = .returned (.bool false) ∧ Below w'.heap.size w' w2) := fun w' h => by
    have hx := w_Expr (w := w') (.mk 4 ⟨#[105, 110]⟩ 0 []) none 0 (EsAt.nil _ _) ⟨by decide, by decide, by decide⟩ (HTB.out _ (hb1.trans (h.mono (by omega))))
    rw [aw3] at hx
    exact hx
  have HC4 : Hid (∀ w', Below w1.heap.size w1 w' → Calls Tryz.prog 12 #[.agg #[.int .u8 3, .string ⟨#[97, 92]⟩, .int .u64 0, .slice none 0 0]] w' fun en w2 => en = .returned (.bool false) ∧ Below w'.heap.size w' w2) := fun w' h => by
    have hx := w_Expr (w := w') (.mk 3 ⟨#[97, 92]⟩ 0 []) none 0 (EsAt.nil _ _) ⟨by decide, by decide, by decide⟩ (HTB.out _ (hb1.trans (h.mono (by omega))))
    rw [aw4] at hx
    exact hx
  have HC5 : Hid (∀ w', Below w1.heap.size w1 w' → Calls Tryz.prog 17 #[.agg #[.int .u8 7, .string ⟨#[]⟩, .int .i64 2, .slice (some ⟨w.heap.size, 0, none⟩) 1 2, .slice none 0 0, .slice none 0 0, .int .i64 0]] w' fun en w2 => ∃ v, en = .returned (.agg #[v]) ∧ IsAt w2 w2.heap.size (rule1 (.mk 7 e0 2 [aNum] [] [] 0)) v ∧ Below w'.heap.size w' w2) := fun w' h =>
    x_rule (w := w') (.mk 7 e0 2 [aNum] [] [] 0) ((h1.keep h).mono h.size) (SsAt.nil _ _) (SsAt.nil _ _) ⟨by decide, by decide, by decide, by decide⟩
  have HBC := Lib.hid (Below.refl w1.heap.size w1)
  have HB1 := Lib.hid hb1
  clear h1 h2 hn hbl hsz hb1
  go_wp2_with fail
  refine (HC1.out _ HBC.out).mono ?_
  rintro en w2 ⟨rfl, hb⟩
  (have hbz := HBC.out.trans (hb.mono HBC.out.size); clear HBC hb; have HBC := Lib.hid hbz; clear hbz)
  go_wp2_with fail
  refine (HC2.out _ HBC.out).mono ?_
  rintro en w3 ⟨rfl, hb⟩
  (have hbz := HBC.out.trans (hb.mono HBC.out.size); clear HBC hb; have HBC := Lib.hid hbz; clear hbz)
  go_wp2_with fail
  refine (HC3.out _ HBC.out).mono ?_
  rintro en w4 ⟨rfl, hb⟩
  (have hbz := HBC.out.trans (hb.mono HBC.out.size); clear HBC hb; have HBC := Lib.hid hbz; clear hbz)
  go_wp2_with fail
  refine (HC4.out _ HBC.out).mono ?_
  rintro en w5 ⟨rfl, hb⟩
  (have hbz := HBC.out.trans (hb.mono HBC.out.size); clear HBC hb; have HBC := Lib.hid hbz; clear hbz)
  go_wp2_with fail
  refine (HC5.out _ HBC.out).mono ?_
  rintro en w6 ⟨v, rfl, hI, hb⟩
  (have hbz := HBC.out.trans (hb.mono HBC.out.size); clear HBC hb; have HBC := Lib.hid hbz; clear hbz)
  have HI := Lib.hid hI
  obtain ⟨A, cap, -, -, -, rfl, -⟩ := hI.form
  clear hI
  have HR5 := Lib.hid (w_Right HI.out (show (sizeP (rule1 (.mk 7 e0 2 [aNum] [] [] 0))).1 ≤ 1000000 from by decide) (HTB.out _ (HB1.out.trans (HBC.out.mono (HB1.out.size)))))
  rw [show rightB nameB alB (rule1 (.mk 7 e0 2 [aNum] [] [] 0)) = true from aw5] at HR5
  clear HI
  go_wp2_with fail
  refine HR5.out.mono ?_
  rintro en w7 ⟨rfl, hb⟩
  (have hbz := HBC.out.trans (hb.mono HBC.out.size); clear HBC hb; have HBC := Lib.hid hbz; clear hbz)
  clear HR5
  have hbn := (Below.refl w7.heap.size w7).alloc (Nat.le_refl _) (.cells #[.int .u8 3, .string ⟨#[]⟩, .slice none 0 0, .slice none 0 0, .bool false, .slice none 0 0, .int .i64 0] 45)
  have hbl := Blk.new w7 45 #[.int .u8 3, .string ⟨#[]⟩, .slice none 0 0, .slice none 0 0, .bool false, .slice none 0 0, .int .i64 0]
  have hlt := hbl.lt
  have hIs : IsAt (w7.alloc (.cells #[.int .u8 3, .string ⟨#[]⟩, .slice none 0 0, .slice none 0 0, .bool false, .slice none 0 0, .int .i64 0] 45)) (w7.alloc (.cells #[.int .u8 3, .string ⟨#[]⟩, .slice none 0 0, .slice none 0 0, .bool false, .slice none 0 0, .int .i64 0] 45)).heap.size [⟨3, e0, [], [], false, [], 0⟩] (.slice (some ⟨w7.heap.size, 0, none⟩) 1 1) :=
    IsAt.one (e := ⟨3, e0, [], [], false, [], 0⟩) ⟨hbl.cell 0, hbl.cell 1, hbl.cell 2, hbl.cell 3, hbl.cell 4, hbl.cell 5, hbl.cell 6⟩ hlt (TsAt.nil _ _) (EsAt.nil _ _) (SsAt.nil _ _) ⟨rfl, Nat.zero_le _, rfl, fun p hp => by cases hp⟩
  have HR6 := Lib.hid (w_Right hIs (show (sizeP [⟨3, e0, [], [], false, [], 0⟩]).1 ≤ 1000000 from by decide) (HTB.out _ (HB1.out.trans ((HBC.out.trans (hbn.mono HBC.out.size)).mono (HB1.out.size)))))
  rw [aw6] at HR6
  have HBN := Lib.hid hbn
  clear hbn hbl hlt hIs
  go_wp2_with fail
  refine HR6.out.mono ?_
  rintro en w8 ⟨rfl, hb⟩
  have HB8 := Lib.hid hb
  clear hb
  go_wp2_with fail
  go_ret
  exact ⟨rfl, (HB1.out.trans (HBC.out.mono HB1.out.size)).trans ((HBN.out.trans (HB8.out.mono HBN.out.size)).mono (Nat.le_trans HB1.out.size HBC.out.size))⟩
end Go.Proofs.YtmapjahpjolmnaaGreatDoor
