/- Code: the walk of the document's call. -/
import Derived.Test.YtankpckkiikmaaaDoorG7
import Derived.Test.YtankpckkiikmaaaDoorG11
import Derived.Deep.QuietTactic
import Derived.BigQuiet
import Derived.Test.YtankpckkiikmaaaDoorG4
import Derived.Deep.RegionHeld3
import Derived.Deep.MidRow
import Derived.Lib.AppendIntMem
import Derived.Lib.ItoaLen
set_option linter.unusedVariables false
set_option linter.unusedSimpArgs false
namespace Go.Proofs.YtankpckkiikmaaaDoor
open Go.RowKit Cod
set_option maxRecDepth 20000 in
set_option maxHeartbeats 60000000 in
theorem q_call {C : CV} {p : PV} {w : World} {B : Nat} (h : PlaceAt w B C p) (hC : CodeAt w B C) (i : IV) (hi : IOk i) (hl : Ints w B i.A i.n i.args) :
    Calls Tryd.prog 30 #[.agg #[.slice C.A0 C.n0 C.c0, .slice C.A1 C.n1 C.c1, .slice C.A2 C.n2 C.c2, .slice C.A3 C.n3 C.c3, .slice C.A4 C.n4 C.c4, .slice C.A5 C.n5 C.c5, .slice C.A6 C.n6 C.c6, .int .i64 p.regs, .slice p.A p.n p.c, .int .i64 p.loops, .slice p.A' p.n' p.c'], .agg #[.int .u8 i.op, .int .i64 i.a, .int .i64 i.b, .int .i64 i.c, .string i.s, .slice i.A i.n i.cap]] w fun e w' => e = .returned (.bool (argsB C p i)) ∧ Below w.heap.size w w' := by
  have HX := Lib.hid (BoxI.made i h)
  have hbW : Below w.heap.size w ((w.alloc (.cells #[.slice C.A0 C.n0 C.c0, .slice C.A1 C.n1 C.c1, .slice C.A2 C.n2 C.c2, .slice C.A3 C.n3 C.c3, .slice C.A4 C.n4 C.c4, .slice C.A5 C.n5 C.c5, .slice C.A6 C.n6 C.c6, .int .i64 p.regs, .slice p.A p.n p.c, .int .i64 p.loops, .slice p.A' p.n' p.c'] 63)).alloc (.cells #[.int .u8 i.op, .int .i64 i.a, .int .i64 i.b, .int .i64 i.c, .string i.s, .slice i.A i.n i.cap] 31)) := ((Below.refl _ _).alloc (Nat.le_refl _) _).alloc (by simp) _
  have HC := Lib.hid hC
  have HL := Lib.hid hl
  have hnn := hl.2.1
  have hn3 := hC.n3
  have hn2 := hC.n2
  unfold maxLen at hnn hn3 hn2
  obtain ⟨b1, b2⟩ := i64_bd hi.b
  clear h hl hC
  cases hr : regB p i.a
  · have HR : Hid (argsB C p i = false) := by unfold Hid argsB; rw [hr]; rfl
    have HRR := Lib.hid hr
    clear hr
    go_enter Tryd.func30, Tryd.ntmps30
    go_wp2_with (((with_reducible refine (q_reg C p i.a _).mono ?_); rintro e w2 ⟨rfl, hb2⟩; rw [HRR.out]))
    go_ret
    exact ⟨ret_bool HR.out.symm, Gr.trans hbW hb2⟩
  · have HRR := Lib.hid hr
    have HNO : ∀ x : Bool, Hid (argsB C p i = x) → Hid (argsB C p i = x) := fun _ h => h
    by_cases c1 : i.b < 0
    · have HR : Hid (argsB C p i = false) := by
        unfold Hid argsB; rw [show inB i.b C.n3 = false by simp [inB]; omega]; simp
      clear hr
      go_enter Tryd.func30, Tryd.ntmps30
      go_wp2_with (((with_reducible refine (q_reg C p i.a _).mono ?_); rintro e w2 ⟨rfl, hb2⟩; rw [HRR.out]; have hall := (HX.out.keep hb2).all; have HX2 := Lib.hid (HX.out.keep hb2); have HW2 := Lib.hid (Gr.trans hbW hb2); clear hb2))
      go_ret
      exact ⟨ret_bool HR.out.symm, HW2.out⟩
    · obtain ⟨j, hj⟩ : ∃ j : Nat, i.b = j := ⟨i.b.toNat, by omega⟩
      by_cases c2 : j < C.n3
      case neg =>
        have HR : Hid (argsB C p i = false) := by
          unfold Hid argsB; rw [show inB i.b C.n3 = false by simp [inB]; omega]; simp
        have c2' : (C.n3 : Int) ≤ i.b := by omega
        clear hr hj c2
        go_enter Tryd.func30, Tryd.ntmps30
        go_wp2_with (((with_reducible refine (q_reg C p i.a _).mono ?_); rintro e w2 ⟨rfl, hb2⟩; rw [HRR.out]; have hall := (HX.out.keep hb2).all; have HX2 := Lib.hid (HX.out.keep hb2); have HW2 := Lib.hid (Gr.trans hbW hb2); clear hb2))
        go_ret
        exact ⟨ret_bool HR.out.symm, HW2.out⟩
      case pos =>
        have hin : inB i.b C.n3 = true := by simp [inB]; omega
        have c2' : i.b < (C.n3 : Int) := by omega
        by_cases c3 : i.c = 0
        case neg =>
          have c3' : (i.c != 0) = true := by simpa using c3
          have HR : Hid (argsB C p i = false) := by
            unfold Hid argsB; rw [show (i.c == 0) = false by simpa using c3]; simp
          clear hr hin hj c3
          go_enter Tryd.func30, Tryd.ntmps30
          go_wp2_with (((with_reducible refine (q_reg C p i.a _).mono ?_); rintro e w2 ⟨rfl, hb2⟩; rw [HRR.out]; have hall := (HX.out.keep hb2).all; have HX2 := Lib.hid (HX.out.keep hb2); have HW2 := Lib.hid (Gr.trans hbW hb2); clear hb2))
          go_ret
          exact ⟨ret_bool HR.out.symm, HW2.out⟩
        case pos =>
          have c3' : (i.c != 0) = false := by simpa using c3
          have c3b : (i.c == 0) = true := by simpa using c3
          obtain ⟨fb, fo, hfA, hfb, f, hf, hfw, hfc⟩ := HC.out.fns.at c2
          have hfl : fb < w.heap.size := Nat.lt_of_lt_of_le hfb HC.out.le
          have hat : at? C.fns i.b = some f := by unfold at?; rw [if_pos (by omega), hj, Int.toNat_natCast]; exact hf
          have HR0 : Hid (argsB C p i = (inB f C.n2 && match at? C.parts f with
            | none => false
            | some q => decide (i.n ≤ q.n) && argB C p q i.args)) := by
            unfold Hid argsB
            rw [hr, hin, c3b, hat]
            rfl
          have HJ := Lib.hid hj
          have HFA := Lib.hid hfA
          have HFC : ∀ w2, Below w.heap.size w w2 → w2.cell? ⟨fb, fo + j, none⟩ = some (.int .i64 f) := fun w2 hb => (hb.cell (p := ⟨fb, fo + j, none⟩) hfl).trans hfc
          have HFCC := Lib.hid HFC
          have hjb : (i.b).toNat = j := by omega
          clear hr hin hf hat hfc HFC c3 c3b hj hfA
          by_cases d1 : f < 0
          · have HR : Hid (argsB C p i = false) := by
              unfold Hid; rw [HR0.out, show inB f C.n2 = false by simp [inB]; omega]; rfl
            clear HR0
            go_enter Tryd.func30, Tryd.ntmps30
            go_wp2_with (((with_reducible refine (q_reg C p i.a _).mono ?_); rintro e w2 ⟨rfl, hb2⟩; rw [HRR.out]; have hall := (HX.out.keep hb2).all; have HX2 := Lib.hid (HX.out.keep hb2); have HW2 := Lib.hid (Gr.trans hbW hb2); clear hb2; have hcf := HFCC.out _ HW2.out; have hfA := HFA.out))
            clear hfA
            have d1b : decide (f < 0) = true := by simpa using d1
            go_quiet (fail)
            go_wp2_with fail
            go_ret
            exact ⟨ret_bool HR.out.symm, below_drewN HW2.out _⟩
          · obtain ⟨m, rfl⟩ : ∃ m : Nat, f = m := ⟨f.toNat, by omega⟩
            have d1b : decide ((m : Int) < 0) = false := by simp
            by_cases d2 : m < C.n2
            case neg =>
              have HR : Hid (argsB C p i = false) := by
                unfold Hid; rw [HR0.out, show inB (m : Int) C.n2 = false by simp [inB]; omega]; rfl
              clear HR0
              have d2b : decide ((C.n2 : Int) ≤ (m : Int)) = true := by simp; omega
              have d2c : decide (C.n2 ≤ m) = true := by simp; omega
              have d2d : C.n2 ≤ m := by omega
              go_enter Tryd.func30, Tryd.ntmps30
              go_wp2_with (((with_reducible refine (q_reg C p i.a _).mono ?_); rintro e w2 ⟨rfl, hb2⟩; rw [HRR.out]; have hall := (HX.out.keep hb2).all; have HX2 := Lib.hid (HX.out.keep hb2); have HW2 := Lib.hid (Gr.trans hbW hb2); clear hb2; have hcf := HFCC.out _ HW2.out; have hfA := HFA.out))
              clear hfA
              go_quiet (fail)
              go_wp2_with fail
              go_ret
              exact ⟨ret_bool HR.out.symm, below_drewN HW2.out _⟩
            case pos =>
              have d2b : decide ((C.n2 : Int) ≤ (m : Int)) = false := by simp; omega
              have d2c : decide (C.n2 ≤ m) = false := by simp; omega
              obtain ⟨pb, po, q, hpA, hpb, hq, hqp, -, hq1, -, -⟩ := HC.out.part d2
              have hqn := hqp.arr.2.1
              unfold maxLen at hqn
              have HR1 : Hid (argsB C p i = (decide (i.n ≤ q.n) && argB C p q i.args)) := by
                unfold Hid
                rw [HR0.out, show inB (m : Int) C.n2 = true by simp [inB]; omega]
                unfold at?
                rw [if_pos (by omega), Int.toNat_natCast, hq]
                rfl
              have HQ1 : Hid (∀ w2, Below w.heap.size w w2 → w2.cell? ⟨pb, po + m * 4 + 1, none⟩ = some (.slice q.A q.n q.c)) := fun w2 hb => (hb.cell (p := ⟨pb, po + m * 4 + 1, none⟩) hpb).trans hq1
              have HPA := Lib.hid hpA
              have HQA := Lib.hid hqp.arr
              clear HR0 hq hq1 hqp hpA
              by_cases d3 : i.n ≤ q.n
              case neg =>
                have HR : Hid (argsB C p i = false) := by unfold Hid; rw [HR1.out, decide_eq_false d3]; rfl
                clear HR1
                have d3b : decide ((q.n : Int) < (i.n : Int)) = true := by simp; omega
                have d3c : decide (q.n < i.n) = true := by simp; omega
                go_enter Tryd.func30, Tryd.ntmps30
                go_wp2_with (((with_reducible refine (q_reg C p i.a _).mono ?_); rintro e w2 ⟨rfl, hb2⟩; rw [HRR.out]; have hall := (HX.out.keep hb2).all; have HX2 := Lib.hid (HX.out.keep hb2); have HW2 := Lib.hid (Gr.trans hbW hb2); clear hb2; have hcf := HFCC.out _ HW2.out; have hfA := HFA.out))
                clear hfA
                have hq1 := HQ1.out _ HW2.out
                have hpA := HPA.out
                go_quiet (fail)
                clear hpA
                go_wp2_with fail
                go_ret
                exact ⟨ret_bool HR.out.symm, below_drewN HW2.out _⟩
              case pos =>
                have HR : Hid (argsB C p i = argB C p q i.args) := by unfold Hid; rw [HR1.out, decide_eq_true d3]; rfl
                clear HR1
                have d3b : decide ((q.n : Int) < (i.n : Int)) = false := by simp; omega
                have d3c : decide (q.n < i.n) = false := by simp; omega
                go_enter Tryd.func30, Tryd.ntmps30
                go_wp2_with (((with_reducible refine (q_reg C p i.a _).mono ?_); rintro e w2 ⟨rfl, hb2⟩; rw [HRR.out]; have hall := (HX.out.keep hb2).all; have HX2 := Lib.hid (HX.out.keep hb2); have HW2 := Lib.hid (Gr.trans hbW hb2); clear hb2; have hcf := HFCC.out _ HW2.out; have hfA := HFA.out))
                clear hfA
                have hq1 := HQ1.out _ HW2.out
                have hpA := HPA.out
                go_quiet (fail)
                go_wp2_with fail
                rw [← hpA]
                clear hpA
                go_loopw [6] (fun i0 wr => ∃ k : Nat, k ≤ i.n ∧ i0 = .int .i64 k ∧ argB C p q (i.args.take k) = true ∧ Below w.heap.size w wr ∧ BoxI wr w.heap.size (w.heap.size + 1) B C p i) (fun i0 wr => i.n - (intOf i0).toNat)
                case atStart => exact ⟨0, Nat.zero_le _, rfl, rfl, below_drewN HW2.out _, HX2.out.keep (below_drewN (Below.refl _ _) _)⟩
                case round =>
                  obtain ⟨k, hk, rfl, hac, hb, hX3⟩ := hrel
                  have HAC := Lib.hid hac
                  have HX3 := Lib.hid hX3
                  have hall3 := hX3.all
                  have hq1 := HQ1.out _ hb
                  clear hac hX3 hall hcf
                  by_cases hlt : k < i.n
                  · have hkq : k < q.n := by omega
                    obtain ⟨ab, ao, hiA, hab, x, hx, hwx, hcx⟩ := (HL.out.keep HC.out.le hb).at hlt
                    obtain ⟨qb, qo, hqA, hqb, y, hy, hcy⟩ := (HQA.out.below (hb.mono HC.out.le)).at hkq
                    have hpA := HPA.out
                    have HT : Hid (argB C p q (i.args.take (k + 1)) = if y then arrB C p x else regB p x) := by
                      unfold Hid argB
                      have hz : (i.args.take (k + 1)).zip q.arrays = (i.args.take k).zip q.arrays ++ [(x, y)] := by
                        apply List.ext_getElem?
                        intro j
                        rcases Nat.lt_trichotomy j k with h | h | h
                        · rw [List.getElem?_append_left (by simp [List.length_zip]; have := HL.out.1; have := HQA.out.1; omega)]
                          simp [List.getElem?_zip_eq_some, List.zip, List.getElem?_zipWith, List.getElem?_take, h, Nat.lt_succ_of_lt h]
                        · subst h
                          rw [List.getElem?_append_right (by simp [List.length_zip]; omega)]
                          simp [List.zip, List.getElem?_zipWith, List.getElem?_take, hx, hy]
                          have := HL.out.1; have := HQA.out.1
                          rw [show j - min j (min i.args.length q.arrays.length) = 0 by omega]
                          rfl
                        · rw [List.getElem?_eq_none (by simp [List.length_zip]; omega), List.getElem?_eq_none (by simp [List.length_zip]; omega)]
                      rw [hz, List.all_append, show ((i.args.take k).zip q.arrays).all _ = true from HAC.out]
                      simp
                    have HXX := Lib.hid hx
                    have HYY := Lib.hid hy
                    obtain ⟨z, hz⟩ : ∃ z, z = if y then arrB C p x else regB p x := ⟨_, rfl⟩
                    rw [← hz] at HT
                    have HZ := Lib.hid hz
                    have HNO : Hid (z = false → argB C p q i.args = false) := fun h => by
                      unfold argB
                      rw [List.all_eq_false]
                      refine ⟨(x, y), ?_, by show ¬ (if y = true then arrB C p x else regB p x) = true; rw [← HZ.out, h]; decide⟩
                      apply List.mem_of_getElem? (i := k)
                      simp [List.zip, List.getElem?_zipWith, HXX.out, HYY.out]
                    have habl : ab < wr.heap.size := Nat.lt_of_lt_of_le hab (Nat.le_trans HC.out.le hb.size)
                    have hqbl : qb < wr.heap.size := Nat.lt_of_lt_of_le hqb (Nat.le_trans HC.out.le hb.size)
                    have HB34 : Hid (∀ w3, Below wr.drew.heap.size wr.drew w3 → w3.cell? ⟨qb, qo + k, none⟩ = some (.bool y) ∧ w3.cell? ⟨ab, ao + k, none⟩ = some (.int .i64 x)) := fun w3 h3 => ⟨((Gr.trans (Below.refl wr.heap.size wr).drew h3).cell (p := ⟨qb, qo + k, none⟩) hqbl).trans hcy, ((Gr.trans (Below.refl wr.heap.size wr).drew h3).cell (p := ⟨ab, ao + k, none⟩) habl).trans hcx⟩
                    clear hx hy hz
                    cases y
                    · have HZR : Hid (z = regB p x) := HZ.out
                      cases z
                      · have HF := Lib.hid (HNO.out rfl)
                        go_wp2_with fail
                        refine wp_region_segs_h [17, 21] [some 69, some 70, some 71, some 72, some 73, some 74, some 75, some 76, some 77, some 78, some 79, some 80, some 81, some 82, some 83, some 84, some 85, some 86, some 87, some 88, some 89, some 90, some 91, some 92, some 93, some 94, some 95, some 96, some 97, some 98, some 99, some 100, some 101, some 102, some 103, some 104, some 105, some 106, some 107, some 108, some 109, some 110, some 111] (by kernel_rfl) (by kernel_rfl) rfl (fun OPS hOPS => ?_)
                        obtain ⟨o10, hO10, hd10⟩ := hOPS 10 _ rfl; obtain ⟨o20, hO20, hd20⟩ := hOPS 20 _ rfl; obtain ⟨o32, hO32, hd32⟩ := hOPS 32 _ rfl; clear hOPS
                        (refine seg_step (fun K hK => ?_); simp only [List.take_succ_cons, List.take_zero, List.drop_succ_cons, List.drop_zero]; (repeat still_step); refine wpStill_nil ?_)
                        go_wp2_with fail
                        (refine seg_step (fun K hK => ?_); simp only [List.take_succ_cons, List.take_zero, List.drop_succ_cons, List.drop_zero]; (repeat still_step); refine wpStill_nil ?_)
                        go_wp2_with ((rw [← HPA.out]; (with_reducible refine (q_reg C p x _).mono ?_); rintro e w3 ⟨rfl, hb3⟩; rw [← HZR.out]; have HX4 := Lib.hid (HX3.out.drew.keep hb3); have HB4 := Lib.hid (Gr.trans (Gr.trans hb (Below.refl _ _).drew) hb3); clear hb3))
                        (refine seg_done ?_; simp only [List.drop_succ_cons, List.drop_zero]; go_wp2_with fail)
                        go_ret
                        exact ⟨ret_bool (HR.out.trans HF.out).symm, HB4.out⟩
                      · go_wp2_with fail
                        refine wp_region_segs_h [17, 21] [some 69, some 70, some 71, some 72, some 73, some 74, some 75, some 76, some 77, some 78, some 79, some 80, some 81, some 82, some 83, some 84, some 85, some 86, some 87, some 88, some 89, some 90, some 91, some 92, some 93, some 94, some 95, some 96, some 97, some 98, some 99, some 100, some 101, some 102, some 103, some 104, some 105, some 106, some 107, some 108, some 109, some 110, some 111] (by kernel_rfl) (by kernel_rfl) rfl (fun OPS hOPS => ?_)
                        obtain ⟨o10, hO10, hd10⟩ := hOPS 10 _ rfl; obtain ⟨o20, hO20, hd20⟩ := hOPS 20 _ rfl; obtain ⟨o32, hO32, hd32⟩ := hOPS 32 _ rfl; clear hOPS
                        (refine seg_step (fun K hK => ?_); simp only [List.take_succ_cons, List.take_zero, List.drop_succ_cons, List.drop_zero]; (repeat still_step); refine wpStill_nil ?_)
                        go_wp2_with fail
                        (refine seg_step (fun K hK => ?_); simp only [List.take_succ_cons, List.take_zero, List.drop_succ_cons, List.drop_zero]; (repeat still_step); refine wpStill_nil ?_)
                        go_wp2_with ((rw [← HPA.out]; (with_reducible refine (q_reg C p x _).mono ?_); rintro e w3 ⟨rfl, hb3⟩; rw [← HZR.out]; have HX4 := Lib.hid (HX3.out.drew.keep hb3); have HB4 := Lib.hid (Gr.trans (Gr.trans hb (Below.refl _ _).drew) hb3); clear hb3))
                        (refine seg_done ?_; simp only [List.drop_succ_cons, List.drop_zero]; go_wp2_with fail)
                        rw [← hpA, ← hiA, ← hqA]
                        go_roundw
                        case rel => exact ⟨k + 1, by omega, by go_num, HT.out, HB4.out, HX4.out⟩
                        case measure => simp [intOf]; omega
                    · have HZA : Hid (z = arrB C p x) := HZ.out
                      cases z
                      · have HF := Lib.hid (HNO.out rfl)
                        go_wp2_with fail
                        refine wp_region_segs_h [17, 21] [some 69, some 70, some 71, some 72, some 73, some 74, some 75, some 76, some 77, some 78, some 79, some 80, some 81, some 82, some 83, some 84, some 85, some 86, some 87, some 88, some 89, some 90, some 91, some 92, some 93, some 94, some 95, some 96, some 97, some 98, some 99, some 100, some 101, some 102, some 103, some 104, some 105, some 106, some 107, some 108, some 109, some 110, some 111] (by kernel_rfl) (by kernel_rfl) rfl (fun OPS hOPS => ?_)
                        obtain ⟨o10, hO10, hd10⟩ := hOPS 10 _ rfl; obtain ⟨o20, hO20, hd20⟩ := hOPS 20 _ rfl; obtain ⟨o32, hO32, hd32⟩ := hOPS 32 _ rfl; clear hOPS
                        (refine seg_step (fun K hK => ?_); simp only [List.take_succ_cons, List.take_zero, List.drop_succ_cons, List.drop_zero]; (repeat still_step); refine wpStill_nil ?_)
                        go_wp2_with ((rw [← HPA.out]; (with_reducible refine (q_array HX3.out.drew.at_ x hwx).mono ?_); rintro e w3 ⟨rfl, hb3⟩; rw [← HZA.out]; have HX4 := Lib.hid (HX3.out.drew.keep hb3); have HB4 := Lib.hid (Gr.trans (Gr.trans hb (Below.refl _ _).drew) hb3); have hall4 := HX4.out.all; have hq4 := HQ1.out _ HB4.out; have hcy4 := (HB34.out _ hb3).1; have hcx4 := (HB34.out _ hb3).2; clear hb3))
                        (refine seg_step (fun K hK => ?_); simp only [List.take_succ_cons, List.take_zero, List.drop_succ_cons, List.drop_zero]; (repeat still_step); refine wpStill_nil ?_)
                        (refine wpList_step (fun K hK => ?_); go_simp; refine hK _ _ ?_; clear hK K)
                        (go_wp2_with fail)
                        (refine seg_done ?_; simp only [List.drop_succ_cons, List.drop_zero])
                        (refine wpList_step (fun K hK => ?_); go_simp; refine hK _ _ ?_; clear hK K)
                        go_wp2_with fail
                        go_ret
                        exact ⟨ret_bool (HR.out.trans HF.out).symm, HB4.out⟩
                      · go_wp2_with fail
                        refine wp_region_segs_h [17, 21] [some 69, some 70, some 71, some 72, some 73, some 74, some 75, some 76, some 77, some 78, some 79, some 80, some 81, some 82, some 83, some 84, some 85, some 86, some 87, some 88, some 89, some 90, some 91, some 92, some 93, some 94, some 95, some 96, some 97, some 98, some 99, some 100, some 101, some 102, some 103, some 104, some 105, some 106, some 107, some 108, some 109, some 110, some 111] (by kernel_rfl) (by kernel_rfl) rfl (fun OPS hOPS => ?_)
                        obtain ⟨o10, hO10, hd10⟩ := hOPS 10 _ rfl; obtain ⟨o20, hO20, hd20⟩ := hOPS 20 _ rfl; obtain ⟨o32, hO32, hd32⟩ := hOPS 32 _ rfl; clear hOPS
                        (refine seg_step (fun K hK => ?_); simp only [List.take_succ_cons, List.take_zero, List.drop_succ_cons, List.drop_zero]; (repeat still_step); refine wpStill_nil ?_)
                        go_wp2_with ((rw [← HPA.out]; (with_reducible refine (q_array HX3.out.drew.at_ x hwx).mono ?_); rintro e w3 ⟨rfl, hb3⟩; rw [← HZA.out]; have HX4 := Lib.hid (HX3.out.drew.keep hb3); have HB4 := Lib.hid (Gr.trans (Gr.trans hb (Below.refl _ _).drew) hb3); have hall4 := HX4.out.all; have hq4 := HQ1.out _ HB4.out; have hcy4 := (HB34.out _ hb3).1; have hcx4 := (HB34.out _ hb3).2; clear hb3))
                        (refine seg_step (fun K hK => ?_); simp only [List.take_succ_cons, List.take_zero, List.drop_succ_cons, List.drop_zero]; (repeat still_step); refine wpStill_nil ?_)
                        go_wp2_with fail
                        (refine seg_done ?_; simp only [List.drop_succ_cons, List.drop_zero]; go_wp2_with fail)
                        rw [← hpA, ← hiA, ← hqA]
                        go_roundw
                        case rel => exact ⟨k + 1, by omega, by go_num, HT.out, HB4.out, HX4.out⟩
                        case measure => simp [intOf]; omega
                  · obtain rfl : k = i.n := by omega
                    go_wp2_with fail
                    go_ret
                    exact ⟨ret_bool (by rw [HR.out]; have := HAC.out; rw [List.take_of_length_le (by rw [HL.out.1]; exact Nat.le_refl _)] at this; exact this.symm), hb⟩
end Go.Proofs.YtankpckkiikmaaaDoor
namespace Go.Proofs.YtankpckkiikmaaaDoor
open Go.RowKit Cod
def Cod.namesS : List ByteArray := [⟨#[99, 111, 110, 115, 116]⟩, ⟨#[109, 111, 118, 101]⟩, ⟨#[103, 101, 116, 103]⟩, ⟨#[115, 101, 116, 103]⟩, ⟨#[103, 101, 116, 115]⟩, ⟨#[115, 101, 116, 115]⟩, ⟨#[102, 105, 101, 108, 100]⟩, ⟨#[115, 101, 116, 102]⟩, ⟨#[107, 101, 121]⟩, ⟨#[103, 101, 116, 120]⟩, ⟨#[115, 101, 116, 120]⟩, ⟨#[104, 97, 115]⟩, ⟨#[100, 101, 108]⟩, ⟨#[99, 108, 101, 97, 114]⟩, ⟨#[108, 101, 110]⟩, ⟨#[97, 114, 105, 116, 104]⟩, ⟨#[99, 109, 112]⟩, ⟨#[99, 97, 116]⟩, ⟨#[109, 97, 116, 99, 104]⟩, ⟨#[116, 114, 117, 101]⟩, ⟨#[110, 111, 116]⟩, ⟨#[106, 117, 109, 112]⟩, ⟨#[105, 102]⟩, ⟨#[117, 110, 108, 101, 115, 115]⟩, ⟨#[99, 97, 108, 108]⟩, ⟨#[98, 117, 105, 108, 116, 105, 110]⟩, ⟨#[115, 112, 108, 105, 116]⟩, ⟨#[115, 117, 98]⟩, ⟨#[103, 101, 116, 108, 105, 110, 101]⟩, ⟨#[112, 114, 105, 110, 116]⟩, ⟨#[107, 101, 121, 115]⟩, ⟨#[101, 97, 99, 104]⟩, ⟨#[114, 101, 116, 117, 114, 110]⟩, ⟨#[110, 101, 120, 116]⟩, ⟨#[101, 120, 105, 116]⟩, ⟨#[101, 110, 100]⟩]
def Cod.itB (n : Int) : ByteArray := ⟨(Lib.itoa n).toArray⟩
def Cod.opw (op : Int) : ByteArray := ⟨([111, 112] ++ Lib.itoa op).toArray⟩
def Cod.wordB (op : Int) : ByteArray := if 1 ≤ op ∧ op ≤ 36 then namesS.getD (op - 1).toNat ⟨#[]⟩ else opw op
def Cod.partsS (i : IV) : List ByteArray := [wordB i.op, itB i.a, itB i.b, itB i.c] ++ (if empB i.s then [] else [i.s])
def Cod.datas (xs : List ByteArray) : List (List UInt8) := xs.map (·.data.toList)
def Cod.joinD (xs : List ByteArray) (sep : ByteArray) : List UInt8 := Lib.join (datas xs) sep.data.toList
theorem joinD_nil (sep : ByteArray) : joinD [] sep = [] := rfl
theorem joinD_len (xs : List ByteArray) (sep : ByteArray) (m : Nat) (h : ∀ x ∈ xs, x.size ≤ m) : (joinD xs sep).length ≤ xs.length * (m + sep.size) := by
  cases xs with
  | nil => simp [joinD_nil]
  | cons x r =>
    have e : (joinD (x :: r) sep).length = sep.data.toList.length * (datas r).length + Lib.lens (datas (x :: r)) := Lib.join_length _ _ _
    have hl : ∀ l : List ByteArray, (∀ x ∈ l, x.size ≤ m) → Lib.lens (datas l) ≤ l.length * m := by
      intro l
      induction l with
      | nil => intro _; simp [Lib.lens, datas]
      | cons y l ih =>
        intro h
        have h1 := h y (by simp)
        have h2 := ih (fun x hx => h x (by simp [hx]))
        have e : Lib.lens (datas (y :: l)) = y.size + Lib.lens (datas l) := by simp [Lib.lens, datas]
        rw [e, List.length_cons, Nat.add_mul]; omega
    have h1 := hl (x :: r) h
    have h2 : (datas r).length = r.length := by simp [datas]
    have h3 : sep.data.toList.length = sep.size := rfl
    rw [e, h2, h3]
    simp only [List.length_cons] at h1 ⊢
    rw [Nat.mul_add]
    have : sep.size * r.length ≤ (r.length + 1) * sep.size := by rw [Nat.mul_comm]; exact Nat.mul_le_mul_right _ (by omega)
    omega
def Cod.joinB (l : List ByteArray) : ByteArray := ⟨(joinD l ⟨#[32]⟩).toArray⟩
def Cod.showB (i : IV) : ByteArray := if i.args = [] then joinB (partsS i) else joinB (partsS i) ++ ((⟨#[32, 91]⟩ ++ joinB (i.args.map itB)) ++ ⟨#[93]⟩)
theorem joinB_size {xs : List ByteArray} (m : Nat) (h : ∀ x ∈ xs, x.size ≤ m) : (joinB xs).size ≤ xs.length * (m + 1) := by
  have := joinD_len xs ⟨#[32]⟩ m h
  exact this
theorem p_join {w : World} {B : Nat} {A : Option Addr} {n cap : Nat} {xs : List ByteArray} (h : Strs w B A n xs) (hB : B ≤ w.heap.size) (hc : n ≤ cap) (hn : n ≤ 1000) (hx : ∀ x ∈ xs, x.size ≤ 1000) :
    Calls Tryd.prog 25 #[.slice A n cap, .string ⟨#[32]⟩] w fun e w' => e = .returned (.string (joinB xs)) ∧ Below w.heap.size w w' := by
  obtain ⟨h1, h2⟩ := h
  rcases Nat.eq_zero_or_pos n with rfl | hp
  · obtain rfl := List.length_eq_zero_iff.1 h1
    refine (Tryd.strings_Join_none A cap ⟨#[32]⟩ w).mono ?_
    rintro e w' ⟨rfl, rfl⟩
    exact ⟨rfl, Below.refl _ _⟩
  · obtain ⟨b, o, rfl, hb, hcx⟩ := h2 hp
    have hlen := joinB_size 1000 hx
    have hlen2 : (Lib.join (xs.map (·.data.toList)) (⟨#[32]⟩ : ByteArray).data.toList).length ≤ 140737488355328 := by
      have h3 : (joinB xs).size ≤ 1000 * 1001 := Nat.le_trans hlen (Nat.mul_le_mul (by omega) (Nat.le_refl _))
      exact Nat.le_trans h3 (by decide)
    have := Tryd.strings_Join b o cap xs ⟨#[32]⟩ w (fun j x hj => by
      obtain ⟨hj1, rfl⟩ := List.getElem?_eq_some_iff.1 hj
      exact hcx j hj1) (by omega) (by omega) (by omega) hlen2
    rw [h1] at this
    exact this
theorem own_lit {w : World} {B e : Nat} {l : List ByteArray} (hB : B ≤ w.heap.size) (hl : l.length ≤ 1000) : (w.alloc (.cells (svals l).toArray e)).ownsRow B e 1 (.slice (some ⟨w.heap.size, 0, none⟩) l.length l.length) l.length (svals l) :=
  ⟨by simp [svals], .inr ⟨w.heap.size, l.length, (svals l).toArray, rfl, hB, (MapKept.heap_alloc w _).1, Nat.le_refl _, by unfold maxLen; omega, by simp [svals], by simp only [svals, List.toList_toArray]; exact List.take_of_length_le (by simp)⟩⟩
theorem info_str : (Tryd.prog.info? 9).map (fun i => (i.zero, i.size, i.bytes)) = some (some (.string ⟨#[]⟩), 1, 16) := by kernel_rfl
theorem itB_size {n : Int} (hn : (Lit.int .i64 n).wf = true) : (itB n).size ≤ 21 := by
  obtain ⟨n1, n2⟩ := i64_bd hn
  exact Lib.itoa_length_le n n1 n2
theorem below_grow {w : World} (k : Nat) (os : Array Obj) : Below w.heap.size w (Go.Sort.grow (w.drewN k) os) :=
  ⟨rfl, rfl, rfl, by simp [Go.Sort.grow], fun j hj => by simp [Go.Sort.grow, World.drewN, Array.getElem?_append_left hj]⟩
theorem p_itoa (n : Int) (w : World) (hn : (Lit.int .i64 n).wf = true) (ht : Lib.TabIs Tryd.prog w "internal/strconv.uint64pow10" .u64 Lib.pow10Tab) :
    Calls Tryd.prog 24 #[.int .i64 n] w fun e w' => e = .returned (.string (itB n)) ∧ Below w.heap.size w w' := by
  obtain ⟨n1, n2⟩ := i64_bd hn
  refine (Tryd.strconv_Itoa n n1 n2 w ht).mono ?_
  rintro e w' ⟨rfl, k, os, rfl⟩
  exact ⟨rfl, below_grow k os⟩
def namesA : Array Value := (svals namesS).toArray
section
variable {P : Program} {ops : Array Oper} {rest : List Oper} {o : Oper} {a : Act} {Q : Exit → Act → World → Prop} {w : World}
/-- A value that is long is hidden. -/
theorem wp_hide_val (hg : o.guard = none) (ty : TypeId) (parts : Array (Nat × Operand)) (hop : o.op = .build ty parts) (v : Value) (hv : (execOp a.eval o).run P w = .ok (.value v) w) (h : ∀ nv, nv = v → wpList P ops Q rest (a.put o.dst nv) w) : wpList P ops Q (o :: rest) a w := by
  refine wpList_plain hg fun K hK => ?_
  unfold Oper.wp
  rw [hv]
  exact hK _ _ (h v rfl)
theorem wp_hide_alloc (hg : o.guard = none) (ty : TypeId) (n : Nat) (parts : Array (Nat × Operand)) (hop : o.op = .buildSlice ty n parts) (v : Value) (ob : Obj) (hv : (execOp a.eval o).run P w = .ok (.value v) (w.alloc ob)) (h : ∀ w1, w1.heap.size = w.heap.size + 1 → Below w.heap.size w w1 → w1.heap[w.heap.size]? = some ob → wpList P ops Q rest (a.put o.dst v) w1) : wpList P ops Q (o :: rest) a w := by
  refine wpList_plain hg fun K hK => ?_
  unfold Oper.wp
  rw [hv]
  exact hK _ _ (h _ (by simp) ((Below.refl _ _).alloc (Nat.le_refl _) _) (MapKept.heap_alloc w _).1)
end
section
variable {P : Program} {ops : Array Oper} {rest : List Oper} {o : Oper} {a : Act} {Q : Exit → Act → World → Prop} {w0 : World}
/-- A row of this call's own is stored whole. -/
theorem wp_store_new (hgd : o.guard = none) (ty : TypeId) (x y : Operand) (ho : o.op = .store ty x y) (z cells : Array Value) (e : TypeId) (n0 : Nat) (hn0 : w0.heap.size = n0) (hx : a.eval x = .pointer (some ⟨n0, 0, none⟩)) (hy : a.eval y = .agg cells) (hz : z.size = cells.size)
    (hi : (P.info? ty).map (·.size) = some cells.size) (h1 : cells.all (·.oneCell') = true)
    (h : ∀ w', Below w0.heap.size w0 w' → w'.rangeAt n0 0 cells.toList → wpList P ops Q rest (a.put o.dst undef) w') : wpList P ops Q (o :: rest) a (w0.alloc (.cells z e)) := by
  subst hn0
  have hth : (w0.alloc (.cells z e)).there w0.heap.size 0 cells.size := fun j hj => by
    constructor
    · rw [Nat.zero_add, World.cell?_alloc_at _ _ _ _ rfl]
      simp; omega
    · simp
  refine wpList_store_mid hgd ty x y ho w0.heap.size 0 cells hx hy hth hi h1 (h _ ?_ (World.rangeAt_setCells_same _ _ _ _ (by simpa using hth)))
  have : ∀ (vs : List Value) (o' : Nat) (w : World), Below w0.heap.size w0 w → Below w0.heap.size w0 (w.setCells w0.heap.size o' vs) := by
    intro vs
    induction vs with
    | nil => intro o' w h; exact h
    | cons v vs ih => intro o' w h; exact ih _ _ (h.setCell (by simp) _)
  exact this _ _ _ ((Below.refl _ _).alloc (Nat.le_refl _) _)
end
/-- A world in which Show stands: the table; the instruction's box; the names. -/
structure Sh (w0 w : World) (i : IV) : Prop where
  tab : Lib.TabBelow Tryd.prog w0.heap.size w0 "internal/strconv.uint64pow10" .u64 Lib.pow10Tab
  below : Below w0.heap.size w0 w
  il : w.heap[w0.heap.size]? = some (.cells #[.int .u8 i.op, .int .i64 i.a, .int .i64 i.b, .int .i64 i.c, .string i.s, .slice i.A i.n i.cap] 31 (0, 0))
  nm : w.rangeAt (w0.heap.size + 1) 0 namesA.toList
  lt : w0.heap.size + 1 < w.heap.size
theorem Sh.is {w0 w : World} {i : IV} (h : Sh w0 w i) : Lib.TabIs Tryd.prog w "internal/strconv.uint64pow10" .u64 Lib.pow10Tab := h.tab w h.below
theorem Sh.keep {w0 w w' : World} {i : IV} (h : Sh w0 w i) (hb : Below w.heap.size w w') : Sh w0 w' i :=
  ⟨h.tab, Gr.trans h.below hb, (hb.block _ (Array.getElem?_eq_some_iff.1 h.il).1).trans h.il, fun j v hj => (hb.cell (p := ⟨w0.heap.size + 1, 0 + j, none⟩) h.lt).trans (h.nm j v hj), Nat.lt_of_lt_of_le h.lt hb.size⟩
theorem Sh.keep2 {w0 w w' : World} {i : IV} (h : Sh w0 w i) (hb : Below (w0.heap.size + 2) w w') : Sh w0 w' i :=
  ⟨h.tab, h.below.trans (hb.mono (by omega)), (hb.block _ (by omega)).trans h.il, fun j v hj => (hb.cell (p := ⟨w0.heap.size + 1, 0 + j, none⟩) (by show w0.heap.size + 1 < _; omega)).trans (h.nm j v hj), Nat.lt_of_lt_of_le h.lt hb.size⟩
theorem Sh.drew {w0 w : World} {i : IV} (h : Sh w0 w i) : Sh w0 w.drew i := h.keep (Below.refl _ _).drew
theorem Sh.alloc {w0 w : World} {i : IV} (h : Sh w0 w i) (o : Obj) : Sh w0 (w.alloc o) i := h.keep ((Below.refl _ _).alloc (Nat.le_refl _) _)
theorem Sh.cells {w0 w' : World} {i : IV} (h : Sh w0 w' i) : w'.cell? ⟨w0.heap.size, 0, none⟩ = some (.int .u8 i.op) ∧ w'.cell? ⟨w0.heap.size, 1, none⟩ = some (.int .i64 i.a) ∧ w'.cell? ⟨w0.heap.size, 2, none⟩ = some (.int .i64 i.b) ∧ w'.cell? ⟨w0.heap.size, 3, none⟩ = some (.int .i64 i.c) ∧ w'.cell? ⟨w0.heap.size, 4, none⟩ = some (.string i.s) ∧ w'.cell? ⟨w0.heap.size, 5, none⟩ = some (.slice i.A i.n i.cap) := icells h.il
theorem Sh.cells' {w w' : World} {i : IV} (h : Sh w w' i) : w'.cell? ⟨w.heap.size, 0, none⟩ = some (.int .u8 i.op) ∧ w'.cell? ⟨w.heap.size, 1, none⟩ = some (.int .i64 i.a) ∧ w'.cell? ⟨w.heap.size, 2, none⟩ = some (.int .i64 i.b) ∧ w'.cell? ⟨w.heap.size, 3, none⟩ = some (.int .i64 i.c) ∧ w'.cell? ⟨w.heap.size, 4, none⟩ = some (.string i.s) ∧ w'.cell? ⟨w.heap.size, 5, none⟩ = some (.slice i.A i.n i.cap) := icells h.il
theorem Sh.made {w0 w1 : World} (i : IV) (h : Lib.TabBelow Tryd.prog w0.heap.size w0 "internal/strconv.uint64pow10" .u64 Lib.pow10Tab) (hb : Below (w0.alloc (.cells #[.int .u8 i.op, .int .i64 i.a, .int .i64 i.b, .int .i64 i.c, .string i.s, .slice i.A i.n i.cap] 31)).heap.size (w0.alloc (.cells #[.int .u8 i.op, .int .i64 i.a, .int .i64 i.b, .int .i64 i.c, .string i.s, .slice i.A i.n i.cap] 31)) w1) (hr : w1.rangeAt (w0.heap.size + 1) 0 namesA.toList) : Sh w0 w1 i := by
  refine ⟨h, Gr.trans ((Below.refl _ _).alloc (Nat.le_refl _) _) hb, (hb.block _ (by simp)).trans (MapKept.heap_alloc w0 _).1, hr, ?_⟩
  have hc := hr 0 (.string ⟨#[99, 111, 110, 115, 116]⟩) rfl
  rcases Nat.lt_or_ge (w0.heap.size + 1) w1.heap.size with h | h
  · exact h
  · simp [World.cell?, Array.getElem?_eq_none h] at hc
theorem Sh.name {w0 w : World} {i : IV} (h : Sh w0 w i) (op : Int) (h1 : 1 ≤ op) (h2 : op ≤ 36) : w.cell? ⟨w0.heap.size + 1, op.toNat - 1, none⟩ = some (.string (wordB op)) := by
  have hl : op.toNat - 1 < namesS.length := by show _ < 36; omega
  have := h.nm (op.toNat - 1) (.string (wordB op)) (by
    unfold namesA wordB
    rw [if_pos ⟨h1, h2⟩, show (op - 1).toNat = op.toNat - 1 by omega]
    rw [List.getD_eq_getElem?_getD, List.getElem?_eq_getElem hl]
    simp [svals, List.getElem?_eq_getElem hl])
  rwa [Nat.zero_add] at this
theorem emp_iff {s : ByteArray} {x : Bool} (h : empB s = x) : (s.toList = [] ↔ x = true) := by
  subst h
  unfold empB
  rw [ByteArray.toList_eq]
  simp
theorem parts_len (i : IV) : 4 ≤ (partsS i).length ∧ (partsS i).length ≤ 5 := by
  unfold partsS
  split <;> simp
theorem word_size (op : Int) (h : (Lit.int .i64 op).wf = true) : (wordB op).size ≤ 1000 := by
  unfold wordB
  split
  · have : ∀ x ∈ namesS, x.size ≤ 1000 := by decide
    rcases Nat.lt_or_ge (op - 1).toNat namesS.length with hl | hl
    · rw [List.getD_eq_getElem?_getD, List.getElem?_eq_getElem hl]
      exact this _ (List.getElem_mem _)
    · rw [List.getD_eq_getElem?_getD, List.getElem?_eq_none hl]
      decide
  · have := itB_size h
    have h2 : (opw op).size = 2 + (itB op).size := by
      show ([111, 112] ++ Lib.itoa op).toArray.size = 2 + (Lib.itoa op).toArray.size
      simp; omega
    omega
theorem parts_size (i : IV) (hi : IOk i) (ho : (Lit.int .i64 i.op).wf = true) (hs : i.s.size ≤ 1000) : ∀ x ∈ partsS i, x.size ≤ 1000 := by
  intro x hx
  unfold partsS at hx
  simp only [List.mem_append, List.mem_cons, List.not_mem_nil, or_false] at hx
  rcases hx with (rfl | rfl | rfl | rfl) | hx
  · exact word_size _ ho
  · exact Nat.le_trans (itB_size hi.a) (by decide)
  · exact Nat.le_trans (itB_size hi.b) (by decide)
  · exact Nat.le_trans (itB_size hi.c) (by decide)
  · split at hx
    · cases hx
    · simp at hx; subst hx; exact hs
theorem own_ltx {w : World} {base e sz n g : Nat} {u : Value} {xs : List Value} (h : w.ownsRow base e sz u n xs) (hg : u.ownBlock = some g) : g < w.heap.size := by
  rcases h.2 with ⟨h1, h0⟩ | ⟨g', cap, cur, h1, _, h3, _⟩
  · subst h1; cases hg
  · subst h1
    injection hg with hg
    subst hg
    exact (Array.getElem?_eq_some_iff.1 h3).1
theorem strs_form' {w : World} {base e n : Nat} {u : Value} {xs : List ByteArray} (h : w.ownsRow base e 1 u n (svals xs)) : ∃ A cap, u = .slice A n cap ∧ n ≤ cap ∧ cap ≤ maxLen ∧ Strs w w.heap.size A n xs := by
  rcases h.2 with ⟨h1, h0⟩ | ⟨g, cap, cur, h1, _, _, h4, h5, _⟩
  · subst h0
    subst h1
    exact ⟨none, 0, rfl, Nat.le_refl _, Nat.zero_le _, Strs.of_own h⟩
  · subst h1
    exact ⟨_, cap, rfl, h4, h5, Strs.of_own h⟩
set_option maxRecDepth 100000 in
set_option maxHeartbeats 8000000 in
theorem p_show_inE {w : World} {B : Nat} (i : IV) (hi : IOk i) (hoi : (Lit.int .i64 i.op).wf = true) (ht : Lib.TabBelow Tryd.prog w.heap.size w "internal/strconv.uint64pow10" .u64 Lib.pow10Tab) (hl : Ints w B i.A i.n i.args) (hB : B ≤ w.heap.size) (hnb : i.n ≤ 1000) (hsb : i.s.size ≤ 1000) (hop : 1 ≤ i.op ∧ i.op ≤ 36) (he : empB i.s = true) :
    Calls Tryd.prog 8 #[.agg #[.int .u8 i.op, .int .i64 i.a, .int .i64 i.b, .int .i64 i.c, .string i.s, .slice i.A i.n i.cap]] w fun e w' => e = .returned (.string (showB i)) ∧ Below w.heap.size w w' := by
  have HI := Lib.hid hi
  have HT := Lib.hid ht
  have HL := Lib.hid (hl.keep hB (Below.refl _ _))
  have HB := Lib.hid hB
  have HOW := Lib.hid hoi
  have HNB := Lib.hid hnb
  have hinfo : (Tryd.prog.info? 59).map (·.size) = some 36 := by kernel_rfl
  have HIN := Lib.hid hinfo
  have hsz := itB_size hoi
  have HPL := Lib.hid (parts_size i hi hoi hsb)
  have HAL : Hid (∀ x ∈ i.args.map itB, x.size ≤ 1000) := fun x hx => by
    obtain ⟨n, hn, rfl⟩ := List.mem_map.1 hx
    exact Nat.le_trans (itB_size (hl.2.2.1 n hn)) (by decide)
  have HJ1 : Hid ((joinB (partsS i)).size ≤ 10010) := by
    have h1 := joinB_size 1000 (parts_size i hi hoi hsb)
    have h2 := parts_len i
    exact Nat.le_trans h1 (Nat.le_trans (Nat.mul_le_mul_right _ (show (partsS i).length ≤ 5 by omega)) (by decide))
  have HJ2 : Hid ((joinB (i.args.map itB)).size ≤ 1001000) := by
    have h1 := joinB_size 1000 HAL.out
    exact Nat.le_trans h1 (Nat.le_trans (Nat.mul_le_mul_right _ (show (i.args.map itB).length ≤ 1000 by rw [List.length_map, hl.1]; exact hnb)) (by decide))
  obtain ⟨op1, op2⟩ := hop
  have hz1 : 0 ≤ i.op - 1 := by omega
  have hz2 : i.op - 1 < 36 := by omega
  have HNM : Hid (∀ w2, Sh w w2 i → w2.cell? ⟨w.heap.size + 1, i.op.toNat - 1, none⟩ = some (.string (wordB i.op))) := fun w2 h => h.name _ op1 op2
  clear ht hi hinfo hoi hl hB
  have hse := emp_iff he
  simp only [Bool.false_eq_true, iff_false, iff_true] at hse
  have HE := Lib.hid he
  clear he
  go_enter Tryd.func8, Tryd.ntmps8
  go_wp2_with (first | (refine wp_hide_val rfl 59 _ rfl (.agg namesA) (by kernel_rfl) ?_; intro nv hnv; have HNV := Lib.hid hnv; clear hnv) | (refine wp_store_new rfl _ _ _ rfl _ namesA _ (w.heap.size + 1) (by simp) rfl HNV.out rfl HIN.out (by kernel_rfl) ?_; intro w1 hb1 hr1; have hsh1 := Sh.made i HT.out hb1 hr1; clear hb1 hr1; have hall := hsh1.cells') | (((with_reducible refine (p_itoa i.op _ HOW.out (Sh.is (by assumption))).mono ?_); rintro e w2 ⟨rfl, hb2⟩; have hsh2 := Sh.keep (by assumption) hb2; clear hb2); have hnm := HNM.out _ hsh2; have hall2 := hsh2.cells'))
  have hd2 := hsh2.drew
  clear hall hall2
  clear hnm
  have hall := hd2.cells'
  go_region_held3 (fun w' => w'.cell? ⟨w.heap.size, 0, none⟩ = some (.int .u8 i.op) ∧ w'.cell? ⟨w.heap.size, 1, none⟩ = some (.int .i64 i.a) ∧ w'.cell? ⟨w.heap.size, 2, none⟩ = some (.int .i64 i.b) ∧ w'.cell? ⟨w.heap.size, 3, none⟩ = some (.int .i64 i.c) ∧ w'.cell? ⟨w.heap.size, 4, none⟩ = some (.string i.s) ∧ w'.cell? ⟨w.heap.size, 5, none⟩ = some (.slice i.A i.n i.cap)) (first | exact hall | exact Sh.cells' (by assumption) | exact Sh.cells' (Sh.alloc (by assumption) _) | go_keep) (first | (go_at_call 24; with_reducible refine (p_itoa i.a _ HI.out.a (Sh.is (by assumption))).mono ?_; rintro e w3 ⟨rfl, hb3⟩; have hsh3 := Sh.keep (by assumption) hb3; clear hb3) | (go_at_call 24; with_reducible refine (p_itoa i.b _ HI.out.b (Sh.is (by assumption))).mono ?_; rintro e w3 ⟨rfl, hb3⟩; have hsh3 := Sh.keep (by assumption) hb3; clear hb3) | (go_at_call 24; with_reducible refine (p_itoa i.c _ HI.out.c (Sh.is (by assumption))).mono ?_; rintro e w3 ⟨rfl, hb3⟩; have hsh3 := Sh.keep (by assumption) hb3; clear hb3))
  all_goals
   have hsh4 := hsh3.alloc (.cells #[.string (wordB i.op), .string (itB i.a), .string (itB i.b), .string (itB i.c)] 9)
   have hown : (w3.alloc (.cells #[.string (wordB i.op), .string (itB i.a), .string (itB i.b), .string (itB i.c)] 9)).ownsRow (w.heap.size + 2) 9 1 (.slice (some ⟨w3.heap.size, 0, none⟩) 4 4) 4 (svals [wordB i.op, itB i.a, itB i.b, itB i.c]) := own_lit (l := [wordB i.op, itB i.a, itB i.b, itB i.c]) (by have := hsh3.lt; omega) (by show 4 ≤ 1000; omega)
   generalize w3.alloc (.cells #[.string (wordB i.op), .string (itB i.a), .string (itB i.b), .string (itB i.c)] 9) = W4 at hsh4 hown ⊢
   generalize w3.heap.size = g4 at hown ⊢
   clear hsh3 hall hd2 hsh2 hsh1
   have hall4 := hsh4.cells'
   have hs4 : w.heap.size + 2 ≤ W4.heap.size := by have := hsh4.lt; omega
   have hz1 : 4 + 1 ≤ maxLen := by unfold maxLen; omega
   have hz2 : (4 + 1) * 16 ≤ 140737488355328 := by omega
   have hownP : W4.ownsRow (w.heap.size + 2) 9 1 (.slice (some ⟨g4, 0, none⟩) 4 4) 4 (svals (partsS i)) := by
     rw [show partsS i = [wordB i.op, itB i.a, itB i.b, itB i.c] by unfold partsS; rw [HE.out]; rfl]; exact hown
   clear hown
   go_wp2_with fail
   obtain ⟨W5, vP, nP, hW5⟩ : ∃ (W5 : World) (vP : Value) (nP : Nat), W5 = W4 ∧ vP = .slice (some ⟨g4, 0, none⟩) 4 4 ∧ nP = 4 := ⟨_, _, _, rfl, rfl, rfl⟩
   obtain ⟨rfl, hvP, hnP⟩ := hW5
   rw [← hvP]
   rw [← hvP, ← hnP] at hownP
   clear hvP hnP hall4
   have hsh5 := hsh4
   clear hsh4
   have hs5 := hs4
   have HOWN := Lib.hid hownP
   have HSH := Lib.hid hsh5
   obtain ⟨AP, capP, hvP, hcP, -, hSP⟩ := strs_form' hownP
   have hall5 := hsh5.cells'
   clear hownP hsh5
   subst hvP
   have hnP : nP ≤ 1000 := by have := hSP.1; have := parts_len i; omega
   have HSP := Lib.hid hSP
   have hsz5 : w.heap.size ≤ W5.heap.size := by omega
   clear hSP
   go_wp2_with fail
   go_loopw [6, 52] (fun v i0 wr => ∃ k : Nat, k ≤ i.n ∧ i0 = .int .i64 k ∧ wr.ownsRow W5.heap.size 9 1 v k (svals ((i.args.take k).map itB)) ∧ Below W5.heap.size W5 wr) (fun v i0 wr => i.n - (intOf i0).toNat)
   case atStart => exact ⟨0, Nat.zero_le _, rfl, ⟨rfl, .inl ⟨rfl, rfl⟩⟩, Below.refl _ _⟩
   case round =>
    obtain ⟨k, hk, rfl, howk, hb⟩ := hrel
    have bW : Below w.heap.size w wr := HSH.out.below.trans (hb.mono hsz5)
    have HBW := Lib.hid bW
    have HBB := Lib.hid hb
    have HOK := Lib.hid howk
    by_cases hlt : k < i.n
    · obtain ⟨ab, ao, hiA, hab, x, hx, hwx, hcx⟩ := (HL.out.keep HB.out bW).at hlt
      have HTK : Hid ((i.args.take (k + 1)).map itB = (i.args.take k).map itB ++ [itB x]) := by
        unfold Hid
        rw [take_snoc' hx, List.map_append]; rfl
      have htab := HT.out wr bW
      have hz3 : k + 1 ≤ maxLen := by unfold maxLen; omega
      have hz4 : (k + 1) * 16 ≤ 140737488355328 := by omega
      clear hx howk bW hb hall5
      go_wp2_with (first | ((with_reducible refine (p_itoa x _ hwx htab).mono ?_); rintro e w6 ⟨rfl, hb6⟩; have how6 := own_of_block HOK.out (fun g hg => hb6.block g (own_ltx HOK.out hg)); have hb56 := HBB.out.trans (hb6.mono HBB.out.size); have hbs6 := hb56.size; clear hb6) | (at_builtin; refine wp_app1 rfl _ _ _ rfl 9 1 16 _ Tryd.underlying52 info_str rfl (by decide) W5.heap.size _ _ _ rfl how6 [_] rfl rfl one_str hz3 hz4 hbs6 ?_; intro v7 w7 how7 hgrow7 hne7; have hb57 := hb56.trans (below_grown how6 hgrow7 hbs6); clear hgrow7 hne7))
      have how8 : w7.ownsRow W5.heap.size 9 1 v7 (k + 1) (svals ((i.args.take (k + 1)).map itB)) := by
        rw [HTK.out]; simpa [svals] using how7
      clear how7 how6 hb56
      rw [← hiA]
      go_roundw
      case rel => exact ⟨k + 1, by omega, by go_num, how8, hb57⟩
      case measure => simp [intOf]; omega
    · obtain rfl : k = i.n := by omega
      have htk : (i.args.take i.n) = i.args := List.take_of_length_le (by rw [HL.out.1]; exact Nat.le_refl _)
      rw [htk] at howk
      have hal : (i.args.map itB).length = i.n := by rw [List.length_map, HL.out.1]
      obtain ⟨AQ, capQ, rfl, hcQ, -, hSQ⟩ := strs_form' howk
      have HSQ := Lib.hid hSQ
      have HSPr := Lib.hid (HSP.out.below hb)
      have hle1 := hb.size
      have hj1 := HJ1.out
      have hj2 := HJ2.out
      clear howk hSQ hb bW htk hall5
      by_cases hn0 : i.n = 0
      · have HA : Hid (showB i = joinB (partsS i)) := by
          unfold Hid showB
          rw [if_pos (List.length_eq_zero_iff.1 (by rw [HL.out.1]; exact hn0))]
        have hn1 : decide (0 < i.n) = false := by simp [hn0]
        have hn2 : ¬ 0 < i.n := by omega
        clear hn0 hal
        go_wp2_with (((with_reducible refine (p_join HSPr.out hle1 hcP hnP HPL.out).mono ?_); rintro e w8 ⟨rfl, hb8⟩))
        go_ret
        exact ⟨ret_str HA.out.symm, Gr.trans HBW.out hb8⟩
      · have HA : Hid (showB i = joinB (partsS i) ++ ((⟨#[32, 91]⟩ ++ joinB (i.args.map itB)) ++ ⟨#[93]⟩)) := by
          unfold Hid showB
          rw [if_neg (fun h => hn0 (by rw [← HL.out.1, h]; rfl))]
        have hn1 : 0 < i.n := by omega
        have hal' : (i.args.map itB).length ≤ 1000 := by omega
        clear hn0 hal
        go_wp2_with (first | ((with_reducible refine (p_join HSPr.out hle1 hcP hnP HPL.out).mono ?_); rintro e w8 ⟨rfl, hb8⟩; have HSQ8 := Lib.hid (HSQ.out.below hb8); have hle8 := hb8.size; have HB8 := Lib.hid (Gr.trans HBW.out hb8); clear hb8) | ((with_reducible refine (p_join HSQ8.out hle8 hcQ HNB.out HAL.out).mono ?_); rintro e w9 ⟨rfl, hb9⟩; have HB9 := Lib.hid (Gr.trans HB8.out hb9); clear hb9))
        go_ret
        exact ⟨ret_str HA.out.symm, HB9.out⟩
set_option maxRecDepth 100000 in
set_option maxHeartbeats 8000000 in
theorem p_show_inS {w : World} {B : Nat} (i : IV) (hi : IOk i) (hoi : (Lit.int .i64 i.op).wf = true) (ht : Lib.TabBelow Tryd.prog w.heap.size w "internal/strconv.uint64pow10" .u64 Lib.pow10Tab) (hl : Ints w B i.A i.n i.args) (hB : B ≤ w.heap.size) (hnb : i.n ≤ 1000) (hsb : i.s.size ≤ 1000) (hop : 1 ≤ i.op ∧ i.op ≤ 36) (he : empB i.s = false) :
    Calls Tryd.prog 8 #[.agg #[.int .u8 i.op, .int .i64 i.a, .int .i64 i.b, .int .i64 i.c, .string i.s, .slice i.A i.n i.cap]] w fun e w' => e = .returned (.string (showB i)) ∧ Below w.heap.size w w' := by
  have HI := Lib.hid hi
  have HT := Lib.hid ht
  have HL := Lib.hid (hl.keep hB (Below.refl _ _))
  have HB := Lib.hid hB
  have HOW := Lib.hid hoi
  have HNB := Lib.hid hnb
  have hinfo : (Tryd.prog.info? 59).map (·.size) = some 36 := by kernel_rfl
  have HIN := Lib.hid hinfo
  have hsz := itB_size hoi
  have HPL := Lib.hid (parts_size i hi hoi hsb)
  have HAL : Hid (∀ x ∈ i.args.map itB, x.size ≤ 1000) := fun x hx => by
    obtain ⟨n, hn, rfl⟩ := List.mem_map.1 hx
    exact Nat.le_trans (itB_size (hl.2.2.1 n hn)) (by decide)
  have HJ1 : Hid ((joinB (partsS i)).size ≤ 10010) := by
    have h1 := joinB_size 1000 (parts_size i hi hoi hsb)
    have h2 := parts_len i
    exact Nat.le_trans h1 (Nat.le_trans (Nat.mul_le_mul_right _ (show (partsS i).length ≤ 5 by omega)) (by decide))
  have HJ2 : Hid ((joinB (i.args.map itB)).size ≤ 1001000) := by
    have h1 := joinB_size 1000 HAL.out
    exact Nat.le_trans h1 (Nat.le_trans (Nat.mul_le_mul_right _ (show (i.args.map itB).length ≤ 1000 by rw [List.length_map, hl.1]; exact hnb)) (by decide))
  obtain ⟨op1, op2⟩ := hop
  have hz1 : 0 ≤ i.op - 1 := by omega
  have hz2 : i.op - 1 < 36 := by omega
  have HNM : Hid (∀ w2, Sh w w2 i → w2.cell? ⟨w.heap.size + 1, i.op.toNat - 1, none⟩ = some (.string (wordB i.op))) := fun w2 h => h.name _ op1 op2
  clear ht hi hinfo hoi hl hB
  have hse := emp_iff he
  simp only [Bool.false_eq_true, iff_false, iff_true] at hse
  have HE := Lib.hid he
  have hse2 : i.s.toList.isEmpty = false := by cases hq : i.s.toList.isEmpty with | false => rfl | true => exact absurd (List.isEmpty_iff.1 hq) hse
  have hse3 : (!i.s.toList.isEmpty) = true := by rw [hse2]; rfl
  clear he
  go_enter Tryd.func8, Tryd.ntmps8
  go_wp2_with (first | (refine wp_hide_val rfl 59 _ rfl (.agg namesA) (by kernel_rfl) ?_; intro nv hnv; have HNV := Lib.hid hnv; clear hnv) | (refine wp_store_new rfl _ _ _ rfl _ namesA _ (w.heap.size + 1) (by simp) rfl HNV.out rfl HIN.out (by kernel_rfl) ?_; intro w1 hb1 hr1; have hsh1 := Sh.made i HT.out hb1 hr1; clear hb1 hr1; have hall := hsh1.cells') | (((with_reducible refine (p_itoa i.op _ HOW.out (Sh.is (by assumption))).mono ?_); rintro e w2 ⟨rfl, hb2⟩; have hsh2 := Sh.keep (by assumption) hb2; clear hb2); have hnm := HNM.out _ hsh2; have hall2 := hsh2.cells'))
  have hd2 := hsh2.drew
  clear hall hall2
  clear hnm
  have hall := hd2.cells'
  go_region_held3 (fun w' => w'.cell? ⟨w.heap.size, 0, none⟩ = some (.int .u8 i.op) ∧ w'.cell? ⟨w.heap.size, 1, none⟩ = some (.int .i64 i.a) ∧ w'.cell? ⟨w.heap.size, 2, none⟩ = some (.int .i64 i.b) ∧ w'.cell? ⟨w.heap.size, 3, none⟩ = some (.int .i64 i.c) ∧ w'.cell? ⟨w.heap.size, 4, none⟩ = some (.string i.s) ∧ w'.cell? ⟨w.heap.size, 5, none⟩ = some (.slice i.A i.n i.cap)) (first | exact hall | exact Sh.cells' (by assumption) | exact Sh.cells' (Sh.alloc (by assumption) _) | go_keep) (first | (go_at_call 24; with_reducible refine (p_itoa i.a _ HI.out.a (Sh.is (by assumption))).mono ?_; rintro e w3 ⟨rfl, hb3⟩; have hsh3 := Sh.keep (by assumption) hb3; clear hb3) | (go_at_call 24; with_reducible refine (p_itoa i.b _ HI.out.b (Sh.is (by assumption))).mono ?_; rintro e w3 ⟨rfl, hb3⟩; have hsh3 := Sh.keep (by assumption) hb3; clear hb3) | (go_at_call 24; with_reducible refine (p_itoa i.c _ HI.out.c (Sh.is (by assumption))).mono ?_; rintro e w3 ⟨rfl, hb3⟩; have hsh3 := Sh.keep (by assumption) hb3; clear hb3))
  all_goals
   have hsh4 := hsh3.alloc (.cells #[.string (wordB i.op), .string (itB i.a), .string (itB i.b), .string (itB i.c)] 9)
   have hown : (w3.alloc (.cells #[.string (wordB i.op), .string (itB i.a), .string (itB i.b), .string (itB i.c)] 9)).ownsRow (w.heap.size + 2) 9 1 (.slice (some ⟨w3.heap.size, 0, none⟩) 4 4) 4 (svals [wordB i.op, itB i.a, itB i.b, itB i.c]) := own_lit (l := [wordB i.op, itB i.a, itB i.b, itB i.c]) (by have := hsh3.lt; omega) (by show 4 ≤ 1000; omega)
   generalize w3.alloc (.cells #[.string (wordB i.op), .string (itB i.a), .string (itB i.b), .string (itB i.c)] 9) = W4 at hsh4 hown ⊢
   generalize w3.heap.size = g4 at hown ⊢
   clear hsh3 hall hd2 hsh2 hsh1
   have hall4 := hsh4.cells'
   have hs4 : w.heap.size + 2 ≤ W4.heap.size := by have := hsh4.lt; omega
   have hz1 : 4 + 1 ≤ maxLen := by unfold maxLen; omega
   have hz2 : (4 + 1) * 16 ≤ 140737488355328 := by omega
   go_wp2_with (at_builtin; refine wp_app1 rfl _ _ _ rfl 9 1 16 _ Tryd.underlying52 info_str rfl (by decide) (w.heap.size + 2) _ _ _ rfl hown [_] rfl rfl one_str hz1 hz2 hs4 ?_; intro vP W5 hownQ hgrow hne; have hsh5 := hsh4.keep2 (below_grown hown hgrow hs4); have hs5 : w.heap.size + 2 ≤ W5.heap.size := Nat.le_trans hs4 hgrow.size; have hall5 := hsh5.cells'; clear hgrow hne hall4)
   have hownP : W5.ownsRow (w.heap.size + 2) 9 1 vP 5 (svals (partsS i)) := by
     rw [show partsS i = [wordB i.op, itB i.a, itB i.b, itB i.c] ++ [i.s] by unfold partsS; rw [HE.out]; rfl]; exact hownQ
   obtain ⟨nP, hnP⟩ : ∃ nP : Nat, nP = 5 := ⟨_, rfl⟩
   rw [← hnP] at hownP
   clear hownQ hown hnP hall5 hsh4
   have HOWN := Lib.hid hownP
   have HSH := Lib.hid hsh5
   obtain ⟨AP, capP, hvP, hcP, -, hSP⟩ := strs_form' hownP
   have hall5 := hsh5.cells'
   clear hownP hsh5
   subst hvP
   have hnP : nP ≤ 1000 := by have := hSP.1; have := parts_len i; omega
   have HSP := Lib.hid hSP
   have hsz5 : w.heap.size ≤ W5.heap.size := by omega
   clear hSP
   go_wp2_with fail
   go_loopw [6, 52] (fun v i0 wr => ∃ k : Nat, k ≤ i.n ∧ i0 = .int .i64 k ∧ wr.ownsRow W5.heap.size 9 1 v k (svals ((i.args.take k).map itB)) ∧ Below W5.heap.size W5 wr) (fun v i0 wr => i.n - (intOf i0).toNat)
   case atStart => exact ⟨0, Nat.zero_le _, rfl, ⟨rfl, .inl ⟨rfl, rfl⟩⟩, Below.refl _ _⟩
   case round =>
    obtain ⟨k, hk, rfl, howk, hb⟩ := hrel
    have bW : Below w.heap.size w wr := HSH.out.below.trans (hb.mono hsz5)
    have HBW := Lib.hid bW
    have HBB := Lib.hid hb
    have HOK := Lib.hid howk
    by_cases hlt : k < i.n
    · obtain ⟨ab, ao, hiA, hab, x, hx, hwx, hcx⟩ := (HL.out.keep HB.out bW).at hlt
      have HTK : Hid ((i.args.take (k + 1)).map itB = (i.args.take k).map itB ++ [itB x]) := by
        unfold Hid
        rw [take_snoc' hx, List.map_append]; rfl
      have htab := HT.out wr bW
      have hz3 : k + 1 ≤ maxLen := by unfold maxLen; omega
      have hz4 : (k + 1) * 16 ≤ 140737488355328 := by omega
      clear hx howk bW hb hall5
      go_wp2_with (first | ((with_reducible refine (p_itoa x _ hwx htab).mono ?_); rintro e w6 ⟨rfl, hb6⟩; have how6 := own_of_block HOK.out (fun g hg => hb6.block g (own_ltx HOK.out hg)); have hb56 := HBB.out.trans (hb6.mono HBB.out.size); have hbs6 := hb56.size; clear hb6) | (at_builtin; refine wp_app1 rfl _ _ _ rfl 9 1 16 _ Tryd.underlying52 info_str rfl (by decide) W5.heap.size _ _ _ rfl how6 [_] rfl rfl one_str hz3 hz4 hbs6 ?_; intro v7 w7 how7 hgrow7 hne7; have hb57 := hb56.trans (below_grown how6 hgrow7 hbs6); clear hgrow7 hne7))
      have how8 : w7.ownsRow W5.heap.size 9 1 v7 (k + 1) (svals ((i.args.take (k + 1)).map itB)) := by
        rw [HTK.out]; simpa [svals] using how7
      clear how7 how6 hb56
      rw [← hiA]
      go_roundw
      case rel => exact ⟨k + 1, by omega, by go_num, how8, hb57⟩
      case measure => simp [intOf]; omega
    · obtain rfl : k = i.n := by omega
      have htk : (i.args.take i.n) = i.args := List.take_of_length_le (by rw [HL.out.1]; exact Nat.le_refl _)
      rw [htk] at howk
      have hal : (i.args.map itB).length = i.n := by rw [List.length_map, HL.out.1]
      obtain ⟨AQ, capQ, rfl, hcQ, -, hSQ⟩ := strs_form' howk
      have HSQ := Lib.hid hSQ
      have HSPr := Lib.hid (HSP.out.below hb)
      have hle1 := hb.size
      have hj1 := HJ1.out
      have hj2 := HJ2.out
      clear howk hSQ hb bW htk hall5
      by_cases hn0 : i.n = 0
      · have HA : Hid (showB i = joinB (partsS i)) := by
          unfold Hid showB
          rw [if_pos (List.length_eq_zero_iff.1 (by rw [HL.out.1]; exact hn0))]
        have hn1 : decide (0 < i.n) = false := by simp [hn0]
        have hn2 : ¬ 0 < i.n := by omega
        clear hn0 hal
        go_wp2_with (((with_reducible refine (p_join HSPr.out hle1 hcP hnP HPL.out).mono ?_); rintro e w8 ⟨rfl, hb8⟩))
        go_ret
        exact ⟨ret_str HA.out.symm, Gr.trans HBW.out hb8⟩
      · have HA : Hid (showB i = joinB (partsS i) ++ ((⟨#[32, 91]⟩ ++ joinB (i.args.map itB)) ++ ⟨#[93]⟩)) := by
          unfold Hid showB
          rw [if_neg (fun h => hn0 (by rw [← HL.out.1, h]; rfl))]
        have hn1 : 0 < i.n := by omega
        have hal' : (i.args.map itB).length ≤ 1000 := by omega
        clear hn0 hal
        go_wp2_with (first | ((with_reducible refine (p_join HSPr.out hle1 hcP hnP HPL.out).mono ?_); rintro e w8 ⟨rfl, hb8⟩; have HSQ8 := Lib.hid (HSQ.out.below hb8); have hle8 := hb8.size; have HB8 := Lib.hid (Gr.trans HBW.out hb8); clear hb8) | ((with_reducible refine (p_join HSQ8.out hle8 hcQ HNB.out HAL.out).mono ?_); rintro e w9 ⟨rfl, hb9⟩; have HB9 := Lib.hid (Gr.trans HB8.out hb9); clear hb9))
        go_ret
        exact ⟨ret_str HA.out.symm, HB9.out⟩
end Go.Proofs.YtankpckkiikmaaaDoor
