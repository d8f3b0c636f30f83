/- Code: the walk of the document's Ins (C). -/
import Derived.Test.YtankpckkiikmaaaDoorG11
import Derived.Test.YtankpckkiikmaaaDoorG12
import Derived.Deep.RegionHeld3
set_option linter.unusedVariables false
set_option linter.unusedSimpArgs false
namespace Go.Proofs.YtankpckkiikmaaaDoor
open Go.RowKit Cod
set_option maxRecDepth 100000 in
set_option maxHeartbeats 8000000 in
theorem q_ins27 {C : CV} {w : World} {B : Nat} (hC : CodeAt w B C) (k : Nat) (hk : k < C.n2) (i : IV) (q : PV) (hq : C.parts[k]? = some q) (hi : IOk i) (he : empB i.s = true) (hl : Ints w B i.A i.n i.args) (o5 : (i.op == 5) = false) (o6 : (i.op == 6) = false) (o16 : (i.op == 16) = false) (o17 : (i.op == 17) = false) (o26 : (i.op == 26) = false) (o25 : (i.op == 25) = false) (o27 : (i.op == 27) = true) :
    Calls Tryd.prog 13 #[.agg #[.slice C.A0 C.n0 C.c0, .slice C.A1 C.n1 C.c1, .slice C.A2 C.n2 C.c2, .slice C.A3 C.n3 C.c3, .slice C.A4 C.n4 C.c4, .slice C.A5 C.n5 C.c5, .slice C.A6 C.n6 C.c6], .int .i64 k, .agg #[.int .u8 i.op, .int .i64 i.a, .int .i64 i.b, .int .i64 i.c, .string i.s, .slice i.A i.n i.cap]] w fun e w' => e = .returned (.bool (splitB C q i)) ∧ Below w.heap.size w w' := by
  have HC := Lib.hid hC
  have hn2 := hC.n2
  unfold maxLen at hn2
  obtain ⟨pb, po, q', hpA, hpb, hq', hqp, r0, r1, r2, r3⟩ := hC.part hk
  obtain rfl : q' = q := Option.some.inj (hq'.symm.trans hq)
  clear hC hq hq'
  have HPA := Lib.hid hpA
  have hln := hl.2.1
  unfold maxLen at hln
  have HL := Lib.hid hl
  have HLE := Lib.hid HC.out.le
  have hse := emp_iff he
  simp only [Bool.false_eq_true, iff_false, iff_true] at hse
  clear he
  have HQP := Lib.hid hqp
  clear hpA hqp
  have hs0 : ((w.alloc (.cells #[.slice C.A0 C.n0 C.c0, .slice C.A1 C.n1 C.c1, .slice C.A2 C.n2 C.c2, .slice C.A3 C.n3 C.c3, .slice C.A4 C.n4 C.c4, .slice C.A5 C.n5 C.c5, .slice C.A6 C.n6 C.c6] 28)).alloc (.cells #[.int .u8 i.op, .int .i64 i.a, .int .i64 i.b, .int .i64 i.c, .string i.s, .slice i.A i.n i.cap] 31)).heap[w.heap.size]? = some (.cells #[.slice C.A0 C.n0 C.c0, .slice C.A1 C.n1 C.c1, .slice C.A2 C.n2 C.c2, .slice C.A3 C.n3 C.c3, .slice C.A4 C.n4 C.c4, .slice C.A5 C.n5 C.c5, .slice C.A6 C.n6 C.c6] 28 (0, 0)) := by
    rw [(MapKept.heap_alloc _ _).2 _ (by simp), (MapKept.heap_alloc w _).1]
  have hs1 : ((w.alloc (.cells #[.slice C.A0 C.n0 C.c0, .slice C.A1 C.n1 C.c1, .slice C.A2 C.n2 C.c2, .slice C.A3 C.n3 C.c3, .slice C.A4 C.n4 C.c4, .slice C.A5 C.n5 C.c5, .slice C.A6 C.n6 C.c6] 28)).alloc (.cells #[.int .u8 i.op, .int .i64 i.a, .int .i64 i.b, .int .i64 i.c, .string i.s, .slice i.A i.n i.cap] 31)).heap[w.heap.size + 1]? = some (.cells #[.int .u8 i.op, .int .i64 i.a, .int .i64 i.b, .int .i64 i.c, .string i.s, .slice i.A i.n i.cap] 31 (0, 0)) := by
    have := (MapKept.heap_alloc (w.alloc (.cells #[.slice C.A0 C.n0 C.c0, .slice C.A1 C.n1 C.c1, .slice C.A2 C.n2 C.c2, .slice C.A3 C.n3 C.c3, .slice C.A4 C.n4 C.c4, .slice C.A5 C.n5 C.c5, .slice C.A6 C.n6 C.c6] 28)) (.cells #[.int .u8 i.op, .int .i64 i.a, .int .i64 i.b, .int .i64 i.c, .string i.s, .slice i.A i.n i.cap] 31)).1
    rwa [World.size_alloc] at this
  have hbW : Below w.heap.size w ((w.alloc (.cells #[.slice C.A0 C.n0 C.c0, .slice C.A1 C.n1 C.c1, .slice C.A2 C.n2 C.c2, .slice C.A3 C.n3 C.c3, .slice C.A4 C.n4 C.c4, .slice C.A5 C.n5 C.c5, .slice C.A6 C.n6 C.c6] 28)).alloc (.cells #[.int .u8 i.op, .int .i64 i.a, .int .i64 i.b, .int .i64 i.c, .string i.s, .slice i.A i.n i.cap] 31)) := ((Below.refl _ _).alloc (Nat.le_refl _) _).alloc (by simp) _
  have HBW := Lib.hid hbW
  have HS0 := Lib.hid hs0
  have HS1 := Lib.hid hs1
  clear hs0 hs1 hbW
  go_enter Tryd.func13, Tryd.ntmps13
  go_wp2_with fail
  generalize ((w.alloc (.cells #[.slice C.A0 C.n0 C.c0, .slice C.A1 C.n1 C.c1, .slice C.A2 C.n2 C.c2, .slice C.A3 C.n3 C.c3, .slice C.A4 C.n4 C.c4, .slice C.A5 C.n5 C.c5, .slice C.A6 C.n6 C.c6] 28)).alloc (.cells #[.int .u8 i.op, .int .i64 i.a, .int .i64 i.b, .int .i64 i.c, .string i.s, .slice i.A i.n i.cap] 31)) = W at HS0 HS1 HBW ⊢
  have k0 := (HBW.out.cell (p := ⟨pb, po + k * 4, none⟩) hpb).trans r0
  have k1 := (HBW.out.cell (p := ⟨pb, po + k * 4 + 1, none⟩) hpb).trans r1
  have k2 := (HBW.out.cell (p := ⟨pb, po + k * 4 + 2, none⟩) hpb).trans r2
  have k3 := (HBW.out.cell (p := ⟨pb, po + k * 4 + 3, none⟩) hpb).trans r3
  have kc := ccells HS0.out
  have hpA := HPA.out
  go_region_held3 (fun w' => (w'.cell? ⟨w.heap.size, 0, none⟩ = some (.slice C.A0 C.n0 C.c0) ∧ w'.cell? ⟨w.heap.size, 1, none⟩ = some (.slice C.A1 C.n1 C.c1) ∧ w'.cell? ⟨w.heap.size, 2, none⟩ = some (.slice C.A2 C.n2 C.c2) ∧ w'.cell? ⟨w.heap.size, 3, none⟩ = some (.slice C.A3 C.n3 C.c3) ∧ w'.cell? ⟨w.heap.size, 4, none⟩ = some (.slice C.A4 C.n4 C.c4) ∧ w'.cell? ⟨w.heap.size, 5, none⟩ = some (.slice C.A5 C.n5 C.c5) ∧ w'.cell? ⟨w.heap.size, 6, none⟩ = some (.slice C.A6 C.n6 C.c6)) ∧ w'.cell? ⟨pb, po + k * 4, none⟩ = some (.int .i64 q'.regs) ∧ w'.cell? ⟨pb, po + k * 4 + 1, none⟩ = some (.slice q'.A q'.n q'.c) ∧ w'.cell? ⟨pb, po + k * 4 + 2, none⟩ = some (.int .i64 q'.loops) ∧ w'.cell? ⟨pb, po + k * 4 + 3, none⟩ = some (.slice q'.A' q'.n' q'.c')) (first | exact ⟨kc, k0, k1, k2, k3⟩ | go_keep) (fail)
  rw [← hpA]
  clear hpA kc k0 k1 k2 k3
  have hX2 : BoxI (W.alloc (.cells #[.slice C.A0 C.n0 C.c0, .slice C.A1 C.n1 C.c1, .slice C.A2 C.n2 C.c2, .slice C.A3 C.n3 C.c3, .slice C.A4 C.n4 C.c4, .slice C.A5 C.n5 C.c5, .slice C.A6 C.n6 C.c6, .int .i64 q'.regs, .slice q'.A q'.n q'.c, .int .i64 q'.loops, .slice q'.A' q'.n' q'.c'] 63)).drew W.heap.size (w.heap.size + 1) B C q' i :=
    (⟨(MapKept.heap_alloc W _).1, ((MapKept.heap_alloc W _).2 _ (Array.getElem?_eq_some_iff.1 HS1.out).1).trans HS1.out, HQP.out.keep (HBW.out.trans ((Below.refl _ _).alloc HBW.out.size _))⟩ : BoxI (W.alloc (.cells #[.slice C.A0 C.n0 C.c0, .slice C.A1 C.n1 C.c1, .slice C.A2 C.n2 C.c2, .slice C.A3 C.n3 C.c3, .slice C.A4 C.n4 C.c4, .slice C.A5 C.n5 C.c5, .slice C.A6 C.n6 C.c6, .int .i64 q'.regs, .slice q'.A q'.n q'.c, .int .i64 q'.loops, .slice q'.A' q'.n' q'.c'] 63)) W.heap.size (w.heap.size + 1) B C q' i).drew
  have hb2 : Below w.heap.size w (W.alloc (.cells #[.slice C.A0 C.n0 C.c0, .slice C.A1 C.n1 C.c1, .slice C.A2 C.n2 C.c2, .slice C.A3 C.n3 C.c3, .slice C.A4 C.n4 C.c4, .slice C.A5 C.n5 C.c5, .slice C.A6 C.n6 C.c6, .int .i64 q'.regs, .slice q'.A q'.n q'.c, .int .i64 q'.loops, .slice q'.A' q'.n' q'.c'] 63)).drew := Gr.trans (Gr.trans HBW.out ((Below.refl _ _).alloc (Nat.le_refl _) _)) (Below.refl _ _).drew
  generalize (W.alloc (.cells #[.slice C.A0 C.n0 C.c0, .slice C.A1 C.n1 C.c1, .slice C.A2 C.n2 C.c2, .slice C.A3 C.n3 C.c3, .slice C.A4 C.n4 C.c4, .slice C.A5 C.n5 C.c5, .slice C.A6 C.n6 C.c6, .int .i64 q'.regs, .slice q'.A q'.n q'.c, .int .i64 q'.loops, .slice q'.A' q'.n' q'.c'] 63)).drew = W2 at hX2 hb2 ⊢
  generalize W.heap.size = BP at hX2 ⊢
  have HX2 := Lib.hid hX2
  have HW2 := Lib.hid hb2
  have hall2 := HX2.out.cells
  clear hX2 hb2
  go_wp2_with fail
  have HR : Hid (splitB C q' i = (regB q' i.a && (arrB C q' i.b && (i.c == 0 && (decide (i.n = 2) && (regB q' (i.args.getD 0 0) && optB q' (i.args.getD 1 0))))))) := rfl
  have HXd := Lib.hid HX2.out.drew
  have HWd := Lib.hid (Gr.trans HW2.out (Below.refl _ _).drew)
  have halld := HXd.out.cells
  clear hall2
  cases hra : regB q' i.a
  · have HRA := Lib.hid hra
    rw [hra] at HR
    clear hra
    refine wp_region_segs_h [3, 4, 18, 7] [some 137, some 138, some 139, some 140, some 141, some 142, some 143, some 144, some 145, some 146, some 147, some 148, some 149, some 150, some 151, some 152, some 153, some 154, some 155, some 156, some 157, some 158, some 159, some 160, some 161, some 162, some 163, some 164, some 165, some 166, some 167, some 168, some 169, some 170, some 171, some 172, some 173, some 6] (by kernel_rfl) (by kernel_rfl) rfl (fun OPS hOPS => ?_)
    obtain ⟨o4, hO4, hd4⟩ := hOPS 4 _ rfl; obtain ⟨o10, hO10, hd10⟩ := hOPS 10 _ rfl; obtain ⟨o15, hO15, hd15⟩ := hOPS 15 _ rfl; obtain ⟨o21, hO21, hd21⟩ := hOPS 21 _ rfl; obtain ⟨o29, hO29, hd29⟩ := hOPS 29 _ rfl; clear hOPS
    (refine seg_step (fun K hK => ?_); simp only [List.take_succ_cons, List.take_zero, List.drop_succ_cons, List.drop_zero]; (repeat still_step); refine wpStill_nil ?_)
    go_wp2_with (((with_reducible refine (q_reg C q' i.a _).mono ?_); rintro e w3 ⟨rfl, hb3⟩; have HX3 := Lib.hid (HXd.out.keep hb3); have HW3 := Lib.hid (Gr.trans HWd.out hb3); have hall3 := HX3.out.cells; clear hb3; rw [HRA.out]))
    (refine seg_step (fun K hK => ?_); simp only [List.take_succ_cons, List.take_zero, List.drop_succ_cons, List.drop_zero]; (repeat still_step); refine wpStill_nil ?_)
    go_wp2_with fail
    (refine seg_step (fun K hK => ?_); simp only [List.take_succ_cons, List.take_zero, List.drop_succ_cons, List.drop_zero]; (repeat still_step); refine wpStill_nil ?_)
    go_wp2_with fail
    (refine seg_step (fun K hK => ?_); simp only [List.take_succ_cons, List.take_zero, List.drop_succ_cons, List.drop_zero]; (repeat still_step); refine wpStill_nil ?_)
    go_wp2_with fail
    (refine seg_done ?_; simp only [List.drop_succ_cons, List.drop_zero]; go_wp2_with fail)
    go_ret
    exact ⟨ret_bool HR.out.symm, HW3.out⟩
  cases hrb : arrB C q' i.b
  · have HRA := Lib.hid hra
    have HRB := Lib.hid hrb
    rw [hra, hrb] at HR
    clear hra hrb
    refine wp_region_segs_h [3, 4, 18, 7] [some 137, some 138, some 139, some 140, some 141, some 142, some 143, some 144, some 145, some 146, some 147, some 148, some 149, some 150, some 151, some 152, some 153, some 154, some 155, some 156, some 157, some 158, some 159, some 160, some 161, some 162, some 163, some 164, some 165, some 166, some 167, some 168, some 169, some 170, some 171, some 172, some 173, some 6] (by kernel_rfl) (by kernel_rfl) rfl (fun OPS hOPS => ?_)
    obtain ⟨o4, hO4, hd4⟩ := hOPS 4 _ rfl; obtain ⟨o10, hO10, hd10⟩ := hOPS 10 _ rfl; obtain ⟨o15, hO15, hd15⟩ := hOPS 15 _ rfl; obtain ⟨o21, hO21, hd21⟩ := hOPS 21 _ rfl; obtain ⟨o29, hO29, hd29⟩ := hOPS 29 _ rfl; clear hOPS
    (refine seg_step (fun K hK => ?_); simp only [List.take_succ_cons, List.take_zero, List.drop_succ_cons, List.drop_zero]; (repeat still_step); refine wpStill_nil ?_)
    go_wp2_with (((with_reducible refine (q_reg C q' i.a _).mono ?_); rintro e w3 ⟨rfl, hb3⟩; have HX3 := Lib.hid (HXd.out.keep hb3); have HW3 := Lib.hid (Gr.trans HWd.out hb3); have hall3 := HX3.out.cells; clear hb3; rw [HRA.out]))
    (refine seg_step (fun K hK => ?_); simp only [List.take_succ_cons, List.take_zero, List.drop_succ_cons, List.drop_zero]; (repeat still_step); refine wpStill_nil ?_)
    go_wp2_with (((with_reducible refine (q_array HX3.out.at_ i.b hi.b).mono ?_); rintro e w4 ⟨rfl, hb4⟩; have HX4 := Lib.hid (HX3.out.keep hb4); have HW4 := Lib.hid (Gr.trans HW3.out hb4); have hall4 := HX4.out.cells; clear hb4; rw [HRB.out]))
    (refine seg_step (fun K hK => ?_); simp only [List.take_succ_cons, List.take_zero, List.drop_succ_cons, List.drop_zero]; (repeat still_step); refine wpStill_nil ?_)
    go_wp2_with fail
    (refine seg_step (fun K hK => ?_); simp only [List.take_succ_cons, List.take_zero, List.drop_succ_cons, List.drop_zero]; (repeat still_step); refine wpStill_nil ?_)
    go_wp2_with fail
    (refine seg_done ?_; simp only [List.drop_succ_cons, List.drop_zero]; go_wp2_with fail)
    go_ret
    exact ⟨ret_bool HR.out.symm, HW4.out⟩
  have HRA := Lib.hid hra
  have HRB := Lib.hid hrb
  rw [hra, hrb] at HR
  clear hra hrb
  by_cases hc : i.c = 0
  case neg =>
    have hc1 : (i.c == 0) = false := by simpa using hc
    have hc2 : decide (i.c = 0) = false := by simpa using hc
    rw [hc1] at HR
    refine wp_region_segs_h [3, 4, 18, 7] [some 137, some 138, some 139, some 140, some 141, some 142, some 143, some 144, some 145, some 146, some 147, some 148, some 149, some 150, some 151, some 152, some 153, some 154, some 155, some 156, some 157, some 158, some 159, some 160, some 161, some 162, some 163, some 164, some 165, some 166, some 167, some 168, some 169, some 170, some 171, some 172, some 173, some 6] (by kernel_rfl) (by kernel_rfl) rfl (fun OPS hOPS => ?_)
    obtain ⟨o4, hO4, hd4⟩ := hOPS 4 _ rfl; obtain ⟨o10, hO10, hd10⟩ := hOPS 10 _ rfl; obtain ⟨o15, hO15, hd15⟩ := hOPS 15 _ rfl; obtain ⟨o21, hO21, hd21⟩ := hOPS 21 _ rfl; obtain ⟨o29, hO29, hd29⟩ := hOPS 29 _ rfl; clear hOPS
    (refine seg_step (fun K hK => ?_); simp only [List.take_succ_cons, List.take_zero, List.drop_succ_cons, List.drop_zero]; (repeat still_step); refine wpStill_nil ?_)
    go_wp2_with (((with_reducible refine (q_reg C q' i.a _).mono ?_); rintro e w3 ⟨rfl, hb3⟩; have HX3 := Lib.hid (HXd.out.keep hb3); have HW3 := Lib.hid (Gr.trans HWd.out hb3); have hall3 := HX3.out.cells; clear hb3; rw [HRA.out]))
    (refine seg_step (fun K hK => ?_); simp only [List.take_succ_cons, List.take_zero, List.drop_succ_cons, List.drop_zero]; (repeat still_step); refine wpStill_nil ?_)
    go_wp2_with (((with_reducible refine (q_array HX3.out.at_ i.b hi.b).mono ?_); rintro e w4 ⟨rfl, hb4⟩; have HX4 := Lib.hid (HX3.out.keep hb4); have HW4 := Lib.hid (Gr.trans HW3.out hb4); have hall4 := HX4.out.cells; clear hb4; rw [HRB.out]))
    (refine seg_step (fun K hK => ?_); simp only [List.take_succ_cons, List.take_zero, List.drop_succ_cons, List.drop_zero]; (repeat still_step); refine wpStill_nil ?_)
    go_wp2_with fail
    (refine seg_step (fun K hK => ?_); simp only [List.take_succ_cons, List.take_zero, List.drop_succ_cons, List.drop_zero]; (repeat still_step); refine wpStill_nil ?_)
    go_wp2_with fail
    (refine seg_done ?_; simp only [List.drop_succ_cons, List.drop_zero]; go_wp2_with fail)
    go_ret
    exact ⟨ret_bool HR.out.symm, HW4.out⟩
  case pos =>
  have hc1 : (i.c == 0) = true := by simpa using hc
  have hc2 : decide (i.c = 0) = true := by simpa using hc
  rw [hc1] at HR
  clear hc
  by_cases hn : i.n = 2
  case neg =>
    have hn1 : ((i.n : Int) == 2) = false := by simp; omega
    have hn2 : decide ((i.n : Int) = 2) = false := by simp; omega
    have hn3 : decide (i.n = 2) = false := by simpa using hn
    rw [hn3] at HR
    refine wp_region_segs_h [3, 4, 18, 7] [some 137, some 138, some 139, some 140, some 141, some 142, some 143, some 144, some 145, some 146, some 147, some 148, some 149, some 150, some 151, some 152, some 153, some 154, some 155, some 156, some 157, some 158, some 159, some 160, some 161, some 162, some 163, some 164, some 165, some 166, some 167, some 168, some 169, some 170, some 171, some 172, some 173, some 6] (by kernel_rfl) (by kernel_rfl) rfl (fun OPS hOPS => ?_)
    obtain ⟨o4, hO4, hd4⟩ := hOPS 4 _ rfl; obtain ⟨o10, hO10, hd10⟩ := hOPS 10 _ rfl; obtain ⟨o15, hO15, hd15⟩ := hOPS 15 _ rfl; obtain ⟨o21, hO21, hd21⟩ := hOPS 21 _ rfl; obtain ⟨o29, hO29, hd29⟩ := hOPS 29 _ rfl; clear hOPS
    (refine seg_step (fun K hK => ?_); simp only [List.take_succ_cons, List.take_zero, List.drop_succ_cons, List.drop_zero]; (repeat still_step); refine wpStill_nil ?_)
    go_wp2_with (((with_reducible refine (q_reg C q' i.a _).mono ?_); rintro e w3 ⟨rfl, hb3⟩; have HX3 := Lib.hid (HXd.out.keep hb3); have HW3 := Lib.hid (Gr.trans HWd.out hb3); have hall3 := HX3.out.cells; clear hb3; rw [HRA.out]))
    (refine seg_step (fun K hK => ?_); simp only [List.take_succ_cons, List.take_zero, List.drop_succ_cons, List.drop_zero]; (repeat still_step); refine wpStill_nil ?_)
    go_wp2_with (((with_reducible refine (q_array HX3.out.at_ i.b hi.b).mono ?_); rintro e w4 ⟨rfl, hb4⟩; have HX4 := Lib.hid (HX3.out.keep hb4); have HW4 := Lib.hid (Gr.trans HW3.out hb4); have hall4 := HX4.out.cells; clear hb4; rw [HRB.out]))
    (refine seg_step (fun K hK => ?_); simp only [List.take_succ_cons, List.take_zero, List.drop_succ_cons, List.drop_zero]; (repeat still_step); refine wpStill_nil ?_)
    go_wp2_with fail
    (refine seg_step (fun K hK => ?_); simp only [List.take_succ_cons, List.take_zero, List.drop_succ_cons, List.drop_zero]; (repeat still_step); refine wpStill_nil ?_)
    go_wp2_with fail
    (refine seg_done ?_; simp only [List.drop_succ_cons, List.drop_zero]; go_wp2_with fail)
    go_ret
    exact ⟨ret_bool HR.out.symm, HW4.out⟩
  case pos =>
  have hn1 : ((i.n : Int) == 2) = true := by simp; omega
  have hn2 : decide ((i.n : Int) = 2) = true := by simp; omega
  have hn3 : decide (i.n = 2) = true := by simpa using hn
  have hn4 : 1 < i.n := by omega
  have hn5 : 0 < i.n := by omega
  have hn6 : (0 : Int) < i.n := by omega
  have hn7 : (1 : Int) < i.n := by omega
  rw [hn3] at HR
  obtain ⟨ab, ao, hiA, hab, x0, hx0, hwx0, hcx0⟩ := HL.out.at (k := 0) (by omega)
  obtain ⟨ab', ao', hiA', -, x1, hx1, hwx1, hcx1⟩ := HL.out.at (k := 1) (by omega)
  rw [hiA] at hiA'
  injection hiA' with hiA'
  injection hiA' with e1 e2
  subst e1 e2
  have habl : ab < w.heap.size := Nat.lt_of_lt_of_le hab HLE.out
  have HG : Hid ((i.args.getD 0 0) = x0 ∧ (i.args.getD 1 0) = x1) := by
    unfold Hid
    rw [List.getD_eq_getElem?_getD, List.getD_eq_getElem?_getD, hx0, hx1]
    exact ⟨rfl, rfl⟩
  rw [HG.out.1, HG.out.2] at HR
  have HIA := Lib.hid hiA
  have HC0 : Hid (∀ w2, Below w.heap.size w w2 → w2.cell? ⟨ab, ao, none⟩ = some (.int .i64 x0) ∧ w2.cell? ⟨ab, ao + 1, none⟩ = some (.int .i64 x1)) := fun w2 hb => ⟨(hb.cell (p := ⟨ab, ao, none⟩) habl).trans hcx0, (hb.cell (p := ⟨ab, ao + 1, none⟩) habl).trans hcx1⟩
  clear hx0 hx1 hcx0 hcx1 hiA hn
  cases hrc : regB q' x0
  · have HRC := Lib.hid hrc
    rw [hrc] at HR
    clear hrc
    refine wp_region_segs_h [3, 4, 18, 7] [some 137, some 138, some 139, some 140, some 141, some 142, some 143, some 144, some 145, some 146, some 147, some 148, some 149, some 150, some 151, some 152, some 153, some 154, some 155, some 156, some 157, some 158, some 159, some 160, some 161, some 162, some 163, some 164, some 165, some 166, some 167, some 168, some 169, some 170, some 171, some 172, some 173, some 6] (by kernel_rfl) (by kernel_rfl) rfl (fun OPS hOPS => ?_)
    obtain ⟨o4, hO4, hd4⟩ := hOPS 4 _ rfl; obtain ⟨o10, hO10, hd10⟩ := hOPS 10 _ rfl; obtain ⟨o15, hO15, hd15⟩ := hOPS 15 _ rfl; obtain ⟨o21, hO21, hd21⟩ := hOPS 21 _ rfl; obtain ⟨o29, hO29, hd29⟩ := hOPS 29 _ rfl; clear hOPS
    (refine seg_step (fun K hK => ?_); simp only [List.take_succ_cons, List.take_zero, List.drop_succ_cons, List.drop_zero]; (repeat still_step); refine wpStill_nil ?_)
    go_wp2_with (((with_reducible refine (q_reg C q' i.a _).mono ?_); rintro e w3 ⟨rfl, hb3⟩; have HX3 := Lib.hid (HXd.out.keep hb3); have HW3 := Lib.hid (Gr.trans HWd.out hb3); have hall3 := HX3.out.cells; clear hb3; rw [HRA.out]))
    (refine seg_step (fun K hK => ?_); simp only [List.take_succ_cons, List.take_zero, List.drop_succ_cons, List.drop_zero]; (repeat still_step); refine wpStill_nil ?_)
    go_wp2_with (((with_reducible refine (q_array HX3.out.at_ i.b hi.b).mono ?_); rintro e w4 ⟨rfl, hb4⟩; have HX4 := Lib.hid (HX3.out.keep hb4); have HW4 := Lib.hid (Gr.trans HW3.out hb4); have hall4 := HX4.out.cells; clear hb4; rw [HRB.out]))
    have hiA := HIA.out
    have hcc := HC0.out _ HW4.out
    (refine seg_step (fun K hK => ?_); simp only [List.take_succ_cons, List.take_zero, List.drop_succ_cons, List.drop_zero]; (repeat still_step); refine wpStill_nil ?_)
    go_wp2_with (((with_reducible refine (q_reg C q' x0 _).mono ?_); rintro e w5 ⟨rfl, hb5⟩; have HX5 := Lib.hid (HX4.out.keep hb5); have HW5 := Lib.hid (Gr.trans HW4.out hb5); have hall5 := HX5.out.cells; clear hb5; rw [HRC.out]))
    (refine seg_step (fun K hK => ?_); simp only [List.take_succ_cons, List.take_zero, List.drop_succ_cons, List.drop_zero]; (repeat still_step); refine wpStill_nil ?_)
    go_wp2_with fail
    (refine seg_done ?_; simp only [List.drop_succ_cons, List.drop_zero]; go_wp2_with fail)
    go_ret
    exact ⟨ret_bool HR.out.symm, HW5.out⟩
  · have HRC := Lib.hid hrc
    have HRO : Hid (optB q' x1 = optB q' x1) := rfl
    rw [hrc] at HR
    clear hrc
    refine wp_region_segs_h [3, 4, 18, 7] [some 137, some 138, some 139, some 140, some 141, some 142, some 143, some 144, some 145, some 146, some 147, some 148, some 149, some 150, some 151, some 152, some 153, some 154, some 155, some 156, some 157, some 158, some 159, some 160, some 161, some 162, some 163, some 164, some 165, some 166, some 167, some 168, some 169, some 170, some 171, some 172, some 173, some 6] (by kernel_rfl) (by kernel_rfl) rfl (fun OPS hOPS => ?_)
    obtain ⟨o4, hO4, hd4⟩ := hOPS 4 _ rfl; obtain ⟨o10, hO10, hd10⟩ := hOPS 10 _ rfl; obtain ⟨o15, hO15, hd15⟩ := hOPS 15 _ rfl; obtain ⟨o21, hO21, hd21⟩ := hOPS 21 _ rfl; obtain ⟨o29, hO29, hd29⟩ := hOPS 29 _ rfl; clear hOPS
    (refine seg_step (fun K hK => ?_); simp only [List.take_succ_cons, List.take_zero, List.drop_succ_cons, List.drop_zero]; (repeat still_step); refine wpStill_nil ?_)
    go_wp2_with (((with_reducible refine (q_reg C q' i.a _).mono ?_); rintro e w3 ⟨rfl, hb3⟩; have HX3 := Lib.hid (HXd.out.keep hb3); have HW3 := Lib.hid (Gr.trans HWd.out hb3); have hall3 := HX3.out.cells; clear hb3; rw [HRA.out]))
    (refine seg_step (fun K hK => ?_); simp only [List.take_succ_cons, List.take_zero, List.drop_succ_cons, List.drop_zero]; (repeat still_step); refine wpStill_nil ?_)
    go_wp2_with (((with_reducible refine (q_array HX3.out.at_ i.b hi.b).mono ?_); rintro e w4 ⟨rfl, hb4⟩; have HX4 := Lib.hid (HX3.out.keep hb4); have HW4 := Lib.hid (Gr.trans HW3.out hb4); have hall4 := HX4.out.cells; clear hb4; rw [HRB.out]))
    have hiA := HIA.out
    have hcc := HC0.out _ HW4.out
    (refine seg_step (fun K hK => ?_); simp only [List.take_succ_cons, List.take_zero, List.drop_succ_cons, List.drop_zero]; (repeat still_step); refine wpStill_nil ?_)
    go_wp2_with (((with_reducible refine (q_reg C q' x0 _).mono ?_); rintro e w5 ⟨rfl, hb5⟩; have HX5 := Lib.hid (HX4.out.keep hb5); have HW5 := Lib.hid (Gr.trans HW4.out hb5); have hall5 := HX5.out.cells; clear hb5; rw [HRC.out]))
    have hcc5 := HC0.out _ HW5.out
    (refine seg_step (fun K hK => ?_); simp only [List.take_succ_cons, List.take_zero, List.drop_succ_cons, List.drop_zero]; (repeat still_step); refine wpStill_nil ?_)
    go_wp2_with (((with_reducible refine (q_opt C q' x1 _).mono ?_); rintro e w6 ⟨rfl, hb6⟩; have HX6 := Lib.hid (HX5.out.keep hb6); have HW6 := Lib.hid (Gr.trans HW5.out hb6); have hall6 := HX6.out.cells; clear hb6))
    (refine seg_done ?_; simp only [List.drop_succ_cons, List.drop_zero]; go_wp2_with fail)
    go_ret
    exact ⟨ret_bool (by rw [HR.out]; rfl), HW6.out⟩
end Go.Proofs.YtankpckkiikmaaaDoor
namespace Go.Proofs.YtankpckkiikmaaaDoor
open Go.RowKit Cod
set_option maxRecDepth 100000 in
set_option maxHeartbeats 8000000 in
theorem q_ins25 {C : CV} {w : World} {B : Nat} (hC : CodeAt w B C) (k : Nat) (hk : k < C.n2) (i : IV) (q : PV) (hq : C.parts[k]? = some q) (hi : IOk i) (he : empB i.s = true) (hl : Ints w B i.A i.n i.args) (o5 : (i.op == 5) = false) (o6 : (i.op == 6) = false) (o16 : (i.op == 16) = false) (o17 : (i.op == 17) = false) (o26 : (i.op == 26) = false) (o25 : (i.op == 25) = true) :
    Calls Tryd.prog 13 #[.agg #[.slice C.A0 C.n0 C.c0, .slice C.A1 C.n1 C.c1, .slice C.A2 C.n2 C.c2, .slice C.A3 C.n3 C.c3, .slice C.A4 C.n4 C.c4, .slice C.A5 C.n5 C.c5, .slice C.A6 C.n6 C.c6], .int .i64 k, .agg #[.int .u8 i.op, .int .i64 i.a, .int .i64 i.b, .int .i64 i.c, .string i.s, .slice i.A i.n i.cap]] w fun e w' => e = .returned (.bool (argsB C q i)) ∧ Below w.heap.size w w' := by
  have HC := Lib.hid hC
  have hn2 := hC.n2
  unfold maxLen at hn2
  obtain ⟨pb, po, q', hpA, hpb, hq', hqp, r0, r1, r2, r3⟩ := hC.part hk
  obtain rfl : q' = q := Option.some.inj (hq'.symm.trans hq)
  clear hC hq hq'
  have HPA := Lib.hid hpA
  have hln := hl.2.1
  unfold maxLen at hln
  have HL := Lib.hid hl
  have HLE := Lib.hid HC.out.le
  have hse := emp_iff he
  simp only [Bool.false_eq_true, iff_false, iff_true] at hse
  clear he
  have HQP := Lib.hid hqp
  clear hpA hqp
  have hs0 : ((w.alloc (.cells #[.slice C.A0 C.n0 C.c0, .slice C.A1 C.n1 C.c1, .slice C.A2 C.n2 C.c2, .slice C.A3 C.n3 C.c3, .slice C.A4 C.n4 C.c4, .slice C.A5 C.n5 C.c5, .slice C.A6 C.n6 C.c6] 28)).alloc (.cells #[.int .u8 i.op, .int .i64 i.a, .int .i64 i.b, .int .i64 i.c, .string i.s, .slice i.A i.n i.cap] 31)).heap[w.heap.size]? = some (.cells #[.slice C.A0 C.n0 C.c0, .slice C.A1 C.n1 C.c1, .slice C.A2 C.n2 C.c2, .slice C.A3 C.n3 C.c3, .slice C.A4 C.n4 C.c4, .slice C.A5 C.n5 C.c5, .slice C.A6 C.n6 C.c6] 28 (0, 0)) := by
    rw [(MapKept.heap_alloc _ _).2 _ (by simp), (MapKept.heap_alloc w _).1]
  have hs1 : ((w.alloc (.cells #[.slice C.A0 C.n0 C.c0, .slice C.A1 C.n1 C.c1, .slice C.A2 C.n2 C.c2, .slice C.A3 C.n3 C.c3, .slice C.A4 C.n4 C.c4, .slice C.A5 C.n5 C.c5, .slice C.A6 C.n6 C.c6] 28)).alloc (.cells #[.int .u8 i.op, .int .i64 i.a, .int .i64 i.b, .int .i64 i.c, .string i.s, .slice i.A i.n i.cap] 31)).heap[w.heap.size + 1]? = some (.cells #[.int .u8 i.op, .int .i64 i.a, .int .i64 i.b, .int .i64 i.c, .string i.s, .slice i.A i.n i.cap] 31 (0, 0)) := by
    have := (MapKept.heap_alloc (w.alloc (.cells #[.slice C.A0 C.n0 C.c0, .slice C.A1 C.n1 C.c1, .slice C.A2 C.n2 C.c2, .slice C.A3 C.n3 C.c3, .slice C.A4 C.n4 C.c4, .slice C.A5 C.n5 C.c5, .slice C.A6 C.n6 C.c6] 28)) (.cells #[.int .u8 i.op, .int .i64 i.a, .int .i64 i.b, .int .i64 i.c, .string i.s, .slice i.A i.n i.cap] 31)).1
    rwa [World.size_alloc] at this
  have hbW : Below w.heap.size w ((w.alloc (.cells #[.slice C.A0 C.n0 C.c0, .slice C.A1 C.n1 C.c1, .slice C.A2 C.n2 C.c2, .slice C.A3 C.n3 C.c3, .slice C.A4 C.n4 C.c4, .slice C.A5 C.n5 C.c5, .slice C.A6 C.n6 C.c6] 28)).alloc (.cells #[.int .u8 i.op, .int .i64 i.a, .int .i64 i.b, .int .i64 i.c, .string i.s, .slice i.A i.n i.cap] 31)) := ((Below.refl _ _).alloc (Nat.le_refl _) _).alloc (by simp) _
  have HBW := Lib.hid hbW
  have HS0 := Lib.hid hs0
  have HS1 := Lib.hid hs1
  clear hs0 hs1 hbW
  go_enter Tryd.func13, Tryd.ntmps13
  go_wp2_with fail
  generalize ((w.alloc (.cells #[.slice C.A0 C.n0 C.c0, .slice C.A1 C.n1 C.c1, .slice C.A2 C.n2 C.c2, .slice C.A3 C.n3 C.c3, .slice C.A4 C.n4 C.c4, .slice C.A5 C.n5 C.c5, .slice C.A6 C.n6 C.c6] 28)).alloc (.cells #[.int .u8 i.op, .int .i64 i.a, .int .i64 i.b, .int .i64 i.c, .string i.s, .slice i.A i.n i.cap] 31)) = W at HS0 HS1 HBW ⊢
  have k0 := (HBW.out.cell (p := ⟨pb, po + k * 4, none⟩) hpb).trans r0
  have k1 := (HBW.out.cell (p := ⟨pb, po + k * 4 + 1, none⟩) hpb).trans r1
  have k2 := (HBW.out.cell (p := ⟨pb, po + k * 4 + 2, none⟩) hpb).trans r2
  have k3 := (HBW.out.cell (p := ⟨pb, po + k * 4 + 3, none⟩) hpb).trans r3
  have kc := ccells HS0.out
  have hpA := HPA.out
  go_region_held3 (fun w' => (w'.cell? ⟨w.heap.size, 0, none⟩ = some (.slice C.A0 C.n0 C.c0) ∧ w'.cell? ⟨w.heap.size, 1, none⟩ = some (.slice C.A1 C.n1 C.c1) ∧ w'.cell? ⟨w.heap.size, 2, none⟩ = some (.slice C.A2 C.n2 C.c2) ∧ w'.cell? ⟨w.heap.size, 3, none⟩ = some (.slice C.A3 C.n3 C.c3) ∧ w'.cell? ⟨w.heap.size, 4, none⟩ = some (.slice C.A4 C.n4 C.c4) ∧ w'.cell? ⟨w.heap.size, 5, none⟩ = some (.slice C.A5 C.n5 C.c5) ∧ w'.cell? ⟨w.heap.size, 6, none⟩ = some (.slice C.A6 C.n6 C.c6)) ∧ w'.cell? ⟨pb, po + k * 4, none⟩ = some (.int .i64 q'.regs) ∧ w'.cell? ⟨pb, po + k * 4 + 1, none⟩ = some (.slice q'.A q'.n q'.c) ∧ w'.cell? ⟨pb, po + k * 4 + 2, none⟩ = some (.int .i64 q'.loops) ∧ w'.cell? ⟨pb, po + k * 4 + 3, none⟩ = some (.slice q'.A' q'.n' q'.c')) (first | exact ⟨kc, k0, k1, k2, k3⟩ | go_keep) (fail)
  rw [← hpA]
  clear hpA kc k0 k1 k2 k3
  have hX2 : BoxI (W.alloc (.cells #[.slice C.A0 C.n0 C.c0, .slice C.A1 C.n1 C.c1, .slice C.A2 C.n2 C.c2, .slice C.A3 C.n3 C.c3, .slice C.A4 C.n4 C.c4, .slice C.A5 C.n5 C.c5, .slice C.A6 C.n6 C.c6, .int .i64 q'.regs, .slice q'.A q'.n q'.c, .int .i64 q'.loops, .slice q'.A' q'.n' q'.c'] 63)).drew W.heap.size (w.heap.size + 1) B C q' i :=
    (⟨(MapKept.heap_alloc W _).1, ((MapKept.heap_alloc W _).2 _ (Array.getElem?_eq_some_iff.1 HS1.out).1).trans HS1.out, HQP.out.keep (HBW.out.trans ((Below.refl _ _).alloc HBW.out.size _))⟩ : BoxI (W.alloc (.cells #[.slice C.A0 C.n0 C.c0, .slice C.A1 C.n1 C.c1, .slice C.A2 C.n2 C.c2, .slice C.A3 C.n3 C.c3, .slice C.A4 C.n4 C.c4, .slice C.A5 C.n5 C.c5, .slice C.A6 C.n6 C.c6, .int .i64 q'.regs, .slice q'.A q'.n q'.c, .int .i64 q'.loops, .slice q'.A' q'.n' q'.c'] 63)) W.heap.size (w.heap.size + 1) B C q' i).drew
  have hb2 : Below w.heap.size w (W.alloc (.cells #[.slice C.A0 C.n0 C.c0, .slice C.A1 C.n1 C.c1, .slice C.A2 C.n2 C.c2, .slice C.A3 C.n3 C.c3, .slice C.A4 C.n4 C.c4, .slice C.A5 C.n5 C.c5, .slice C.A6 C.n6 C.c6, .int .i64 q'.regs, .slice q'.A q'.n q'.c, .int .i64 q'.loops, .slice q'.A' q'.n' q'.c'] 63)).drew := Gr.trans (Gr.trans HBW.out ((Below.refl _ _).alloc (Nat.le_refl _) _)) (Below.refl _ _).drew
  generalize (W.alloc (.cells #[.slice C.A0 C.n0 C.c0, .slice C.A1 C.n1 C.c1, .slice C.A2 C.n2 C.c2, .slice C.A3 C.n3 C.c3, .slice C.A4 C.n4 C.c4, .slice C.A5 C.n5 C.c5, .slice C.A6 C.n6 C.c6, .int .i64 q'.regs, .slice q'.A q'.n q'.c, .int .i64 q'.loops, .slice q'.A' q'.n' q'.c'] 63)).drew = W2 at hX2 hb2 ⊢
  generalize W.heap.size = BP at hX2 ⊢
  have HX2 := Lib.hid hX2
  have HW2 := Lib.hid hb2
  have hall2 := HX2.out.cells
  clear hX2 hb2
  go_wp2_with (first | ((with_reducible refine (q_call HX2.out.at_ (HC.out.keep HW2.out) i hi (HL.out.keep HLE.out HW2.out)).mono ?_); rintro e w3 ⟨rfl, hb3⟩; have HX3 := Lib.hid (HX2.out.keep hb3); have HW3 := Lib.hid (Gr.trans HW2.out hb3); have hall3 := HX3.out.cells; clear hb3))
  all_goals (go_ret; exact ⟨ret_bool (by (try generalize argsB C q' i = z0 at *); simp [empB, ← ByteArray.toList_eq, *] <;> first | omega | (rw [Bool.eq_iff_iff]; simp <;> omega)), by first | exact HW3.out | exact HW2.out⟩)
end Go.Proofs.YtankpckkiikmaaaDoor
