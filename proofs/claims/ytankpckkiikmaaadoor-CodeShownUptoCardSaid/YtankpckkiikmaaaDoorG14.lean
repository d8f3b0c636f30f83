/- Code: the walk of the document's Ins (C). -/
import Derived.Test.YtankpckkiikmaaaDoorG11
import Derived.Test.YtankpckkiikmaaaDoorG12
import Derived.Deep.RegionHeld3
set_option linter.unusedVariables false
set_option linter.unusedSimpArgs false
namespace Go.Proofs.YtankpckkiikmaaaDoor
open Go.RowKit Cod
set_option maxRecDepth 100000 in
set_option maxHeartbeats 8000000 in
theorem q_ins_text {C : CV} {w : World} {B : Nat} (hC : CodeAt w B C) (k : Nat) (hk : k < C.n2) (i : IV) (q : PV) (hq : C.parts[k]? = some q) (hi : IOk i) (he : empB i.s = false) (hl : Ints w B i.A i.n i.args) (o5 : (i.op == 5) = false) (o6 : (i.op == 6) = false) (o16 : (i.op == 16) = false) (o17 : (i.op == 17) = false) (o26 : (i.op == 26) = false) :
    Calls Tryd.prog 13 #[.agg #[.slice C.A0 C.n0 C.c0, .slice C.A1 C.n1 C.c1, .slice C.A2 C.n2 C.c2, .slice C.A3 C.n3 C.c3, .slice C.A4 C.n4 C.c4, .slice C.A5 C.n5 C.c5, .slice C.A6 C.n6 C.c6], .int .i64 k, .agg #[.int .u8 i.op, .int .i64 i.a, .int .i64 i.b, .int .i64 i.c, .string i.s, .slice i.A i.n i.cap]] w fun e w' => e = .returned (.bool (false)) ∧ Below w.heap.size w w' := by
  have HC := Lib.hid hC
  have hn2 := hC.n2
  unfold maxLen at hn2
  obtain ⟨pb, po, q', hpA, hpb, hq', hqp, r0, r1, r2, r3⟩ := hC.part hk
  obtain rfl : q' = q := Option.some.inj (hq'.symm.trans hq)
  clear hC hq hq'
  have HPA := Lib.hid hpA
  have hln := hl.2.1
  unfold maxLen at hln
  have HL := Lib.hid hl
  have HLE := Lib.hid HC.out.le
  have hse := emp_iff he
  simp only [Bool.false_eq_true, iff_false, iff_true] at hse
  clear he
  have hse2 : i.s.toList.isEmpty = false := by cases hq : i.s.toList.isEmpty with | false => rfl | true => exact absurd (List.isEmpty_iff.1 hq) hse
  have hse3 : (!i.s.toList.isEmpty) = true := by rw [hse2]; rfl
  have HQP := Lib.hid hqp
  clear hpA hqp
  have hs0 : ((w.alloc (.cells #[.slice C.A0 C.n0 C.c0, .slice C.A1 C.n1 C.c1, .slice C.A2 C.n2 C.c2, .slice C.A3 C.n3 C.c3, .slice C.A4 C.n4 C.c4, .slice C.A5 C.n5 C.c5, .slice C.A6 C.n6 C.c6] 28)).alloc (.cells #[.int .u8 i.op, .int .i64 i.a, .int .i64 i.b, .int .i64 i.c, .string i.s, .slice i.A i.n i.cap] 31)).heap[w.heap.size]? = some (.cells #[.slice C.A0 C.n0 C.c0, .slice C.A1 C.n1 C.c1, .slice C.A2 C.n2 C.c2, .slice C.A3 C.n3 C.c3, .slice C.A4 C.n4 C.c4, .slice C.A5 C.n5 C.c5, .slice C.A6 C.n6 C.c6] 28 (0, 0)) := by
    rw [(MapKept.heap_alloc _ _).2 _ (by simp), (MapKept.heap_alloc w _).1]
  have hs1 : ((w.alloc (.cells #[.slice C.A0 C.n0 C.c0, .slice C.A1 C.n1 C.c1, .slice C.A2 C.n2 C.c2, .slice C.A3 C.n3 C.c3, .slice C.A4 C.n4 C.c4, .slice C.A5 C.n5 C.c5, .slice C.A6 C.n6 C.c6] 28)).alloc (.cells #[.int .u8 i.op, .int .i64 i.a, .int .i64 i.b, .int .i64 i.c, .string i.s, .slice i.A i.n i.cap] 31)).heap[w.heap.size + 1]? = some (.cells #[.int .u8 i.op, .int .i64 i.a, .int .i64 i.b, .int .i64 i.c, .string i.s, .slice i.A i.n i.cap] 31 (0, 0)) := by
    have := (MapKept.heap_alloc (w.alloc (.cells #[.slice C.A0 C.n0 C.c0, .slice C.A1 C.n1 C.c1, .slice C.A2 C.n2 C.c2, .slice C.A3 C.n3 C.c3, .slice C.A4 C.n4 C.c4, .slice C.A5 C.n5 C.c5, .slice C.A6 C.n6 C.c6] 28)) (.cells #[.int .u8 i.op, .int .i64 i.a, .int .i64 i.b, .int .i64 i.c, .string i.s, .slice i.A i.n i.cap] 31)).1
    rwa [World.size_alloc] at this
  have hbW : Below w.heap.size w ((w.alloc (.cells #[.slice C.A0 C.n0 C.c0, .slice C.A1 C.n1 C.c1, .slice C.A2 C.n2 C.c2, .slice C.A3 C.n3 C.c3, .slice C.A4 C.n4 C.c4, .slice C.A5 C.n5 C.c5, .slice C.A6 C.n6 C.c6] 28)).alloc (.cells #[.int .u8 i.op, .int .i64 i.a, .int .i64 i.b, .int .i64 i.c, .string i.s, .slice i.A i.n i.cap] 31)) := ((Below.refl _ _).alloc (Nat.le_refl _) _).alloc (by simp) _
  have HBW := Lib.hid hbW
  have HS0 := Lib.hid hs0
  have HS1 := Lib.hid hs1
  clear hs0 hs1 hbW
  go_enter Tryd.func13, Tryd.ntmps13
  go_wp2_with fail
  generalize ((w.alloc (.cells #[.slice C.A0 C.n0 C.c0, .slice C.A1 C.n1 C.c1, .slice C.A2 C.n2 C.c2, .slice C.A3 C.n3 C.c3, .slice C.A4 C.n4 C.c4, .slice C.A5 C.n5 C.c5, .slice C.A6 C.n6 C.c6] 28)).alloc (.cells #[.int .u8 i.op, .int .i64 i.a, .int .i64 i.b, .int .i64 i.c, .string i.s, .slice i.A i.n i.cap] 31)) = W at HS0 HS1 HBW ⊢
  have k0 := (HBW.out.cell (p := ⟨pb, po + k * 4, none⟩) hpb).trans r0
  have k1 := (HBW.out.cell (p := ⟨pb, po + k * 4 + 1, none⟩) hpb).trans r1
  have k2 := (HBW.out.cell (p := ⟨pb, po + k * 4 + 2, none⟩) hpb).trans r2
  have k3 := (HBW.out.cell (p := ⟨pb, po + k * 4 + 3, none⟩) hpb).trans r3
  have kc := ccells HS0.out
  have hpA := HPA.out
  go_region_held3 (fun w' => (w'.cell? ⟨w.heap.size, 0, none⟩ = some (.slice C.A0 C.n0 C.c0) ∧ w'.cell? ⟨w.heap.size, 1, none⟩ = some (.slice C.A1 C.n1 C.c1) ∧ w'.cell? ⟨w.heap.size, 2, none⟩ = some (.slice C.A2 C.n2 C.c2) ∧ w'.cell? ⟨w.heap.size, 3, none⟩ = some (.slice C.A3 C.n3 C.c3) ∧ w'.cell? ⟨w.heap.size, 4, none⟩ = some (.slice C.A4 C.n4 C.c4) ∧ w'.cell? ⟨w.heap.size, 5, none⟩ = some (.slice C.A5 C.n5 C.c5) ∧ w'.cell? ⟨w.heap.size, 6, none⟩ = some (.slice C.A6 C.n6 C.c6)) ∧ w'.cell? ⟨pb, po + k * 4, none⟩ = some (.int .i64 q'.regs) ∧ w'.cell? ⟨pb, po + k * 4 + 1, none⟩ = some (.slice q'.A q'.n q'.c) ∧ w'.cell? ⟨pb, po + k * 4 + 2, none⟩ = some (.int .i64 q'.loops) ∧ w'.cell? ⟨pb, po + k * 4 + 3, none⟩ = some (.slice q'.A' q'.n' q'.c')) (first | exact ⟨kc, k0, k1, k2, k3⟩ | go_keep) (fail)
  rw [← hpA]
  clear hpA kc k0 k1 k2 k3
  have hX2 : BoxI (W.alloc (.cells #[.slice C.A0 C.n0 C.c0, .slice C.A1 C.n1 C.c1, .slice C.A2 C.n2 C.c2, .slice C.A3 C.n3 C.c3, .slice C.A4 C.n4 C.c4, .slice C.A5 C.n5 C.c5, .slice C.A6 C.n6 C.c6, .int .i64 q'.regs, .slice q'.A q'.n q'.c, .int .i64 q'.loops, .slice q'.A' q'.n' q'.c'] 63)).drew W.heap.size (w.heap.size + 1) B C q' i :=
    (⟨(MapKept.heap_alloc W _).1, ((MapKept.heap_alloc W _).2 _ (Array.getElem?_eq_some_iff.1 HS1.out).1).trans HS1.out, HQP.out.keep (HBW.out.trans ((Below.refl _ _).alloc HBW.out.size _))⟩ : BoxI (W.alloc (.cells #[.slice C.A0 C.n0 C.c0, .slice C.A1 C.n1 C.c1, .slice C.A2 C.n2 C.c2, .slice C.A3 C.n3 C.c3, .slice C.A4 C.n4 C.c4, .slice C.A5 C.n5 C.c5, .slice C.A6 C.n6 C.c6, .int .i64 q'.regs, .slice q'.A q'.n q'.c, .int .i64 q'.loops, .slice q'.A' q'.n' q'.c'] 63)) W.heap.size (w.heap.size + 1) B C q' i).drew
  have hb2 : Below w.heap.size w (W.alloc (.cells #[.slice C.A0 C.n0 C.c0, .slice C.A1 C.n1 C.c1, .slice C.A2 C.n2 C.c2, .slice C.A3 C.n3 C.c3, .slice C.A4 C.n4 C.c4, .slice C.A5 C.n5 C.c5, .slice C.A6 C.n6 C.c6, .int .i64 q'.regs, .slice q'.A q'.n q'.c, .int .i64 q'.loops, .slice q'.A' q'.n' q'.c'] 63)).drew := Gr.trans (Gr.trans HBW.out ((Below.refl _ _).alloc (Nat.le_refl _) _)) (Below.refl _ _).drew
  generalize (W.alloc (.cells #[.slice C.A0 C.n0 C.c0, .slice C.A1 C.n1 C.c1, .slice C.A2 C.n2 C.c2, .slice C.A3 C.n3 C.c3, .slice C.A4 C.n4 C.c4, .slice C.A5 C.n5 C.c5, .slice C.A6 C.n6 C.c6, .int .i64 q'.regs, .slice q'.A q'.n q'.c, .int .i64 q'.loops, .slice q'.A' q'.n' q'.c'] 63)).drew = W2 at hX2 hb2 ⊢
  generalize W.heap.size = BP at hX2 ⊢
  have HX2 := Lib.hid hX2
  have HW2 := Lib.hid hb2
  have hall2 := HX2.out.cells
  clear hX2 hb2
  go_wp2_with fail
  go_ret
  exact ⟨rfl, HW2.out⟩
set_option maxRecDepth 100000 in
set_option maxHeartbeats 8000000 in
theorem q_ins28a {C : CV} {w : World} {B : Nat} (hC : CodeAt w B C) (k : Nat) (hk : k < C.n2) (i : IV) (q : PV) (hq : C.parts[k]? = some q) (hi : IOk i) (hra : regB q i.a = false) (he : empB i.s = true) (hl : Ints w B i.A i.n i.args) (o5 : (i.op == 5) = false) (o6 : (i.op == 6) = false) (o16 : (i.op == 16) = false) (o17 : (i.op == 17) = false) (o26 : (i.op == 26) = false) (o25 : (i.op == 25) = false) (o27 : (i.op == 27) = false) (o28 : (i.op == 28) = true) :
    Calls Tryd.prog 13 #[.agg #[.slice C.A0 C.n0 C.c0, .slice C.A1 C.n1 C.c1, .slice C.A2 C.n2 C.c2, .slice C.A3 C.n3 C.c3, .slice C.A4 C.n4 C.c4, .slice C.A5 C.n5 C.c5, .slice C.A6 C.n6 C.c6], .int .i64 k, .agg #[.int .u8 i.op, .int .i64 i.a, .int .i64 i.b, .int .i64 i.c, .string i.s, .slice i.A i.n i.cap]] w fun e w' => e = .returned (.bool (false)) ∧ Below w.heap.size w w' := by
  have HC := Lib.hid hC
  have hn2 := hC.n2
  unfold maxLen at hn2
  obtain ⟨pb, po, q', hpA, hpb, hq', hqp, r0, r1, r2, r3⟩ := hC.part hk
  obtain rfl : q' = q := Option.some.inj (hq'.symm.trans hq)
  clear hC hq hq'
  have HPA := Lib.hid hpA
  have hln := hl.2.1
  unfold maxLen at hln
  have HL := Lib.hid hl
  have HLE := Lib.hid HC.out.le
  have HRA := Lib.hid hra
  clear hra
  have hse := emp_iff he
  simp only [Bool.false_eq_true, iff_false, iff_true] at hse
  clear he
  have HQP := Lib.hid hqp
  clear hpA hqp
  have hs0 : ((w.alloc (.cells #[.slice C.A0 C.n0 C.c0, .slice C.A1 C.n1 C.c1, .slice C.A2 C.n2 C.c2, .slice C.A3 C.n3 C.c3, .slice C.A4 C.n4 C.c4, .slice C.A5 C.n5 C.c5, .slice C.A6 C.n6 C.c6] 28)).alloc (.cells #[.int .u8 i.op, .int .i64 i.a, .int .i64 i.b, .int .i64 i.c, .string i.s, .slice i.A i.n i.cap] 31)).heap[w.heap.size]? = some (.cells #[.slice C.A0 C.n0 C.c0, .slice C.A1 C.n1 C.c1, .slice C.A2 C.n2 C.c2, .slice C.A3 C.n3 C.c3, .slice C.A4 C.n4 C.c4, .slice C.A5 C.n5 C.c5, .slice C.A6 C.n6 C.c6] 28 (0, 0)) := by
    rw [(MapKept.heap_alloc _ _).2 _ (by simp), (MapKept.heap_alloc w _).1]
  have hs1 : ((w.alloc (.cells #[.slice C.A0 C.n0 C.c0, .slice C.A1 C.n1 C.c1, .slice C.A2 C.n2 C.c2, .slice C.A3 C.n3 C.c3, .slice C.A4 C.n4 C.c4, .slice C.A5 C.n5 C.c5, .slice C.A6 C.n6 C.c6] 28)).alloc (.cells #[.int .u8 i.op, .int .i64 i.a, .int .i64 i.b, .int .i64 i.c, .string i.s, .slice i.A i.n i.cap] 31)).heap[w.heap.size + 1]? = some (.cells #[.int .u8 i.op, .int .i64 i.a, .int .i64 i.b, .int .i64 i.c, .string i.s, .slice i.A i.n i.cap] 31 (0, 0)) := by
    have := (MapKept.heap_alloc (w.alloc (.cells #[.slice C.A0 C.n0 C.c0, .slice C.A1 C.n1 C.c1, .slice C.A2 C.n2 C.c2, .slice C.A3 C.n3 C.c3, .slice C.A4 C.n4 C.c4, .slice C.A5 C.n5 C.c5, .slice C.A6 C.n6 C.c6] 28)) (.cells #[.int .u8 i.op, .int .i64 i.a, .int .i64 i.b, .int .i64 i.c, .string i.s, .slice i.A i.n i.cap] 31)).1
    rwa [World.size_alloc] at this
  have hbW : Below w.heap.size w ((w.alloc (.cells #[.slice C.A0 C.n0 C.c0, .slice C.A1 C.n1 C.c1, .slice C.A2 C.n2 C.c2, .slice C.A3 C.n3 C.c3, .slice C.A4 C.n4 C.c4, .slice C.A5 C.n5 C.c5, .slice C.A6 C.n6 C.c6] 28)).alloc (.cells #[.int .u8 i.op, .int .i64 i.a, .int .i64 i.b, .int .i64 i.c, .string i.s, .slice i.A i.n i.cap] 31)) := ((Below.refl _ _).alloc (Nat.le_refl _) _).alloc (by simp) _
  have HBW := Lib.hid hbW
  have HS0 := Lib.hid hs0
  have HS1 := Lib.hid hs1
  clear hs0 hs1 hbW
  go_enter Tryd.func13, Tryd.ntmps13
  go_wp2_with fail
  generalize ((w.alloc (.cells #[.slice C.A0 C.n0 C.c0, .slice C.A1 C.n1 C.c1, .slice C.A2 C.n2 C.c2, .slice C.A3 C.n3 C.c3, .slice C.A4 C.n4 C.c4, .slice C.A5 C.n5 C.c5, .slice C.A6 C.n6 C.c6] 28)).alloc (.cells #[.int .u8 i.op, .int .i64 i.a, .int .i64 i.b, .int .i64 i.c, .string i.s, .slice i.A i.n i.cap] 31)) = W at HS0 HS1 HBW ⊢
  have k0 := (HBW.out.cell (p := ⟨pb, po + k * 4, none⟩) hpb).trans r0
  have k1 := (HBW.out.cell (p := ⟨pb, po + k * 4 + 1, none⟩) hpb).trans r1
  have k2 := (HBW.out.cell (p := ⟨pb, po + k * 4 + 2, none⟩) hpb).trans r2
  have k3 := (HBW.out.cell (p := ⟨pb, po + k * 4 + 3, none⟩) hpb).trans r3
  have kc := ccells HS0.out
  have hpA := HPA.out
  go_region_held3 (fun w' => (w'.cell? ⟨w.heap.size, 0, none⟩ = some (.slice C.A0 C.n0 C.c0) ∧ w'.cell? ⟨w.heap.size, 1, none⟩ = some (.slice C.A1 C.n1 C.c1) ∧ w'.cell? ⟨w.heap.size, 2, none⟩ = some (.slice C.A2 C.n2 C.c2) ∧ w'.cell? ⟨w.heap.size, 3, none⟩ = some (.slice C.A3 C.n3 C.c3) ∧ w'.cell? ⟨w.heap.size, 4, none⟩ = some (.slice C.A4 C.n4 C.c4) ∧ w'.cell? ⟨w.heap.size, 5, none⟩ = some (.slice C.A5 C.n5 C.c5) ∧ w'.cell? ⟨w.heap.size, 6, none⟩ = some (.slice C.A6 C.n6 C.c6)) ∧ w'.cell? ⟨pb, po + k * 4, none⟩ = some (.int .i64 q'.regs) ∧ w'.cell? ⟨pb, po + k * 4 + 1, none⟩ = some (.slice q'.A q'.n q'.c) ∧ w'.cell? ⟨pb, po + k * 4 + 2, none⟩ = some (.int .i64 q'.loops) ∧ w'.cell? ⟨pb, po + k * 4 + 3, none⟩ = some (.slice q'.A' q'.n' q'.c')) (first | exact ⟨kc, k0, k1, k2, k3⟩ | go_keep) (fail)
  rw [← hpA]
  clear hpA kc k0 k1 k2 k3
  have hX2 : BoxI (W.alloc (.cells #[.slice C.A0 C.n0 C.c0, .slice C.A1 C.n1 C.c1, .slice C.A2 C.n2 C.c2, .slice C.A3 C.n3 C.c3, .slice C.A4 C.n4 C.c4, .slice C.A5 C.n5 C.c5, .slice C.A6 C.n6 C.c6, .int .i64 q'.regs, .slice q'.A q'.n q'.c, .int .i64 q'.loops, .slice q'.A' q'.n' q'.c'] 63)).drew W.heap.size (w.heap.size + 1) B C q' i :=
    (⟨(MapKept.heap_alloc W _).1, ((MapKept.heap_alloc W _).2 _ (Array.getElem?_eq_some_iff.1 HS1.out).1).trans HS1.out, HQP.out.keep (HBW.out.trans ((Below.refl _ _).alloc HBW.out.size _))⟩ : BoxI (W.alloc (.cells #[.slice C.A0 C.n0 C.c0, .slice C.A1 C.n1 C.c1, .slice C.A2 C.n2 C.c2, .slice C.A3 C.n3 C.c3, .slice C.A4 C.n4 C.c4, .slice C.A5 C.n5 C.c5, .slice C.A6 C.n6 C.c6, .int .i64 q'.regs, .slice q'.A q'.n q'.c, .int .i64 q'.loops, .slice q'.A' q'.n' q'.c'] 63)) W.heap.size (w.heap.size + 1) B C q' i).drew
  have hb2 : Below w.heap.size w (W.alloc (.cells #[.slice C.A0 C.n0 C.c0, .slice C.A1 C.n1 C.c1, .slice C.A2 C.n2 C.c2, .slice C.A3 C.n3 C.c3, .slice C.A4 C.n4 C.c4, .slice C.A5 C.n5 C.c5, .slice C.A6 C.n6 C.c6, .int .i64 q'.regs, .slice q'.A q'.n q'.c, .int .i64 q'.loops, .slice q'.A' q'.n' q'.c'] 63)).drew := Gr.trans (Gr.trans HBW.out ((Below.refl _ _).alloc (Nat.le_refl _) _)) (Below.refl _ _).drew
  generalize (W.alloc (.cells #[.slice C.A0 C.n0 C.c0, .slice C.A1 C.n1 C.c1, .slice C.A2 C.n2 C.c2, .slice C.A3 C.n3 C.c3, .slice C.A4 C.n4 C.c4, .slice C.A5 C.n5 C.c5, .slice C.A6 C.n6 C.c6, .int .i64 q'.regs, .slice q'.A q'.n q'.c, .int .i64 q'.loops, .slice q'.A' q'.n' q'.c'] 63)).drew = W2 at hX2 hb2 ⊢
  generalize W.heap.size = BP at hX2 ⊢
  have HX2 := Lib.hid hX2
  have HW2 := Lib.hid hb2
  have hall2 := HX2.out.cells
  clear hX2 hb2
  go_wp2_with (first | ((with_reducible refine (q_reg C q' i.a _).mono ?_); rintro e w3 ⟨rfl, hb3⟩; have HX3 := Lib.hid (HX2.out.keep hb3); have HW3 := Lib.hid (Gr.trans HW2.out hb3); have hall3 := HX3.out.cells; clear hb3; rw [HRA.out]))
  go_ret
  exact ⟨rfl, HW3.out⟩
set_option maxRecDepth 100000 in
set_option maxHeartbeats 8000000 in
theorem q_ins28b {C : CV} {w : World} {B : Nat} (hC : CodeAt w B C) (k : Nat) (hk : k < C.n2) (i : IV) (q : PV) (hq : C.parts[k]? = some q) (hi : IOk i) (hra : regB q i.a = true) (hrb : regB q i.b = false) (he : empB i.s = true) (hl : Ints w B i.A i.n i.args) (o5 : (i.op == 5) = false) (o6 : (i.op == 6) = false) (o16 : (i.op == 16) = false) (o17 : (i.op == 17) = false) (o26 : (i.op == 26) = false) (o25 : (i.op == 25) = false) (o27 : (i.op == 27) = false) (o28 : (i.op == 28) = true) :
    Calls Tryd.prog 13 #[.agg #[.slice C.A0 C.n0 C.c0, .slice C.A1 C.n1 C.c1, .slice C.A2 C.n2 C.c2, .slice C.A3 C.n3 C.c3, .slice C.A4 C.n4 C.c4, .slice C.A5 C.n5 C.c5, .slice C.A6 C.n6 C.c6], .int .i64 k, .agg #[.int .u8 i.op, .int .i64 i.a, .int .i64 i.b, .int .i64 i.c, .string i.s, .slice i.A i.n i.cap]] w fun e w' => e = .returned (.bool (false)) ∧ Below w.heap.size w w' := by
  have HC := Lib.hid hC
  have hn2 := hC.n2
  unfold maxLen at hn2
  obtain ⟨pb, po, q', hpA, hpb, hq', hqp, r0, r1, r2, r3⟩ := hC.part hk
  obtain rfl : q' = q := Option.some.inj (hq'.symm.trans hq)
  clear hC hq hq'
  have HPA := Lib.hid hpA
  have hln := hl.2.1
  unfold maxLen at hln
  have HL := Lib.hid hl
  have HLE := Lib.hid HC.out.le
  have HRA := Lib.hid hra
  clear hra
  have HRB := Lib.hid hrb
  clear hrb
  have hse := emp_iff he
  simp only [Bool.false_eq_true, iff_false, iff_true] at hse
  clear he
  have HQP := Lib.hid hqp
  clear hpA hqp
  have hs0 : ((w.alloc (.cells #[.slice C.A0 C.n0 C.c0, .slice C.A1 C.n1 C.c1, .slice C.A2 C.n2 C.c2, .slice C.A3 C.n3 C.c3, .slice C.A4 C.n4 C.c4, .slice C.A5 C.n5 C.c5, .slice C.A6 C.n6 C.c6] 28)).alloc (.cells #[.int .u8 i.op, .int .i64 i.a, .int .i64 i.b, .int .i64 i.c, .string i.s, .slice i.A i.n i.cap] 31)).heap[w.heap.size]? = some (.cells #[.slice C.A0 C.n0 C.c0, .slice C.A1 C.n1 C.c1, .slice C.A2 C.n2 C.c2, .slice C.A3 C.n3 C.c3, .slice C.A4 C.n4 C.c4, .slice C.A5 C.n5 C.c5, .slice C.A6 C.n6 C.c6] 28 (0, 0)) := by
    rw [(MapKept.heap_alloc _ _).2 _ (by simp), (MapKept.heap_alloc w _).1]
  have hs1 : ((w.alloc (.cells #[.slice C.A0 C.n0 C.c0, .slice C.A1 C.n1 C.c1, .slice C.A2 C.n2 C.c2, .slice C.A3 C.n3 C.c3, .slice C.A4 C.n4 C.c4, .slice C.A5 C.n5 C.c5, .slice C.A6 C.n6 C.c6] 28)).alloc (.cells #[.int .u8 i.op, .int .i64 i.a, .int .i64 i.b, .int .i64 i.c, .string i.s, .slice i.A i.n i.cap] 31)).heap[w.heap.size + 1]? = some (.cells #[.int .u8 i.op, .int .i64 i.a, .int .i64 i.b, .int .i64 i.c, .string i.s, .slice i.A i.n i.cap] 31 (0, 0)) := by
    have := (MapKept.heap_alloc (w.alloc (.cells #[.slice C.A0 C.n0 C.c0, .slice C.A1 C.n1 C.c1, .slice C.A2 C.n2 C.c2, .slice C.A3 C.n3 C.c3, .slice C.A4 C.n4 C.c4, .slice C.A5 C.n5 C.c5, .slice C.A6 C.n6 C.c6] 28)) (.cells #[.int .u8 i.op, .int .i64 i.a, .int .i64 i.b, .int .i64 i.c, .string i.s, .slice i.A i.n i.cap] 31)).1
    rwa [World.size_alloc] at this
  have hbW : Below w.heap.size w ((w.alloc (.cells #[.slice C.A0 C.n0 C.c0, .slice C.A1 C.n1 C.c1, .slice C.A2 C.n2 C.c2, .slice C.A3 C.n3 C.c3, .slice C.A4 C.n4 C.c4, .slice C.A5 C.n5 C.c5, .slice C.A6 C.n6 C.c6] 28)).alloc (.cells #[.int .u8 i.op, .int .i64 i.a, .int .i64 i.b, .int .i64 i.c, .string i.s, .slice i.A i.n i.cap] 31)) := ((Below.refl _ _).alloc (Nat.le_refl _) _).alloc (by simp) _
  have HBW := Lib.hid hbW
  have HS0 := Lib.hid hs0
  have HS1 := Lib.hid hs1
  clear hs0 hs1 hbW
  go_enter Tryd.func13, Tryd.ntmps13
  go_wp2_with fail
  generalize ((w.alloc (.cells #[.slice C.A0 C.n0 C.c0, .slice C.A1 C.n1 C.c1, .slice C.A2 C.n2 C.c2, .slice C.A3 C.n3 C.c3, .slice C.A4 C.n4 C.c4, .slice C.A5 C.n5 C.c5, .slice C.A6 C.n6 C.c6] 28)).alloc (.cells #[.int .u8 i.op, .int .i64 i.a, .int .i64 i.b, .int .i64 i.c, .string i.s, .slice i.A i.n i.cap] 31)) = W at HS0 HS1 HBW ⊢
  have k0 := (HBW.out.cell (p := ⟨pb, po + k * 4, none⟩) hpb).trans r0
  have k1 := (HBW.out.cell (p := ⟨pb, po + k * 4 + 1, none⟩) hpb).trans r1
  have k2 := (HBW.out.cell (p := ⟨pb, po + k * 4 + 2, none⟩) hpb).trans r2
  have k3 := (HBW.out.cell (p := ⟨pb, po + k * 4 + 3, none⟩) hpb).trans r3
  have kc := ccells HS0.out
  have hpA := HPA.out
  go_region_held3 (fun w' => (w'.cell? ⟨w.heap.size, 0, none⟩ = some (.slice C.A0 C.n0 C.c0) ∧ w'.cell? ⟨w.heap.size, 1, none⟩ = some (.slice C.A1 C.n1 C.c1) ∧ w'.cell? ⟨w.heap.size, 2, none⟩ = some (.slice C.A2 C.n2 C.c2) ∧ w'.cell? ⟨w.heap.size, 3, none⟩ = some (.slice C.A3 C.n3 C.c3) ∧ w'.cell? ⟨w.heap.size, 4, none⟩ = some (.slice C.A4 C.n4 C.c4) ∧ w'.cell? ⟨w.heap.size, 5, none⟩ = some (.slice C.A5 C.n5 C.c5) ∧ w'.cell? ⟨w.heap.size, 6, none⟩ = some (.slice C.A6 C.n6 C.c6)) ∧ w'.cell? ⟨pb, po + k * 4, none⟩ = some (.int .i64 q'.regs) ∧ w'.cell? ⟨pb, po + k * 4 + 1, none⟩ = some (.slice q'.A q'.n q'.c) ∧ w'.cell? ⟨pb, po + k * 4 + 2, none⟩ = some (.int .i64 q'.loops) ∧ w'.cell? ⟨pb, po + k * 4 + 3, none⟩ = some (.slice q'.A' q'.n' q'.c')) (first | exact ⟨kc, k0, k1, k2, k3⟩ | go_keep) (fail)
  rw [← hpA]
  clear hpA kc k0 k1 k2 k3
  have hX2 : BoxI (W.alloc (.cells #[.slice C.A0 C.n0 C.c0, .slice C.A1 C.n1 C.c1, .slice C.A2 C.n2 C.c2, .slice C.A3 C.n3 C.c3, .slice C.A4 C.n4 C.c4, .slice C.A5 C.n5 C.c5, .slice C.A6 C.n6 C.c6, .int .i64 q'.regs, .slice q'.A q'.n q'.c, .int .i64 q'.loops, .slice q'.A' q'.n' q'.c'] 63)).drew W.heap.size (w.heap.size + 1) B C q' i :=
    (⟨(MapKept.heap_alloc W _).1, ((MapKept.heap_alloc W _).2 _ (Array.getElem?_eq_some_iff.1 HS1.out).1).trans HS1.out, HQP.out.keep (HBW.out.trans ((Below.refl _ _).alloc HBW.out.size _))⟩ : BoxI (W.alloc (.cells #[.slice C.A0 C.n0 C.c0, .slice C.A1 C.n1 C.c1, .slice C.A2 C.n2 C.c2, .slice C.A3 C.n3 C.c3, .slice C.A4 C.n4 C.c4, .slice C.A5 C.n5 C.c5, .slice C.A6 C.n6 C.c6, .int .i64 q'.regs, .slice q'.A q'.n q'.c, .int .i64 q'.loops, .slice q'.A' q'.n' q'.c'] 63)) W.heap.size (w.heap.size + 1) B C q' i).drew
  have hb2 : Below w.heap.size w (W.alloc (.cells #[.slice C.A0 C.n0 C.c0, .slice C.A1 C.n1 C.c1, .slice C.A2 C.n2 C.c2, .slice C.A3 C.n3 C.c3, .slice C.A4 C.n4 C.c4, .slice C.A5 C.n5 C.c5, .slice C.A6 C.n6 C.c6, .int .i64 q'.regs, .slice q'.A q'.n q'.c, .int .i64 q'.loops, .slice q'.A' q'.n' q'.c'] 63)).drew := Gr.trans (Gr.trans HBW.out ((Below.refl _ _).alloc (Nat.le_refl _) _)) (Below.refl _ _).drew
  generalize (W.alloc (.cells #[.slice C.A0 C.n0 C.c0, .slice C.A1 C.n1 C.c1, .slice C.A2 C.n2 C.c2, .slice C.A3 C.n3 C.c3, .slice C.A4 C.n4 C.c4, .slice C.A5 C.n5 C.c5, .slice C.A6 C.n6 C.c6, .int .i64 q'.regs, .slice q'.A q'.n q'.c, .int .i64 q'.loops, .slice q'.A' q'.n' q'.c'] 63)).drew = W2 at hX2 hb2 ⊢
  generalize W.heap.size = BP at hX2 ⊢
  have HX2 := Lib.hid hX2
  have HW2 := Lib.hid hb2
  have hall2 := HX2.out.cells
  clear hX2 hb2
  go_wp2_with (first | ((with_reducible refine (q_reg C q' i.a _).mono ?_); rintro e w3 ⟨rfl, hb3⟩; have HX3 := Lib.hid (HX2.out.keep hb3); have HW3 := Lib.hid (Gr.trans HW2.out hb3); have hall3 := HX3.out.cells; clear hb3; rw [HRA.out]) | ((with_reducible refine (q_reg C q' i.b _).mono ?_); rintro e w4 ⟨rfl, hb4⟩; have HX4 := Lib.hid (HX3.out.keep hb4); have HW4 := Lib.hid (Gr.trans HW3.out hb4); have hall4 := HX4.out.cells; clear hb4; rw [HRB.out]))
  go_ret
  exact ⟨rfl, HW4.out⟩
set_option maxRecDepth 100000 in
set_option maxHeartbeats 8000000 in
theorem q_ins28c {C : CV} {w : World} {B : Nat} (hC : CodeAt w B C) (k : Nat) (hk : k < C.n2) (i : IV) (q : PV) (hq : C.parts[k]? = some q) (hi : IOk i) (hra : regB q i.a = true) (hrb : regB q i.b = true) (he : empB i.s = true) (hl : Ints w B i.A i.n i.args) (o5 : (i.op == 5) = false) (o6 : (i.op == 6) = false) (o16 : (i.op == 16) = false) (o17 : (i.op == 17) = false) (o26 : (i.op == 26) = false) (o25 : (i.op == 25) = false) (o27 : (i.op == 27) = false) (o28 : (i.op == 28) = true) :
    Calls Tryd.prog 13 #[.agg #[.slice C.A0 C.n0 C.c0, .slice C.A1 C.n1 C.c1, .slice C.A2 C.n2 C.c2, .slice C.A3 C.n3 C.c3, .slice C.A4 C.n4 C.c4, .slice C.A5 C.n5 C.c5, .slice C.A6 C.n6 C.c6], .int .i64 k, .agg #[.int .u8 i.op, .int .i64 i.a, .int .i64 i.b, .int .i64 i.c, .string i.s, .slice i.A i.n i.cap]] w fun e w' => e = .returned (.bool (bitB i.c && (decide (i.n = 3) && allB q i.args))) ∧ Below w.heap.size w w' := by
  have HC := Lib.hid hC
  have hn2 := hC.n2
  unfold maxLen at hn2
  obtain ⟨pb, po, q', hpA, hpb, hq', hqp, r0, r1, r2, r3⟩ := hC.part hk
  obtain rfl : q' = q := Option.some.inj (hq'.symm.trans hq)
  clear hC hq hq'
  have HPA := Lib.hid hpA
  have hln := hl.2.1
  unfold maxLen at hln
  have HL := Lib.hid hl
  have HLE := Lib.hid HC.out.le
  have HRA := Lib.hid hra
  clear hra
  have HRB := Lib.hid hrb
  clear hrb
  have hse := emp_iff he
  simp only [Bool.false_eq_true, iff_false, iff_true] at hse
  clear he
  have HQP := Lib.hid hqp
  clear hpA hqp
  have hs0 : ((w.alloc (.cells #[.slice C.A0 C.n0 C.c0, .slice C.A1 C.n1 C.c1, .slice C.A2 C.n2 C.c2, .slice C.A3 C.n3 C.c3, .slice C.A4 C.n4 C.c4, .slice C.A5 C.n5 C.c5, .slice C.A6 C.n6 C.c6] 28)).alloc (.cells #[.int .u8 i.op, .int .i64 i.a, .int .i64 i.b, .int .i64 i.c, .string i.s, .slice i.A i.n i.cap] 31)).heap[w.heap.size]? = some (.cells #[.slice C.A0 C.n0 C.c0, .slice C.A1 C.n1 C.c1, .slice C.A2 C.n2 C.c2, .slice C.A3 C.n3 C.c3, .slice C.A4 C.n4 C.c4, .slice C.A5 C.n5 C.c5, .slice C.A6 C.n6 C.c6] 28 (0, 0)) := by
    rw [(MapKept.heap_alloc _ _).2 _ (by simp), (MapKept.heap_alloc w _).1]
  have hs1 : ((w.alloc (.cells #[.slice C.A0 C.n0 C.c0, .slice C.A1 C.n1 C.c1, .slice C.A2 C.n2 C.c2, .slice C.A3 C.n3 C.c3, .slice C.A4 C.n4 C.c4, .slice C.A5 C.n5 C.c5, .slice C.A6 C.n6 C.c6] 28)).alloc (.cells #[.int .u8 i.op, .int .i64 i.a, .int .i64 i.b, .int .i64 i.c, .string i.s, .slice i.A i.n i.cap] 31)).heap[w.heap.size + 1]? = some (.cells #[.int .u8 i.op, .int .i64 i.a, .int .i64 i.b, .int .i64 i.c, .string i.s, .slice i.A i.n i.cap] 31 (0, 0)) := by
    have := (MapKept.heap_alloc (w.alloc (.cells #[.slice C.A0 C.n0 C.c0, .slice C.A1 C.n1 C.c1, .slice C.A2 C.n2 C.c2, .slice C.A3 C.n3 C.c3, .slice C.A4 C.n4 C.c4, .slice C.A5 C.n5 C.c5, .slice C.A6 C.n6 C.c6] 28)) (.cells #[.int .u8 i.op, .int .i64 i.a, .int .i64 i.b, .int .i64 i.c, .string i.s, .slice i.A i.n i.cap] 31)).1
    rwa [World.size_alloc] at this
  have hbW : Below w.heap.size w ((w.alloc (.cells #[.slice C.A0 C.n0 C.c0, .slice C.A1 C.n1 C.c1, .slice C.A2 C.n2 C.c2, .slice C.A3 C.n3 C.c3, .slice C.A4 C.n4 C.c4, .slice C.A5 C.n5 C.c5, .slice C.A6 C.n6 C.c6] 28)).alloc (.cells #[.int .u8 i.op, .int .i64 i.a, .int .i64 i.b, .int .i64 i.c, .string i.s, .slice i.A i.n i.cap] 31)) := ((Below.refl _ _).alloc (Nat.le_refl _) _).alloc (by simp) _
  have HBW := Lib.hid hbW
  have HS0 := Lib.hid hs0
  have HS1 := Lib.hid hs1
  clear hs0 hs1 hbW
  go_enter Tryd.func13, Tryd.ntmps13
  go_wp2_with fail
  generalize ((w.alloc (.cells #[.slice C.A0 C.n0 C.c0, .slice C.A1 C.n1 C.c1, .slice C.A2 C.n2 C.c2, .slice C.A3 C.n3 C.c3, .slice C.A4 C.n4 C.c4, .slice C.A5 C.n5 C.c5, .slice C.A6 C.n6 C.c6] 28)).alloc (.cells #[.int .u8 i.op, .int .i64 i.a, .int .i64 i.b, .int .i64 i.c, .string i.s, .slice i.A i.n i.cap] 31)) = W at HS0 HS1 HBW ⊢
  have k0 := (HBW.out.cell (p := ⟨pb, po + k * 4, none⟩) hpb).trans r0
  have k1 := (HBW.out.cell (p := ⟨pb, po + k * 4 + 1, none⟩) hpb).trans r1
  have k2 := (HBW.out.cell (p := ⟨pb, po + k * 4 + 2, none⟩) hpb).trans r2
  have k3 := (HBW.out.cell (p := ⟨pb, po + k * 4 + 3, none⟩) hpb).trans r3
  have kc := ccells HS0.out
  have hpA := HPA.out
  go_region_held3 (fun w' => (w'.cell? ⟨w.heap.size, 0, none⟩ = some (.slice C.A0 C.n0 C.c0) ∧ w'.cell? ⟨w.heap.size, 1, none⟩ = some (.slice C.A1 C.n1 C.c1) ∧ w'.cell? ⟨w.heap.size, 2, none⟩ = some (.slice C.A2 C.n2 C.c2) ∧ w'.cell? ⟨w.heap.size, 3, none⟩ = some (.slice C.A3 C.n3 C.c3) ∧ w'.cell? ⟨w.heap.size, 4, none⟩ = some (.slice C.A4 C.n4 C.c4) ∧ w'.cell? ⟨w.heap.size, 5, none⟩ = some (.slice C.A5 C.n5 C.c5) ∧ w'.cell? ⟨w.heap.size, 6, none⟩ = some (.slice C.A6 C.n6 C.c6)) ∧ w'.cell? ⟨pb, po + k * 4, none⟩ = some (.int .i64 q'.regs) ∧ w'.cell? ⟨pb, po + k * 4 + 1, none⟩ = some (.slice q'.A q'.n q'.c) ∧ w'.cell? ⟨pb, po + k * 4 + 2, none⟩ = some (.int .i64 q'.loops) ∧ w'.cell? ⟨pb, po + k * 4 + 3, none⟩ = some (.slice q'.A' q'.n' q'.c')) (first | exact ⟨kc, k0, k1, k2, k3⟩ | go_keep) (fail)
  rw [← hpA]
  clear hpA kc k0 k1 k2 k3
  have hX2 : BoxI (W.alloc (.cells #[.slice C.A0 C.n0 C.c0, .slice C.A1 C.n1 C.c1, .slice C.A2 C.n2 C.c2, .slice C.A3 C.n3 C.c3, .slice C.A4 C.n4 C.c4, .slice C.A5 C.n5 C.c5, .slice C.A6 C.n6 C.c6, .int .i64 q'.regs, .slice q'.A q'.n q'.c, .int .i64 q'.loops, .slice q'.A' q'.n' q'.c'] 63)).drew W.heap.size (w.heap.size + 1) B C q' i :=
    (⟨(MapKept.heap_alloc W _).1, ((MapKept.heap_alloc W _).2 _ (Array.getElem?_eq_some_iff.1 HS1.out).1).trans HS1.out, HQP.out.keep (HBW.out.trans ((Below.refl _ _).alloc HBW.out.size _))⟩ : BoxI (W.alloc (.cells #[.slice C.A0 C.n0 C.c0, .slice C.A1 C.n1 C.c1, .slice C.A2 C.n2 C.c2, .slice C.A3 C.n3 C.c3, .slice C.A4 C.n4 C.c4, .slice C.A5 C.n5 C.c5, .slice C.A6 C.n6 C.c6, .int .i64 q'.regs, .slice q'.A q'.n q'.c, .int .i64 q'.loops, .slice q'.A' q'.n' q'.c'] 63)) W.heap.size (w.heap.size + 1) B C q' i).drew
  have hb2 : Below w.heap.size w (W.alloc (.cells #[.slice C.A0 C.n0 C.c0, .slice C.A1 C.n1 C.c1, .slice C.A2 C.n2 C.c2, .slice C.A3 C.n3 C.c3, .slice C.A4 C.n4 C.c4, .slice C.A5 C.n5 C.c5, .slice C.A6 C.n6 C.c6, .int .i64 q'.regs, .slice q'.A q'.n q'.c, .int .i64 q'.loops, .slice q'.A' q'.n' q'.c'] 63)).drew := Gr.trans (Gr.trans HBW.out ((Below.refl _ _).alloc (Nat.le_refl _) _)) (Below.refl _ _).drew
  generalize (W.alloc (.cells #[.slice C.A0 C.n0 C.c0, .slice C.A1 C.n1 C.c1, .slice C.A2 C.n2 C.c2, .slice C.A3 C.n3 C.c3, .slice C.A4 C.n4 C.c4, .slice C.A5 C.n5 C.c5, .slice C.A6 C.n6 C.c6, .int .i64 q'.regs, .slice q'.A q'.n q'.c, .int .i64 q'.loops, .slice q'.A' q'.n' q'.c'] 63)).drew = W2 at hX2 hb2 ⊢
  generalize W.heap.size = BP at hX2 ⊢
  have HX2 := Lib.hid hX2
  have HW2 := Lib.hid hb2
  have hall2 := HX2.out.cells
  clear hX2 hb2
  go_wp2_with (first | ((with_reducible refine (q_reg C q' i.a _).mono ?_); rintro e w3 ⟨rfl, hb3⟩; have HX3 := Lib.hid (HX2.out.keep hb3); have HW3 := Lib.hid (Gr.trans HW2.out hb3); have hall3 := HX3.out.cells; clear hb3; rw [HRA.out]) | ((with_reducible refine (q_reg C q' i.b _).mono ?_); rintro e w4 ⟨rfl, hb4⟩; have HX4 := Lib.hid (HX3.out.keep hb4); have HW4 := Lib.hid (Gr.trans HW3.out hb4); have hall4 := HX4.out.cells; clear hb4; rw [HRB.out]) | ((with_reducible refine (q_all HX4.out.at_ _ _ _ _ (HL.out.keep HLE.out HW4.out)).mono ?_); rintro e w5 ⟨rfl, hb5⟩; have HX5 := Lib.hid (HX4.out.keep hb5); have HW5 := Lib.hid (Gr.trans HW4.out hb5); have hall5 := HX5.out.cells; clear hb5))
  all_goals (go_ret; exact ⟨ret_bool (by unfold bitB; (try generalize allB q' i.args = z2 at *); cases z2 <;> rw [Bool.eq_iff_iff] <;> simp <;> omega), by first | exact HW5.out | exact HW4.out⟩)
set_option maxRecDepth 100000 in
set_option maxHeartbeats 8000000 in
theorem q_ins29 {C : CV} {w : World} {B : Nat} (hC : CodeAt w B C) (k : Nat) (hk : k < C.n2) (i : IV) (q : PV) (hq : C.parts[k]? = some q) (hi : IOk i) (he : empB i.s = true) (hl : Ints w B i.A i.n i.args) (o5 : (i.op == 5) = false) (o6 : (i.op == 6) = false) (o16 : (i.op == 16) = false) (o17 : (i.op == 17) = false) (o26 : (i.op == 26) = false) (o25 : (i.op == 25) = false) (o27 : (i.op == 27) = false) (o28 : (i.op == 28) = false) (o29 : (i.op == 29) = true) :
    Calls Tryd.prog 13 #[.agg #[.slice C.A0 C.n0 C.c0, .slice C.A1 C.n1 C.c1, .slice C.A2 C.n2 C.c2, .slice C.A3 C.n3 C.c3, .slice C.A4 C.n4 C.c4, .slice C.A5 C.n5 C.c5, .slice C.A6 C.n6 C.c6], .int .i64 k, .agg #[.int .u8 i.op, .int .i64 i.a, .int .i64 i.b, .int .i64 i.c, .string i.s, .slice i.A i.n i.cap]] w fun e w' => e = .returned (.bool (getlB q i)) ∧ Below w.heap.size w w' := by
  have HC := Lib.hid hC
  have hn2 := hC.n2
  unfold maxLen at hn2
  obtain ⟨pb, po, q', hpA, hpb, hq', hqp, r0, r1, r2, r3⟩ := hC.part hk
  obtain rfl : q' = q := Option.some.inj (hq'.symm.trans hq)
  clear hC hq hq'
  have HPA := Lib.hid hpA
  have hln := hl.2.1
  unfold maxLen at hln
  have HL := Lib.hid hl
  have HLE := Lib.hid HC.out.le
  have O29 := Lib.hid o29
  have hse := emp_iff he
  simp only [Bool.false_eq_true, iff_false, iff_true] at hse
  clear he
  have HQP := Lib.hid hqp
  clear hpA hqp
  have hs0 : ((w.alloc (.cells #[.slice C.A0 C.n0 C.c0, .slice C.A1 C.n1 C.c1, .slice C.A2 C.n2 C.c2, .slice C.A3 C.n3 C.c3, .slice C.A4 C.n4 C.c4, .slice C.A5 C.n5 C.c5, .slice C.A6 C.n6 C.c6] 28)).alloc (.cells #[.int .u8 i.op, .int .i64 i.a, .int .i64 i.b, .int .i64 i.c, .string i.s, .slice i.A i.n i.cap] 31)).heap[w.heap.size]? = some (.cells #[.slice C.A0 C.n0 C.c0, .slice C.A1 C.n1 C.c1, .slice C.A2 C.n2 C.c2, .slice C.A3 C.n3 C.c3, .slice C.A4 C.n4 C.c4, .slice C.A5 C.n5 C.c5, .slice C.A6 C.n6 C.c6] 28 (0, 0)) := by
    rw [(MapKept.heap_alloc _ _).2 _ (by simp), (MapKept.heap_alloc w _).1]
  have hs1 : ((w.alloc (.cells #[.slice C.A0 C.n0 C.c0, .slice C.A1 C.n1 C.c1, .slice C.A2 C.n2 C.c2, .slice C.A3 C.n3 C.c3, .slice C.A4 C.n4 C.c4, .slice C.A5 C.n5 C.c5, .slice C.A6 C.n6 C.c6] 28)).alloc (.cells #[.int .u8 i.op, .int .i64 i.a, .int .i64 i.b, .int .i64 i.c, .string i.s, .slice i.A i.n i.cap] 31)).heap[w.heap.size + 1]? = some (.cells #[.int .u8 i.op, .int .i64 i.a, .int .i64 i.b, .int .i64 i.c, .string i.s, .slice i.A i.n i.cap] 31 (0, 0)) := by
    have := (MapKept.heap_alloc (w.alloc (.cells #[.slice C.A0 C.n0 C.c0, .slice C.A1 C.n1 C.c1, .slice C.A2 C.n2 C.c2, .slice C.A3 C.n3 C.c3, .slice C.A4 C.n4 C.c4, .slice C.A5 C.n5 C.c5, .slice C.A6 C.n6 C.c6] 28)) (.cells #[.int .u8 i.op, .int .i64 i.a, .int .i64 i.b, .int .i64 i.c, .string i.s, .slice i.A i.n i.cap] 31)).1
    rwa [World.size_alloc] at this
  have hbW : Below w.heap.size w ((w.alloc (.cells #[.slice C.A0 C.n0 C.c0, .slice C.A1 C.n1 C.c1, .slice C.A2 C.n2 C.c2, .slice C.A3 C.n3 C.c3, .slice C.A4 C.n4 C.c4, .slice C.A5 C.n5 C.c5, .slice C.A6 C.n6 C.c6] 28)).alloc (.cells #[.int .u8 i.op, .int .i64 i.a, .int .i64 i.b, .int .i64 i.c, .string i.s, .slice i.A i.n i.cap] 31)) := ((Below.refl _ _).alloc (Nat.le_refl _) _).alloc (by simp) _
  have HBW := Lib.hid hbW
  have HS0 := Lib.hid hs0
  have HS1 := Lib.hid hs1
  clear hs0 hs1 hbW
  go_enter Tryd.func13, Tryd.ntmps13
  go_wp2_with fail
  generalize ((w.alloc (.cells #[.slice C.A0 C.n0 C.c0, .slice C.A1 C.n1 C.c1, .slice C.A2 C.n2 C.c2, .slice C.A3 C.n3 C.c3, .slice C.A4 C.n4 C.c4, .slice C.A5 C.n5 C.c5, .slice C.A6 C.n6 C.c6] 28)).alloc (.cells #[.int .u8 i.op, .int .i64 i.a, .int .i64 i.b, .int .i64 i.c, .string i.s, .slice i.A i.n i.cap] 31)) = W at HS0 HS1 HBW ⊢
  have k0 := (HBW.out.cell (p := ⟨pb, po + k * 4, none⟩) hpb).trans r0
  have k1 := (HBW.out.cell (p := ⟨pb, po + k * 4 + 1, none⟩) hpb).trans r1
  have k2 := (HBW.out.cell (p := ⟨pb, po + k * 4 + 2, none⟩) hpb).trans r2
  have k3 := (HBW.out.cell (p := ⟨pb, po + k * 4 + 3, none⟩) hpb).trans r3
  have kc := ccells HS0.out
  have hpA := HPA.out
  go_region_held3 (fun w' => (w'.cell? ⟨w.heap.size, 0, none⟩ = some (.slice C.A0 C.n0 C.c0) ∧ w'.cell? ⟨w.heap.size, 1, none⟩ = some (.slice C.A1 C.n1 C.c1) ∧ w'.cell? ⟨w.heap.size, 2, none⟩ = some (.slice C.A2 C.n2 C.c2) ∧ w'.cell? ⟨w.heap.size, 3, none⟩ = some (.slice C.A3 C.n3 C.c3) ∧ w'.cell? ⟨w.heap.size, 4, none⟩ = some (.slice C.A4 C.n4 C.c4) ∧ w'.cell? ⟨w.heap.size, 5, none⟩ = some (.slice C.A5 C.n5 C.c5) ∧ w'.cell? ⟨w.heap.size, 6, none⟩ = some (.slice C.A6 C.n6 C.c6)) ∧ w'.cell? ⟨pb, po + k * 4, none⟩ = some (.int .i64 q'.regs) ∧ w'.cell? ⟨pb, po + k * 4 + 1, none⟩ = some (.slice q'.A q'.n q'.c) ∧ w'.cell? ⟨pb, po + k * 4 + 2, none⟩ = some (.int .i64 q'.loops) ∧ w'.cell? ⟨pb, po + k * 4 + 3, none⟩ = some (.slice q'.A' q'.n' q'.c')) (first | exact ⟨kc, k0, k1, k2, k3⟩ | go_keep) (fail)
  rw [← hpA]
  clear hpA kc k0 k1 k2 k3
  have hX2 : BoxI (W.alloc (.cells #[.slice C.A0 C.n0 C.c0, .slice C.A1 C.n1 C.c1, .slice C.A2 C.n2 C.c2, .slice C.A3 C.n3 C.c3, .slice C.A4 C.n4 C.c4, .slice C.A5 C.n5 C.c5, .slice C.A6 C.n6 C.c6, .int .i64 q'.regs, .slice q'.A q'.n q'.c, .int .i64 q'.loops, .slice q'.A' q'.n' q'.c'] 63)).drew W.heap.size (w.heap.size + 1) B C q' i :=
    (⟨(MapKept.heap_alloc W _).1, ((MapKept.heap_alloc W _).2 _ (Array.getElem?_eq_some_iff.1 HS1.out).1).trans HS1.out, HQP.out.keep (HBW.out.trans ((Below.refl _ _).alloc HBW.out.size _))⟩ : BoxI (W.alloc (.cells #[.slice C.A0 C.n0 C.c0, .slice C.A1 C.n1 C.c1, .slice C.A2 C.n2 C.c2, .slice C.A3 C.n3 C.c3, .slice C.A4 C.n4 C.c4, .slice C.A5 C.n5 C.c5, .slice C.A6 C.n6 C.c6, .int .i64 q'.regs, .slice q'.A q'.n q'.c, .int .i64 q'.loops, .slice q'.A' q'.n' q'.c'] 63)) W.heap.size (w.heap.size + 1) B C q' i).drew
  have hb2 : Below w.heap.size w (W.alloc (.cells #[.slice C.A0 C.n0 C.c0, .slice C.A1 C.n1 C.c1, .slice C.A2 C.n2 C.c2, .slice C.A3 C.n3 C.c3, .slice C.A4 C.n4 C.c4, .slice C.A5 C.n5 C.c5, .slice C.A6 C.n6 C.c6, .int .i64 q'.regs, .slice q'.A q'.n q'.c, .int .i64 q'.loops, .slice q'.A' q'.n' q'.c'] 63)).drew := Gr.trans (Gr.trans HBW.out ((Below.refl _ _).alloc (Nat.le_refl _) _)) (Below.refl _ _).drew
  generalize (W.alloc (.cells #[.slice C.A0 C.n0 C.c0, .slice C.A1 C.n1 C.c1, .slice C.A2 C.n2 C.c2, .slice C.A3 C.n3 C.c3, .slice C.A4 C.n4 C.c4, .slice C.A5 C.n5 C.c5, .slice C.A6 C.n6 C.c6, .int .i64 q'.regs, .slice q'.A q'.n q'.c, .int .i64 q'.loops, .slice q'.A' q'.n' q'.c'] 63)).drew = W2 at hX2 hb2 ⊢
  generalize W.heap.size = BP at hX2 ⊢
  have HX2 := Lib.hid hX2
  have HW2 := Lib.hid hb2
  have hall2 := HX2.out.cells
  clear hX2 hb2
  go_wp2_with (first | ((with_reducible refine (q_io29 HX2.out.at_ i hi (HL.out.keep HLE.out HW2.out) O29.out).mono ?_); rintro e w3 ⟨rfl, hb3⟩; have HX3 := Lib.hid (HX2.out.keep hb3); have HW3 := Lib.hid (Gr.trans HW2.out hb3); have hall3 := HX3.out.cells; clear hb3))
  all_goals (go_ret; exact ⟨ret_bool (by (try generalize getlB q' i = z0 at *); simp [empB, ← ByteArray.toList_eq, *] <;> first | omega | (rw [Bool.eq_iff_iff]; simp <;> omega)), by first | exact HW3.out | exact HW2.out⟩)
set_option maxRecDepth 100000 in
set_option maxHeartbeats 8000000 in
theorem q_ins30 {C : CV} {w : World} {B : Nat} (hC : CodeAt w B C) (k : Nat) (hk : k < C.n2) (i : IV) (q : PV) (hq : C.parts[k]? = some q) (hi : IOk i) (he : empB i.s = true) (hl : Ints w B i.A i.n i.args) (o5 : (i.op == 5) = false) (o6 : (i.op == 6) = false) (o16 : (i.op == 16) = false) (o17 : (i.op == 17) = false) (o26 : (i.op == 26) = false) (o25 : (i.op == 25) = false) (o27 : (i.op == 27) = false) (o28 : (i.op == 28) = false) (o29 : (i.op == 29) = false) (o30 : (i.op == 30) = true) :
    Calls Tryd.prog 13 #[.agg #[.slice C.A0 C.n0 C.c0, .slice C.A1 C.n1 C.c1, .slice C.A2 C.n2 C.c2, .slice C.A3 C.n3 C.c3, .slice C.A4 C.n4 C.c4, .slice C.A5 C.n5 C.c5, .slice C.A6 C.n6 C.c6], .int .i64 k, .agg #[.int .u8 i.op, .int .i64 i.a, .int .i64 i.b, .int .i64 i.c, .string i.s, .slice i.A i.n i.cap]] w fun e w' => e = .returned (.bool (printB q i)) ∧ Below w.heap.size w w' := by
  have HC := Lib.hid hC
  have hn2 := hC.n2
  unfold maxLen at hn2
  obtain ⟨pb, po, q', hpA, hpb, hq', hqp, r0, r1, r2, r3⟩ := hC.part hk
  obtain rfl : q' = q := Option.some.inj (hq'.symm.trans hq)
  clear hC hq hq'
  have HPA := Lib.hid hpA
  have hln := hl.2.1
  unfold maxLen at hln
  have HL := Lib.hid hl
  have HLE := Lib.hid HC.out.le
  have O29 := Lib.hid o29
  have hse := emp_iff he
  simp only [Bool.false_eq_true, iff_false, iff_true] at hse
  clear he
  have HQP := Lib.hid hqp
  clear hpA hqp
  have hs0 : ((w.alloc (.cells #[.slice C.A0 C.n0 C.c0, .slice C.A1 C.n1 C.c1, .slice C.A2 C.n2 C.c2, .slice C.A3 C.n3 C.c3, .slice C.A4 C.n4 C.c4, .slice C.A5 C.n5 C.c5, .slice C.A6 C.n6 C.c6] 28)).alloc (.cells #[.int .u8 i.op, .int .i64 i.a, .int .i64 i.b, .int .i64 i.c, .string i.s, .slice i.A i.n i.cap] 31)).heap[w.heap.size]? = some (.cells #[.slice C.A0 C.n0 C.c0, .slice C.A1 C.n1 C.c1, .slice C.A2 C.n2 C.c2, .slice C.A3 C.n3 C.c3, .slice C.A4 C.n4 C.c4, .slice C.A5 C.n5 C.c5, .slice C.A6 C.n6 C.c6] 28 (0, 0)) := by
    rw [(MapKept.heap_alloc _ _).2 _ (by simp), (MapKept.heap_alloc w _).1]
  have hs1 : ((w.alloc (.cells #[.slice C.A0 C.n0 C.c0, .slice C.A1 C.n1 C.c1, .slice C.A2 C.n2 C.c2, .slice C.A3 C.n3 C.c3, .slice C.A4 C.n4 C.c4, .slice C.A5 C.n5 C.c5, .slice C.A6 C.n6 C.c6] 28)).alloc (.cells #[.int .u8 i.op, .int .i64 i.a, .int .i64 i.b, .int .i64 i.c, .string i.s, .slice i.A i.n i.cap] 31)).heap[w.heap.size + 1]? = some (.cells #[.int .u8 i.op, .int .i64 i.a, .int .i64 i.b, .int .i64 i.c, .string i.s, .slice i.A i.n i.cap] 31 (0, 0)) := by
    have := (MapKept.heap_alloc (w.alloc (.cells #[.slice C.A0 C.n0 C.c0, .slice C.A1 C.n1 C.c1, .slice C.A2 C.n2 C.c2, .slice C.A3 C.n3 C.c3, .slice C.A4 C.n4 C.c4, .slice C.A5 C.n5 C.c5, .slice C.A6 C.n6 C.c6] 28)) (.cells #[.int .u8 i.op, .int .i64 i.a, .int .i64 i.b, .int .i64 i.c, .string i.s, .slice i.A i.n i.cap] 31)).1
    rwa [World.size_alloc] at this
  have hbW : Below w.heap.size w ((w.alloc (.cells #[.slice C.A0 C.n0 C.c0, .slice C.A1 C.n1 C.c1, .slice C.A2 C.n2 C.c2, .slice C.A3 C.n3 C.c3, .slice C.A4 C.n4 C.c4, .slice C.A5 C.n5 C.c5, .slice C.A6 C.n6 C.c6] 28)).alloc (.cells #[.int .u8 i.op, .int .i64 i.a, .int .i64 i.b, .int .i64 i.c, .string i.s, .slice i.A i.n i.cap] 31)) := ((Below.refl _ _).alloc (Nat.le_refl _) _).alloc (by simp) _
  have HBW := Lib.hid hbW
  have HS0 := Lib.hid hs0
  have HS1 := Lib.hid hs1
  clear hs0 hs1 hbW
  go_enter Tryd.func13, Tryd.ntmps13
  go_wp2_with fail
  generalize ((w.alloc (.cells #[.slice C.A0 C.n0 C.c0, .slice C.A1 C.n1 C.c1, .slice C.A2 C.n2 C.c2, .slice C.A3 C.n3 C.c3, .slice C.A4 C.n4 C.c4, .slice C.A5 C.n5 C.c5, .slice C.A6 C.n6 C.c6] 28)).alloc (.cells #[.int .u8 i.op, .int .i64 i.a, .int .i64 i.b, .int .i64 i.c, .string i.s, .slice i.A i.n i.cap] 31)) = W at HS0 HS1 HBW ⊢
  have k0 := (HBW.out.cell (p := ⟨pb, po + k * 4, none⟩) hpb).trans r0
  have k1 := (HBW.out.cell (p := ⟨pb, po + k * 4 + 1, none⟩) hpb).trans r1
  have k2 := (HBW.out.cell (p := ⟨pb, po + k * 4 + 2, none⟩) hpb).trans r2
  have k3 := (HBW.out.cell (p := ⟨pb, po + k * 4 + 3, none⟩) hpb).trans r3
  have kc := ccells HS0.out
  have hpA := HPA.out
  go_region_held3 (fun w' => (w'.cell? ⟨w.heap.size, 0, none⟩ = some (.slice C.A0 C.n0 C.c0) ∧ w'.cell? ⟨w.heap.size, 1, none⟩ = some (.slice C.A1 C.n1 C.c1) ∧ w'.cell? ⟨w.heap.size, 2, none⟩ = some (.slice C.A2 C.n2 C.c2) ∧ w'.cell? ⟨w.heap.size, 3, none⟩ = some (.slice C.A3 C.n3 C.c3) ∧ w'.cell? ⟨w.heap.size, 4, none⟩ = some (.slice C.A4 C.n4 C.c4) ∧ w'.cell? ⟨w.heap.size, 5, none⟩ = some (.slice C.A5 C.n5 C.c5) ∧ w'.cell? ⟨w.heap.size, 6, none⟩ = some (.slice C.A6 C.n6 C.c6)) ∧ w'.cell? ⟨pb, po + k * 4, none⟩ = some (.int .i64 q'.regs) ∧ w'.cell? ⟨pb, po + k * 4 + 1, none⟩ = some (.slice q'.A q'.n q'.c) ∧ w'.cell? ⟨pb, po + k * 4 + 2, none⟩ = some (.int .i64 q'.loops) ∧ w'.cell? ⟨pb, po + k * 4 + 3, none⟩ = some (.slice q'.A' q'.n' q'.c')) (first | exact ⟨kc, k0, k1, k2, k3⟩ | go_keep) (fail)
  rw [← hpA]
  clear hpA kc k0 k1 k2 k3
  have hX2 : BoxI (W.alloc (.cells #[.slice C.A0 C.n0 C.c0, .slice C.A1 C.n1 C.c1, .slice C.A2 C.n2 C.c2, .slice C.A3 C.n3 C.c3, .slice C.A4 C.n4 C.c4, .slice C.A5 C.n5 C.c5, .slice C.A6 C.n6 C.c6, .int .i64 q'.regs, .slice q'.A q'.n q'.c, .int .i64 q'.loops, .slice q'.A' q'.n' q'.c'] 63)).drew W.heap.size (w.heap.size + 1) B C q' i :=
    (⟨(MapKept.heap_alloc W _).1, ((MapKept.heap_alloc W _).2 _ (Array.getElem?_eq_some_iff.1 HS1.out).1).trans HS1.out, HQP.out.keep (HBW.out.trans ((Below.refl _ _).alloc HBW.out.size _))⟩ : BoxI (W.alloc (.cells #[.slice C.A0 C.n0 C.c0, .slice C.A1 C.n1 C.c1, .slice C.A2 C.n2 C.c2, .slice C.A3 C.n3 C.c3, .slice C.A4 C.n4 C.c4, .slice C.A5 C.n5 C.c5, .slice C.A6 C.n6 C.c6, .int .i64 q'.regs, .slice q'.A q'.n q'.c, .int .i64 q'.loops, .slice q'.A' q'.n' q'.c'] 63)) W.heap.size (w.heap.size + 1) B C q' i).drew
  have hb2 : Below w.heap.size w (W.alloc (.cells #[.slice C.A0 C.n0 C.c0, .slice C.A1 C.n1 C.c1, .slice C.A2 C.n2 C.c2, .slice C.A3 C.n3 C.c3, .slice C.A4 C.n4 C.c4, .slice C.A5 C.n5 C.c5, .slice C.A6 C.n6 C.c6, .int .i64 q'.regs, .slice q'.A q'.n q'.c, .int .i64 q'.loops, .slice q'.A' q'.n' q'.c'] 63)).drew := Gr.trans (Gr.trans HBW.out ((Below.refl _ _).alloc (Nat.le_refl _) _)) (Below.refl _ _).drew
  generalize (W.alloc (.cells #[.slice C.A0 C.n0 C.c0, .slice C.A1 C.n1 C.c1, .slice C.A2 C.n2 C.c2, .slice C.A3 C.n3 C.c3, .slice C.A4 C.n4 C.c4, .slice C.A5 C.n5 C.c5, .slice C.A6 C.n6 C.c6, .int .i64 q'.regs, .slice q'.A q'.n q'.c, .int .i64 q'.loops, .slice q'.A' q'.n' q'.c'] 63)).drew = W2 at hX2 hb2 ⊢
  generalize W.heap.size = BP at hX2 ⊢
  have HX2 := Lib.hid hX2
  have HW2 := Lib.hid hb2
  have hall2 := HX2.out.cells
  clear hX2 hb2
  go_wp2_with (first | ((with_reducible refine (q_io30 HX2.out.at_ i hi (HL.out.keep HLE.out HW2.out) O29.out).mono ?_); rintro e w3 ⟨rfl, hb3⟩; have HX3 := Lib.hid (HX2.out.keep hb3); have HW3 := Lib.hid (Gr.trans HW2.out hb3); have hall3 := HX3.out.cells; clear hb3))
  all_goals (go_ret; exact ⟨ret_bool (by (try generalize printB q' i = z0 at *); simp [empB, ← ByteArray.toList_eq, *] <;> first | omega | (rw [Bool.eq_iff_iff]; simp <;> omega)), by first | exact HW3.out | exact HW2.out⟩)
set_option maxRecDepth 100000 in
set_option maxHeartbeats 8000000 in
theorem q_ins_else0 {C : CV} {w : World} {B : Nat} (hC : CodeAt w B C) (k : Nat) (hk : k < C.n2) (i : IV) (q : PV) (hq : C.parts[k]? = some q) (hi : IOk i) (hn : i.n = 0) (he : empB i.s = true) (hl : Ints w B i.A i.n i.args) (o5 : (i.op == 5) = false) (o6 : (i.op == 6) = false) (o16 : (i.op == 16) = false) (o17 : (i.op == 17) = false) (o26 : (i.op == 26) = false) (o25 : (i.op == 25) = false) (o27 : (i.op == 27) = false) (o28 : (i.op == 28) = false) (o29 : (i.op == 29) = false) (o30 : (i.op == 30) = false) :
    Calls Tryd.prog 13 #[.agg #[.slice C.A0 C.n0 C.c0, .slice C.A1 C.n1 C.c1, .slice C.A2 C.n2 C.c2, .slice C.A3 C.n3 C.c3, .slice C.A4 C.n4 C.c4, .slice C.A5 C.n5 C.c5, .slice C.A6 C.n6 C.c6], .int .i64 k, .agg #[.int .u8 i.op, .int .i64 i.a, .int .i64 i.b, .int .i64 i.c, .string i.s, .slice i.A i.n i.cap]] w fun e w' => e = .returned (.bool (plainB C q i)) ∧ Below w.heap.size w w' := by
  have HC := Lib.hid hC
  have hn2 := hC.n2
  unfold maxLen at hn2
  obtain ⟨pb, po, q', hpA, hpb, hq', hqp, r0, r1, r2, r3⟩ := hC.part hk
  obtain rfl : q' = q := Option.some.inj (hq'.symm.trans hq)
  clear hC hq hq'
  have HPA := Lib.hid hpA
  have hln := hl.2.1
  unfold maxLen at hln
  have HL := Lib.hid hl
  have HLE := Lib.hid HC.out.le
  have hn1 : ((i.n : Int) == 0) = true := by simp [hn]
  have hn2 : decide ((i.n : Int) = 0) = true := by simp [hn]
  clear hn
  have O16 := Lib.hid o16
  have O17 := Lib.hid o17
  have hse := emp_iff he
  simp only [Bool.false_eq_true, iff_false, iff_true] at hse
  clear he
  have HQP := Lib.hid hqp
  clear hpA hqp
  have hs0 : ((w.alloc (.cells #[.slice C.A0 C.n0 C.c0, .slice C.A1 C.n1 C.c1, .slice C.A2 C.n2 C.c2, .slice C.A3 C.n3 C.c3, .slice C.A4 C.n4 C.c4, .slice C.A5 C.n5 C.c5, .slice C.A6 C.n6 C.c6] 28)).alloc (.cells #[.int .u8 i.op, .int .i64 i.a, .int .i64 i.b, .int .i64 i.c, .string i.s, .slice i.A i.n i.cap] 31)).heap[w.heap.size]? = some (.cells #[.slice C.A0 C.n0 C.c0, .slice C.A1 C.n1 C.c1, .slice C.A2 C.n2 C.c2, .slice C.A3 C.n3 C.c3, .slice C.A4 C.n4 C.c4, .slice C.A5 C.n5 C.c5, .slice C.A6 C.n6 C.c6] 28 (0, 0)) := by
    rw [(MapKept.heap_alloc _ _).2 _ (by simp), (MapKept.heap_alloc w _).1]
  have hs1 : ((w.alloc (.cells #[.slice C.A0 C.n0 C.c0, .slice C.A1 C.n1 C.c1, .slice C.A2 C.n2 C.c2, .slice C.A3 C.n3 C.c3, .slice C.A4 C.n4 C.c4, .slice C.A5 C.n5 C.c5, .slice C.A6 C.n6 C.c6] 28)).alloc (.cells #[.int .u8 i.op, .int .i64 i.a, .int .i64 i.b, .int .i64 i.c, .string i.s, .slice i.A i.n i.cap] 31)).heap[w.heap.size + 1]? = some (.cells #[.int .u8 i.op, .int .i64 i.a, .int .i64 i.b, .int .i64 i.c, .string i.s, .slice i.A i.n i.cap] 31 (0, 0)) := by
    have := (MapKept.heap_alloc (w.alloc (.cells #[.slice C.A0 C.n0 C.c0, .slice C.A1 C.n1 C.c1, .slice C.A2 C.n2 C.c2, .slice C.A3 C.n3 C.c3, .slice C.A4 C.n4 C.c4, .slice C.A5 C.n5 C.c5, .slice C.A6 C.n6 C.c6] 28)) (.cells #[.int .u8 i.op, .int .i64 i.a, .int .i64 i.b, .int .i64 i.c, .string i.s, .slice i.A i.n i.cap] 31)).1
    rwa [World.size_alloc] at this
  have hbW : Below w.heap.size w ((w.alloc (.cells #[.slice C.A0 C.n0 C.c0, .slice C.A1 C.n1 C.c1, .slice C.A2 C.n2 C.c2, .slice C.A3 C.n3 C.c3, .slice C.A4 C.n4 C.c4, .slice C.A5 C.n5 C.c5, .slice C.A6 C.n6 C.c6] 28)).alloc (.cells #[.int .u8 i.op, .int .i64 i.a, .int .i64 i.b, .int .i64 i.c, .string i.s, .slice i.A i.n i.cap] 31)) := ((Below.refl _ _).alloc (Nat.le_refl _) _).alloc (by simp) _
  have HBW := Lib.hid hbW
  have HS0 := Lib.hid hs0
  have HS1 := Lib.hid hs1
  clear hs0 hs1 hbW
  go_enter Tryd.func13, Tryd.ntmps13
  go_wp2_with fail
  generalize ((w.alloc (.cells #[.slice C.A0 C.n0 C.c0, .slice C.A1 C.n1 C.c1, .slice C.A2 C.n2 C.c2, .slice C.A3 C.n3 C.c3, .slice C.A4 C.n4 C.c4, .slice C.A5 C.n5 C.c5, .slice C.A6 C.n6 C.c6] 28)).alloc (.cells #[.int .u8 i.op, .int .i64 i.a, .int .i64 i.b, .int .i64 i.c, .string i.s, .slice i.A i.n i.cap] 31)) = W at HS0 HS1 HBW ⊢
  have k0 := (HBW.out.cell (p := ⟨pb, po + k * 4, none⟩) hpb).trans r0
  have k1 := (HBW.out.cell (p := ⟨pb, po + k * 4 + 1, none⟩) hpb).trans r1
  have k2 := (HBW.out.cell (p := ⟨pb, po + k * 4 + 2, none⟩) hpb).trans r2
  have k3 := (HBW.out.cell (p := ⟨pb, po + k * 4 + 3, none⟩) hpb).trans r3
  have kc := ccells HS0.out
  have hpA := HPA.out
  go_region_held3 (fun w' => (w'.cell? ⟨w.heap.size, 0, none⟩ = some (.slice C.A0 C.n0 C.c0) ∧ w'.cell? ⟨w.heap.size, 1, none⟩ = some (.slice C.A1 C.n1 C.c1) ∧ w'.cell? ⟨w.heap.size, 2, none⟩ = some (.slice C.A2 C.n2 C.c2) ∧ w'.cell? ⟨w.heap.size, 3, none⟩ = some (.slice C.A3 C.n3 C.c3) ∧ w'.cell? ⟨w.heap.size, 4, none⟩ = some (.slice C.A4 C.n4 C.c4) ∧ w'.cell? ⟨w.heap.size, 5, none⟩ = some (.slice C.A5 C.n5 C.c5) ∧ w'.cell? ⟨w.heap.size, 6, none⟩ = some (.slice C.A6 C.n6 C.c6)) ∧ w'.cell? ⟨pb, po + k * 4, none⟩ = some (.int .i64 q'.regs) ∧ w'.cell? ⟨pb, po + k * 4 + 1, none⟩ = some (.slice q'.A q'.n q'.c) ∧ w'.cell? ⟨pb, po + k * 4 + 2, none⟩ = some (.int .i64 q'.loops) ∧ w'.cell? ⟨pb, po + k * 4 + 3, none⟩ = some (.slice q'.A' q'.n' q'.c')) (first | exact ⟨kc, k0, k1, k2, k3⟩ | go_keep) (fail)
  rw [← hpA]
  clear hpA kc k0 k1 k2 k3
  have hX2 : BoxI (W.alloc (.cells #[.slice C.A0 C.n0 C.c0, .slice C.A1 C.n1 C.c1, .slice C.A2 C.n2 C.c2, .slice C.A3 C.n3 C.c3, .slice C.A4 C.n4 C.c4, .slice C.A5 C.n5 C.c5, .slice C.A6 C.n6 C.c6, .int .i64 q'.regs, .slice q'.A q'.n q'.c, .int .i64 q'.loops, .slice q'.A' q'.n' q'.c'] 63)).drew W.heap.size (w.heap.size + 1) B C q' i :=
    (⟨(MapKept.heap_alloc W _).1, ((MapKept.heap_alloc W _).2 _ (Array.getElem?_eq_some_iff.1 HS1.out).1).trans HS1.out, HQP.out.keep (HBW.out.trans ((Below.refl _ _).alloc HBW.out.size _))⟩ : BoxI (W.alloc (.cells #[.slice C.A0 C.n0 C.c0, .slice C.A1 C.n1 C.c1, .slice C.A2 C.n2 C.c2, .slice C.A3 C.n3 C.c3, .slice C.A4 C.n4 C.c4, .slice C.A5 C.n5 C.c5, .slice C.A6 C.n6 C.c6, .int .i64 q'.regs, .slice q'.A q'.n q'.c, .int .i64 q'.loops, .slice q'.A' q'.n' q'.c'] 63)) W.heap.size (w.heap.size + 1) B C q' i).drew
  have hb2 : Below w.heap.size w (W.alloc (.cells #[.slice C.A0 C.n0 C.c0, .slice C.A1 C.n1 C.c1, .slice C.A2 C.n2 C.c2, .slice C.A3 C.n3 C.c3, .slice C.A4 C.n4 C.c4, .slice C.A5 C.n5 C.c5, .slice C.A6 C.n6 C.c6, .int .i64 q'.regs, .slice q'.A q'.n q'.c, .int .i64 q'.loops, .slice q'.A' q'.n' q'.c'] 63)).drew := Gr.trans (Gr.trans HBW.out ((Below.refl _ _).alloc (Nat.le_refl _) _)) (Below.refl _ _).drew
  generalize (W.alloc (.cells #[.slice C.A0 C.n0 C.c0, .slice C.A1 C.n1 C.c1, .slice C.A2 C.n2 C.c2, .slice C.A3 C.n3 C.c3, .slice C.A4 C.n4 C.c4, .slice C.A5 C.n5 C.c5, .slice C.A6 C.n6 C.c6, .int .i64 q'.regs, .slice q'.A q'.n q'.c, .int .i64 q'.loops, .slice q'.A' q'.n' q'.c'] 63)).drew = W2 at hX2 hb2 ⊢
  generalize W.heap.size = BP at hX2 ⊢
  have HX2 := Lib.hid hX2
  have HW2 := Lib.hid hb2
  have hall2 := HX2.out.cells
  clear hX2 hb2
  go_wp2_with (first | ((with_reducible refine (q_plain HX2.out.at_ i hi O16.out O17.out).mono ?_); rintro e w3 ⟨rfl, hb3⟩; have HX3 := Lib.hid (HX2.out.keep hb3); have HW3 := Lib.hid (Gr.trans HW2.out hb3); have hall3 := HX3.out.cells; clear hb3))
  go_ret
  exact ⟨rfl, HW3.out⟩
set_option maxRecDepth 100000 in
set_option maxHeartbeats 8000000 in
theorem q_ins_elseN {C : CV} {w : World} {B : Nat} (hC : CodeAt w B C) (k : Nat) (hk : k < C.n2) (i : IV) (q : PV) (hq : C.parts[k]? = some q) (hi : IOk i) (hn : ¬ i.n = 0) (he : empB i.s = true) (hl : Ints w B i.A i.n i.args) (o5 : (i.op == 5) = false) (o6 : (i.op == 6) = false) (o16 : (i.op == 16) = false) (o17 : (i.op == 17) = false) (o26 : (i.op == 26) = false) (o25 : (i.op == 25) = false) (o27 : (i.op == 27) = false) (o28 : (i.op == 28) = false) (o29 : (i.op == 29) = false) (o30 : (i.op == 30) = false) :
    Calls Tryd.prog 13 #[.agg #[.slice C.A0 C.n0 C.c0, .slice C.A1 C.n1 C.c1, .slice C.A2 C.n2 C.c2, .slice C.A3 C.n3 C.c3, .slice C.A4 C.n4 C.c4, .slice C.A5 C.n5 C.c5, .slice C.A6 C.n6 C.c6], .int .i64 k, .agg #[.int .u8 i.op, .int .i64 i.a, .int .i64 i.b, .int .i64 i.c, .string i.s, .slice i.A i.n i.cap]] w fun e w' => e = .returned (.bool (false)) ∧ Below w.heap.size w w' := by
  have HC := Lib.hid hC
  have hn2 := hC.n2
  unfold maxLen at hn2
  obtain ⟨pb, po, q', hpA, hpb, hq', hqp, r0, r1, r2, r3⟩ := hC.part hk
  obtain rfl : q' = q := Option.some.inj (hq'.symm.trans hq)
  clear hC hq hq'
  have HPA := Lib.hid hpA
  have hln := hl.2.1
  unfold maxLen at hln
  have HL := Lib.hid hl
  have HLE := Lib.hid HC.out.le
  have hn1 : ((i.n : Int) == 0) = false := by simp; omega
  have hn2 : decide ((i.n : Int) = 0) = false := by simp; omega
  clear hn
  have hse := emp_iff he
  simp only [Bool.false_eq_true, iff_false, iff_true] at hse
  clear he
  have HQP := Lib.hid hqp
  clear hpA hqp
  have hs0 : ((w.alloc (.cells #[.slice C.A0 C.n0 C.c0, .slice C.A1 C.n1 C.c1, .slice C.A2 C.n2 C.c2, .slice C.A3 C.n3 C.c3, .slice C.A4 C.n4 C.c4, .slice C.A5 C.n5 C.c5, .slice C.A6 C.n6 C.c6] 28)).alloc (.cells #[.int .u8 i.op, .int .i64 i.a, .int .i64 i.b, .int .i64 i.c, .string i.s, .slice i.A i.n i.cap] 31)).heap[w.heap.size]? = some (.cells #[.slice C.A0 C.n0 C.c0, .slice C.A1 C.n1 C.c1, .slice C.A2 C.n2 C.c2, .slice C.A3 C.n3 C.c3, .slice C.A4 C.n4 C.c4, .slice C.A5 C.n5 C.c5, .slice C.A6 C.n6 C.c6] 28 (0, 0)) := by
    rw [(MapKept.heap_alloc _ _).2 _ (by simp), (MapKept.heap_alloc w _).1]
  have hs1 : ((w.alloc (.cells #[.slice C.A0 C.n0 C.c0, .slice C.A1 C.n1 C.c1, .slice C.A2 C.n2 C.c2, .slice C.A3 C.n3 C.c3, .slice C.A4 C.n4 C.c4, .slice C.A5 C.n5 C.c5, .slice C.A6 C.n6 C.c6] 28)).alloc (.cells #[.int .u8 i.op, .int .i64 i.a, .int .i64 i.b, .int .i64 i.c, .string i.s, .slice i.A i.n i.cap] 31)).heap[w.heap.size + 1]? = some (.cells #[.int .u8 i.op, .int .i64 i.a, .int .i64 i.b, .int .i64 i.c, .string i.s, .slice i.A i.n i.cap] 31 (0, 0)) := by
    have := (MapKept.heap_alloc (w.alloc (.cells #[.slice C.A0 C.n0 C.c0, .slice C.A1 C.n1 C.c1, .slice C.A2 C.n2 C.c2, .slice C.A3 C.n3 C.c3, .slice C.A4 C.n4 C.c4, .slice C.A5 C.n5 C.c5, .slice C.A6 C.n6 C.c6] 28)) (.cells #[.int .u8 i.op, .int .i64 i.a, .int .i64 i.b, .int .i64 i.c, .string i.s, .slice i.A i.n i.cap] 31)).1
    rwa [World.size_alloc] at this
  have hbW : Below w.heap.size w ((w.alloc (.cells #[.slice C.A0 C.n0 C.c0, .slice C.A1 C.n1 C.c1, .slice C.A2 C.n2 C.c2, .slice C.A3 C.n3 C.c3, .slice C.A4 C.n4 C.c4, .slice C.A5 C.n5 C.c5, .slice C.A6 C.n6 C.c6] 28)).alloc (.cells #[.int .u8 i.op, .int .i64 i.a, .int .i64 i.b, .int .i64 i.c, .string i.s, .slice i.A i.n i.cap] 31)) := ((Below.refl _ _).alloc (Nat.le_refl _) _).alloc (by simp) _
  have HBW := Lib.hid hbW
  have HS0 := Lib.hid hs0
  have HS1 := Lib.hid hs1
  clear hs0 hs1 hbW
  go_enter Tryd.func13, Tryd.ntmps13
  go_wp2_with fail
  generalize ((w.alloc (.cells #[.slice C.A0 C.n0 C.c0, .slice C.A1 C.n1 C.c1, .slice C.A2 C.n2 C.c2, .slice C.A3 C.n3 C.c3, .slice C.A4 C.n4 C.c4, .slice C.A5 C.n5 C.c5, .slice C.A6 C.n6 C.c6] 28)).alloc (.cells #[.int .u8 i.op, .int .i64 i.a, .int .i64 i.b, .int .i64 i.c, .string i.s, .slice i.A i.n i.cap] 31)) = W at HS0 HS1 HBW ⊢
  have k0 := (HBW.out.cell (p := ⟨pb, po + k * 4, none⟩) hpb).trans r0
  have k1 := (HBW.out.cell (p := ⟨pb, po + k * 4 + 1, none⟩) hpb).trans r1
  have k2 := (HBW.out.cell (p := ⟨pb, po + k * 4 + 2, none⟩) hpb).trans r2
  have k3 := (HBW.out.cell (p := ⟨pb, po + k * 4 + 3, none⟩) hpb).trans r3
  have kc := ccells HS0.out
  have hpA := HPA.out
  go_region_held3 (fun w' => (w'.cell? ⟨w.heap.size, 0, none⟩ = some (.slice C.A0 C.n0 C.c0) ∧ w'.cell? ⟨w.heap.size, 1, none⟩ = some (.slice C.A1 C.n1 C.c1) ∧ w'.cell? ⟨w.heap.size, 2, none⟩ = some (.slice C.A2 C.n2 C.c2) ∧ w'.cell? ⟨w.heap.size, 3, none⟩ = some (.slice C.A3 C.n3 C.c3) ∧ w'.cell? ⟨w.heap.size, 4, none⟩ = some (.slice C.A4 C.n4 C.c4) ∧ w'.cell? ⟨w.heap.size, 5, none⟩ = some (.slice C.A5 C.n5 C.c5) ∧ w'.cell? ⟨w.heap.size, 6, none⟩ = some (.slice C.A6 C.n6 C.c6)) ∧ w'.cell? ⟨pb, po + k * 4, none⟩ = some (.int .i64 q'.regs) ∧ w'.cell? ⟨pb, po + k * 4 + 1, none⟩ = some (.slice q'.A q'.n q'.c) ∧ w'.cell? ⟨pb, po + k * 4 + 2, none⟩ = some (.int .i64 q'.loops) ∧ w'.cell? ⟨pb, po + k * 4 + 3, none⟩ = some (.slice q'.A' q'.n' q'.c')) (first | exact ⟨kc, k0, k1, k2, k3⟩ | go_keep) (fail)
  rw [← hpA]
  clear hpA kc k0 k1 k2 k3
  have hX2 : BoxI (W.alloc (.cells #[.slice C.A0 C.n0 C.c0, .slice C.A1 C.n1 C.c1, .slice C.A2 C.n2 C.c2, .slice C.A3 C.n3 C.c3, .slice C.A4 C.n4 C.c4, .slice C.A5 C.n5 C.c5, .slice C.A6 C.n6 C.c6, .int .i64 q'.regs, .slice q'.A q'.n q'.c, .int .i64 q'.loops, .slice q'.A' q'.n' q'.c'] 63)).drew W.heap.size (w.heap.size + 1) B C q' i :=
    (⟨(MapKept.heap_alloc W _).1, ((MapKept.heap_alloc W _).2 _ (Array.getElem?_eq_some_iff.1 HS1.out).1).trans HS1.out, HQP.out.keep (HBW.out.trans ((Below.refl _ _).alloc HBW.out.size _))⟩ : BoxI (W.alloc (.cells #[.slice C.A0 C.n0 C.c0, .slice C.A1 C.n1 C.c1, .slice C.A2 C.n2 C.c2, .slice C.A3 C.n3 C.c3, .slice C.A4 C.n4 C.c4, .slice C.A5 C.n5 C.c5, .slice C.A6 C.n6 C.c6, .int .i64 q'.regs, .slice q'.A q'.n q'.c, .int .i64 q'.loops, .slice q'.A' q'.n' q'.c'] 63)) W.heap.size (w.heap.size + 1) B C q' i).drew
  have hb2 : Below w.heap.size w (W.alloc (.cells #[.slice C.A0 C.n0 C.c0, .slice C.A1 C.n1 C.c1, .slice C.A2 C.n2 C.c2, .slice C.A3 C.n3 C.c3, .slice C.A4 C.n4 C.c4, .slice C.A5 C.n5 C.c5, .slice C.A6 C.n6 C.c6, .int .i64 q'.regs, .slice q'.A q'.n q'.c, .int .i64 q'.loops, .slice q'.A' q'.n' q'.c'] 63)).drew := Gr.trans (Gr.trans HBW.out ((Below.refl _ _).alloc (Nat.le_refl _) _)) (Below.refl _ _).drew
  generalize (W.alloc (.cells #[.slice C.A0 C.n0 C.c0, .slice C.A1 C.n1 C.c1, .slice C.A2 C.n2 C.c2, .slice C.A3 C.n3 C.c3, .slice C.A4 C.n4 C.c4, .slice C.A5 C.n5 C.c5, .slice C.A6 C.n6 C.c6, .int .i64 q'.regs, .slice q'.A q'.n q'.c, .int .i64 q'.loops, .slice q'.A' q'.n' q'.c'] 63)).drew = W2 at hX2 hb2 ⊢
  generalize W.heap.size = BP at hX2 ⊢
  have HX2 := Lib.hid hX2
  have HW2 := Lib.hid hb2
  have hall2 := HX2.out.cells
  clear hX2 hb2
  go_wp2_with fail
  go_ret
  exact ⟨rfl, HW2.out⟩
end Go.Proofs.YtankpckkiikmaaaDoor
