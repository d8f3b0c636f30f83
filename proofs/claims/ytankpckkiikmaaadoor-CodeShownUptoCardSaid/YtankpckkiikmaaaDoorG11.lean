/- Code: the walk of the document's Ins (A). -/
import Derived.Test.YtankpckkiikmaaaDoorG9
import Derived.Test.YtankpckkiikmaaaDoorG10
import Derived.Test.YtankpckkiikmaaaDoorG4
import Derived.Deep.RegionHeld3
import Derived.Test.YtankpckkiikmaaaDoorG1
set_option linter.unusedVariables false
set_option linter.unusedSimpArgs false
namespace Go.Proofs.YtankpckkiikmaaaDoor
open Go.RowKit Cod
theorem BoxI.cells {w' : World} {b c B : Nat} {C : CV} {p : PV} {i : IV} (h : BoxI w' b c B C p i) : (w'.cell? ⟨b, 0, none⟩ = some (.slice C.A0 C.n0 C.c0) ∧ w'.cell? ⟨b, 1, none⟩ = some (.slice C.A1 C.n1 C.c1) ∧ w'.cell? ⟨b, 2, none⟩ = some (.slice C.A2 C.n2 C.c2) ∧ w'.cell? ⟨b, 3, none⟩ = some (.slice C.A3 C.n3 C.c3) ∧ w'.cell? ⟨b, 4, none⟩ = some (.slice C.A4 C.n4 C.c4) ∧ w'.cell? ⟨b, 5, none⟩ = some (.slice C.A5 C.n5 C.c5) ∧ w'.cell? ⟨b, 6, none⟩ = some (.slice C.A6 C.n6 C.c6) ∧ w'.cell? ⟨b, 7, none⟩ = some (.int .i64 p.regs) ∧ w'.cell? ⟨b, 8, none⟩ = some (.slice p.A p.n p.c) ∧ w'.cell? ⟨b, 9, none⟩ = some (.int .i64 p.loops) ∧ w'.cell? ⟨b, 10, none⟩ = some (.slice p.A' p.n' p.c')) ∧ (w'.cell? ⟨c, 0, none⟩ = some (.int .u8 i.op) ∧ w'.cell? ⟨c, 1, none⟩ = some (.int .i64 i.a) ∧ w'.cell? ⟨c, 2, none⟩ = some (.int .i64 i.b) ∧ w'.cell? ⟨c, 3, none⟩ = some (.int .i64 i.c) ∧ w'.cell? ⟨c, 4, none⟩ = some (.string i.s) ∧ w'.cell? ⟨c, 5, none⟩ = some (.slice i.A i.n i.cap)) := ⟨pcells h.pl, icells h.il⟩
set_option maxRecDepth 100000 in
set_option maxHeartbeats 8000000 in
theorem q_ins5 {C : CV} {w : World} {B : Nat} (hC : CodeAt w B C) (k : Nat) (hk : k < C.n2) (i : IV) (q : PV) (hq : C.parts[k]? = some q) (hi : IOk i) (hl : Ints w B i.A i.n i.args) (o5 : (i.op == 5) = true) :
    Calls Tryd.prog 13 #[.agg #[.slice C.A0 C.n0 C.c0, .slice C.A1 C.n1 C.c1, .slice C.A2 C.n2 C.c2, .slice C.A3 C.n3 C.c3, .slice C.A4 C.n4 C.c4, .slice C.A5 C.n5 C.c5, .slice C.A6 C.n6 C.c6], .int .i64 k, .agg #[.int .u8 i.op, .int .i64 i.a, .int .i64 i.b, .int .i64 i.c, .string i.s, .slice i.A i.n i.cap]] w fun e w' => e = .returned (.bool ((regB q i.a && (i.b == 0 && i.c == 0)) && (specB i.s && decide (i.n = 0)))) ∧ Below w.heap.size w w' := by
  have HC := Lib.hid hC
  have hn2 := hC.n2
  unfold maxLen at hn2
  obtain ⟨pb, po, q', hpA, hpb, hq', hqp, r0, r1, r2, r3⟩ := hC.part hk
  obtain rfl : q' = q := Option.some.inj (hq'.symm.trans hq)
  clear hC hq hq'
  have HPA := Lib.hid hpA
  have hln := hl.2.1
  unfold maxLen at hln
  have HL := Lib.hid hl
  have HLE := Lib.hid HC.out.le
  have HQP := Lib.hid hqp
  clear hpA hqp
  have hs0 : ((w.alloc (.cells #[.slice C.A0 C.n0 C.c0, .slice C.A1 C.n1 C.c1, .slice C.A2 C.n2 C.c2, .slice C.A3 C.n3 C.c3, .slice C.A4 C.n4 C.c4, .slice C.A5 C.n5 C.c5, .slice C.A6 C.n6 C.c6] 28)).alloc (.cells #[.int .u8 i.op, .int .i64 i.a, .int .i64 i.b, .int .i64 i.c, .string i.s, .slice i.A i.n i.cap] 31)).heap[w.heap.size]? = some (.cells #[.slice C.A0 C.n0 C.c0, .slice C.A1 C.n1 C.c1, .slice C.A2 C.n2 C.c2, .slice C.A3 C.n3 C.c3, .slice C.A4 C.n4 C.c4, .slice C.A5 C.n5 C.c5, .slice C.A6 C.n6 C.c6] 28 (0, 0)) := by
    rw [(MapKept.heap_alloc _ _).2 _ (by simp), (MapKept.heap_alloc w _).1]
  have hs1 : ((w.alloc (.cells #[.slice C.A0 C.n0 C.c0, .slice C.A1 C.n1 C.c1, .slice C.A2 C.n2 C.c2, .slice C.A3 C.n3 C.c3, .slice C.A4 C.n4 C.c4, .slice C.A5 C.n5 C.c5, .slice C.A6 C.n6 C.c6] 28)).alloc (.cells #[.int .u8 i.op, .int .i64 i.a, .int .i64 i.b, .int .i64 i.c, .string i.s, .slice i.A i.n i.cap] 31)).heap[w.heap.size + 1]? = some (.cells #[.int .u8 i.op, .int .i64 i.a, .int .i64 i.b, .int .i64 i.c, .string i.s, .slice i.A i.n i.cap] 31 (0, 0)) := by
    have := (MapKept.heap_alloc (w.alloc (.cells #[.slice C.A0 C.n0 C.c0, .slice C.A1 C.n1 C.c1, .slice C.A2 C.n2 C.c2, .slice C.A3 C.n3 C.c3, .slice C.A4 C.n4 C.c4, .slice C.A5 C.n5 C.c5, .slice C.A6 C.n6 C.c6] 28)) (.cells #[.int .u8 i.op, .int .i64 i.a, .int .i64 i.b, .int .i64 i.c, .string i.s, .slice i.A i.n i.cap] 31)).1
    rwa [World.size_alloc] at this
  have hbW : Below w.heap.size w ((w.alloc (.cells #[.slice C.A0 C.n0 C.c0, .slice C.A1 C.n1 C.c1, .slice C.A2 C.n2 C.c2, .slice C.A3 C.n3 C.c3, .slice C.A4 C.n4 C.c4, .slice C.A5 C.n5 C.c5, .slice C.A6 C.n6 C.c6] 28)).alloc (.cells #[.int .u8 i.op, .int .i64 i.a, .int .i64 i.b, .int .i64 i.c, .string i.s, .slice i.A i.n i.cap] 31)) := ((Below.refl _ _).alloc (Nat.le_refl _) _).alloc (by simp) _
  have HBW := Lib.hid hbW
  have HS0 := Lib.hid hs0
  have HS1 := Lib.hid hs1
  clear hs0 hs1 hbW
  go_enter Tryd.func13, Tryd.ntmps13
  go_wp2_with fail
  generalize ((w.alloc (.cells #[.slice C.A0 C.n0 C.c0, .slice C.A1 C.n1 C.c1, .slice C.A2 C.n2 C.c2, .slice C.A3 C.n3 C.c3, .slice C.A4 C.n4 C.c4, .slice C.A5 C.n5 C.c5, .slice C.A6 C.n6 C.c6] 28)).alloc (.cells #[.int .u8 i.op, .int .i64 i.a, .int .i64 i.b, .int .i64 i.c, .string i.s, .slice i.A i.n i.cap] 31)) = W at HS0 HS1 HBW ⊢
  have k0 := (HBW.out.cell (p := ⟨pb, po + k * 4, none⟩) hpb).trans r0
  have k1 := (HBW.out.cell (p := ⟨pb, po + k * 4 + 1, none⟩) hpb).trans r1
  have k2 := (HBW.out.cell (p := ⟨pb, po + k * 4 + 2, none⟩) hpb).trans r2
  have k3 := (HBW.out.cell (p := ⟨pb, po + k * 4 + 3, none⟩) hpb).trans r3
  have kc := ccells HS0.out
  have hpA := HPA.out
  go_region_held3 (fun w' => (w'.cell? ⟨w.heap.size, 0, none⟩ = some (.slice C.A0 C.n0 C.c0) ∧ w'.cell? ⟨w.heap.size, 1, none⟩ = some (.slice C.A1 C.n1 C.c1) ∧ w'.cell? ⟨w.heap.size, 2, none⟩ = some (.slice C.A2 C.n2 C.c2) ∧ w'.cell? ⟨w.heap.size, 3, none⟩ = some (.slice C.A3 C.n3 C.c3) ∧ w'.cell? ⟨w.heap.size, 4, none⟩ = some (.slice C.A4 C.n4 C.c4) ∧ w'.cell? ⟨w.heap.size, 5, none⟩ = some (.slice C.A5 C.n5 C.c5) ∧ w'.cell? ⟨w.heap.size, 6, none⟩ = some (.slice C.A6 C.n6 C.c6)) ∧ w'.cell? ⟨pb, po + k * 4, none⟩ = some (.int .i64 q'.regs) ∧ w'.cell? ⟨pb, po + k * 4 + 1, none⟩ = some (.slice q'.A q'.n q'.c) ∧ w'.cell? ⟨pb, po + k * 4 + 2, none⟩ = some (.int .i64 q'.loops) ∧ w'.cell? ⟨pb, po + k * 4 + 3, none⟩ = some (.slice q'.A' q'.n' q'.c')) (first | exact ⟨kc, k0, k1, k2, k3⟩ | go_keep) (fail)
  rw [← hpA]
  clear hpA kc k0 k1 k2 k3
  have hX2 : BoxI (W.alloc (.cells #[.slice C.A0 C.n0 C.c0, .slice C.A1 C.n1 C.c1, .slice C.A2 C.n2 C.c2, .slice C.A3 C.n3 C.c3, .slice C.A4 C.n4 C.c4, .slice C.A5 C.n5 C.c5, .slice C.A6 C.n6 C.c6, .int .i64 q'.regs, .slice q'.A q'.n q'.c, .int .i64 q'.loops, .slice q'.A' q'.n' q'.c'] 63)).drew W.heap.size (w.heap.size + 1) B C q' i :=
    (⟨(MapKept.heap_alloc W _).1, ((MapKept.heap_alloc W _).2 _ (Array.getElem?_eq_some_iff.1 HS1.out).1).trans HS1.out, HQP.out.keep (HBW.out.trans ((Below.refl _ _).alloc HBW.out.size _))⟩ : BoxI (W.alloc (.cells #[.slice C.A0 C.n0 C.c0, .slice C.A1 C.n1 C.c1, .slice C.A2 C.n2 C.c2, .slice C.A3 C.n3 C.c3, .slice C.A4 C.n4 C.c4, .slice C.A5 C.n5 C.c5, .slice C.A6 C.n6 C.c6, .int .i64 q'.regs, .slice q'.A q'.n q'.c, .int .i64 q'.loops, .slice q'.A' q'.n' q'.c'] 63)) W.heap.size (w.heap.size + 1) B C q' i).drew
  have hb2 : Below w.heap.size w (W.alloc (.cells #[.slice C.A0 C.n0 C.c0, .slice C.A1 C.n1 C.c1, .slice C.A2 C.n2 C.c2, .slice C.A3 C.n3 C.c3, .slice C.A4 C.n4 C.c4, .slice C.A5 C.n5 C.c5, .slice C.A6 C.n6 C.c6, .int .i64 q'.regs, .slice q'.A q'.n q'.c, .int .i64 q'.loops, .slice q'.A' q'.n' q'.c'] 63)).drew := Gr.trans (Gr.trans HBW.out ((Below.refl _ _).alloc (Nat.le_refl _) _)) (Below.refl _ _).drew
  generalize (W.alloc (.cells #[.slice C.A0 C.n0 C.c0, .slice C.A1 C.n1 C.c1, .slice C.A2 C.n2 C.c2, .slice C.A3 C.n3 C.c3, .slice C.A4 C.n4 C.c4, .slice C.A5 C.n5 C.c5, .slice C.A6 C.n6 C.c6, .int .i64 q'.regs, .slice q'.A q'.n q'.c, .int .i64 q'.loops, .slice q'.A' q'.n' q'.c'] 63)).drew = W2 at hX2 hb2 ⊢
  generalize W.heap.size = BP at hX2 ⊢
  have HX2 := Lib.hid hX2
  have HW2 := Lib.hid hb2
  have hall2 := HX2.out.cells
  clear hX2 hb2
  go_wp2_with (first | ((with_reducible refine (q_reg C q' i.a _).mono ?_); rintro e w3 ⟨rfl, hb3⟩; have HX3 := Lib.hid (HX2.out.keep hb3); have HW3 := Lib.hid (Gr.trans HW2.out hb3); have hall3 := HX3.out.cells; clear hb3) | ((with_reducible refine (q_special i.s _).mono ?_); rintro e w4 ⟨rfl, hb4⟩; have HX4 := Lib.hid (HX3.out.keep hb4); have HW4 := Lib.hid (Gr.trans HW3.out hb4); have hall4 := HX4.out.cells; clear hb4))
  all_goals (go_ret; exact ⟨ret_bool (by (try generalize regB q' i.a = z0 at *); (try generalize specB i.s = z1 at *); simp [empB, ← ByteArray.toList_eq, *] <;> first | omega | (rw [Bool.eq_iff_iff]; simp <;> omega)), by first | exact HW4.out | exact HW3.out | exact HW2.out⟩)
set_option maxRecDepth 100000 in
set_option maxHeartbeats 8000000 in
theorem q_ins6 {C : CV} {w : World} {B : Nat} (hC : CodeAt w B C) (k : Nat) (hk : k < C.n2) (i : IV) (q : PV) (hq : C.parts[k]? = some q) (hi : IOk i) (hl : Ints w B i.A i.n i.args) (o5 : (i.op == 5) = false) (o6 : (i.op == 6) = true) :
    Calls Tryd.prog 13 #[.agg #[.slice C.A0 C.n0 C.c0, .slice C.A1 C.n1 C.c1, .slice C.A2 C.n2 C.c2, .slice C.A3 C.n3 C.c3, .slice C.A4 C.n4 C.c4, .slice C.A5 C.n5 C.c5, .slice C.A6 C.n6 C.c6], .int .i64 k, .agg #[.int .u8 i.op, .int .i64 i.a, .int .i64 i.b, .int .i64 i.c, .string i.s, .slice i.A i.n i.cap]] w fun e w' => e = .returned (.bool ((regB q i.a && (i.b == 0 && i.c == 0)) && (specB i.s && decide (i.n = 0)))) ∧ Below w.heap.size w w' := by
  have HC := Lib.hid hC
  have hn2 := hC.n2
  unfold maxLen at hn2
  obtain ⟨pb, po, q', hpA, hpb, hq', hqp, r0, r1, r2, r3⟩ := hC.part hk
  obtain rfl : q' = q := Option.some.inj (hq'.symm.trans hq)
  clear hC hq hq'
  have HPA := Lib.hid hpA
  have hln := hl.2.1
  unfold maxLen at hln
  have HL := Lib.hid hl
  have HLE := Lib.hid HC.out.le
  have HQP := Lib.hid hqp
  clear hpA hqp
  have hs0 : ((w.alloc (.cells #[.slice C.A0 C.n0 C.c0, .slice C.A1 C.n1 C.c1, .slice C.A2 C.n2 C.c2, .slice C.A3 C.n3 C.c3, .slice C.A4 C.n4 C.c4, .slice C.A5 C.n5 C.c5, .slice C.A6 C.n6 C.c6] 28)).alloc (.cells #[.int .u8 i.op, .int .i64 i.a, .int .i64 i.b, .int .i64 i.c, .string i.s, .slice i.A i.n i.cap] 31)).heap[w.heap.size]? = some (.cells #[.slice C.A0 C.n0 C.c0, .slice C.A1 C.n1 C.c1, .slice C.A2 C.n2 C.c2, .slice C.A3 C.n3 C.c3, .slice C.A4 C.n4 C.c4, .slice C.A5 C.n5 C.c5, .slice C.A6 C.n6 C.c6] 28 (0, 0)) := by
    rw [(MapKept.heap_alloc _ _).2 _ (by simp), (MapKept.heap_alloc w _).1]
  have hs1 : ((w.alloc (.cells #[.slice C.A0 C.n0 C.c0, .slice C.A1 C.n1 C.c1, .slice C.A2 C.n2 C.c2, .slice C.A3 C.n3 C.c3, .slice C.A4 C.n4 C.c4, .slice C.A5 C.n5 C.c5, .slice C.A6 C.n6 C.c6] 28)).alloc (.cells #[.int .u8 i.op, .int .i64 i.a, .int .i64 i.b, .int .i64 i.c, .string i.s, .slice i.A i.n i.cap] 31)).heap[w.heap.size + 1]? = some (.cells #[.int .u8 i.op, .int .i64 i.a, .int .i64 i.b, .int .i64 i.c, .string i.s, .slice i.A i.n i.cap] 31 (0, 0)) := by
    have := (MapKept.heap_alloc (w.alloc (.cells #[.slice C.A0 C.n0 C.c0, .slice C.A1 C.n1 C.c1, .slice C.A2 C.n2 C.c2, .slice C.A3 C.n3 C.c3, .slice C.A4 C.n4 C.c4, .slice C.A5 C.n5 C.c5, .slice C.A6 C.n6 C.c6] 28)) (.cells #[.int .u8 i.op, .int .i64 i.a, .int .i64 i.b, .int .i64 i.c, .string i.s, .slice i.A i.n i.cap] 31)).1
    rwa [World.size_alloc] at this
  have hbW : Below w.heap.size w ((w.alloc (.cells #[.slice C.A0 C.n0 C.c0, .slice C.A1 C.n1 C.c1, .slice C.A2 C.n2 C.c2, .slice C.A3 C.n3 C.c3, .slice C.A4 C.n4 C.c4, .slice C.A5 C.n5 C.c5, .slice C.A6 C.n6 C.c6] 28)).alloc (.cells #[.int .u8 i.op, .int .i64 i.a, .int .i64 i.b, .int .i64 i.c, .string i.s, .slice i.A i.n i.cap] 31)) := ((Below.refl _ _).alloc (Nat.le_refl _) _).alloc (by simp) _
  have HBW := Lib.hid hbW
  have HS0 := Lib.hid hs0
  have HS1 := Lib.hid hs1
  clear hs0 hs1 hbW
  go_enter Tryd.func13, Tryd.ntmps13
  go_wp2_with fail
  generalize ((w.alloc (.cells #[.slice C.A0 C.n0 C.c0, .slice C.A1 C.n1 C.c1, .slice C.A2 C.n2 C.c2, .slice C.A3 C.n3 C.c3, .slice C.A4 C.n4 C.c4, .slice C.A5 C.n5 C.c5, .slice C.A6 C.n6 C.c6] 28)).alloc (.cells #[.int .u8 i.op, .int .i64 i.a, .int .i64 i.b, .int .i64 i.c, .string i.s, .slice i.A i.n i.cap] 31)) = W at HS0 HS1 HBW ⊢
  have k0 := (HBW.out.cell (p := ⟨pb, po + k * 4, none⟩) hpb).trans r0
  have k1 := (HBW.out.cell (p := ⟨pb, po + k * 4 + 1, none⟩) hpb).trans r1
  have k2 := (HBW.out.cell (p := ⟨pb, po + k * 4 + 2, none⟩) hpb).trans r2
  have k3 := (HBW.out.cell (p := ⟨pb, po + k * 4 + 3, none⟩) hpb).trans r3
  have kc := ccells HS0.out
  have hpA := HPA.out
  go_region_held3 (fun w' => (w'.cell? ⟨w.heap.size, 0, none⟩ = some (.slice C.A0 C.n0 C.c0) ∧ w'.cell? ⟨w.heap.size, 1, none⟩ = some (.slice C.A1 C.n1 C.c1) ∧ w'.cell? ⟨w.heap.size, 2, none⟩ = some (.slice C.A2 C.n2 C.c2) ∧ w'.cell? ⟨w.heap.size, 3, none⟩ = some (.slice C.A3 C.n3 C.c3) ∧ w'.cell? ⟨w.heap.size, 4, none⟩ = some (.slice C.A4 C.n4 C.c4) ∧ w'.cell? ⟨w.heap.size, 5, none⟩ = some (.slice C.A5 C.n5 C.c5) ∧ w'.cell? ⟨w.heap.size, 6, none⟩ = some (.slice C.A6 C.n6 C.c6)) ∧ w'.cell? ⟨pb, po + k * 4, none⟩ = some (.int .i64 q'.regs) ∧ w'.cell? ⟨pb, po + k * 4 + 1, none⟩ = some (.slice q'.A q'.n q'.c) ∧ w'.cell? ⟨pb, po + k * 4 + 2, none⟩ = some (.int .i64 q'.loops) ∧ w'.cell? ⟨pb, po + k * 4 + 3, none⟩ = some (.slice q'.A' q'.n' q'.c')) (first | exact ⟨kc, k0, k1, k2, k3⟩ | go_keep) (fail)
  rw [← hpA]
  clear hpA kc k0 k1 k2 k3
  have hX2 : BoxI (W.alloc (.cells #[.slice C.A0 C.n0 C.c0, .slice C.A1 C.n1 C.c1, .slice C.A2 C.n2 C.c2, .slice C.A3 C.n3 C.c3, .slice C.A4 C.n4 C.c4, .slice C.A5 C.n5 C.c5, .slice C.A6 C.n6 C.c6, .int .i64 q'.regs, .slice q'.A q'.n q'.c, .int .i64 q'.loops, .slice q'.A' q'.n' q'.c'] 63)).drew W.heap.size (w.heap.size + 1) B C q' i :=
    (⟨(MapKept.heap_alloc W _).1, ((MapKept.heap_alloc W _).2 _ (Array.getElem?_eq_some_iff.1 HS1.out).1).trans HS1.out, HQP.out.keep (HBW.out.trans ((Below.refl _ _).alloc HBW.out.size _))⟩ : BoxI (W.alloc (.cells #[.slice C.A0 C.n0 C.c0, .slice C.A1 C.n1 C.c1, .slice C.A2 C.n2 C.c2, .slice C.A3 C.n3 C.c3, .slice C.A4 C.n4 C.c4, .slice C.A5 C.n5 C.c5, .slice C.A6 C.n6 C.c6, .int .i64 q'.regs, .slice q'.A q'.n q'.c, .int .i64 q'.loops, .slice q'.A' q'.n' q'.c'] 63)) W.heap.size (w.heap.size + 1) B C q' i).drew
  have hb2 : Below w.heap.size w (W.alloc (.cells #[.slice C.A0 C.n0 C.c0, .slice C.A1 C.n1 C.c1, .slice C.A2 C.n2 C.c2, .slice C.A3 C.n3 C.c3, .slice C.A4 C.n4 C.c4, .slice C.A5 C.n5 C.c5, .slice C.A6 C.n6 C.c6, .int .i64 q'.regs, .slice q'.A q'.n q'.c, .int .i64 q'.loops, .slice q'.A' q'.n' q'.c'] 63)).drew := Gr.trans (Gr.trans HBW.out ((Below.refl _ _).alloc (Nat.le_refl _) _)) (Below.refl _ _).drew
  generalize (W.alloc (.cells #[.slice C.A0 C.n0 C.c0, .slice C.A1 C.n1 C.c1, .slice C.A2 C.n2 C.c2, .slice C.A3 C.n3 C.c3, .slice C.A4 C.n4 C.c4, .slice C.A5 C.n5 C.c5, .slice C.A6 C.n6 C.c6, .int .i64 q'.regs, .slice q'.A q'.n q'.c, .int .i64 q'.loops, .slice q'.A' q'.n' q'.c'] 63)).drew = W2 at hX2 hb2 ⊢
  generalize W.heap.size = BP at hX2 ⊢
  have HX2 := Lib.hid hX2
  have HW2 := Lib.hid hb2
  have hall2 := HX2.out.cells
  clear hX2 hb2
  go_wp2_with (first | ((with_reducible refine (q_reg C q' i.a _).mono ?_); rintro e w3 ⟨rfl, hb3⟩; have HX3 := Lib.hid (HX2.out.keep hb3); have HW3 := Lib.hid (Gr.trans HW2.out hb3); have hall3 := HX3.out.cells; clear hb3) | ((with_reducible refine (q_special i.s _).mono ?_); rintro e w4 ⟨rfl, hb4⟩; have HX4 := Lib.hid (HX3.out.keep hb4); have HW4 := Lib.hid (Gr.trans HW3.out hb4); have hall4 := HX4.out.cells; clear hb4))
  all_goals (go_ret; exact ⟨ret_bool (by (try generalize regB q' i.a = z0 at *); (try generalize specB i.s = z1 at *); simp [empB, ← ByteArray.toList_eq, *] <;> first | omega | (rw [Bool.eq_iff_iff]; simp <;> omega)), by first | exact HW4.out | exact HW3.out | exact HW2.out⟩)
set_option maxRecDepth 100000 in
set_option maxHeartbeats 8000000 in
theorem q_ins16 {C : CV} {w : World} {B : Nat} (hC : CodeAt w B C) (k : Nat) (hk : k < C.n2) (i : IV) (q : PV) (hq : C.parts[k]? = some q) (hi : IOk i) (hl : Ints w B i.A i.n i.args) (o5 : (i.op == 5) = false) (o6 : (i.op == 6) = false) (o16 : (i.op == 16) = true) :
    Calls Tryd.prog 13 #[.agg #[.slice C.A0 C.n0 C.c0, .slice C.A1 C.n1 C.c1, .slice C.A2 C.n2 C.c2, .slice C.A3 C.n3 C.c3, .slice C.A4 C.n4 C.c4, .slice C.A5 C.n5 C.c5, .slice C.A6 C.n6 C.c6], .int .i64 k, .agg #[.int .u8 i.op, .int .i64 i.a, .int .i64 i.b, .int .i64 i.c, .string i.s, .slice i.A i.n i.cap]] w fun e w' => e = .returned (.bool (regB q i.a && (regB q i.b && (regB q i.c && (Lib.containsS arithS i.s && decide (i.n = 0)))))) ∧ Below w.heap.size w w' := by
  have HC := Lib.hid hC
  have hn2 := hC.n2
  unfold maxLen at hn2
  obtain ⟨pb, po, q', hpA, hpb, hq', hqp, r0, r1, r2, r3⟩ := hC.part hk
  obtain rfl : q' = q := Option.some.inj (hq'.symm.trans hq)
  clear hC hq hq'
  have HPA := Lib.hid hpA
  have hln := hl.2.1
  unfold maxLen at hln
  have HL := Lib.hid hl
  have HLE := Lib.hid HC.out.le
  have HQP := Lib.hid hqp
  clear hpA hqp
  have hs0 : ((w.alloc (.cells #[.slice C.A0 C.n0 C.c0, .slice C.A1 C.n1 C.c1, .slice C.A2 C.n2 C.c2, .slice C.A3 C.n3 C.c3, .slice C.A4 C.n4 C.c4, .slice C.A5 C.n5 C.c5, .slice C.A6 C.n6 C.c6] 28)).alloc (.cells #[.int .u8 i.op, .int .i64 i.a, .int .i64 i.b, .int .i64 i.c, .string i.s, .slice i.A i.n i.cap] 31)).heap[w.heap.size]? = some (.cells #[.slice C.A0 C.n0 C.c0, .slice C.A1 C.n1 C.c1, .slice C.A2 C.n2 C.c2, .slice C.A3 C.n3 C.c3, .slice C.A4 C.n4 C.c4, .slice C.A5 C.n5 C.c5, .slice C.A6 C.n6 C.c6] 28 (0, 0)) := by
    rw [(MapKept.heap_alloc _ _).2 _ (by simp), (MapKept.heap_alloc w _).1]
  have hs1 : ((w.alloc (.cells #[.slice C.A0 C.n0 C.c0, .slice C.A1 C.n1 C.c1, .slice C.A2 C.n2 C.c2, .slice C.A3 C.n3 C.c3, .slice C.A4 C.n4 C.c4, .slice C.A5 C.n5 C.c5, .slice C.A6 C.n6 C.c6] 28)).alloc (.cells #[.int .u8 i.op, .int .i64 i.a, .int .i64 i.b, .int .i64 i.c, .string i.s, .slice i.A i.n i.cap] 31)).heap[w.heap.size + 1]? = some (.cells #[.int .u8 i.op, .int .i64 i.a, .int .i64 i.b, .int .i64 i.c, .string i.s, .slice i.A i.n i.cap] 31 (0, 0)) := by
    have := (MapKept.heap_alloc (w.alloc (.cells #[.slice C.A0 C.n0 C.c0, .slice C.A1 C.n1 C.c1, .slice C.A2 C.n2 C.c2, .slice C.A3 C.n3 C.c3, .slice C.A4 C.n4 C.c4, .slice C.A5 C.n5 C.c5, .slice C.A6 C.n6 C.c6] 28)) (.cells #[.int .u8 i.op, .int .i64 i.a, .int .i64 i.b, .int .i64 i.c, .string i.s, .slice i.A i.n i.cap] 31)).1
    rwa [World.size_alloc] at this
  have hbW : Below w.heap.size w ((w.alloc (.cells #[.slice C.A0 C.n0 C.c0, .slice C.A1 C.n1 C.c1, .slice C.A2 C.n2 C.c2, .slice C.A3 C.n3 C.c3, .slice C.A4 C.n4 C.c4, .slice C.A5 C.n5 C.c5, .slice C.A6 C.n6 C.c6] 28)).alloc (.cells #[.int .u8 i.op, .int .i64 i.a, .int .i64 i.b, .int .i64 i.c, .string i.s, .slice i.A i.n i.cap] 31)) := ((Below.refl _ _).alloc (Nat.le_refl _) _).alloc (by simp) _
  have HBW := Lib.hid hbW
  have HS0 := Lib.hid hs0
  have HS1 := Lib.hid hs1
  clear hs0 hs1 hbW
  go_enter Tryd.func13, Tryd.ntmps13
  go_wp2_with fail
  generalize ((w.alloc (.cells #[.slice C.A0 C.n0 C.c0, .slice C.A1 C.n1 C.c1, .slice C.A2 C.n2 C.c2, .slice C.A3 C.n3 C.c3, .slice C.A4 C.n4 C.c4, .slice C.A5 C.n5 C.c5, .slice C.A6 C.n6 C.c6] 28)).alloc (.cells #[.int .u8 i.op, .int .i64 i.a, .int .i64 i.b, .int .i64 i.c, .string i.s, .slice i.A i.n i.cap] 31)) = W at HS0 HS1 HBW ⊢
  have k0 := (HBW.out.cell (p := ⟨pb, po + k * 4, none⟩) hpb).trans r0
  have k1 := (HBW.out.cell (p := ⟨pb, po + k * 4 + 1, none⟩) hpb).trans r1
  have k2 := (HBW.out.cell (p := ⟨pb, po + k * 4 + 2, none⟩) hpb).trans r2
  have k3 := (HBW.out.cell (p := ⟨pb, po + k * 4 + 3, none⟩) hpb).trans r3
  have kc := ccells HS0.out
  have hpA := HPA.out
  go_region_held3 (fun w' => (w'.cell? ⟨w.heap.size, 0, none⟩ = some (.slice C.A0 C.n0 C.c0) ∧ w'.cell? ⟨w.heap.size, 1, none⟩ = some (.slice C.A1 C.n1 C.c1) ∧ w'.cell? ⟨w.heap.size, 2, none⟩ = some (.slice C.A2 C.n2 C.c2) ∧ w'.cell? ⟨w.heap.size, 3, none⟩ = some (.slice C.A3 C.n3 C.c3) ∧ w'.cell? ⟨w.heap.size, 4, none⟩ = some (.slice C.A4 C.n4 C.c4) ∧ w'.cell? ⟨w.heap.size, 5, none⟩ = some (.slice C.A5 C.n5 C.c5) ∧ w'.cell? ⟨w.heap.size, 6, none⟩ = some (.slice C.A6 C.n6 C.c6)) ∧ w'.cell? ⟨pb, po + k * 4, none⟩ = some (.int .i64 q'.regs) ∧ w'.cell? ⟨pb, po + k * 4 + 1, none⟩ = some (.slice q'.A q'.n q'.c) ∧ w'.cell? ⟨pb, po + k * 4 + 2, none⟩ = some (.int .i64 q'.loops) ∧ w'.cell? ⟨pb, po + k * 4 + 3, none⟩ = some (.slice q'.A' q'.n' q'.c')) (first | exact ⟨kc, k0, k1, k2, k3⟩ | go_keep) (fail)
  rw [← hpA]
  clear hpA kc k0 k1 k2 k3
  have hX2 : BoxI (W.alloc (.cells #[.slice C.A0 C.n0 C.c0, .slice C.A1 C.n1 C.c1, .slice C.A2 C.n2 C.c2, .slice C.A3 C.n3 C.c3, .slice C.A4 C.n4 C.c4, .slice C.A5 C.n5 C.c5, .slice C.A6 C.n6 C.c6, .int .i64 q'.regs, .slice q'.A q'.n q'.c, .int .i64 q'.loops, .slice q'.A' q'.n' q'.c'] 63)).drew W.heap.size (w.heap.size + 1) B C q' i :=
    (⟨(MapKept.heap_alloc W _).1, ((MapKept.heap_alloc W _).2 _ (Array.getElem?_eq_some_iff.1 HS1.out).1).trans HS1.out, HQP.out.keep (HBW.out.trans ((Below.refl _ _).alloc HBW.out.size _))⟩ : BoxI (W.alloc (.cells #[.slice C.A0 C.n0 C.c0, .slice C.A1 C.n1 C.c1, .slice C.A2 C.n2 C.c2, .slice C.A3 C.n3 C.c3, .slice C.A4 C.n4 C.c4, .slice C.A5 C.n5 C.c5, .slice C.A6 C.n6 C.c6, .int .i64 q'.regs, .slice q'.A q'.n q'.c, .int .i64 q'.loops, .slice q'.A' q'.n' q'.c'] 63)) W.heap.size (w.heap.size + 1) B C q' i).drew
  have hb2 : Below w.heap.size w (W.alloc (.cells #[.slice C.A0 C.n0 C.c0, .slice C.A1 C.n1 C.c1, .slice C.A2 C.n2 C.c2, .slice C.A3 C.n3 C.c3, .slice C.A4 C.n4 C.c4, .slice C.A5 C.n5 C.c5, .slice C.A6 C.n6 C.c6, .int .i64 q'.regs, .slice q'.A q'.n q'.c, .int .i64 q'.loops, .slice q'.A' q'.n' q'.c'] 63)).drew := Gr.trans (Gr.trans HBW.out ((Below.refl _ _).alloc (Nat.le_refl _) _)) (Below.refl _ _).drew
  generalize (W.alloc (.cells #[.slice C.A0 C.n0 C.c0, .slice C.A1 C.n1 C.c1, .slice C.A2 C.n2 C.c2, .slice C.A3 C.n3 C.c3, .slice C.A4 C.n4 C.c4, .slice C.A5 C.n5 C.c5, .slice C.A6 C.n6 C.c6, .int .i64 q'.regs, .slice q'.A q'.n q'.c, .int .i64 q'.loops, .slice q'.A' q'.n' q'.c'] 63)).drew = W2 at hX2 hb2 ⊢
  generalize W.heap.size = BP at hX2 ⊢
  have HX2 := Lib.hid hX2
  have HW2 := Lib.hid hb2
  have hall2 := HX2.out.cells
  clear hX2 hb2
  go_wp2_with (first | ((with_reducible refine (q_reg C q' i.a _).mono ?_); rintro e w3 ⟨rfl, hb3⟩; have HX3 := Lib.hid (HX2.out.keep hb3); have HW3 := Lib.hid (Gr.trans HW2.out hb3); have hall3 := HX3.out.cells; clear hb3) | ((with_reducible refine (q_reg C q' i.b _).mono ?_); rintro e w4 ⟨rfl, hb4⟩; have HX4 := Lib.hid (HX3.out.keep hb4); have HW4 := Lib.hid (Gr.trans HW3.out hb4); have hall4 := HX4.out.cells; clear hb4) | ((with_reducible refine (q_reg C q' i.c _).mono ?_); rintro e w5 ⟨rfl, hb5⟩; have HX5 := Lib.hid (HX4.out.keep hb5); have HW5 := Lib.hid (Gr.trans HW4.out hb5); have hall5 := HX5.out.cells; clear hb5) | ((with_reducible refine (q_has _ _ _ _ _ arithS i.s (show Strs (_root_.Go.World.alloc _ (.cells #[.string ⟨#[43]⟩, .string ⟨#[45]⟩, .string ⟨#[42]⟩, .string ⟨#[47]⟩, .string ⟨#[37]⟩, .string ⟨#[94]⟩] 9)) _ _ 6 arithS from Strs.lit _ 9 arithS) (by decide)).mono ?_); rintro e w6 ⟨rfl, rfl⟩; have HX6 := Lib.hid (HX5.out.keep ((Below.refl _ _).alloc (Nat.le_refl _) (.cells #[.string ⟨#[43]⟩, .string ⟨#[45]⟩, .string ⟨#[42]⟩, .string ⟨#[47]⟩, .string ⟨#[37]⟩, .string ⟨#[94]⟩] 9))); have HW6 := Lib.hid (Gr.trans HW5.out ((Below.refl _ _).alloc (Nat.le_refl _) (.cells #[.string ⟨#[43]⟩, .string ⟨#[45]⟩, .string ⟨#[42]⟩, .string ⟨#[47]⟩, .string ⟨#[37]⟩, .string ⟨#[94]⟩] 9))); have hall6 := HX6.out.cells))
  all_goals (go_ret; exact ⟨ret_bool (by simp [empB, ← ByteArray.toList_eq, *] <;> first | omega | (rw [Bool.eq_iff_iff]; simp <;> omega)), by first | exact HW6.out | exact HW5.out | exact HW4.out | exact HW3.out | exact HW2.out⟩)
set_option maxRecDepth 100000 in
set_option maxHeartbeats 8000000 in
theorem q_ins17 {C : CV} {w : World} {B : Nat} (hC : CodeAt w B C) (k : Nat) (hk : k < C.n2) (i : IV) (q : PV) (hq : C.parts[k]? = some q) (hi : IOk i) (hl : Ints w B i.A i.n i.args) (o5 : (i.op == 5) = false) (o6 : (i.op == 6) = false) (o16 : (i.op == 16) = false) (o17 : (i.op == 17) = true) :
    Calls Tryd.prog 13 #[.agg #[.slice C.A0 C.n0 C.c0, .slice C.A1 C.n1 C.c1, .slice C.A2 C.n2 C.c2, .slice C.A3 C.n3 C.c3, .slice C.A4 C.n4 C.c4, .slice C.A5 C.n5 C.c5, .slice C.A6 C.n6 C.c6], .int .i64 k, .agg #[.int .u8 i.op, .int .i64 i.a, .int .i64 i.b, .int .i64 i.c, .string i.s, .slice i.A i.n i.cap]] w fun e w' => e = .returned (.bool (regB q i.a && (regB q i.b && (regB q i.c && (Lib.containsS cmpS i.s && decide (i.n = 0)))))) ∧ Below w.heap.size w w' := by
  have HC := Lib.hid hC
  have hn2 := hC.n2
  unfold maxLen at hn2
  obtain ⟨pb, po, q', hpA, hpb, hq', hqp, r0, r1, r2, r3⟩ := hC.part hk
  obtain rfl : q' = q := Option.some.inj (hq'.symm.trans hq)
  clear hC hq hq'
  have HPA := Lib.hid hpA
  have hln := hl.2.1
  unfold maxLen at hln
  have HL := Lib.hid hl
  have HLE := Lib.hid HC.out.le
  have HQP := Lib.hid hqp
  clear hpA hqp
  have hs0 : ((w.alloc (.cells #[.slice C.A0 C.n0 C.c0, .slice C.A1 C.n1 C.c1, .slice C.A2 C.n2 C.c2, .slice C.A3 C.n3 C.c3, .slice C.A4 C.n4 C.c4, .slice C.A5 C.n5 C.c5, .slice C.A6 C.n6 C.c6] 28)).alloc (.cells #[.int .u8 i.op, .int .i64 i.a, .int .i64 i.b, .int .i64 i.c, .string i.s, .slice i.A i.n i.cap] 31)).heap[w.heap.size]? = some (.cells #[.slice C.A0 C.n0 C.c0, .slice C.A1 C.n1 C.c1, .slice C.A2 C.n2 C.c2, .slice C.A3 C.n3 C.c3, .slice C.A4 C.n4 C.c4, .slice C.A5 C.n5 C.c5, .slice C.A6 C.n6 C.c6] 28 (0, 0)) := by
    rw [(MapKept.heap_alloc _ _).2 _ (by simp), (MapKept.heap_alloc w _).1]
  have hs1 : ((w.alloc (.cells #[.slice C.A0 C.n0 C.c0, .slice C.A1 C.n1 C.c1, .slice C.A2 C.n2 C.c2, .slice C.A3 C.n3 C.c3, .slice C.A4 C.n4 C.c4, .slice C.A5 C.n5 C.c5, .slice C.A6 C.n6 C.c6] 28)).alloc (.cells #[.int .u8 i.op, .int .i64 i.a, .int .i64 i.b, .int .i64 i.c, .string i.s, .slice i.A i.n i.cap] 31)).heap[w.heap.size + 1]? = some (.cells #[.int .u8 i.op, .int .i64 i.a, .int .i64 i.b, .int .i64 i.c, .string i.s, .slice i.A i.n i.cap] 31 (0, 0)) := by
    have := (MapKept.heap_alloc (w.alloc (.cells #[.slice C.A0 C.n0 C.c0, .slice C.A1 C.n1 C.c1, .slice C.A2 C.n2 C.c2, .slice C.A3 C.n3 C.c3, .slice C.A4 C.n4 C.c4, .slice C.A5 C.n5 C.c5, .slice C.A6 C.n6 C.c6] 28)) (.cells #[.int .u8 i.op, .int .i64 i.a, .int .i64 i.b, .int .i64 i.c, .string i.s, .slice i.A i.n i.cap] 31)).1
    rwa [World.size_alloc] at this
  have hbW : Below w.heap.size w ((w.alloc (.cells #[.slice C.A0 C.n0 C.c0, .slice C.A1 C.n1 C.c1, .slice C.A2 C.n2 C.c2, .slice C.A3 C.n3 C.c3, .slice C.A4 C.n4 C.c4, .slice C.A5 C.n5 C.c5, .slice C.A6 C.n6 C.c6] 28)).alloc (.cells #[.int .u8 i.op, .int .i64 i.a, .int .i64 i.b, .int .i64 i.c, .string i.s, .slice i.A i.n i.cap] 31)) := ((Below.refl _ _).alloc (Nat.le_refl _) _).alloc (by simp) _
  have HBW := Lib.hid hbW
  have HS0 := Lib.hid hs0
  have HS1 := Lib.hid hs1
  clear hs0 hs1 hbW
  go_enter Tryd.func13, Tryd.ntmps13
  go_wp2_with fail
  generalize ((w.alloc (.cells #[.slice C.A0 C.n0 C.c0, .slice C.A1 C.n1 C.c1, .slice C.A2 C.n2 C.c2, .slice C.A3 C.n3 C.c3, .slice C.A4 C.n4 C.c4, .slice C.A5 C.n5 C.c5, .slice C.A6 C.n6 C.c6] 28)).alloc (.cells #[.int .u8 i.op, .int .i64 i.a, .int .i64 i.b, .int .i64 i.c, .string i.s, .slice i.A i.n i.cap] 31)) = W at HS0 HS1 HBW ⊢
  have k0 := (HBW.out.cell (p := ⟨pb, po + k * 4, none⟩) hpb).trans r0
  have k1 := (HBW.out.cell (p := ⟨pb, po + k * 4 + 1, none⟩) hpb).trans r1
  have k2 := (HBW.out.cell (p := ⟨pb, po + k * 4 + 2, none⟩) hpb).trans r2
  have k3 := (HBW.out.cell (p := ⟨pb, po + k * 4 + 3, none⟩) hpb).trans r3
  have kc := ccells HS0.out
  have hpA := HPA.out
  go_region_held3 (fun w' => (w'.cell? ⟨w.heap.size, 0, none⟩ = some (.slice C.A0 C.n0 C.c0) ∧ w'.cell? ⟨w.heap.size, 1, none⟩ = some (.slice C.A1 C.n1 C.c1) ∧ w'.cell? ⟨w.heap.size, 2, none⟩ = some (.slice C.A2 C.n2 C.c2) ∧ w'.cell? ⟨w.heap.size, 3, none⟩ = some (.slice C.A3 C.n3 C.c3) ∧ w'.cell? ⟨w.heap.size, 4, none⟩ = some (.slice C.A4 C.n4 C.c4) ∧ w'.cell? ⟨w.heap.size, 5, none⟩ = some (.slice C.A5 C.n5 C.c5) ∧ w'.cell? ⟨w.heap.size, 6, none⟩ = some (.slice C.A6 C.n6 C.c6)) ∧ w'.cell? ⟨pb, po + k * 4, none⟩ = some (.int .i64 q'.regs) ∧ w'.cell? ⟨pb, po + k * 4 + 1, none⟩ = some (.slice q'.A q'.n q'.c) ∧ w'.cell? ⟨pb, po + k * 4 + 2, none⟩ = some (.int .i64 q'.loops) ∧ w'.cell? ⟨pb, po + k * 4 + 3, none⟩ = some (.slice q'.A' q'.n' q'.c')) (first | exact ⟨kc, k0, k1, k2, k3⟩ | go_keep) (fail)
  rw [← hpA]
  clear hpA kc k0 k1 k2 k3
  have hX2 : BoxI (W.alloc (.cells #[.slice C.A0 C.n0 C.c0, .slice C.A1 C.n1 C.c1, .slice C.A2 C.n2 C.c2, .slice C.A3 C.n3 C.c3, .slice C.A4 C.n4 C.c4, .slice C.A5 C.n5 C.c5, .slice C.A6 C.n6 C.c6, .int .i64 q'.regs, .slice q'.A q'.n q'.c, .int .i64 q'.loops, .slice q'.A' q'.n' q'.c'] 63)).drew W.heap.size (w.heap.size + 1) B C q' i :=
    (⟨(MapKept.heap_alloc W _).1, ((MapKept.heap_alloc W _).2 _ (Array.getElem?_eq_some_iff.1 HS1.out).1).trans HS1.out, HQP.out.keep (HBW.out.trans ((Below.refl _ _).alloc HBW.out.size _))⟩ : BoxI (W.alloc (.cells #[.slice C.A0 C.n0 C.c0, .slice C.A1 C.n1 C.c1, .slice C.A2 C.n2 C.c2, .slice C.A3 C.n3 C.c3, .slice C.A4 C.n4 C.c4, .slice C.A5 C.n5 C.c5, .slice C.A6 C.n6 C.c6, .int .i64 q'.regs, .slice q'.A q'.n q'.c, .int .i64 q'.loops, .slice q'.A' q'.n' q'.c'] 63)) W.heap.size (w.heap.size + 1) B C q' i).drew
  have hb2 : Below w.heap.size w (W.alloc (.cells #[.slice C.A0 C.n0 C.c0, .slice C.A1 C.n1 C.c1, .slice C.A2 C.n2 C.c2, .slice C.A3 C.n3 C.c3, .slice C.A4 C.n4 C.c4, .slice C.A5 C.n5 C.c5, .slice C.A6 C.n6 C.c6, .int .i64 q'.regs, .slice q'.A q'.n q'.c, .int .i64 q'.loops, .slice q'.A' q'.n' q'.c'] 63)).drew := Gr.trans (Gr.trans HBW.out ((Below.refl _ _).alloc (Nat.le_refl _) _)) (Below.refl _ _).drew
  generalize (W.alloc (.cells #[.slice C.A0 C.n0 C.c0, .slice C.A1 C.n1 C.c1, .slice C.A2 C.n2 C.c2, .slice C.A3 C.n3 C.c3, .slice C.A4 C.n4 C.c4, .slice C.A5 C.n5 C.c5, .slice C.A6 C.n6 C.c6, .int .i64 q'.regs, .slice q'.A q'.n q'.c, .int .i64 q'.loops, .slice q'.A' q'.n' q'.c'] 63)).drew = W2 at hX2 hb2 ⊢
  generalize W.heap.size = BP at hX2 ⊢
  have HX2 := Lib.hid hX2
  have HW2 := Lib.hid hb2
  have hall2 := HX2.out.cells
  clear hX2 hb2
  go_wp2_with (first | ((with_reducible refine (q_reg C q' i.a _).mono ?_); rintro e w3 ⟨rfl, hb3⟩; have HX3 := Lib.hid (HX2.out.keep hb3); have HW3 := Lib.hid (Gr.trans HW2.out hb3); have hall3 := HX3.out.cells; clear hb3) | ((with_reducible refine (q_reg C q' i.b _).mono ?_); rintro e w4 ⟨rfl, hb4⟩; have HX4 := Lib.hid (HX3.out.keep hb4); have HW4 := Lib.hid (Gr.trans HW3.out hb4); have hall4 := HX4.out.cells; clear hb4) | ((with_reducible refine (q_reg C q' i.c _).mono ?_); rintro e w5 ⟨rfl, hb5⟩; have HX5 := Lib.hid (HX4.out.keep hb5); have HW5 := Lib.hid (Gr.trans HW4.out hb5); have hall5 := HX5.out.cells; clear hb5) | ((with_reducible refine (q_has _ _ _ _ _ cmpS i.s (show Strs (_root_.Go.World.alloc _ (.cells #[.string ⟨#[60]⟩, .string ⟨#[60, 61]⟩, .string ⟨#[61, 61]⟩, .string ⟨#[33, 61]⟩, .string ⟨#[62]⟩, .string ⟨#[62, 61]⟩] 9)) _ _ 6 cmpS from Strs.lit _ 9 cmpS) (by decide)).mono ?_); rintro e w6 ⟨rfl, rfl⟩; have HX6 := Lib.hid (HX5.out.keep ((Below.refl _ _).alloc (Nat.le_refl _) (.cells #[.string ⟨#[60]⟩, .string ⟨#[60, 61]⟩, .string ⟨#[61, 61]⟩, .string ⟨#[33, 61]⟩, .string ⟨#[62]⟩, .string ⟨#[62, 61]⟩] 9))); have HW6 := Lib.hid (Gr.trans HW5.out ((Below.refl _ _).alloc (Nat.le_refl _) (.cells #[.string ⟨#[60]⟩, .string ⟨#[60, 61]⟩, .string ⟨#[61, 61]⟩, .string ⟨#[33, 61]⟩, .string ⟨#[62]⟩, .string ⟨#[62, 61]⟩] 9))); have hall6 := HX6.out.cells))
  all_goals (go_ret; exact ⟨ret_bool (by simp [empB, ← ByteArray.toList_eq, *] <;> first | omega | (rw [Bool.eq_iff_iff]; simp <;> omega)), by first | exact HW6.out | exact HW5.out | exact HW4.out | exact HW3.out | exact HW2.out⟩)
set_option maxRecDepth 100000 in
set_option maxHeartbeats 8000000 in
theorem q_ins26 {C : CV} {w : World} {B : Nat} (hC : CodeAt w B C) (k : Nat) (hk : k < C.n2) (i : IV) (q : PV) (hq : C.parts[k]? = some q) (hi : IOk i) (hl : Ints w B i.A i.n i.args) (o5 : (i.op == 5) = false) (o6 : (i.op == 6) = false) (o16 : (i.op == 16) = false) (o17 : (i.op == 17) = false) (o26 : (i.op == 26) = true) :
    Calls Tryd.prog 13 #[.agg #[.slice C.A0 C.n0 C.c0, .slice C.A1 C.n1 C.c1, .slice C.A2 C.n2 C.c2, .slice C.A3 C.n3 C.c3, .slice C.A4 C.n4 C.c4, .slice C.A5 C.n5 C.c5, .slice C.A6 C.n6 C.c6], .int .i64 k, .agg #[.int .u8 i.op, .int .i64 i.a, .int .i64 i.b, .int .i64 i.c, .string i.s, .slice i.A i.n i.cap]] w fun e w' => e = .returned (.bool (builtin0B q i && decide (i.n = 0))) ∧ Below w.heap.size w w' := by
  have HC := Lib.hid hC
  have hn2 := hC.n2
  unfold maxLen at hn2
  obtain ⟨pb, po, q', hpA, hpb, hq', hqp, r0, r1, r2, r3⟩ := hC.part hk
  obtain rfl : q' = q := Option.some.inj (hq'.symm.trans hq)
  clear hC hq hq'
  have HPA := Lib.hid hpA
  have hln := hl.2.1
  unfold maxLen at hln
  have HL := Lib.hid hl
  have HLE := Lib.hid HC.out.le
  have HNL := Lib.hid hl.2.1
  have HQP := Lib.hid hqp
  clear hpA hqp
  have hs0 : ((w.alloc (.cells #[.slice C.A0 C.n0 C.c0, .slice C.A1 C.n1 C.c1, .slice C.A2 C.n2 C.c2, .slice C.A3 C.n3 C.c3, .slice C.A4 C.n4 C.c4, .slice C.A5 C.n5 C.c5, .slice C.A6 C.n6 C.c6] 28)).alloc (.cells #[.int .u8 i.op, .int .i64 i.a, .int .i64 i.b, .int .i64 i.c, .string i.s, .slice i.A i.n i.cap] 31)).heap[w.heap.size]? = some (.cells #[.slice C.A0 C.n0 C.c0, .slice C.A1 C.n1 C.c1, .slice C.A2 C.n2 C.c2, .slice C.A3 C.n3 C.c3, .slice C.A4 C.n4 C.c4, .slice C.A5 C.n5 C.c5, .slice C.A6 C.n6 C.c6] 28 (0, 0)) := by
    rw [(MapKept.heap_alloc _ _).2 _ (by simp), (MapKept.heap_alloc w _).1]
  have hs1 : ((w.alloc (.cells #[.slice C.A0 C.n0 C.c0, .slice C.A1 C.n1 C.c1, .slice C.A2 C.n2 C.c2, .slice C.A3 C.n3 C.c3, .slice C.A4 C.n4 C.c4, .slice C.A5 C.n5 C.c5, .slice C.A6 C.n6 C.c6] 28)).alloc (.cells #[.int .u8 i.op, .int .i64 i.a, .int .i64 i.b, .int .i64 i.c, .string i.s, .slice i.A i.n i.cap] 31)).heap[w.heap.size + 1]? = some (.cells #[.int .u8 i.op, .int .i64 i.a, .int .i64 i.b, .int .i64 i.c, .string i.s, .slice i.A i.n i.cap] 31 (0, 0)) := by
    have := (MapKept.heap_alloc (w.alloc (.cells #[.slice C.A0 C.n0 C.c0, .slice C.A1 C.n1 C.c1, .slice C.A2 C.n2 C.c2, .slice C.A3 C.n3 C.c3, .slice C.A4 C.n4 C.c4, .slice C.A5 C.n5 C.c5, .slice C.A6 C.n6 C.c6] 28)) (.cells #[.int .u8 i.op, .int .i64 i.a, .int .i64 i.b, .int .i64 i.c, .string i.s, .slice i.A i.n i.cap] 31)).1
    rwa [World.size_alloc] at this
  have hbW : Below w.heap.size w ((w.alloc (.cells #[.slice C.A0 C.n0 C.c0, .slice C.A1 C.n1 C.c1, .slice C.A2 C.n2 C.c2, .slice C.A3 C.n3 C.c3, .slice C.A4 C.n4 C.c4, .slice C.A5 C.n5 C.c5, .slice C.A6 C.n6 C.c6] 28)).alloc (.cells #[.int .u8 i.op, .int .i64 i.a, .int .i64 i.b, .int .i64 i.c, .string i.s, .slice i.A i.n i.cap] 31)) := ((Below.refl _ _).alloc (Nat.le_refl _) _).alloc (by simp) _
  have HBW := Lib.hid hbW
  have HS0 := Lib.hid hs0
  have HS1 := Lib.hid hs1
  clear hs0 hs1 hbW
  go_enter Tryd.func13, Tryd.ntmps13
  go_wp2_with fail
  generalize ((w.alloc (.cells #[.slice C.A0 C.n0 C.c0, .slice C.A1 C.n1 C.c1, .slice C.A2 C.n2 C.c2, .slice C.A3 C.n3 C.c3, .slice C.A4 C.n4 C.c4, .slice C.A5 C.n5 C.c5, .slice C.A6 C.n6 C.c6] 28)).alloc (.cells #[.int .u8 i.op, .int .i64 i.a, .int .i64 i.b, .int .i64 i.c, .string i.s, .slice i.A i.n i.cap] 31)) = W at HS0 HS1 HBW ⊢
  have k0 := (HBW.out.cell (p := ⟨pb, po + k * 4, none⟩) hpb).trans r0
  have k1 := (HBW.out.cell (p := ⟨pb, po + k * 4 + 1, none⟩) hpb).trans r1
  have k2 := (HBW.out.cell (p := ⟨pb, po + k * 4 + 2, none⟩) hpb).trans r2
  have k3 := (HBW.out.cell (p := ⟨pb, po + k * 4 + 3, none⟩) hpb).trans r3
  have kc := ccells HS0.out
  have hpA := HPA.out
  go_region_held3 (fun w' => (w'.cell? ⟨w.heap.size, 0, none⟩ = some (.slice C.A0 C.n0 C.c0) ∧ w'.cell? ⟨w.heap.size, 1, none⟩ = some (.slice C.A1 C.n1 C.c1) ∧ w'.cell? ⟨w.heap.size, 2, none⟩ = some (.slice C.A2 C.n2 C.c2) ∧ w'.cell? ⟨w.heap.size, 3, none⟩ = some (.slice C.A3 C.n3 C.c3) ∧ w'.cell? ⟨w.heap.size, 4, none⟩ = some (.slice C.A4 C.n4 C.c4) ∧ w'.cell? ⟨w.heap.size, 5, none⟩ = some (.slice C.A5 C.n5 C.c5) ∧ w'.cell? ⟨w.heap.size, 6, none⟩ = some (.slice C.A6 C.n6 C.c6)) ∧ w'.cell? ⟨pb, po + k * 4, none⟩ = some (.int .i64 q'.regs) ∧ w'.cell? ⟨pb, po + k * 4 + 1, none⟩ = some (.slice q'.A q'.n q'.c) ∧ w'.cell? ⟨pb, po + k * 4 + 2, none⟩ = some (.int .i64 q'.loops) ∧ w'.cell? ⟨pb, po + k * 4 + 3, none⟩ = some (.slice q'.A' q'.n' q'.c')) (first | exact ⟨kc, k0, k1, k2, k3⟩ | go_keep) (fail)
  rw [← hpA]
  clear hpA kc k0 k1 k2 k3
  have hX2 : BoxI (W.alloc (.cells #[.slice C.A0 C.n0 C.c0, .slice C.A1 C.n1 C.c1, .slice C.A2 C.n2 C.c2, .slice C.A3 C.n3 C.c3, .slice C.A4 C.n4 C.c4, .slice C.A5 C.n5 C.c5, .slice C.A6 C.n6 C.c6, .int .i64 q'.regs, .slice q'.A q'.n q'.c, .int .i64 q'.loops, .slice q'.A' q'.n' q'.c'] 63)).drew W.heap.size (w.heap.size + 1) B C q' i :=
    (⟨(MapKept.heap_alloc W _).1, ((MapKept.heap_alloc W _).2 _ (Array.getElem?_eq_some_iff.1 HS1.out).1).trans HS1.out, HQP.out.keep (HBW.out.trans ((Below.refl _ _).alloc HBW.out.size _))⟩ : BoxI (W.alloc (.cells #[.slice C.A0 C.n0 C.c0, .slice C.A1 C.n1 C.c1, .slice C.A2 C.n2 C.c2, .slice C.A3 C.n3 C.c3, .slice C.A4 C.n4 C.c4, .slice C.A5 C.n5 C.c5, .slice C.A6 C.n6 C.c6, .int .i64 q'.regs, .slice q'.A q'.n q'.c, .int .i64 q'.loops, .slice q'.A' q'.n' q'.c'] 63)) W.heap.size (w.heap.size + 1) B C q' i).drew
  have hb2 : Below w.heap.size w (W.alloc (.cells #[.slice C.A0 C.n0 C.c0, .slice C.A1 C.n1 C.c1, .slice C.A2 C.n2 C.c2, .slice C.A3 C.n3 C.c3, .slice C.A4 C.n4 C.c4, .slice C.A5 C.n5 C.c5, .slice C.A6 C.n6 C.c6, .int .i64 q'.regs, .slice q'.A q'.n q'.c, .int .i64 q'.loops, .slice q'.A' q'.n' q'.c'] 63)).drew := Gr.trans (Gr.trans HBW.out ((Below.refl _ _).alloc (Nat.le_refl _) _)) (Below.refl _ _).drew
  generalize (W.alloc (.cells #[.slice C.A0 C.n0 C.c0, .slice C.A1 C.n1 C.c1, .slice C.A2 C.n2 C.c2, .slice C.A3 C.n3 C.c3, .slice C.A4 C.n4 C.c4, .slice C.A5 C.n5 C.c5, .slice C.A6 C.n6 C.c6, .int .i64 q'.regs, .slice q'.A q'.n q'.c, .int .i64 q'.loops, .slice q'.A' q'.n' q'.c'] 63)).drew = W2 at hX2 hb2 ⊢
  generalize W.heap.size = BP at hX2 ⊢
  have HX2 := Lib.hid hX2
  have HW2 := Lib.hid hb2
  have hall2 := HX2.out.cells
  clear hX2 hb2
  go_wp2_with (first | ((with_reducible refine (q_builtin HX2.out.at_ i hi HNL.out).mono ?_); rintro e w3 ⟨rfl, hb3⟩; have HX3 := Lib.hid (HX2.out.keep hb3); have HW3 := Lib.hid (Gr.trans HW2.out hb3); have hall3 := HX3.out.cells; clear hb3))
  all_goals (go_ret; exact ⟨ret_bool (by (try generalize builtin0B q' i = z0 at *); simp [empB, ← ByteArray.toList_eq, *] <;> first | omega | (rw [Bool.eq_iff_iff]; simp <;> omega)), by first | exact HW3.out | exact HW2.out⟩)
end Go.Proofs.YtankpckkiikmaaaDoor
namespace Go.Proofs.YtankpckkiikmaaaDoor
open Go
section
variable {P : Program}
/-- What is told of the region's text is where the values lie that guards ask. -/
theorem wp_region_segs_h {rid : Nat} {Q : Exit → Act → World → Prop} {a : Act} {w : World} {l : List Oper} (segs : List Nat) (D : List (Option Tmp)) (hm : P.follows .mixedOrders = true) (hB : (Region.noSelect l.toArray && segsB .any l.toArray segs 0) = true) (hD : l.map (fun o => o.dst) = D)
    (h : ∀ OPS : Array Oper, (∀ (j : Nat) d, D[j]? = some d → ∃ o : Oper, OPS[j]? = some o ∧ o.dst = d) → wpSegs P OPS Q segs l a w.drew) : (Code.region rid l.toArray true).wp P Q a w := by
  refine wp_region_segs segs hm hB (h _ (fun j d hj => ?_))
  subst hD
  rw [List.getElem?_map] at hj
  rw [List.getElem?_toArray]
  cases ho : l[j]? with
  | none => rw [ho] at hj; cases hj
  | some o => rw [ho] at hj; exact ⟨o, rfl, Option.some.inj hj⟩
end
end Go.Proofs.YtankpckkiikmaaaDoor
