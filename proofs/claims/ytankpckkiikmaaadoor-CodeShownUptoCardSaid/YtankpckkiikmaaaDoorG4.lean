/- Code: the walk of Ins. -/
import Derived.Test.YtankpckkiikmaaaDoorG3
import Derived.Deep.RegionHeld3
set_option linter.unusedVariables false
set_option linter.unusedSimpArgs false
namespace Go.Proofs.YtankpckkiikmaaaDoor
open Go.RowKit Cod
def Cod.empB (s : ByteArray) : Bool := s.data.toList.isEmpty
def Cod.insP (C : CV) (p : PV) (i : IV) : Bool :=
  bif i.op == 5 || i.op == 6 then abcB C p [114, 48, 48] i && (specB i.s && decide (i.n = 0))
  else bif i.op == 9 then empB i.s && (decide (i.n = 0) && (regB p i.a && rowB p i.b i.c))
  else bif i.op == 26 then builtinB p i
  else bif i.op == 25 || (i.op == 27 || (i.op == 28 || (i.op == 29 || i.op == 30))) then empB i.s && listedB C p i
  else match rowsM.find? (fun r => i.op == r.op) with
    | none => false
    | some r => decide (i.n = 0) && (abcB C p [r.u0, r.u1, r.u2] i && (bif r.kind == 0 then empB i.s else Lib.containsS (saysOf r.kind) i.s))
def Cod.insB (C : CV) (k : Int) (i : IV) : Bool := match at? C.parts k with
  | none => false
  | some p => insP C p i
theorem ccells {w' : World} {b : Nat} {C : CV} {t : TypeId} {fz : Nat × Nat} (h : w'.heap[b]? = some (.cells #[.slice C.A0 C.n0 C.c0, .slice C.A1 C.n1 C.c1, .slice C.A2 C.n2 C.c2, .slice C.A3 C.n3 C.c3, .slice C.A4 C.n4 C.c4, .slice C.A5 C.n5 C.c5, .slice C.A6 C.n6 C.c6] t fz)) : (w'.cell? ⟨b, 0, none⟩ = some (.slice C.A0 C.n0 C.c0) ∧ w'.cell? ⟨b, 1, none⟩ = some (.slice C.A1 C.n1 C.c1) ∧ w'.cell? ⟨b, 2, none⟩ = some (.slice C.A2 C.n2 C.c2) ∧ w'.cell? ⟨b, 3, none⟩ = some (.slice C.A3 C.n3 C.c3) ∧ w'.cell? ⟨b, 4, none⟩ = some (.slice C.A4 C.n4 C.c4) ∧ w'.cell? ⟨b, 5, none⟩ = some (.slice C.A5 C.n5 C.c5) ∧ w'.cell? ⟨b, 6, none⟩ = some (.slice C.A6 C.n6 C.c6)) := by
  simp [World.cell?, h]
set_option maxRecDepth 20000 in
set_option maxHeartbeats 4000000 in
theorem p_ins_out {C : CV} {w : World} {B : Nat} (hC : CodeAt w B C) (k : Int) (hk : (Lit.int .i64 k).wf = true) (i : IV) (hno : k < 0 ∨ (C.n2 : Int) ≤ k) :
    Calls Tryd.prog 7 #[.agg #[.slice C.A0 C.n0 C.c0, .slice C.A1 C.n1 C.c1, .slice C.A2 C.n2 C.c2, .slice C.A3 C.n3 C.c3, .slice C.A4 C.n4 C.c4, .slice C.A5 C.n5 C.c5, .slice C.A6 C.n6 C.c6], .int .i64 k, .agg #[.int .u8 i.op, .int .i64 i.a, .int .i64 i.b, .int .i64 i.c, .string i.s, .slice i.A i.n i.cap]] w fun e w' => e = .returned (.bool false) ∧ Below w.heap.size w w' := by
  have h2 := hC.n2
  unfold maxLen at h2
  clear hC
  rcases hno with h | h
  · go_enter Tryd.func7, Tryd.ntmps7
    go_wp2_with fail
    go_ret
    exact ⟨rfl, ((Below.refl _ _).alloc (Nat.le_refl _) _).alloc (by simp) _⟩
  · have h0 : ¬ k < 0 := by omega
    go_enter Tryd.func7, Tryd.ntmps7
    go_wp2_with fail
    go_ret
    exact ⟨rfl, ((Below.refl _ _).alloc (Nat.le_refl _) _).alloc (by simp) _⟩
set_option maxRecDepth 20000 in
set_option maxHeartbeats 4000000 in
theorem p_ins5 {C : CV} {w : World} {B : Nat} (hC : CodeAt w B C) (k : Nat) (hk : k < C.n2) (i : IV) (q : PV) (hq : C.parts[k]? = some q) (hi : IOk i) (hl : Ints w B i.A i.n i.args) (o5 : (i.op == 5) = true) :
    Calls Tryd.prog 7 #[.agg #[.slice C.A0 C.n0 C.c0, .slice C.A1 C.n1 C.c1, .slice C.A2 C.n2 C.c2, .slice C.A3 C.n3 C.c3, .slice C.A4 C.n4 C.c4, .slice C.A5 C.n5 C.c5, .slice C.A6 C.n6 C.c6], .int .i64 k, .agg #[.int .u8 i.op, .int .i64 i.a, .int .i64 i.b, .int .i64 i.c, .string i.s, .slice i.A i.n i.cap]] w fun e w' => e = .returned (.bool (abcB C q [114, 48, 48] i && (specB i.s && decide (i.n = 0)))) ∧ Below w.heap.size w w' := by
  have HC := Lib.hid hC
  have hn2 := hC.n2
  unfold maxLen at hn2
  obtain ⟨pb, po, q', hpA, hpb, hq', hqp, r0, r1, r2, r3⟩ := hC.part hk
  obtain rfl : q' = q := Option.some.inj (hq'.symm.trans hq)
  clear hC hq hq'
  have HPA := Lib.hid hpA
  have hln := hl.2.1
  unfold maxLen at hln
  have HQP := Lib.hid hqp
  clear hpA hqp
  have hs0 : ((w.alloc (.cells #[.slice C.A0 C.n0 C.c0, .slice C.A1 C.n1 C.c1, .slice C.A2 C.n2 C.c2, .slice C.A3 C.n3 C.c3, .slice C.A4 C.n4 C.c4, .slice C.A5 C.n5 C.c5, .slice C.A6 C.n6 C.c6] 28)).alloc (.cells #[.int .u8 i.op, .int .i64 i.a, .int .i64 i.b, .int .i64 i.c, .string i.s, .slice i.A i.n i.cap] 31)).heap[w.heap.size]? = some (.cells #[.slice C.A0 C.n0 C.c0, .slice C.A1 C.n1 C.c1, .slice C.A2 C.n2 C.c2, .slice C.A3 C.n3 C.c3, .slice C.A4 C.n4 C.c4, .slice C.A5 C.n5 C.c5, .slice C.A6 C.n6 C.c6] 28 (0, 0)) := by
    rw [(MapKept.heap_alloc _ _).2 _ (by simp), (MapKept.heap_alloc w _).1]
  have hs1 : ((w.alloc (.cells #[.slice C.A0 C.n0 C.c0, .slice C.A1 C.n1 C.c1, .slice C.A2 C.n2 C.c2, .slice C.A3 C.n3 C.c3, .slice C.A4 C.n4 C.c4, .slice C.A5 C.n5 C.c5, .slice C.A6 C.n6 C.c6] 28)).alloc (.cells #[.int .u8 i.op, .int .i64 i.a, .int .i64 i.b, .int .i64 i.c, .string i.s, .slice i.A i.n i.cap] 31)).heap[w.heap.size + 1]? = some (.cells #[.int .u8 i.op, .int .i64 i.a, .int .i64 i.b, .int .i64 i.c, .string i.s, .slice i.A i.n i.cap] 31 (0, 0)) := by
    have := (MapKept.heap_alloc (w.alloc (.cells #[.slice C.A0 C.n0 C.c0, .slice C.A1 C.n1 C.c1, .slice C.A2 C.n2 C.c2, .slice C.A3 C.n3 C.c3, .slice C.A4 C.n4 C.c4, .slice C.A5 C.n5 C.c5, .slice C.A6 C.n6 C.c6] 28)) (.cells #[.int .u8 i.op, .int .i64 i.a, .int .i64 i.b, .int .i64 i.c, .string i.s, .slice i.A i.n i.cap] 31)).1
    rwa [World.size_alloc] at this
  have hbW : Below w.heap.size w ((w.alloc (.cells #[.slice C.A0 C.n0 C.c0, .slice C.A1 C.n1 C.c1, .slice C.A2 C.n2 C.c2, .slice C.A3 C.n3 C.c3, .slice C.A4 C.n4 C.c4, .slice C.A5 C.n5 C.c5, .slice C.A6 C.n6 C.c6] 28)).alloc (.cells #[.int .u8 i.op, .int .i64 i.a, .int .i64 i.b, .int .i64 i.c, .string i.s, .slice i.A i.n i.cap] 31)) := ((Below.refl _ _).alloc (Nat.le_refl _) _).alloc (by simp) _
  have HBW := Lib.hid hbW
  have HS0 := Lib.hid hs0
  have HS1 := Lib.hid hs1
  clear hs0 hs1 hbW
  go_enter Tryd.func7, Tryd.ntmps7
  go_wp2_with fail
  generalize ((w.alloc (.cells #[.slice C.A0 C.n0 C.c0, .slice C.A1 C.n1 C.c1, .slice C.A2 C.n2 C.c2, .slice C.A3 C.n3 C.c3, .slice C.A4 C.n4 C.c4, .slice C.A5 C.n5 C.c5, .slice C.A6 C.n6 C.c6] 28)).alloc (.cells #[.int .u8 i.op, .int .i64 i.a, .int .i64 i.b, .int .i64 i.c, .string i.s, .slice i.A i.n i.cap] 31)) = W at HS0 HS1 HBW ⊢
  have k0 := (HBW.out.cell (p := ⟨pb, po + k * 4, none⟩) hpb).trans r0
  have k1 := (HBW.out.cell (p := ⟨pb, po + k * 4 + 1, none⟩) hpb).trans r1
  have k2 := (HBW.out.cell (p := ⟨pb, po + k * 4 + 2, none⟩) hpb).trans r2
  have k3 := (HBW.out.cell (p := ⟨pb, po + k * 4 + 3, none⟩) hpb).trans r3
  have kc := ccells HS0.out
  have hpA := HPA.out
  go_region_held3 (fun w' => (w'.cell? ⟨w.heap.size, 0, none⟩ = some (.slice C.A0 C.n0 C.c0) ∧ w'.cell? ⟨w.heap.size, 1, none⟩ = some (.slice C.A1 C.n1 C.c1) ∧ w'.cell? ⟨w.heap.size, 2, none⟩ = some (.slice C.A2 C.n2 C.c2) ∧ w'.cell? ⟨w.heap.size, 3, none⟩ = some (.slice C.A3 C.n3 C.c3) ∧ w'.cell? ⟨w.heap.size, 4, none⟩ = some (.slice C.A4 C.n4 C.c4) ∧ w'.cell? ⟨w.heap.size, 5, none⟩ = some (.slice C.A5 C.n5 C.c5) ∧ w'.cell? ⟨w.heap.size, 6, none⟩ = some (.slice C.A6 C.n6 C.c6)) ∧ w'.cell? ⟨pb, po + k * 4, none⟩ = some (.int .i64 q'.regs) ∧ w'.cell? ⟨pb, po + k * 4 + 1, none⟩ = some (.slice q'.A q'.n q'.c) ∧ w'.cell? ⟨pb, po + k * 4 + 2, none⟩ = some (.int .i64 q'.loops) ∧ w'.cell? ⟨pb, po + k * 4 + 3, none⟩ = some (.slice q'.A' q'.n' q'.c')) (first | exact ⟨kc, k0, k1, k2, k3⟩ | go_keep) (fail)
  rw [← hpA]
  clear hpA kc k0 k1 k2 k3
  have hX2 : Boxed (W.alloc (.cells #[.slice C.A0 C.n0 C.c0, .slice C.A1 C.n1 C.c1, .slice C.A2 C.n2 C.c2, .slice C.A3 C.n3 C.c3, .slice C.A4 C.n4 C.c4, .slice C.A5 C.n5 C.c5, .slice C.A6 C.n6 C.c6, .int .i64 q'.regs, .slice q'.A q'.n q'.c, .int .i64 q'.loops, .slice q'.A' q'.n' q'.c'] 46)).drew W.heap.size (w.heap.size + 1) B C q' i :=
    (⟨(MapKept.heap_alloc W _).1, ((MapKept.heap_alloc W _).2 _ (Array.getElem?_eq_some_iff.1 HS1.out).1).trans HS1.out, HQP.out.keep (HBW.out.trans ((Below.refl _ _).alloc HBW.out.size _))⟩ : Boxed (W.alloc (.cells #[.slice C.A0 C.n0 C.c0, .slice C.A1 C.n1 C.c1, .slice C.A2 C.n2 C.c2, .slice C.A3 C.n3 C.c3, .slice C.A4 C.n4 C.c4, .slice C.A5 C.n5 C.c5, .slice C.A6 C.n6 C.c6, .int .i64 q'.regs, .slice q'.A q'.n q'.c, .int .i64 q'.loops, .slice q'.A' q'.n' q'.c'] 46)) W.heap.size (w.heap.size + 1) B C q' i).drew
  have hb2 : Below w.heap.size w (W.alloc (.cells #[.slice C.A0 C.n0 C.c0, .slice C.A1 C.n1 C.c1, .slice C.A2 C.n2 C.c2, .slice C.A3 C.n3 C.c3, .slice C.A4 C.n4 C.c4, .slice C.A5 C.n5 C.c5, .slice C.A6 C.n6 C.c6, .int .i64 q'.regs, .slice q'.A q'.n q'.c, .int .i64 q'.loops, .slice q'.A' q'.n' q'.c'] 46)).drew := Gr.trans (Gr.trans HBW.out ((Below.refl _ _).alloc (Nat.le_refl _) _)) (Below.refl _ _).drew
  generalize (W.alloc (.cells #[.slice C.A0 C.n0 C.c0, .slice C.A1 C.n1 C.c1, .slice C.A2 C.n2 C.c2, .slice C.A3 C.n3 C.c3, .slice C.A4 C.n4 C.c4, .slice C.A5 C.n5 C.c5, .slice C.A6 C.n6 C.c6, .int .i64 q'.regs, .slice q'.A q'.n q'.c, .int .i64 q'.loops, .slice q'.A' q'.n' q'.c'] 46)).drew = W2 at hX2 hb2 ⊢
  generalize W.heap.size = BP at hX2 ⊢
  have HX2 := Lib.hid hX2
  have HW2 := Lib.hid hb2
  have hall2 := HX2.out.cells
  clear hX2 hb2
  go_wp2_with (first | ((with_reducible refine (p_abc HX2.out.at_ i hi 114 48 48).mono ?_); rintro e w3 ⟨rfl, hb3⟩; have HX3 := Lib.hid (HX2.out.keep hb3); have HW3 := Lib.hid (Gr.trans HW2.out hb3); have hall3 := HX3.out.cells; clear hb3) | ((with_reducible refine (p_special i.s _).mono ?_); rintro e w4 ⟨rfl, hb4⟩; have HX4 := Lib.hid (HX3.out.keep hb4); have HW4 := Lib.hid (Gr.trans HW3.out hb4); have hall4 := HX4.out.cells; clear hb4))
  all_goals (go_ret; exact ⟨ret_bool (by (try generalize abcB C q' [114, 48, 48] i = z0 at *); (try generalize specB i.s = z1 at *); simp [empB, ← ByteArray.toList_eq, *] <;> first | omega | (rw [Bool.eq_iff_iff]; simp <;> omega)), by first | exact HW4.out | exact HW3.out | exact HW2.out⟩)
set_option maxRecDepth 20000 in
set_option maxHeartbeats 4000000 in
theorem p_ins6 {C : CV} {w : World} {B : Nat} (hC : CodeAt w B C) (k : Nat) (hk : k < C.n2) (i : IV) (q : PV) (hq : C.parts[k]? = some q) (hi : IOk i) (hl : Ints w B i.A i.n i.args) (o5 : (i.op == 5) = false) (o6 : (i.op == 6) = true) :
    Calls Tryd.prog 7 #[.agg #[.slice C.A0 C.n0 C.c0, .slice C.A1 C.n1 C.c1, .slice C.A2 C.n2 C.c2, .slice C.A3 C.n3 C.c3, .slice C.A4 C.n4 C.c4, .slice C.A5 C.n5 C.c5, .slice C.A6 C.n6 C.c6], .int .i64 k, .agg #[.int .u8 i.op, .int .i64 i.a, .int .i64 i.b, .int .i64 i.c, .string i.s, .slice i.A i.n i.cap]] w fun e w' => e = .returned (.bool (abcB C q [114, 48, 48] i && (specB i.s && decide (i.n = 0)))) ∧ Below w.heap.size w w' := by
  have HC := Lib.hid hC
  have hn2 := hC.n2
  unfold maxLen at hn2
  obtain ⟨pb, po, q', hpA, hpb, hq', hqp, r0, r1, r2, r3⟩ := hC.part hk
  obtain rfl : q' = q := Option.some.inj (hq'.symm.trans hq)
  clear hC hq hq'
  have HPA := Lib.hid hpA
  have hln := hl.2.1
  unfold maxLen at hln
  have HQP := Lib.hid hqp
  clear hpA hqp
  have hs0 : ((w.alloc (.cells #[.slice C.A0 C.n0 C.c0, .slice C.A1 C.n1 C.c1, .slice C.A2 C.n2 C.c2, .slice C.A3 C.n3 C.c3, .slice C.A4 C.n4 C.c4, .slice C.A5 C.n5 C.c5, .slice C.A6 C.n6 C.c6] 28)).alloc (.cells #[.int .u8 i.op, .int .i64 i.a, .int .i64 i.b, .int .i64 i.c, .string i.s, .slice i.A i.n i.cap] 31)).heap[w.heap.size]? = some (.cells #[.slice C.A0 C.n0 C.c0, .slice C.A1 C.n1 C.c1, .slice C.A2 C.n2 C.c2, .slice C.A3 C.n3 C.c3, .slice C.A4 C.n4 C.c4, .slice C.A5 C.n5 C.c5, .slice C.A6 C.n6 C.c6] 28 (0, 0)) := by
    rw [(MapKept.heap_alloc _ _).2 _ (by simp), (MapKept.heap_alloc w _).1]
  have hs1 : ((w.alloc (.cells #[.slice C.A0 C.n0 C.c0, .slice C.A1 C.n1 C.c1, .slice C.A2 C.n2 C.c2, .slice C.A3 C.n3 C.c3, .slice C.A4 C.n4 C.c4, .slice C.A5 C.n5 C.c5, .slice C.A6 C.n6 C.c6] 28)).alloc (.cells #[.int .u8 i.op, .int .i64 i.a, .int .i64 i.b, .int .i64 i.c, .string i.s, .slice i.A i.n i.cap] 31)).heap[w.heap.size + 1]? = some (.cells #[.int .u8 i.op, .int .i64 i.a, .int .i64 i.b, .int .i64 i.c, .string i.s, .slice i.A i.n i.cap] 31 (0, 0)) := by
    have := (MapKept.heap_alloc (w.alloc (.cells #[.slice C.A0 C.n0 C.c0, .slice C.A1 C.n1 C.c1, .slice C.A2 C.n2 C.c2, .slice C.A3 C.n3 C.c3, .slice C.A4 C.n4 C.c4, .slice C.A5 C.n5 C.c5, .slice C.A6 C.n6 C.c6] 28)) (.cells #[.int .u8 i.op, .int .i64 i.a, .int .i64 i.b, .int .i64 i.c, .string i.s, .slice i.A i.n i.cap] 31)).1
    rwa [World.size_alloc] at this
  have hbW : Below w.heap.size w ((w.alloc (.cells #[.slice C.A0 C.n0 C.c0, .slice C.A1 C.n1 C.c1, .slice C.A2 C.n2 C.c2, .slice C.A3 C.n3 C.c3, .slice C.A4 C.n4 C.c4, .slice C.A5 C.n5 C.c5, .slice C.A6 C.n6 C.c6] 28)).alloc (.cells #[.int .u8 i.op, .int .i64 i.a, .int .i64 i.b, .int .i64 i.c, .string i.s, .slice i.A i.n i.cap] 31)) := ((Below.refl _ _).alloc (Nat.le_refl _) _).alloc (by simp) _
  have HBW := Lib.hid hbW
  have HS0 := Lib.hid hs0
  have HS1 := Lib.hid hs1
  clear hs0 hs1 hbW
  go_enter Tryd.func7, Tryd.ntmps7
  go_wp2_with fail
  generalize ((w.alloc (.cells #[.slice C.A0 C.n0 C.c0, .slice C.A1 C.n1 C.c1, .slice C.A2 C.n2 C.c2, .slice C.A3 C.n3 C.c3, .slice C.A4 C.n4 C.c4, .slice C.A5 C.n5 C.c5, .slice C.A6 C.n6 C.c6] 28)).alloc (.cells #[.int .u8 i.op, .int .i64 i.a, .int .i64 i.b, .int .i64 i.c, .string i.s, .slice i.A i.n i.cap] 31)) = W at HS0 HS1 HBW ⊢
  have k0 := (HBW.out.cell (p := ⟨pb, po + k * 4, none⟩) hpb).trans r0
  have k1 := (HBW.out.cell (p := ⟨pb, po + k * 4 + 1, none⟩) hpb).trans r1
  have k2 := (HBW.out.cell (p := ⟨pb, po + k * 4 + 2, none⟩) hpb).trans r2
  have k3 := (HBW.out.cell (p := ⟨pb, po + k * 4 + 3, none⟩) hpb).trans r3
  have kc := ccells HS0.out
  have hpA := HPA.out
  go_region_held3 (fun w' => (w'.cell? ⟨w.heap.size, 0, none⟩ = some (.slice C.A0 C.n0 C.c0) ∧ w'.cell? ⟨w.heap.size, 1, none⟩ = some (.slice C.A1 C.n1 C.c1) ∧ w'.cell? ⟨w.heap.size, 2, none⟩ = some (.slice C.A2 C.n2 C.c2) ∧ w'.cell? ⟨w.heap.size, 3, none⟩ = some (.slice C.A3 C.n3 C.c3) ∧ w'.cell? ⟨w.heap.size, 4, none⟩ = some (.slice C.A4 C.n4 C.c4) ∧ w'.cell? ⟨w.heap.size, 5, none⟩ = some (.slice C.A5 C.n5 C.c5) ∧ w'.cell? ⟨w.heap.size, 6, none⟩ = some (.slice C.A6 C.n6 C.c6)) ∧ w'.cell? ⟨pb, po + k * 4, none⟩ = some (.int .i64 q'.regs) ∧ w'.cell? ⟨pb, po + k * 4 + 1, none⟩ = some (.slice q'.A q'.n q'.c) ∧ w'.cell? ⟨pb, po + k * 4 + 2, none⟩ = some (.int .i64 q'.loops) ∧ w'.cell? ⟨pb, po + k * 4 + 3, none⟩ = some (.slice q'.A' q'.n' q'.c')) (first | exact ⟨kc, k0, k1, k2, k3⟩ | go_keep) (fail)
  rw [← hpA]
  clear hpA kc k0 k1 k2 k3
  have hX2 : Boxed (W.alloc (.cells #[.slice C.A0 C.n0 C.c0, .slice C.A1 C.n1 C.c1, .slice C.A2 C.n2 C.c2, .slice C.A3 C.n3 C.c3, .slice C.A4 C.n4 C.c4, .slice C.A5 C.n5 C.c5, .slice C.A6 C.n6 C.c6, .int .i64 q'.regs, .slice q'.A q'.n q'.c, .int .i64 q'.loops, .slice q'.A' q'.n' q'.c'] 46)).drew W.heap.size (w.heap.size + 1) B C q' i :=
    (⟨(MapKept.heap_alloc W _).1, ((MapKept.heap_alloc W _).2 _ (Array.getElem?_eq_some_iff.1 HS1.out).1).trans HS1.out, HQP.out.keep (HBW.out.trans ((Below.refl _ _).alloc HBW.out.size _))⟩ : Boxed (W.alloc (.cells #[.slice C.A0 C.n0 C.c0, .slice C.A1 C.n1 C.c1, .slice C.A2 C.n2 C.c2, .slice C.A3 C.n3 C.c3, .slice C.A4 C.n4 C.c4, .slice C.A5 C.n5 C.c5, .slice C.A6 C.n6 C.c6, .int .i64 q'.regs, .slice q'.A q'.n q'.c, .int .i64 q'.loops, .slice q'.A' q'.n' q'.c'] 46)) W.heap.size (w.heap.size + 1) B C q' i).drew
  have hb2 : Below w.heap.size w (W.alloc (.cells #[.slice C.A0 C.n0 C.c0, .slice C.A1 C.n1 C.c1, .slice C.A2 C.n2 C.c2, .slice C.A3 C.n3 C.c3, .slice C.A4 C.n4 C.c4, .slice C.A5 C.n5 C.c5, .slice C.A6 C.n6 C.c6, .int .i64 q'.regs, .slice q'.A q'.n q'.c, .int .i64 q'.loops, .slice q'.A' q'.n' q'.c'] 46)).drew := Gr.trans (Gr.trans HBW.out ((Below.refl _ _).alloc (Nat.le_refl _) _)) (Below.refl _ _).drew
  generalize (W.alloc (.cells #[.slice C.A0 C.n0 C.c0, .slice C.A1 C.n1 C.c1, .slice C.A2 C.n2 C.c2, .slice C.A3 C.n3 C.c3, .slice C.A4 C.n4 C.c4, .slice C.A5 C.n5 C.c5, .slice C.A6 C.n6 C.c6, .int .i64 q'.regs, .slice q'.A q'.n q'.c, .int .i64 q'.loops, .slice q'.A' q'.n' q'.c'] 46)).drew = W2 at hX2 hb2 ⊢
  generalize W.heap.size = BP at hX2 ⊢
  have HX2 := Lib.hid hX2
  have HW2 := Lib.hid hb2
  have hall2 := HX2.out.cells
  clear hX2 hb2
  go_wp2_with (first | ((with_reducible refine (p_abc HX2.out.at_ i hi 114 48 48).mono ?_); rintro e w3 ⟨rfl, hb3⟩; have HX3 := Lib.hid (HX2.out.keep hb3); have HW3 := Lib.hid (Gr.trans HW2.out hb3); have hall3 := HX3.out.cells; clear hb3) | ((with_reducible refine (p_special i.s _).mono ?_); rintro e w4 ⟨rfl, hb4⟩; have HX4 := Lib.hid (HX3.out.keep hb4); have HW4 := Lib.hid (Gr.trans HW3.out hb4); have hall4 := HX4.out.cells; clear hb4))
  all_goals (go_ret; exact ⟨ret_bool (by (try generalize abcB C q' [114, 48, 48] i = z0 at *); (try generalize specB i.s = z1 at *); simp [empB, ← ByteArray.toList_eq, *] <;> first | omega | (rw [Bool.eq_iff_iff]; simp <;> omega)), by first | exact HW4.out | exact HW3.out | exact HW2.out⟩)
set_option maxRecDepth 20000 in
set_option maxHeartbeats 4000000 in
theorem p_ins9 {C : CV} {w : World} {B : Nat} (hC : CodeAt w B C) (k : Nat) (hk : k < C.n2) (i : IV) (q : PV) (hq : C.parts[k]? = some q) (hi : IOk i) (hl : Ints w B i.A i.n i.args) (o5 : (i.op == 5) = false) (o6 : (i.op == 6) = false) (o9 : (i.op == 9) = true) :
    Calls Tryd.prog 7 #[.agg #[.slice C.A0 C.n0 C.c0, .slice C.A1 C.n1 C.c1, .slice C.A2 C.n2 C.c2, .slice C.A3 C.n3 C.c3, .slice C.A4 C.n4 C.c4, .slice C.A5 C.n5 C.c5, .slice C.A6 C.n6 C.c6], .int .i64 k, .agg #[.int .u8 i.op, .int .i64 i.a, .int .i64 i.b, .int .i64 i.c, .string i.s, .slice i.A i.n i.cap]] w fun e w' => e = .returned (.bool (empB i.s && (decide (i.n = 0) && (regB q i.a && rowB q i.b i.c)))) ∧ Below w.heap.size w w' := by
  have HC := Lib.hid hC
  have hn2 := hC.n2
  unfold maxLen at hn2
  obtain ⟨pb, po, q', hpA, hpb, hq', hqp, r0, r1, r2, r3⟩ := hC.part hk
  obtain rfl : q' = q := Option.some.inj (hq'.symm.trans hq)
  clear hC hq hq'
  have HPA := Lib.hid hpA
  have hln := hl.2.1
  unfold maxLen at hln
  have HMR : Hid (mayB C q' 114 i.a = regB q' i.a) := rfl
  have HQP := Lib.hid hqp
  clear hpA hqp
  have hs0 : ((w.alloc (.cells #[.slice C.A0 C.n0 C.c0, .slice C.A1 C.n1 C.c1, .slice C.A2 C.n2 C.c2, .slice C.A3 C.n3 C.c3, .slice C.A4 C.n4 C.c4, .slice C.A5 C.n5 C.c5, .slice C.A6 C.n6 C.c6] 28)).alloc (.cells #[.int .u8 i.op, .int .i64 i.a, .int .i64 i.b, .int .i64 i.c, .string i.s, .slice i.A i.n i.cap] 31)).heap[w.heap.size]? = some (.cells #[.slice C.A0 C.n0 C.c0, .slice C.A1 C.n1 C.c1, .slice C.A2 C.n2 C.c2, .slice C.A3 C.n3 C.c3, .slice C.A4 C.n4 C.c4, .slice C.A5 C.n5 C.c5, .slice C.A6 C.n6 C.c6] 28 (0, 0)) := by
    rw [(MapKept.heap_alloc _ _).2 _ (by simp), (MapKept.heap_alloc w _).1]
  have hs1 : ((w.alloc (.cells #[.slice C.A0 C.n0 C.c0, .slice C.A1 C.n1 C.c1, .slice C.A2 C.n2 C.c2, .slice C.A3 C.n3 C.c3, .slice C.A4 C.n4 C.c4, .slice C.A5 C.n5 C.c5, .slice C.A6 C.n6 C.c6] 28)).alloc (.cells #[.int .u8 i.op, .int .i64 i.a, .int .i64 i.b, .int .i64 i.c, .string i.s, .slice i.A i.n i.cap] 31)).heap[w.heap.size + 1]? = some (.cells #[.int .u8 i.op, .int .i64 i.a, .int .i64 i.b, .int .i64 i.c, .string i.s, .slice i.A i.n i.cap] 31 (0, 0)) := by
    have := (MapKept.heap_alloc (w.alloc (.cells #[.slice C.A0 C.n0 C.c0, .slice C.A1 C.n1 C.c1, .slice C.A2 C.n2 C.c2, .slice C.A3 C.n3 C.c3, .slice C.A4 C.n4 C.c4, .slice C.A5 C.n5 C.c5, .slice C.A6 C.n6 C.c6] 28)) (.cells #[.int .u8 i.op, .int .i64 i.a, .int .i64 i.b, .int .i64 i.c, .string i.s, .slice i.A i.n i.cap] 31)).1
    rwa [World.size_alloc] at this
  have hbW : Below w.heap.size w ((w.alloc (.cells #[.slice C.A0 C.n0 C.c0, .slice C.A1 C.n1 C.c1, .slice C.A2 C.n2 C.c2, .slice C.A3 C.n3 C.c3, .slice C.A4 C.n4 C.c4, .slice C.A5 C.n5 C.c5, .slice C.A6 C.n6 C.c6] 28)).alloc (.cells #[.int .u8 i.op, .int .i64 i.a, .int .i64 i.b, .int .i64 i.c, .string i.s, .slice i.A i.n i.cap] 31)) := ((Below.refl _ _).alloc (Nat.le_refl _) _).alloc (by simp) _
  have HBW := Lib.hid hbW
  have HS0 := Lib.hid hs0
  have HS1 := Lib.hid hs1
  clear hs0 hs1 hbW
  go_enter Tryd.func7, Tryd.ntmps7
  go_wp2_with fail
  generalize ((w.alloc (.cells #[.slice C.A0 C.n0 C.c0, .slice C.A1 C.n1 C.c1, .slice C.A2 C.n2 C.c2, .slice C.A3 C.n3 C.c3, .slice C.A4 C.n4 C.c4, .slice C.A5 C.n5 C.c5, .slice C.A6 C.n6 C.c6] 28)).alloc (.cells #[.int .u8 i.op, .int .i64 i.a, .int .i64 i.b, .int .i64 i.c, .string i.s, .slice i.A i.n i.cap] 31)) = W at HS0 HS1 HBW ⊢
  have k0 := (HBW.out.cell (p := ⟨pb, po + k * 4, none⟩) hpb).trans r0
  have k1 := (HBW.out.cell (p := ⟨pb, po + k * 4 + 1, none⟩) hpb).trans r1
  have k2 := (HBW.out.cell (p := ⟨pb, po + k * 4 + 2, none⟩) hpb).trans r2
  have k3 := (HBW.out.cell (p := ⟨pb, po + k * 4 + 3, none⟩) hpb).trans r3
  have kc := ccells HS0.out
  have hpA := HPA.out
  go_region_held3 (fun w' => (w'.cell? ⟨w.heap.size, 0, none⟩ = some (.slice C.A0 C.n0 C.c0) ∧ w'.cell? ⟨w.heap.size, 1, none⟩ = some (.slice C.A1 C.n1 C.c1) ∧ w'.cell? ⟨w.heap.size, 2, none⟩ = some (.slice C.A2 C.n2 C.c2) ∧ w'.cell? ⟨w.heap.size, 3, none⟩ = some (.slice C.A3 C.n3 C.c3) ∧ w'.cell? ⟨w.heap.size, 4, none⟩ = some (.slice C.A4 C.n4 C.c4) ∧ w'.cell? ⟨w.heap.size, 5, none⟩ = some (.slice C.A5 C.n5 C.c5) ∧ w'.cell? ⟨w.heap.size, 6, none⟩ = some (.slice C.A6 C.n6 C.c6)) ∧ w'.cell? ⟨pb, po + k * 4, none⟩ = some (.int .i64 q'.regs) ∧ w'.cell? ⟨pb, po + k * 4 + 1, none⟩ = some (.slice q'.A q'.n q'.c) ∧ w'.cell? ⟨pb, po + k * 4 + 2, none⟩ = some (.int .i64 q'.loops) ∧ w'.cell? ⟨pb, po + k * 4 + 3, none⟩ = some (.slice q'.A' q'.n' q'.c')) (first | exact ⟨kc, k0, k1, k2, k3⟩ | go_keep) (fail)
  rw [← hpA]
  clear hpA kc k0 k1 k2 k3
  have hX2 : Boxed (W.alloc (.cells #[.slice C.A0 C.n0 C.c0, .slice C.A1 C.n1 C.c1, .slice C.A2 C.n2 C.c2, .slice C.A3 C.n3 C.c3, .slice C.A4 C.n4 C.c4, .slice C.A5 C.n5 C.c5, .slice C.A6 C.n6 C.c6, .int .i64 q'.regs, .slice q'.A q'.n q'.c, .int .i64 q'.loops, .slice q'.A' q'.n' q'.c'] 46)).drew W.heap.size (w.heap.size + 1) B C q' i :=
    (⟨(MapKept.heap_alloc W _).1, ((MapKept.heap_alloc W _).2 _ (Array.getElem?_eq_some_iff.1 HS1.out).1).trans HS1.out, HQP.out.keep (HBW.out.trans ((Below.refl _ _).alloc HBW.out.size _))⟩ : Boxed (W.alloc (.cells #[.slice C.A0 C.n0 C.c0, .slice C.A1 C.n1 C.c1, .slice C.A2 C.n2 C.c2, .slice C.A3 C.n3 C.c3, .slice C.A4 C.n4 C.c4, .slice C.A5 C.n5 C.c5, .slice C.A6 C.n6 C.c6, .int .i64 q'.regs, .slice q'.A q'.n q'.c, .int .i64 q'.loops, .slice q'.A' q'.n' q'.c'] 46)) W.heap.size (w.heap.size + 1) B C q' i).drew
  have hb2 : Below w.heap.size w (W.alloc (.cells #[.slice C.A0 C.n0 C.c0, .slice C.A1 C.n1 C.c1, .slice C.A2 C.n2 C.c2, .slice C.A3 C.n3 C.c3, .slice C.A4 C.n4 C.c4, .slice C.A5 C.n5 C.c5, .slice C.A6 C.n6 C.c6, .int .i64 q'.regs, .slice q'.A q'.n q'.c, .int .i64 q'.loops, .slice q'.A' q'.n' q'.c'] 46)).drew := Gr.trans (Gr.trans HBW.out ((Below.refl _ _).alloc (Nat.le_refl _) _)) (Below.refl _ _).drew
  generalize (W.alloc (.cells #[.slice C.A0 C.n0 C.c0, .slice C.A1 C.n1 C.c1, .slice C.A2 C.n2 C.c2, .slice C.A3 C.n3 C.c3, .slice C.A4 C.n4 C.c4, .slice C.A5 C.n5 C.c5, .slice C.A6 C.n6 C.c6, .int .i64 q'.regs, .slice q'.A q'.n q'.c, .int .i64 q'.loops, .slice q'.A' q'.n' q'.c'] 46)).drew = W2 at hX2 hb2 ⊢
  generalize W.heap.size = BP at hX2 ⊢
  have HX2 := Lib.hid hX2
  have HW2 := Lib.hid hb2
  have hall2 := HX2.out.cells
  clear hX2 hb2
  go_wp2_with (first | ((with_reducible refine (p_may HX2.out.at_ 114 _ hi.a).mono ?_); rintro e w3 ⟨rfl, hb3⟩; have HX3 := Lib.hid (HX2.out.keep hb3); have HW3 := Lib.hid (Gr.trans HW2.out hb3); have hall3 := HX3.out.cells; clear hb3; rw [HMR.out]) | ((with_reducible refine (p_row HX3.out.at_ _ _ hi.b hi.c).mono ?_); rintro e w4 ⟨rfl, hb4⟩; have HX4 := Lib.hid (HX3.out.keep hb4); have HW4 := Lib.hid (Gr.trans HW3.out hb4); have hall4 := HX4.out.cells; clear hb4))
  all_goals (go_ret; exact ⟨ret_bool (by (try generalize regB q' i.a = z0 at *); (try generalize rowB q' i.b i.c = z1 at *); simp [empB, ← ByteArray.toList_eq, *] <;> first | omega | (rw [Bool.eq_iff_iff]; simp <;> omega)), by first | exact HW4.out | exact HW3.out | exact HW2.out⟩)
set_option maxRecDepth 20000 in
set_option maxHeartbeats 4000000 in
theorem p_ins26 {C : CV} {w : World} {B : Nat} (hC : CodeAt w B C) (k : Nat) (hk : k < C.n2) (i : IV) (q : PV) (hq : C.parts[k]? = some q) (hi : IOk i) (hl : Ints w B i.A i.n i.args) (o5 : (i.op == 5) = false) (o6 : (i.op == 6) = false) (o9 : (i.op == 9) = false) (o26 : (i.op == 26) = true) :
    Calls Tryd.prog 7 #[.agg #[.slice C.A0 C.n0 C.c0, .slice C.A1 C.n1 C.c1, .slice C.A2 C.n2 C.c2, .slice C.A3 C.n3 C.c3, .slice C.A4 C.n4 C.c4, .slice C.A5 C.n5 C.c5, .slice C.A6 C.n6 C.c6], .int .i64 k, .agg #[.int .u8 i.op, .int .i64 i.a, .int .i64 i.b, .int .i64 i.c, .string i.s, .slice i.A i.n i.cap]] w fun e w' => e = .returned (.bool (builtinB q i)) ∧ Below w.heap.size w w' := by
  have HC := Lib.hid hC
  have hn2 := hC.n2
  unfold maxLen at hn2
  obtain ⟨pb, po, q', hpA, hpb, hq', hqp, r0, r1, r2, r3⟩ := hC.part hk
  obtain rfl : q' = q := Option.some.inj (hq'.symm.trans hq)
  clear hC hq hq'
  have HPA := Lib.hid hpA
  have hln := hl.2.1
  unfold maxLen at hln
  have HNL := Lib.hid hl.2.1
  have HQP := Lib.hid hqp
  clear hpA hqp
  have hs0 : ((w.alloc (.cells #[.slice C.A0 C.n0 C.c0, .slice C.A1 C.n1 C.c1, .slice C.A2 C.n2 C.c2, .slice C.A3 C.n3 C.c3, .slice C.A4 C.n4 C.c4, .slice C.A5 C.n5 C.c5, .slice C.A6 C.n6 C.c6] 28)).alloc (.cells #[.int .u8 i.op, .int .i64 i.a, .int .i64 i.b, .int .i64 i.c, .string i.s, .slice i.A i.n i.cap] 31)).heap[w.heap.size]? = some (.cells #[.slice C.A0 C.n0 C.c0, .slice C.A1 C.n1 C.c1, .slice C.A2 C.n2 C.c2, .slice C.A3 C.n3 C.c3, .slice C.A4 C.n4 C.c4, .slice C.A5 C.n5 C.c5, .slice C.A6 C.n6 C.c6] 28 (0, 0)) := by
    rw [(MapKept.heap_alloc _ _).2 _ (by simp), (MapKept.heap_alloc w _).1]
  have hs1 : ((w.alloc (.cells #[.slice C.A0 C.n0 C.c0, .slice C.A1 C.n1 C.c1, .slice C.A2 C.n2 C.c2, .slice C.A3 C.n3 C.c3, .slice C.A4 C.n4 C.c4, .slice C.A5 C.n5 C.c5, .slice C.A6 C.n6 C.c6] 28)).alloc (.cells #[.int .u8 i.op, .int .i64 i.a, .int .i64 i.b, .int .i64 i.c, .string i.s, .slice i.A i.n i.cap] 31)).heap[w.heap.size + 1]? = some (.cells #[.int .u8 i.op, .int .i64 i.a, .int .i64 i.b, .int .i64 i.c, .string i.s, .slice i.A i.n i.cap] 31 (0, 0)) := by
    have := (MapKept.heap_alloc (w.alloc (.cells #[.slice C.A0 C.n0 C.c0, .slice C.A1 C.n1 C.c1, .slice C.A2 C.n2 C.c2, .slice C.A3 C.n3 C.c3, .slice C.A4 C.n4 C.c4, .slice C.A5 C.n5 C.c5, .slice C.A6 C.n6 C.c6] 28)) (.cells #[.int .u8 i.op, .int .i64 i.a, .int .i64 i.b, .int .i64 i.c, .string i.s, .slice i.A i.n i.cap] 31)).1
    rwa [World.size_alloc] at this
  have hbW : Below w.heap.size w ((w.alloc (.cells #[.slice C.A0 C.n0 C.c0, .slice C.A1 C.n1 C.c1, .slice C.A2 C.n2 C.c2, .slice C.A3 C.n3 C.c3, .slice C.A4 C.n4 C.c4, .slice C.A5 C.n5 C.c5, .slice C.A6 C.n6 C.c6] 28)).alloc (.cells #[.int .u8 i.op, .int .i64 i.a, .int .i64 i.b, .int .i64 i.c, .string i.s, .slice i.A i.n i.cap] 31)) := ((Below.refl _ _).alloc (Nat.le_refl _) _).alloc (by simp) _
  have HBW := Lib.hid hbW
  have HS0 := Lib.hid hs0
  have HS1 := Lib.hid hs1
  clear hs0 hs1 hbW
  go_enter Tryd.func7, Tryd.ntmps7
  go_wp2_with fail
  generalize ((w.alloc (.cells #[.slice C.A0 C.n0 C.c0, .slice C.A1 C.n1 C.c1, .slice C.A2 C.n2 C.c2, .slice C.A3 C.n3 C.c3, .slice C.A4 C.n4 C.c4, .slice C.A5 C.n5 C.c5, .slice C.A6 C.n6 C.c6] 28)).alloc (.cells #[.int .u8 i.op, .int .i64 i.a, .int .i64 i.b, .int .i64 i.c, .string i.s, .slice i.A i.n i.cap] 31)) = W at HS0 HS1 HBW ⊢
  have k0 := (HBW.out.cell (p := ⟨pb, po + k * 4, none⟩) hpb).trans r0
  have k1 := (HBW.out.cell (p := ⟨pb, po + k * 4 + 1, none⟩) hpb).trans r1
  have k2 := (HBW.out.cell (p := ⟨pb, po + k * 4 + 2, none⟩) hpb).trans r2
  have k3 := (HBW.out.cell (p := ⟨pb, po + k * 4 + 3, none⟩) hpb).trans r3
  have kc := ccells HS0.out
  have hpA := HPA.out
  go_region_held3 (fun w' => (w'.cell? ⟨w.heap.size, 0, none⟩ = some (.slice C.A0 C.n0 C.c0) ∧ w'.cell? ⟨w.heap.size, 1, none⟩ = some (.slice C.A1 C.n1 C.c1) ∧ w'.cell? ⟨w.heap.size, 2, none⟩ = some (.slice C.A2 C.n2 C.c2) ∧ w'.cell? ⟨w.heap.size, 3, none⟩ = some (.slice C.A3 C.n3 C.c3) ∧ w'.cell? ⟨w.heap.size, 4, none⟩ = some (.slice C.A4 C.n4 C.c4) ∧ w'.cell? ⟨w.heap.size, 5, none⟩ = some (.slice C.A5 C.n5 C.c5) ∧ w'.cell? ⟨w.heap.size, 6, none⟩ = some (.slice C.A6 C.n6 C.c6)) ∧ w'.cell? ⟨pb, po + k * 4, none⟩ = some (.int .i64 q'.regs) ∧ w'.cell? ⟨pb, po + k * 4 + 1, none⟩ = some (.slice q'.A q'.n q'.c) ∧ w'.cell? ⟨pb, po + k * 4 + 2, none⟩ = some (.int .i64 q'.loops) ∧ w'.cell? ⟨pb, po + k * 4 + 3, none⟩ = some (.slice q'.A' q'.n' q'.c')) (first | exact ⟨kc, k0, k1, k2, k3⟩ | go_keep) (fail)
  rw [← hpA]
  clear hpA kc k0 k1 k2 k3
  have hX2 : Boxed (W.alloc (.cells #[.slice C.A0 C.n0 C.c0, .slice C.A1 C.n1 C.c1, .slice C.A2 C.n2 C.c2, .slice C.A3 C.n3 C.c3, .slice C.A4 C.n4 C.c4, .slice C.A5 C.n5 C.c5, .slice C.A6 C.n6 C.c6, .int .i64 q'.regs, .slice q'.A q'.n q'.c, .int .i64 q'.loops, .slice q'.A' q'.n' q'.c'] 46)).drew W.heap.size (w.heap.size + 1) B C q' i :=
    (⟨(MapKept.heap_alloc W _).1, ((MapKept.heap_alloc W _).2 _ (Array.getElem?_eq_some_iff.1 HS1.out).1).trans HS1.out, HQP.out.keep (HBW.out.trans ((Below.refl _ _).alloc HBW.out.size _))⟩ : Boxed (W.alloc (.cells #[.slice C.A0 C.n0 C.c0, .slice C.A1 C.n1 C.c1, .slice C.A2 C.n2 C.c2, .slice C.A3 C.n3 C.c3, .slice C.A4 C.n4 C.c4, .slice C.A5 C.n5 C.c5, .slice C.A6 C.n6 C.c6, .int .i64 q'.regs, .slice q'.A q'.n q'.c, .int .i64 q'.loops, .slice q'.A' q'.n' q'.c'] 46)) W.heap.size (w.heap.size + 1) B C q' i).drew
  have hb2 : Below w.heap.size w (W.alloc (.cells #[.slice C.A0 C.n0 C.c0, .slice C.A1 C.n1 C.c1, .slice C.A2 C.n2 C.c2, .slice C.A3 C.n3 C.c3, .slice C.A4 C.n4 C.c4, .slice C.A5 C.n5 C.c5, .slice C.A6 C.n6 C.c6, .int .i64 q'.regs, .slice q'.A q'.n q'.c, .int .i64 q'.loops, .slice q'.A' q'.n' q'.c'] 46)).drew := Gr.trans (Gr.trans HBW.out ((Below.refl _ _).alloc (Nat.le_refl _) _)) (Below.refl _ _).drew
  generalize (W.alloc (.cells #[.slice C.A0 C.n0 C.c0, .slice C.A1 C.n1 C.c1, .slice C.A2 C.n2 C.c2, .slice C.A3 C.n3 C.c3, .slice C.A4 C.n4 C.c4, .slice C.A5 C.n5 C.c5, .slice C.A6 C.n6 C.c6, .int .i64 q'.regs, .slice q'.A q'.n q'.c, .int .i64 q'.loops, .slice q'.A' q'.n' q'.c'] 46)).drew = W2 at hX2 hb2 ⊢
  generalize W.heap.size = BP at hX2 ⊢
  have HX2 := Lib.hid hX2
  have HW2 := Lib.hid hb2
  have hall2 := HX2.out.cells
  clear hX2 hb2
  go_wp2_with (first | ((with_reducible refine (p_builtin HX2.out.at_ i hi HNL.out).mono ?_); rintro e w3 ⟨rfl, hb3⟩; have HX3 := Lib.hid (HX2.out.keep hb3); have HW3 := Lib.hid (Gr.trans HW2.out hb3); have hall3 := HX3.out.cells; clear hb3))
  all_goals (go_ret; exact ⟨ret_bool (by simp [empB, ← ByteArray.toList_eq, *] <;> first | omega | (rw [Bool.eq_iff_iff]; simp <;> omega)), by first | exact HW3.out | exact HW2.out⟩)
end Go.Proofs.YtankpckkiikmaaaDoor
