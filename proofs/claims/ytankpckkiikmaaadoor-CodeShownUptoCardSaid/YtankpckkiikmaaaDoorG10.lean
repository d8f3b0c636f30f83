/- Code: the walk of the document's builtins. -/
import Derived.Test.YtankpckkiikmaaaDoorG7
set_option linter.unusedVariables false
set_option linter.unusedSimpArgs false
namespace Go.Proofs.YtankpckkiikmaaaDoor
open Go.RowKit Cod
def Cod.builtin0B (p : PV) (i : IV) : Bool := match manyM.find? (fun r => i.s == r.name) with
  | none => false
  | some r => decide (r.lo ≤ i.c) && (decide (i.c ≤ r.hi) && (regB p i.a && (i.c == 0 && i.b == 0 || decide (0 < i.c) && rowB p i.b i.c)))
theorem list_ne {s : ByteArray} {l : List UInt8} (h : ¬ s = ⟨l.toArray⟩) : (s.toList == l) = false := by
  rw [ByteArray.toList_eq, beq_eq_false_iff_ne]
  intro e
  exact h (ByteArray.ext (by rw [← Array.toList_inj]; simpa using e))
set_option maxRecDepth 20000 in
set_option maxHeartbeats 4000000 in
theorem q_bi0 {C : CV} {p : PV} {w : World} {B : Nat} (h : PlaceAt w B C p) (i : IV) (hi : IOk i) (hln : i.n ≤ maxLen) (hs : i.s = ⟨#[108, 101, 110, 103, 116, 104]⟩) :
    Calls Tryd.prog 29 #[.agg #[.slice C.A0 C.n0 C.c0, .slice C.A1 C.n1 C.c1, .slice C.A2 C.n2 C.c2, .slice C.A3 C.n3 C.c3, .slice C.A4 C.n4 C.c4, .slice C.A5 C.n5 C.c5, .slice C.A6 C.n6 C.c6, .int .i64 p.regs, .slice p.A p.n p.c, .int .i64 p.loops, .slice p.A' p.n' p.c'], .agg #[.int .u8 i.op, .int .i64 i.a, .int .i64 i.b, .int .i64 i.c, .string i.s, .slice i.A i.n i.cap]] w fun e w' => e = .returned (.bool (builtin0B p i)) ∧ Below w.heap.size w w' := by
  have HX := Lib.hid (BoxI.made i h)
  have HW := Lib.hid (enterI w C p i)
  have hall := True.intro
  have hrg := h.regs
  unfold maxLen at hln
  obtain ⟨b1, b2⟩ := i64_bd hi.b
  obtain ⟨c1, c2⟩ := i64_bd hi.c
  have f0 : (i.s.toList == [108, 101, 110, 103, 116, 104]) = true := by rw [hs, ByteArray.toList_eq]; rfl
  have f1 : (i.s.toList == [115, 114, 97, 110, 100]) = false := by rw [hs, ByteArray.toList_eq]; rfl
  have f2 : (i.s.toList == [115, 117, 98, 115, 116, 114]) = false := by rw [hs, ByteArray.toList_eq]; rfl
  have f3 : (i.s.toList == [105, 110, 100, 101, 120]) = false := by rw [hs, ByteArray.toList_eq]; rfl
  have f4 : (i.s.toList == [109, 97, 116, 99, 104]) = false := by rw [hs, ByteArray.toList_eq]; rfl
  have f5 : (i.s.toList == [115, 112, 114, 105, 110, 116, 102]) = false := by rw [hs, ByteArray.toList_eq]; rfl
  have f6 : (i.s.toList == [114, 97, 110, 100]) = false := by rw [hs, ByteArray.toList_eq]; rfl
  have f7 : (i.s.toList == [116, 111, 108, 111, 119, 101, 114]) = false := by rw [hs, ByteArray.toList_eq]; rfl
  have f8 : (i.s.toList == [116, 111, 117, 112, 112, 101, 114]) = false := by rw [hs, ByteArray.toList_eq]; rfl
  have f9 : (i.s.toList == [105, 110, 116]) = false := by rw [hs, ByteArray.toList_eq]; rfl
  have f10 : (i.s.toList == [99, 108, 111, 115, 101]) = false := by rw [hs, ByteArray.toList_eq]; rfl
  have f11 : (i.s.toList == [115, 121, 115, 116, 101, 109]) = false := by rw [hs, ByteArray.toList_eq]; rfl
  have HR : Hid (builtin0B p i = (decide ((0 : Int) ≤ i.c) && (decide (i.c ≤ 1) && (regB p i.a && (i.c == 0 && i.b == 0 || decide (0 < i.c) && rowB p i.b i.c))))) := by
    unfold Hid builtin0B
    rw [show manyM.find? (fun r => i.s == r.name) = some ⟨⟨#[108, 101, 110, 103, 116, 104]⟩, 0, 1⟩ from by rw [hs]; rfl]
  clear h hs
  cases hr : regB p i.a
  all_goals
    have HRR := Lib.hid hr
    rw [hr] at HR
    clear hr
    go_enter Tryd.func29, Tryd.ntmps29
    go_wp2_with (first | ((with_reducible refine (q_reg C p i.a _).mono ?_); rintro e w2 ⟨rfl, hb2⟩; have HX2 := Lib.hid (HX.out.keep hb2); have HW2 := Lib.hid (Gr.trans HW.out hb2); have hall2 := HX2.out.all; clear hb2; rw [HRR.out]) | ((with_reducible refine (q_row C p i.b i.c _ hrg).mono ?_); rintro e w3 ⟨rfl, hb3⟩; have HX3 := Lib.hid (HX2.out.keep hb3); have HW3 := Lib.hid (Gr.trans HW2.out hb3); have hall3 := HX3.out.all; clear hb3))
    all_goals (go_ret; exact ⟨ret_bool (by rw [HR.out]; generalize rowB p i.b i.c = z; cases z <;> rw [Bool.eq_iff_iff] <;> simp <;> omega), by first | exact HW3.out | exact HW2.out | exact HW.out⟩)
set_option maxRecDepth 20000 in
set_option maxHeartbeats 4000000 in
theorem q_bi1 {C : CV} {p : PV} {w : World} {B : Nat} (h : PlaceAt w B C p) (i : IV) (hi : IOk i) (hln : i.n ≤ maxLen) (hs : i.s = ⟨#[115, 114, 97, 110, 100]⟩) :
    Calls Tryd.prog 29 #[.agg #[.slice C.A0 C.n0 C.c0, .slice C.A1 C.n1 C.c1, .slice C.A2 C.n2 C.c2, .slice C.A3 C.n3 C.c3, .slice C.A4 C.n4 C.c4, .slice C.A5 C.n5 C.c5, .slice C.A6 C.n6 C.c6, .int .i64 p.regs, .slice p.A p.n p.c, .int .i64 p.loops, .slice p.A' p.n' p.c'], .agg #[.int .u8 i.op, .int .i64 i.a, .int .i64 i.b, .int .i64 i.c, .string i.s, .slice i.A i.n i.cap]] w fun e w' => e = .returned (.bool (builtin0B p i)) ∧ Below w.heap.size w w' := by
  have HX := Lib.hid (BoxI.made i h)
  have HW := Lib.hid (enterI w C p i)
  have hall := True.intro
  have hrg := h.regs
  unfold maxLen at hln
  obtain ⟨b1, b2⟩ := i64_bd hi.b
  obtain ⟨c1, c2⟩ := i64_bd hi.c
  have f0 : (i.s.toList == [108, 101, 110, 103, 116, 104]) = false := by rw [hs, ByteArray.toList_eq]; rfl
  have f1 : (i.s.toList == [115, 114, 97, 110, 100]) = true := by rw [hs, ByteArray.toList_eq]; rfl
  have f2 : (i.s.toList == [115, 117, 98, 115, 116, 114]) = false := by rw [hs, ByteArray.toList_eq]; rfl
  have f3 : (i.s.toList == [105, 110, 100, 101, 120]) = false := by rw [hs, ByteArray.toList_eq]; rfl
  have f4 : (i.s.toList == [109, 97, 116, 99, 104]) = false := by rw [hs, ByteArray.toList_eq]; rfl
  have f5 : (i.s.toList == [115, 112, 114, 105, 110, 116, 102]) = false := by rw [hs, ByteArray.toList_eq]; rfl
  have f6 : (i.s.toList == [114, 97, 110, 100]) = false := by rw [hs, ByteArray.toList_eq]; rfl
  have f7 : (i.s.toList == [116, 111, 108, 111, 119, 101, 114]) = false := by rw [hs, ByteArray.toList_eq]; rfl
  have f8 : (i.s.toList == [116, 111, 117, 112, 112, 101, 114]) = false := by rw [hs, ByteArray.toList_eq]; rfl
  have f9 : (i.s.toList == [105, 110, 116]) = false := by rw [hs, ByteArray.toList_eq]; rfl
  have f10 : (i.s.toList == [99, 108, 111, 115, 101]) = false := by rw [hs, ByteArray.toList_eq]; rfl
  have f11 : (i.s.toList == [115, 121, 115, 116, 101, 109]) = false := by rw [hs, ByteArray.toList_eq]; rfl
  have HR : Hid (builtin0B p i = (decide ((0 : Int) ≤ i.c) && (decide (i.c ≤ 1) && (regB p i.a && (i.c == 0 && i.b == 0 || decide (0 < i.c) && rowB p i.b i.c))))) := by
    unfold Hid builtin0B
    rw [show manyM.find? (fun r => i.s == r.name) = some ⟨⟨#[115, 114, 97, 110, 100]⟩, 0, 1⟩ from by rw [hs]; rfl]
  clear h hs
  cases hr : regB p i.a
  all_goals
    have HRR := Lib.hid hr
    rw [hr] at HR
    clear hr
    go_enter Tryd.func29, Tryd.ntmps29
    go_wp2_with (first | ((with_reducible refine (q_reg C p i.a _).mono ?_); rintro e w2 ⟨rfl, hb2⟩; have HX2 := Lib.hid (HX.out.keep hb2); have HW2 := Lib.hid (Gr.trans HW.out hb2); have hall2 := HX2.out.all; clear hb2; rw [HRR.out]) | ((with_reducible refine (q_row C p i.b i.c _ hrg).mono ?_); rintro e w3 ⟨rfl, hb3⟩; have HX3 := Lib.hid (HX2.out.keep hb3); have HW3 := Lib.hid (Gr.trans HW2.out hb3); have hall3 := HX3.out.all; clear hb3))
    all_goals (go_ret; exact ⟨ret_bool (by rw [HR.out]; generalize rowB p i.b i.c = z; cases z <;> rw [Bool.eq_iff_iff] <;> simp <;> omega), by first | exact HW3.out | exact HW2.out | exact HW.out⟩)
set_option maxRecDepth 20000 in
set_option maxHeartbeats 4000000 in
theorem q_bi2 {C : CV} {p : PV} {w : World} {B : Nat} (h : PlaceAt w B C p) (i : IV) (hi : IOk i) (hln : i.n ≤ maxLen) (hs : i.s = ⟨#[115, 117, 98, 115, 116, 114]⟩) :
    Calls Tryd.prog 29 #[.agg #[.slice C.A0 C.n0 C.c0, .slice C.A1 C.n1 C.c1, .slice C.A2 C.n2 C.c2, .slice C.A3 C.n3 C.c3, .slice C.A4 C.n4 C.c4, .slice C.A5 C.n5 C.c5, .slice C.A6 C.n6 C.c6, .int .i64 p.regs, .slice p.A p.n p.c, .int .i64 p.loops, .slice p.A' p.n' p.c'], .agg #[.int .u8 i.op, .int .i64 i.a, .int .i64 i.b, .int .i64 i.c, .string i.s, .slice i.A i.n i.cap]] w fun e w' => e = .returned (.bool (builtin0B p i)) ∧ Below w.heap.size w w' := by
  have HX := Lib.hid (BoxI.made i h)
  have HW := Lib.hid (enterI w C p i)
  have hall := True.intro
  have hrg := h.regs
  unfold maxLen at hln
  obtain ⟨b1, b2⟩ := i64_bd hi.b
  obtain ⟨c1, c2⟩ := i64_bd hi.c
  have f0 : (i.s.toList == [108, 101, 110, 103, 116, 104]) = false := by rw [hs, ByteArray.toList_eq]; rfl
  have f1 : (i.s.toList == [115, 114, 97, 110, 100]) = false := by rw [hs, ByteArray.toList_eq]; rfl
  have f2 : (i.s.toList == [115, 117, 98, 115, 116, 114]) = true := by rw [hs, ByteArray.toList_eq]; rfl
  have f3 : (i.s.toList == [105, 110, 100, 101, 120]) = false := by rw [hs, ByteArray.toList_eq]; rfl
  have f4 : (i.s.toList == [109, 97, 116, 99, 104]) = false := by rw [hs, ByteArray.toList_eq]; rfl
  have f5 : (i.s.toList == [115, 112, 114, 105, 110, 116, 102]) = false := by rw [hs, ByteArray.toList_eq]; rfl
  have f6 : (i.s.toList == [114, 97, 110, 100]) = false := by rw [hs, ByteArray.toList_eq]; rfl
  have f7 : (i.s.toList == [116, 111, 108, 111, 119, 101, 114]) = false := by rw [hs, ByteArray.toList_eq]; rfl
  have f8 : (i.s.toList == [116, 111, 117, 112, 112, 101, 114]) = false := by rw [hs, ByteArray.toList_eq]; rfl
  have f9 : (i.s.toList == [105, 110, 116]) = false := by rw [hs, ByteArray.toList_eq]; rfl
  have f10 : (i.s.toList == [99, 108, 111, 115, 101]) = false := by rw [hs, ByteArray.toList_eq]; rfl
  have f11 : (i.s.toList == [115, 121, 115, 116, 101, 109]) = false := by rw [hs, ByteArray.toList_eq]; rfl
  have HR : Hid (builtin0B p i = (decide ((2 : Int) ≤ i.c) && (decide (i.c ≤ 3) && (regB p i.a && (i.c == 0 && i.b == 0 || decide (0 < i.c) && rowB p i.b i.c))))) := by
    unfold Hid builtin0B
    rw [show manyM.find? (fun r => i.s == r.name) = some ⟨⟨#[115, 117, 98, 115, 116, 114]⟩, 2, 3⟩ from by rw [hs]; rfl]
  clear h hs
  cases hr : regB p i.a
  all_goals
    have HRR := Lib.hid hr
    rw [hr] at HR
    clear hr
    go_enter Tryd.func29, Tryd.ntmps29
    go_wp2_with (first | ((with_reducible refine (q_reg C p i.a _).mono ?_); rintro e w2 ⟨rfl, hb2⟩; have HX2 := Lib.hid (HX.out.keep hb2); have HW2 := Lib.hid (Gr.trans HW.out hb2); have hall2 := HX2.out.all; clear hb2; rw [HRR.out]) | ((with_reducible refine (q_row C p i.b i.c _ hrg).mono ?_); rintro e w3 ⟨rfl, hb3⟩; have HX3 := Lib.hid (HX2.out.keep hb3); have HW3 := Lib.hid (Gr.trans HW2.out hb3); have hall3 := HX3.out.all; clear hb3))
    all_goals (go_ret; exact ⟨ret_bool (by rw [HR.out]; generalize rowB p i.b i.c = z; cases z <;> rw [Bool.eq_iff_iff] <;> simp <;> omega), by first | exact HW3.out | exact HW2.out | exact HW.out⟩)
set_option maxRecDepth 20000 in
set_option maxHeartbeats 4000000 in
theorem q_bi3 {C : CV} {p : PV} {w : World} {B : Nat} (h : PlaceAt w B C p) (i : IV) (hi : IOk i) (hln : i.n ≤ maxLen) (hs : i.s = ⟨#[105, 110, 100, 101, 120]⟩) :
    Calls Tryd.prog 29 #[.agg #[.slice C.A0 C.n0 C.c0, .slice C.A1 C.n1 C.c1, .slice C.A2 C.n2 C.c2, .slice C.A3 C.n3 C.c3, .slice C.A4 C.n4 C.c4, .slice C.A5 C.n5 C.c5, .slice C.A6 C.n6 C.c6, .int .i64 p.regs, .slice p.A p.n p.c, .int .i64 p.loops, .slice p.A' p.n' p.c'], .agg #[.int .u8 i.op, .int .i64 i.a, .int .i64 i.b, .int .i64 i.c, .string i.s, .slice i.A i.n i.cap]] w fun e w' => e = .returned (.bool (builtin0B p i)) ∧ Below w.heap.size w w' := by
  have HX := Lib.hid (BoxI.made i h)
  have HW := Lib.hid (enterI w C p i)
  have hall := True.intro
  have hrg := h.regs
  unfold maxLen at hln
  obtain ⟨b1, b2⟩ := i64_bd hi.b
  obtain ⟨c1, c2⟩ := i64_bd hi.c
  have f0 : (i.s.toList == [108, 101, 110, 103, 116, 104]) = false := by rw [hs, ByteArray.toList_eq]; rfl
  have f1 : (i.s.toList == [115, 114, 97, 110, 100]) = false := by rw [hs, ByteArray.toList_eq]; rfl
  have f2 : (i.s.toList == [115, 117, 98, 115, 116, 114]) = false := by rw [hs, ByteArray.toList_eq]; rfl
  have f3 : (i.s.toList == [105, 110, 100, 101, 120]) = true := by rw [hs, ByteArray.toList_eq]; rfl
  have f4 : (i.s.toList == [109, 97, 116, 99, 104]) = false := by rw [hs, ByteArray.toList_eq]; rfl
  have f5 : (i.s.toList == [115, 112, 114, 105, 110, 116, 102]) = false := by rw [hs, ByteArray.toList_eq]; rfl
  have f6 : (i.s.toList == [114, 97, 110, 100]) = false := by rw [hs, ByteArray.toList_eq]; rfl
  have f7 : (i.s.toList == [116, 111, 108, 111, 119, 101, 114]) = false := by rw [hs, ByteArray.toList_eq]; rfl
  have f8 : (i.s.toList == [116, 111, 117, 112, 112, 101, 114]) = false := by rw [hs, ByteArray.toList_eq]; rfl
  have f9 : (i.s.toList == [105, 110, 116]) = false := by rw [hs, ByteArray.toList_eq]; rfl
  have f10 : (i.s.toList == [99, 108, 111, 115, 101]) = false := by rw [hs, ByteArray.toList_eq]; rfl
  have f11 : (i.s.toList == [115, 121, 115, 116, 101, 109]) = false := by rw [hs, ByteArray.toList_eq]; rfl
  have HR : Hid (builtin0B p i = (decide ((2 : Int) ≤ i.c) && (decide (i.c ≤ 2) && (regB p i.a && (i.c == 0 && i.b == 0 || decide (0 < i.c) && rowB p i.b i.c))))) := by
    unfold Hid builtin0B
    rw [show manyM.find? (fun r => i.s == r.name) = some ⟨⟨#[105, 110, 100, 101, 120]⟩, 2, 2⟩ from by rw [hs]; rfl]
  clear h hs
  cases hr : regB p i.a
  all_goals
    have HRR := Lib.hid hr
    rw [hr] at HR
    clear hr
    go_enter Tryd.func29, Tryd.ntmps29
    go_wp2_with (first | ((with_reducible refine (q_reg C p i.a _).mono ?_); rintro e w2 ⟨rfl, hb2⟩; have HX2 := Lib.hid (HX.out.keep hb2); have HW2 := Lib.hid (Gr.trans HW.out hb2); have hall2 := HX2.out.all; clear hb2; rw [HRR.out]) | ((with_reducible refine (q_row C p i.b i.c _ hrg).mono ?_); rintro e w3 ⟨rfl, hb3⟩; have HX3 := Lib.hid (HX2.out.keep hb3); have HW3 := Lib.hid (Gr.trans HW2.out hb3); have hall3 := HX3.out.all; clear hb3))
    all_goals (go_ret; exact ⟨ret_bool (by rw [HR.out]; generalize rowB p i.b i.c = z; cases z <;> rw [Bool.eq_iff_iff] <;> simp <;> omega), by first | exact HW3.out | exact HW2.out | exact HW.out⟩)
set_option maxRecDepth 20000 in
set_option maxHeartbeats 4000000 in
theorem q_bi4 {C : CV} {p : PV} {w : World} {B : Nat} (h : PlaceAt w B C p) (i : IV) (hi : IOk i) (hln : i.n ≤ maxLen) (hs : i.s = ⟨#[109, 97, 116, 99, 104]⟩) :
    Calls Tryd.prog 29 #[.agg #[.slice C.A0 C.n0 C.c0, .slice C.A1 C.n1 C.c1, .slice C.A2 C.n2 C.c2, .slice C.A3 C.n3 C.c3, .slice C.A4 C.n4 C.c4, .slice C.A5 C.n5 C.c5, .slice C.A6 C.n6 C.c6, .int .i64 p.regs, .slice p.A p.n p.c, .int .i64 p.loops, .slice p.A' p.n' p.c'], .agg #[.int .u8 i.op, .int .i64 i.a, .int .i64 i.b, .int .i64 i.c, .string i.s, .slice i.A i.n i.cap]] w fun e w' => e = .returned (.bool (builtin0B p i)) ∧ Below w.heap.size w w' := by
  have HX := Lib.hid (BoxI.made i h)
  have HW := Lib.hid (enterI w C p i)
  have hall := True.intro
  have hrg := h.regs
  unfold maxLen at hln
  obtain ⟨b1, b2⟩ := i64_bd hi.b
  obtain ⟨c1, c2⟩ := i64_bd hi.c
  have f0 : (i.s.toList == [108, 101, 110, 103, 116, 104]) = false := by rw [hs, ByteArray.toList_eq]; rfl
  have f1 : (i.s.toList == [115, 114, 97, 110, 100]) = false := by rw [hs, ByteArray.toList_eq]; rfl
  have f2 : (i.s.toList == [115, 117, 98, 115, 116, 114]) = false := by rw [hs, ByteArray.toList_eq]; rfl
  have f3 : (i.s.toList == [105, 110, 100, 101, 120]) = false := by rw [hs, ByteArray.toList_eq]; rfl
  have f4 : (i.s.toList == [109, 97, 116, 99, 104]) = true := by rw [hs, ByteArray.toList_eq]; rfl
  have f5 : (i.s.toList == [115, 112, 114, 105, 110, 116, 102]) = false := by rw [hs, ByteArray.toList_eq]; rfl
  have f6 : (i.s.toList == [114, 97, 110, 100]) = false := by rw [hs, ByteArray.toList_eq]; rfl
  have f7 : (i.s.toList == [116, 111, 108, 111, 119, 101, 114]) = false := by rw [hs, ByteArray.toList_eq]; rfl
  have f8 : (i.s.toList == [116, 111, 117, 112, 112, 101, 114]) = false := by rw [hs, ByteArray.toList_eq]; rfl
  have f9 : (i.s.toList == [105, 110, 116]) = false := by rw [hs, ByteArray.toList_eq]; rfl
  have f10 : (i.s.toList == [99, 108, 111, 115, 101]) = false := by rw [hs, ByteArray.toList_eq]; rfl
  have f11 : (i.s.toList == [115, 121, 115, 116, 101, 109]) = false := by rw [hs, ByteArray.toList_eq]; rfl
  have HR : Hid (builtin0B p i = (decide ((2 : Int) ≤ i.c) && (decide (i.c ≤ 2) && (regB p i.a && (i.c == 0 && i.b == 0 || decide (0 < i.c) && rowB p i.b i.c))))) := by
    unfold Hid builtin0B
    rw [show manyM.find? (fun r => i.s == r.name) = some ⟨⟨#[109, 97, 116, 99, 104]⟩, 2, 2⟩ from by rw [hs]; rfl]
  clear h hs
  cases hr : regB p i.a
  all_goals
    have HRR := Lib.hid hr
    rw [hr] at HR
    clear hr
    go_enter Tryd.func29, Tryd.ntmps29
    go_wp2_with (first | ((with_reducible refine (q_reg C p i.a _).mono ?_); rintro e w2 ⟨rfl, hb2⟩; have HX2 := Lib.hid (HX.out.keep hb2); have HW2 := Lib.hid (Gr.trans HW.out hb2); have hall2 := HX2.out.all; clear hb2; rw [HRR.out]) | ((with_reducible refine (q_row C p i.b i.c _ hrg).mono ?_); rintro e w3 ⟨rfl, hb3⟩; have HX3 := Lib.hid (HX2.out.keep hb3); have HW3 := Lib.hid (Gr.trans HW2.out hb3); have hall3 := HX3.out.all; clear hb3))
    all_goals (go_ret; exact ⟨ret_bool (by rw [HR.out]; generalize rowB p i.b i.c = z; cases z <;> rw [Bool.eq_iff_iff] <;> simp <;> omega), by first | exact HW3.out | exact HW2.out | exact HW.out⟩)
set_option maxRecDepth 20000 in
set_option maxHeartbeats 4000000 in
theorem q_bi5 {C : CV} {p : PV} {w : World} {B : Nat} (h : PlaceAt w B C p) (i : IV) (hi : IOk i) (hln : i.n ≤ maxLen) (hs : i.s = ⟨#[115, 112, 114, 105, 110, 116, 102]⟩) :
    Calls Tryd.prog 29 #[.agg #[.slice C.A0 C.n0 C.c0, .slice C.A1 C.n1 C.c1, .slice C.A2 C.n2 C.c2, .slice C.A3 C.n3 C.c3, .slice C.A4 C.n4 C.c4, .slice C.A5 C.n5 C.c5, .slice C.A6 C.n6 C.c6, .int .i64 p.regs, .slice p.A p.n p.c, .int .i64 p.loops, .slice p.A' p.n' p.c'], .agg #[.int .u8 i.op, .int .i64 i.a, .int .i64 i.b, .int .i64 i.c, .string i.s, .slice i.A i.n i.cap]] w fun e w' => e = .returned (.bool (builtin0B p i)) ∧ Below w.heap.size w w' := by
  have HX := Lib.hid (BoxI.made i h)
  have HW := Lib.hid (enterI w C p i)
  have hall := True.intro
  have hrg := h.regs
  unfold maxLen at hln
  obtain ⟨b1, b2⟩ := i64_bd hi.b
  obtain ⟨c1, c2⟩ := i64_bd hi.c
  have f0 : (i.s.toList == [108, 101, 110, 103, 116, 104]) = false := by rw [hs, ByteArray.toList_eq]; rfl
  have f1 : (i.s.toList == [115, 114, 97, 110, 100]) = false := by rw [hs, ByteArray.toList_eq]; rfl
  have f2 : (i.s.toList == [115, 117, 98, 115, 116, 114]) = false := by rw [hs, ByteArray.toList_eq]; rfl
  have f3 : (i.s.toList == [105, 110, 100, 101, 120]) = false := by rw [hs, ByteArray.toList_eq]; rfl
  have f4 : (i.s.toList == [109, 97, 116, 99, 104]) = false := by rw [hs, ByteArray.toList_eq]; rfl
  have f5 : (i.s.toList == [115, 112, 114, 105, 110, 116, 102]) = true := by rw [hs, ByteArray.toList_eq]; rfl
  have f6 : (i.s.toList == [114, 97, 110, 100]) = false := by rw [hs, ByteArray.toList_eq]; rfl
  have f7 : (i.s.toList == [116, 111, 108, 111, 119, 101, 114]) = false := by rw [hs, ByteArray.toList_eq]; rfl
  have f8 : (i.s.toList == [116, 111, 117, 112, 112, 101, 114]) = false := by rw [hs, ByteArray.toList_eq]; rfl
  have f9 : (i.s.toList == [105, 110, 116]) = false := by rw [hs, ByteArray.toList_eq]; rfl
  have f10 : (i.s.toList == [99, 108, 111, 115, 101]) = false := by rw [hs, ByteArray.toList_eq]; rfl
  have f11 : (i.s.toList == [115, 121, 115, 116, 101, 109]) = false := by rw [hs, ByteArray.toList_eq]; rfl
  have HR : Hid (builtin0B p i = (decide ((1 : Int) ≤ i.c) && (decide (i.c ≤ 1073741824) && (regB p i.a && (i.c == 0 && i.b == 0 || decide (0 < i.c) && rowB p i.b i.c))))) := by
    unfold Hid builtin0B
    rw [show manyM.find? (fun r => i.s == r.name) = some ⟨⟨#[115, 112, 114, 105, 110, 116, 102]⟩, 1, 1073741824⟩ from by rw [hs]; rfl]
  clear h hs
  cases hr : regB p i.a
  all_goals
    have HRR := Lib.hid hr
    rw [hr] at HR
    clear hr
    go_enter Tryd.func29, Tryd.ntmps29
    go_wp2_with (first | ((with_reducible refine (q_reg C p i.a _).mono ?_); rintro e w2 ⟨rfl, hb2⟩; have HX2 := Lib.hid (HX.out.keep hb2); have HW2 := Lib.hid (Gr.trans HW.out hb2); have hall2 := HX2.out.all; clear hb2; rw [HRR.out]) | ((with_reducible refine (q_row C p i.b i.c _ hrg).mono ?_); rintro e w3 ⟨rfl, hb3⟩; have HX3 := Lib.hid (HX2.out.keep hb3); have HW3 := Lib.hid (Gr.trans HW2.out hb3); have hall3 := HX3.out.all; clear hb3))
    all_goals (go_ret; exact ⟨ret_bool (by rw [HR.out]; generalize rowB p i.b i.c = z; cases z <;> rw [Bool.eq_iff_iff] <;> simp <;> omega), by first | exact HW3.out | exact HW2.out | exact HW.out⟩)
set_option maxRecDepth 20000 in
set_option maxHeartbeats 4000000 in
theorem q_bi6 {C : CV} {p : PV} {w : World} {B : Nat} (h : PlaceAt w B C p) (i : IV) (hi : IOk i) (hln : i.n ≤ maxLen) (hs : i.s = ⟨#[114, 97, 110, 100]⟩) :
    Calls Tryd.prog 29 #[.agg #[.slice C.A0 C.n0 C.c0, .slice C.A1 C.n1 C.c1, .slice C.A2 C.n2 C.c2, .slice C.A3 C.n3 C.c3, .slice C.A4 C.n4 C.c4, .slice C.A5 C.n5 C.c5, .slice C.A6 C.n6 C.c6, .int .i64 p.regs, .slice p.A p.n p.c, .int .i64 p.loops, .slice p.A' p.n' p.c'], .agg #[.int .u8 i.op, .int .i64 i.a, .int .i64 i.b, .int .i64 i.c, .string i.s, .slice i.A i.n i.cap]] w fun e w' => e = .returned (.bool (builtin0B p i)) ∧ Below w.heap.size w w' := by
  have HX := Lib.hid (BoxI.made i h)
  have HW := Lib.hid (enterI w C p i)
  have hall := True.intro
  have hrg := h.regs
  unfold maxLen at hln
  obtain ⟨b1, b2⟩ := i64_bd hi.b
  obtain ⟨c1, c2⟩ := i64_bd hi.c
  have f0 : (i.s.toList == [108, 101, 110, 103, 116, 104]) = false := by rw [hs, ByteArray.toList_eq]; rfl
  have f1 : (i.s.toList == [115, 114, 97, 110, 100]) = false := by rw [hs, ByteArray.toList_eq]; rfl
  have f2 : (i.s.toList == [115, 117, 98, 115, 116, 114]) = false := by rw [hs, ByteArray.toList_eq]; rfl
  have f3 : (i.s.toList == [105, 110, 100, 101, 120]) = false := by rw [hs, ByteArray.toList_eq]; rfl
  have f4 : (i.s.toList == [109, 97, 116, 99, 104]) = false := by rw [hs, ByteArray.toList_eq]; rfl
  have f5 : (i.s.toList == [115, 112, 114, 105, 110, 116, 102]) = false := by rw [hs, ByteArray.toList_eq]; rfl
  have f6 : (i.s.toList == [114, 97, 110, 100]) = true := by rw [hs, ByteArray.toList_eq]; rfl
  have f7 : (i.s.toList == [116, 111, 108, 111, 119, 101, 114]) = false := by rw [hs, ByteArray.toList_eq]; rfl
  have f8 : (i.s.toList == [116, 111, 117, 112, 112, 101, 114]) = false := by rw [hs, ByteArray.toList_eq]; rfl
  have f9 : (i.s.toList == [105, 110, 116]) = false := by rw [hs, ByteArray.toList_eq]; rfl
  have f10 : (i.s.toList == [99, 108, 111, 115, 101]) = false := by rw [hs, ByteArray.toList_eq]; rfl
  have f11 : (i.s.toList == [115, 121, 115, 116, 101, 109]) = false := by rw [hs, ByteArray.toList_eq]; rfl
  have HR : Hid (builtin0B p i = (decide ((0 : Int) ≤ i.c) && (decide (i.c ≤ 0) && (regB p i.a && (i.c == 0 && i.b == 0 || decide (0 < i.c) && rowB p i.b i.c))))) := by
    unfold Hid builtin0B
    rw [show manyM.find? (fun r => i.s == r.name) = some ⟨⟨#[114, 97, 110, 100]⟩, 0, 0⟩ from by rw [hs]; rfl]
  clear h hs
  cases hr : regB p i.a
  all_goals
    have HRR := Lib.hid hr
    rw [hr] at HR
    clear hr
    go_enter Tryd.func29, Tryd.ntmps29
    go_wp2_with (first | ((with_reducible refine (q_reg C p i.a _).mono ?_); rintro e w2 ⟨rfl, hb2⟩; have HX2 := Lib.hid (HX.out.keep hb2); have HW2 := Lib.hid (Gr.trans HW.out hb2); have hall2 := HX2.out.all; clear hb2; rw [HRR.out]) | ((with_reducible refine (q_row C p i.b i.c _ hrg).mono ?_); rintro e w3 ⟨rfl, hb3⟩; have HX3 := Lib.hid (HX2.out.keep hb3); have HW3 := Lib.hid (Gr.trans HW2.out hb3); have hall3 := HX3.out.all; clear hb3))
    all_goals (go_ret; exact ⟨ret_bool (by rw [HR.out]; generalize rowB p i.b i.c = z; cases z <;> rw [Bool.eq_iff_iff] <;> simp <;> omega), by first | exact HW3.out | exact HW2.out | exact HW.out⟩)
set_option maxRecDepth 20000 in
set_option maxHeartbeats 4000000 in
theorem q_bi7 {C : CV} {p : PV} {w : World} {B : Nat} (h : PlaceAt w B C p) (i : IV) (hi : IOk i) (hln : i.n ≤ maxLen) (hs : i.s = ⟨#[116, 111, 108, 111, 119, 101, 114]⟩) :
    Calls Tryd.prog 29 #[.agg #[.slice C.A0 C.n0 C.c0, .slice C.A1 C.n1 C.c1, .slice C.A2 C.n2 C.c2, .slice C.A3 C.n3 C.c3, .slice C.A4 C.n4 C.c4, .slice C.A5 C.n5 C.c5, .slice C.A6 C.n6 C.c6, .int .i64 p.regs, .slice p.A p.n p.c, .int .i64 p.loops, .slice p.A' p.n' p.c'], .agg #[.int .u8 i.op, .int .i64 i.a, .int .i64 i.b, .int .i64 i.c, .string i.s, .slice i.A i.n i.cap]] w fun e w' => e = .returned (.bool (builtin0B p i)) ∧ Below w.heap.size w w' := by
  have HX := Lib.hid (BoxI.made i h)
  have HW := Lib.hid (enterI w C p i)
  have hall := True.intro
  have hrg := h.regs
  unfold maxLen at hln
  obtain ⟨b1, b2⟩ := i64_bd hi.b
  obtain ⟨c1, c2⟩ := i64_bd hi.c
  have f0 : (i.s.toList == [108, 101, 110, 103, 116, 104]) = false := by rw [hs, ByteArray.toList_eq]; rfl
  have f1 : (i.s.toList == [115, 114, 97, 110, 100]) = false := by rw [hs, ByteArray.toList_eq]; rfl
  have f2 : (i.s.toList == [115, 117, 98, 115, 116, 114]) = false := by rw [hs, ByteArray.toList_eq]; rfl
  have f3 : (i.s.toList == [105, 110, 100, 101, 120]) = false := by rw [hs, ByteArray.toList_eq]; rfl
  have f4 : (i.s.toList == [109, 97, 116, 99, 104]) = false := by rw [hs, ByteArray.toList_eq]; rfl
  have f5 : (i.s.toList == [115, 112, 114, 105, 110, 116, 102]) = false := by rw [hs, ByteArray.toList_eq]; rfl
  have f6 : (i.s.toList == [114, 97, 110, 100]) = false := by rw [hs, ByteArray.toList_eq]; rfl
  have f7 : (i.s.toList == [116, 111, 108, 111, 119, 101, 114]) = true := by rw [hs, ByteArray.toList_eq]; rfl
  have f8 : (i.s.toList == [116, 111, 117, 112, 112, 101, 114]) = false := by rw [hs, ByteArray.toList_eq]; rfl
  have f9 : (i.s.toList == [105, 110, 116]) = false := by rw [hs, ByteArray.toList_eq]; rfl
  have f10 : (i.s.toList == [99, 108, 111, 115, 101]) = false := by rw [hs, ByteArray.toList_eq]; rfl
  have f11 : (i.s.toList == [115, 121, 115, 116, 101, 109]) = false := by rw [hs, ByteArray.toList_eq]; rfl
  have HR : Hid (builtin0B p i = (decide ((1 : Int) ≤ i.c) && (decide (i.c ≤ 1) && (regB p i.a && (i.c == 0 && i.b == 0 || decide (0 < i.c) && rowB p i.b i.c))))) := by
    unfold Hid builtin0B
    rw [show manyM.find? (fun r => i.s == r.name) = some ⟨⟨#[116, 111, 108, 111, 119, 101, 114]⟩, 1, 1⟩ from by rw [hs]; rfl]
  clear h hs
  cases hr : regB p i.a
  all_goals
    have HRR := Lib.hid hr
    rw [hr] at HR
    clear hr
    go_enter Tryd.func29, Tryd.ntmps29
    go_wp2_with (first | ((with_reducible refine (q_reg C p i.a _).mono ?_); rintro e w2 ⟨rfl, hb2⟩; have HX2 := Lib.hid (HX.out.keep hb2); have HW2 := Lib.hid (Gr.trans HW.out hb2); have hall2 := HX2.out.all; clear hb2; rw [HRR.out]) | ((with_reducible refine (q_row C p i.b i.c _ hrg).mono ?_); rintro e w3 ⟨rfl, hb3⟩; have HX3 := Lib.hid (HX2.out.keep hb3); have HW3 := Lib.hid (Gr.trans HW2.out hb3); have hall3 := HX3.out.all; clear hb3))
    all_goals (go_ret; exact ⟨ret_bool (by rw [HR.out]; generalize rowB p i.b i.c = z; cases z <;> rw [Bool.eq_iff_iff] <;> simp <;> omega), by first | exact HW3.out | exact HW2.out | exact HW.out⟩)
set_option maxRecDepth 20000 in
set_option maxHeartbeats 4000000 in
theorem q_bi8 {C : CV} {p : PV} {w : World} {B : Nat} (h : PlaceAt w B C p) (i : IV) (hi : IOk i) (hln : i.n ≤ maxLen) (hs : i.s = ⟨#[116, 111, 117, 112, 112, 101, 114]⟩) :
    Calls Tryd.prog 29 #[.agg #[.slice C.A0 C.n0 C.c0, .slice C.A1 C.n1 C.c1, .slice C.A2 C.n2 C.c2, .slice C.A3 C.n3 C.c3, .slice C.A4 C.n4 C.c4, .slice C.A5 C.n5 C.c5, .slice C.A6 C.n6 C.c6, .int .i64 p.regs, .slice p.A p.n p.c, .int .i64 p.loops, .slice p.A' p.n' p.c'], .agg #[.int .u8 i.op, .int .i64 i.a, .int .i64 i.b, .int .i64 i.c, .string i.s, .slice i.A i.n i.cap]] w fun e w' => e = .returned (.bool (builtin0B p i)) ∧ Below w.heap.size w w' := by
  have HX := Lib.hid (BoxI.made i h)
  have HW := Lib.hid (enterI w C p i)
  have hall := True.intro
  have hrg := h.regs
  unfold maxLen at hln
  obtain ⟨b1, b2⟩ := i64_bd hi.b
  obtain ⟨c1, c2⟩ := i64_bd hi.c
  have f0 : (i.s.toList == [108, 101, 110, 103, 116, 104]) = false := by rw [hs, ByteArray.toList_eq]; rfl
  have f1 : (i.s.toList == [115, 114, 97, 110, 100]) = false := by rw [hs, ByteArray.toList_eq]; rfl
  have f2 : (i.s.toList == [115, 117, 98, 115, 116, 114]) = false := by rw [hs, ByteArray.toList_eq]; rfl
  have f3 : (i.s.toList == [105, 110, 100, 101, 120]) = false := by rw [hs, ByteArray.toList_eq]; rfl
  have f4 : (i.s.toList == [109, 97, 116, 99, 104]) = false := by rw [hs, ByteArray.toList_eq]; rfl
  have f5 : (i.s.toList == [115, 112, 114, 105, 110, 116, 102]) = false := by rw [hs, ByteArray.toList_eq]; rfl
  have f6 : (i.s.toList == [114, 97, 110, 100]) = false := by rw [hs, ByteArray.toList_eq]; rfl
  have f7 : (i.s.toList == [116, 111, 108, 111, 119, 101, 114]) = false := by rw [hs, ByteArray.toList_eq]; rfl
  have f8 : (i.s.toList == [116, 111, 117, 112, 112, 101, 114]) = true := by rw [hs, ByteArray.toList_eq]; rfl
  have f9 : (i.s.toList == [105, 110, 116]) = false := by rw [hs, ByteArray.toList_eq]; rfl
  have f10 : (i.s.toList == [99, 108, 111, 115, 101]) = false := by rw [hs, ByteArray.toList_eq]; rfl
  have f11 : (i.s.toList == [115, 121, 115, 116, 101, 109]) = false := by rw [hs, ByteArray.toList_eq]; rfl
  have HR : Hid (builtin0B p i = (decide ((1 : Int) ≤ i.c) && (decide (i.c ≤ 1) && (regB p i.a && (i.c == 0 && i.b == 0 || decide (0 < i.c) && rowB p i.b i.c))))) := by
    unfold Hid builtin0B
    rw [show manyM.find? (fun r => i.s == r.name) = some ⟨⟨#[116, 111, 117, 112, 112, 101, 114]⟩, 1, 1⟩ from by rw [hs]; rfl]
  clear h hs
  cases hr : regB p i.a
  all_goals
    have HRR := Lib.hid hr
    rw [hr] at HR
    clear hr
    go_enter Tryd.func29, Tryd.ntmps29
    go_wp2_with (first | ((with_reducible refine (q_reg C p i.a _).mono ?_); rintro e w2 ⟨rfl, hb2⟩; have HX2 := Lib.hid (HX.out.keep hb2); have HW2 := Lib.hid (Gr.trans HW.out hb2); have hall2 := HX2.out.all; clear hb2; rw [HRR.out]) | ((with_reducible refine (q_row C p i.b i.c _ hrg).mono ?_); rintro e w3 ⟨rfl, hb3⟩; have HX3 := Lib.hid (HX2.out.keep hb3); have HW3 := Lib.hid (Gr.trans HW2.out hb3); have hall3 := HX3.out.all; clear hb3))
    all_goals (go_ret; exact ⟨ret_bool (by rw [HR.out]; generalize rowB p i.b i.c = z; cases z <;> rw [Bool.eq_iff_iff] <;> simp <;> omega), by first | exact HW3.out | exact HW2.out | exact HW.out⟩)
set_option maxRecDepth 20000 in
set_option maxHeartbeats 4000000 in
theorem q_bi9 {C : CV} {p : PV} {w : World} {B : Nat} (h : PlaceAt w B C p) (i : IV) (hi : IOk i) (hln : i.n ≤ maxLen) (hs : i.s = ⟨#[105, 110, 116]⟩) :
    Calls Tryd.prog 29 #[.agg #[.slice C.A0 C.n0 C.c0, .slice C.A1 C.n1 C.c1, .slice C.A2 C.n2 C.c2, .slice C.A3 C.n3 C.c3, .slice C.A4 C.n4 C.c4, .slice C.A5 C.n5 C.c5, .slice C.A6 C.n6 C.c6, .int .i64 p.regs, .slice p.A p.n p.c, .int .i64 p.loops, .slice p.A' p.n' p.c'], .agg #[.int .u8 i.op, .int .i64 i.a, .int .i64 i.b, .int .i64 i.c, .string i.s, .slice i.A i.n i.cap]] w fun e w' => e = .returned (.bool (builtin0B p i)) ∧ Below w.heap.size w w' := by
  have HX := Lib.hid (BoxI.made i h)
  have HW := Lib.hid (enterI w C p i)
  have hall := True.intro
  have hrg := h.regs
  unfold maxLen at hln
  obtain ⟨b1, b2⟩ := i64_bd hi.b
  obtain ⟨c1, c2⟩ := i64_bd hi.c
  have f0 : (i.s.toList == [108, 101, 110, 103, 116, 104]) = false := by rw [hs, ByteArray.toList_eq]; rfl
  have f1 : (i.s.toList == [115, 114, 97, 110, 100]) = false := by rw [hs, ByteArray.toList_eq]; rfl
  have f2 : (i.s.toList == [115, 117, 98, 115, 116, 114]) = false := by rw [hs, ByteArray.toList_eq]; rfl
  have f3 : (i.s.toList == [105, 110, 100, 101, 120]) = false := by rw [hs, ByteArray.toList_eq]; rfl
  have f4 : (i.s.toList == [109, 97, 116, 99, 104]) = false := by rw [hs, ByteArray.toList_eq]; rfl
  have f5 : (i.s.toList == [115, 112, 114, 105, 110, 116, 102]) = false := by rw [hs, ByteArray.toList_eq]; rfl
  have f6 : (i.s.toList == [114, 97, 110, 100]) = false := by rw [hs, ByteArray.toList_eq]; rfl
  have f7 : (i.s.toList == [116, 111, 108, 111, 119, 101, 114]) = false := by rw [hs, ByteArray.toList_eq]; rfl
  have f8 : (i.s.toList == [116, 111, 117, 112, 112, 101, 114]) = false := by rw [hs, ByteArray.toList_eq]; rfl
  have f9 : (i.s.toList == [105, 110, 116]) = true := by rw [hs, ByteArray.toList_eq]; rfl
  have f10 : (i.s.toList == [99, 108, 111, 115, 101]) = false := by rw [hs, ByteArray.toList_eq]; rfl
  have f11 : (i.s.toList == [115, 121, 115, 116, 101, 109]) = false := by rw [hs, ByteArray.toList_eq]; rfl
  have HR : Hid (builtin0B p i = (decide ((1 : Int) ≤ i.c) && (decide (i.c ≤ 1) && (regB p i.a && (i.c == 0 && i.b == 0 || decide (0 < i.c) && rowB p i.b i.c))))) := by
    unfold Hid builtin0B
    rw [show manyM.find? (fun r => i.s == r.name) = some ⟨⟨#[105, 110, 116]⟩, 1, 1⟩ from by rw [hs]; rfl]
  clear h hs
  cases hr : regB p i.a
  all_goals
    have HRR := Lib.hid hr
    rw [hr] at HR
    clear hr
    go_enter Tryd.func29, Tryd.ntmps29
    go_wp2_with (first | ((with_reducible refine (q_reg C p i.a _).mono ?_); rintro e w2 ⟨rfl, hb2⟩; have HX2 := Lib.hid (HX.out.keep hb2); have HW2 := Lib.hid (Gr.trans HW.out hb2); have hall2 := HX2.out.all; clear hb2; rw [HRR.out]) | ((with_reducible refine (q_row C p i.b i.c _ hrg).mono ?_); rintro e w3 ⟨rfl, hb3⟩; have HX3 := Lib.hid (HX2.out.keep hb3); have HW3 := Lib.hid (Gr.trans HW2.out hb3); have hall3 := HX3.out.all; clear hb3))
    all_goals (go_ret; exact ⟨ret_bool (by rw [HR.out]; generalize rowB p i.b i.c = z; cases z <;> rw [Bool.eq_iff_iff] <;> simp <;> omega), by first | exact HW3.out | exact HW2.out | exact HW.out⟩)
set_option maxRecDepth 20000 in
set_option maxHeartbeats 4000000 in
theorem q_bi10 {C : CV} {p : PV} {w : World} {B : Nat} (h : PlaceAt w B C p) (i : IV) (hi : IOk i) (hln : i.n ≤ maxLen) (hs : i.s = ⟨#[99, 108, 111, 115, 101]⟩) :
    Calls Tryd.prog 29 #[.agg #[.slice C.A0 C.n0 C.c0, .slice C.A1 C.n1 C.c1, .slice C.A2 C.n2 C.c2, .slice C.A3 C.n3 C.c3, .slice C.A4 C.n4 C.c4, .slice C.A5 C.n5 C.c5, .slice C.A6 C.n6 C.c6, .int .i64 p.regs, .slice p.A p.n p.c, .int .i64 p.loops, .slice p.A' p.n' p.c'], .agg #[.int .u8 i.op, .int .i64 i.a, .int .i64 i.b, .int .i64 i.c, .string i.s, .slice i.A i.n i.cap]] w fun e w' => e = .returned (.bool (builtin0B p i)) ∧ Below w.heap.size w w' := by
  have HX := Lib.hid (BoxI.made i h)
  have HW := Lib.hid (enterI w C p i)
  have hall := True.intro
  have hrg := h.regs
  unfold maxLen at hln
  obtain ⟨b1, b2⟩ := i64_bd hi.b
  obtain ⟨c1, c2⟩ := i64_bd hi.c
  have f0 : (i.s.toList == [108, 101, 110, 103, 116, 104]) = false := by rw [hs, ByteArray.toList_eq]; rfl
  have f1 : (i.s.toList == [115, 114, 97, 110, 100]) = false := by rw [hs, ByteArray.toList_eq]; rfl
  have f2 : (i.s.toList == [115, 117, 98, 115, 116, 114]) = false := by rw [hs, ByteArray.toList_eq]; rfl
  have f3 : (i.s.toList == [105, 110, 100, 101, 120]) = false := by rw [hs, ByteArray.toList_eq]; rfl
  have f4 : (i.s.toList == [109, 97, 116, 99, 104]) = false := by rw [hs, ByteArray.toList_eq]; rfl
  have f5 : (i.s.toList == [115, 112, 114, 105, 110, 116, 102]) = false := by rw [hs, ByteArray.toList_eq]; rfl
  have f6 : (i.s.toList == [114, 97, 110, 100]) = false := by rw [hs, ByteArray.toList_eq]; rfl
  have f7 : (i.s.toList == [116, 111, 108, 111, 119, 101, 114]) = false := by rw [hs, ByteArray.toList_eq]; rfl
  have f8 : (i.s.toList == [116, 111, 117, 112, 112, 101, 114]) = false := by rw [hs, ByteArray.toList_eq]; rfl
  have f9 : (i.s.toList == [105, 110, 116]) = false := by rw [hs, ByteArray.toList_eq]; rfl
  have f10 : (i.s.toList == [99, 108, 111, 115, 101]) = true := by rw [hs, ByteArray.toList_eq]; rfl
  have f11 : (i.s.toList == [115, 121, 115, 116, 101, 109]) = false := by rw [hs, ByteArray.toList_eq]; rfl
  have HR : Hid (builtin0B p i = (decide ((1 : Int) ≤ i.c) && (decide (i.c ≤ 1) && (regB p i.a && (i.c == 0 && i.b == 0 || decide (0 < i.c) && rowB p i.b i.c))))) := by
    unfold Hid builtin0B
    rw [show manyM.find? (fun r => i.s == r.name) = some ⟨⟨#[99, 108, 111, 115, 101]⟩, 1, 1⟩ from by rw [hs]; rfl]
  clear h hs
  cases hr : regB p i.a
  all_goals
    have HRR := Lib.hid hr
    rw [hr] at HR
    clear hr
    go_enter Tryd.func29, Tryd.ntmps29
    go_wp2_with (first | ((with_reducible refine (q_reg C p i.a _).mono ?_); rintro e w2 ⟨rfl, hb2⟩; have HX2 := Lib.hid (HX.out.keep hb2); have HW2 := Lib.hid (Gr.trans HW.out hb2); have hall2 := HX2.out.all; clear hb2; rw [HRR.out]) | ((with_reducible refine (q_row C p i.b i.c _ hrg).mono ?_); rintro e w3 ⟨rfl, hb3⟩; have HX3 := Lib.hid (HX2.out.keep hb3); have HW3 := Lib.hid (Gr.trans HW2.out hb3); have hall3 := HX3.out.all; clear hb3))
    all_goals (go_ret; exact ⟨ret_bool (by rw [HR.out]; generalize rowB p i.b i.c = z; cases z <;> rw [Bool.eq_iff_iff] <;> simp <;> omega), by first | exact HW3.out | exact HW2.out | exact HW.out⟩)
set_option maxRecDepth 20000 in
set_option maxHeartbeats 4000000 in
theorem q_bi11 {C : CV} {p : PV} {w : World} {B : Nat} (h : PlaceAt w B C p) (i : IV) (hi : IOk i) (hln : i.n ≤ maxLen) (hs : i.s = ⟨#[115, 121, 115, 116, 101, 109]⟩) :
    Calls Tryd.prog 29 #[.agg #[.slice C.A0 C.n0 C.c0, .slice C.A1 C.n1 C.c1, .slice C.A2 C.n2 C.c2, .slice C.A3 C.n3 C.c3, .slice C.A4 C.n4 C.c4, .slice C.A5 C.n5 C.c5, .slice C.A6 C.n6 C.c6, .int .i64 p.regs, .slice p.A p.n p.c, .int .i64 p.loops, .slice p.A' p.n' p.c'], .agg #[.int .u8 i.op, .int .i64 i.a, .int .i64 i.b, .int .i64 i.c, .string i.s, .slice i.A i.n i.cap]] w fun e w' => e = .returned (.bool (builtin0B p i)) ∧ Below w.heap.size w w' := by
  have HX := Lib.hid (BoxI.made i h)
  have HW := Lib.hid (enterI w C p i)
  have hall := True.intro
  have hrg := h.regs
  unfold maxLen at hln
  obtain ⟨b1, b2⟩ := i64_bd hi.b
  obtain ⟨c1, c2⟩ := i64_bd hi.c
  have f0 : (i.s.toList == [108, 101, 110, 103, 116, 104]) = false := by rw [hs, ByteArray.toList_eq]; rfl
  have f1 : (i.s.toList == [115, 114, 97, 110, 100]) = false := by rw [hs, ByteArray.toList_eq]; rfl
  have f2 : (i.s.toList == [115, 117, 98, 115, 116, 114]) = false := by rw [hs, ByteArray.toList_eq]; rfl
  have f3 : (i.s.toList == [105, 110, 100, 101, 120]) = false := by rw [hs, ByteArray.toList_eq]; rfl
  have f4 : (i.s.toList == [109, 97, 116, 99, 104]) = false := by rw [hs, ByteArray.toList_eq]; rfl
  have f5 : (i.s.toList == [115, 112, 114, 105, 110, 116, 102]) = false := by rw [hs, ByteArray.toList_eq]; rfl
  have f6 : (i.s.toList == [114, 97, 110, 100]) = false := by rw [hs, ByteArray.toList_eq]; rfl
  have f7 : (i.s.toList == [116, 111, 108, 111, 119, 101, 114]) = false := by rw [hs, ByteArray.toList_eq]; rfl
  have f8 : (i.s.toList == [116, 111, 117, 112, 112, 101, 114]) = false := by rw [hs, ByteArray.toList_eq]; rfl
  have f9 : (i.s.toList == [105, 110, 116]) = false := by rw [hs, ByteArray.toList_eq]; rfl
  have f10 : (i.s.toList == [99, 108, 111, 115, 101]) = false := by rw [hs, ByteArray.toList_eq]; rfl
  have f11 : (i.s.toList == [115, 121, 115, 116, 101, 109]) = true := by rw [hs, ByteArray.toList_eq]; rfl
  have HR : Hid (builtin0B p i = (decide ((1 : Int) ≤ i.c) && (decide (i.c ≤ 1) && (regB p i.a && (i.c == 0 && i.b == 0 || decide (0 < i.c) && rowB p i.b i.c))))) := by
    unfold Hid builtin0B
    rw [show manyM.find? (fun r => i.s == r.name) = some ⟨⟨#[115, 121, 115, 116, 101, 109]⟩, 1, 1⟩ from by rw [hs]; rfl]
  clear h hs
  cases hr : regB p i.a
  all_goals
    have HRR := Lib.hid hr
    rw [hr] at HR
    clear hr
    go_enter Tryd.func29, Tryd.ntmps29
    go_wp2_with (first | ((with_reducible refine (q_reg C p i.a _).mono ?_); rintro e w2 ⟨rfl, hb2⟩; have HX2 := Lib.hid (HX.out.keep hb2); have HW2 := Lib.hid (Gr.trans HW.out hb2); have hall2 := HX2.out.all; clear hb2; rw [HRR.out]) | ((with_reducible refine (q_row C p i.b i.c _ hrg).mono ?_); rintro e w3 ⟨rfl, hb3⟩; have HX3 := Lib.hid (HX2.out.keep hb3); have HW3 := Lib.hid (Gr.trans HW2.out hb3); have hall3 := HX3.out.all; clear hb3))
    all_goals (go_ret; exact ⟨ret_bool (by rw [HR.out]; generalize rowB p i.b i.c = z; cases z <;> rw [Bool.eq_iff_iff] <;> simp <;> omega), by first | exact HW3.out | exact HW2.out | exact HW.out⟩)
set_option maxRecDepth 20000 in
set_option maxHeartbeats 4000000 in
theorem q_bin {C : CV} {p : PV} {w : World} {B : Nat} (h : PlaceAt w B C p) (i : IV) (hi : IOk i) (hln : i.n ≤ maxLen) (hs : ∀ r ∈ manyM, ¬ i.s = r.name) :
    Calls Tryd.prog 29 #[.agg #[.slice C.A0 C.n0 C.c0, .slice C.A1 C.n1 C.c1, .slice C.A2 C.n2 C.c2, .slice C.A3 C.n3 C.c3, .slice C.A4 C.n4 C.c4, .slice C.A5 C.n5 C.c5, .slice C.A6 C.n6 C.c6, .int .i64 p.regs, .slice p.A p.n p.c, .int .i64 p.loops, .slice p.A' p.n' p.c'], .agg #[.int .u8 i.op, .int .i64 i.a, .int .i64 i.b, .int .i64 i.c, .string i.s, .slice i.A i.n i.cap]] w fun e w' => e = .returned (.bool (builtin0B p i)) ∧ Below w.heap.size w w' := by
  have HX := Lib.hid (BoxI.made i h)
  have HW := Lib.hid (enterI w C p i)
  have hall := True.intro
  have hrg := h.regs
  unfold maxLen at hln
  obtain ⟨b1, b2⟩ := i64_bd hi.b
  obtain ⟨c1, c2⟩ := i64_bd hi.c
  have f0 : (i.s.toList == [108, 101, 110, 103, 116, 104]) = false := list_ne (hs ⟨⟨#[108, 101, 110, 103, 116, 104]⟩, 0, 1⟩ (by simp [manyM]))
  have f1 : (i.s.toList == [115, 114, 97, 110, 100]) = false := list_ne (hs ⟨⟨#[115, 114, 97, 110, 100]⟩, 0, 1⟩ (by simp [manyM]))
  have f2 : (i.s.toList == [115, 117, 98, 115, 116, 114]) = false := list_ne (hs ⟨⟨#[115, 117, 98, 115, 116, 114]⟩, 2, 3⟩ (by simp [manyM]))
  have f3 : (i.s.toList == [105, 110, 100, 101, 120]) = false := list_ne (hs ⟨⟨#[105, 110, 100, 101, 120]⟩, 2, 2⟩ (by simp [manyM]))
  have f4 : (i.s.toList == [109, 97, 116, 99, 104]) = false := list_ne (hs ⟨⟨#[109, 97, 116, 99, 104]⟩, 2, 2⟩ (by simp [manyM]))
  have f5 : (i.s.toList == [115, 112, 114, 105, 110, 116, 102]) = false := list_ne (hs ⟨⟨#[115, 112, 114, 105, 110, 116, 102]⟩, 1, 1073741824⟩ (by simp [manyM]))
  have f6 : (i.s.toList == [114, 97, 110, 100]) = false := list_ne (hs ⟨⟨#[114, 97, 110, 100]⟩, 0, 0⟩ (by simp [manyM]))
  have f7 : (i.s.toList == [116, 111, 108, 111, 119, 101, 114]) = false := list_ne (hs ⟨⟨#[116, 111, 108, 111, 119, 101, 114]⟩, 1, 1⟩ (by simp [manyM]))
  have f8 : (i.s.toList == [116, 111, 117, 112, 112, 101, 114]) = false := list_ne (hs ⟨⟨#[116, 111, 117, 112, 112, 101, 114]⟩, 1, 1⟩ (by simp [manyM]))
  have f9 : (i.s.toList == [105, 110, 116]) = false := list_ne (hs ⟨⟨#[105, 110, 116]⟩, 1, 1⟩ (by simp [manyM]))
  have f10 : (i.s.toList == [99, 108, 111, 115, 101]) = false := list_ne (hs ⟨⟨#[99, 108, 111, 115, 101]⟩, 1, 1⟩ (by simp [manyM]))
  have f11 : (i.s.toList == [115, 121, 115, 116, 101, 109]) = false := list_ne (hs ⟨⟨#[115, 121, 115, 116, 101, 109]⟩, 1, 1⟩ (by simp [manyM]))
  have HR : Hid (builtin0B p i = false) := by
    unfold Hid builtin0B
    rw [show manyM.find? (fun r => i.s == r.name) = none from List.find?_eq_none.2 fun r hr e => hs r hr (ByteArray.ext (eq_of_beq (show (i.s.data == r.name.data) = true from e)))]
  clear h hs
  go_enter Tryd.func29, Tryd.ntmps29
  go_wp2_with fail
  all_goals (go_ret; exact ⟨ret_bool HR.out.symm, HW.out⟩)
theorem q_builtin {C : CV} {p : PV} {w : World} {B : Nat} (h : PlaceAt w B C p) (i : IV) (hi : IOk i) (hln : i.n ≤ maxLen) :
    Calls Tryd.prog 29 #[.agg #[.slice C.A0 C.n0 C.c0, .slice C.A1 C.n1 C.c1, .slice C.A2 C.n2 C.c2, .slice C.A3 C.n3 C.c3, .slice C.A4 C.n4 C.c4, .slice C.A5 C.n5 C.c5, .slice C.A6 C.n6 C.c6, .int .i64 p.regs, .slice p.A p.n p.c, .int .i64 p.loops, .slice p.A' p.n' p.c'], .agg #[.int .u8 i.op, .int .i64 i.a, .int .i64 i.b, .int .i64 i.c, .string i.s, .slice i.A i.n i.cap]] w fun e w' => e = .returned (.bool (builtin0B p i)) ∧ Below w.heap.size w w' := by
  by_cases hs : ∃ r ∈ manyM, i.s = r.name
  · obtain ⟨r, hr, e⟩ := hs
    simp only [manyM, List.mem_cons, List.not_mem_nil, or_false] at hr
    rcases hr with rfl | rfl | rfl | rfl | rfl | rfl | rfl | rfl | rfl | rfl | rfl | rfl
    · exact q_bi0 h i hi hln e
    · exact q_bi1 h i hi hln e
    · exact q_bi2 h i hi hln e
    · exact q_bi3 h i hi hln e
    · exact q_bi4 h i hi hln e
    · exact q_bi5 h i hi hln e
    · exact q_bi6 h i hi hln e
    · exact q_bi7 h i hi hln e
    · exact q_bi8 h i hi hln e
    · exact q_bi9 h i hi hln e
    · exact q_bi10 h i hi hln e
    · exact q_bi11 h i hi hln e
  · exact q_bin h i hi hln (fun r hr e => hs ⟨r, hr, e⟩)
end Go.Proofs.YtankpckkiikmaaaDoor
