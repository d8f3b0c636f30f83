/- Code: the document's plain instructions (CodR5). -/
import Derived.Test.YtankpckkiikmaaaDoorG7
set_option linter.unusedVariables false
set_option linter.unusedSimpArgs false
namespace Go.Proofs.YtankpckkiikmaaaDoor
open Go.RowKit Cod
set_option maxRecDepth 20000 in
set_option maxHeartbeats 4000000 in
theorem q_plain_1 {C : CV} {p : PV} {w : World} {B : Nat} (h : PlaceAt w B C p) (i : IV) (hi : IOk i) (ho : i.op = 1) :
    Calls Tryd.prog 35 #[.agg #[.slice C.A0 C.n0 C.c0, .slice C.A1 C.n1 C.c1, .slice C.A2 C.n2 C.c2, .slice C.A3 C.n3 C.c3, .slice C.A4 C.n4 C.c4, .slice C.A5 C.n5 C.c5, .slice C.A6 C.n6 C.c6, .int .i64 p.regs, .slice p.A p.n p.c, .int .i64 p.loops, .slice p.A' p.n' p.c'], .agg #[.int .u8 i.op, .int .i64 i.a, .int .i64 i.b, .int .i64 i.c, .string i.s, .slice i.A i.n i.cap]] w fun e w' => e = .returned (.bool (abcB C p [114, 107, 48] i)) ∧ Below w.heap.size w w' := by
  have HX := Lib.hid (BoxI.made i h)
  have HW := Lib.hid (enterI w C p i)
  have hall := True.intro
  have hn0 := h.n0
  have hn' := h.n'
  unfold maxLen at hn0 hn'
  obtain ⟨a1, a2⟩ := i64_bd hi.a
  obtain ⟨b1, b2⟩ := i64_bd hi.b
  obtain ⟨c1, c2⟩ := i64_bd hi.c
  have HR : Hid (abcB C p [114, 107, 48] i = (regB p i.a && (inB i.b C.n0 && (i.c == 0)))) := rfl
  clear h
  have o1 : (i.op == 1) = true := by rw [ho]; rfl
  have o2 : (i.op == 2) = false := by rw [ho]; rfl
  have o20 : (i.op == 20) = false := by rw [ho]; rfl
  have o21 : (i.op == 21) = false := by rw [ho]; rfl
  have o7 : (i.op == 7) = false := by rw [ho]; rfl
  have o8 : (i.op == 8) = false := by rw [ho]; rfl
  have o3 : (i.op == 3) = false := by rw [ho]; rfl
  have o4 : (i.op == 4) = false := by rw [ho]; rfl
  have o10 : (i.op == 10) = false := by rw [ho]; rfl
  have o11 : (i.op == 11) = false := by rw [ho]; rfl
  have o12 : (i.op == 12) = false := by rw [ho]; rfl
  have o13 : (i.op == 13) = false := by rw [ho]; rfl
  have o14 : (i.op == 14) = false := by rw [ho]; rfl
  have o15 : (i.op == 15) = false := by rw [ho]; rfl
  have o31 : (i.op == 31) = false := by rw [ho]; rfl
  have o9 : (i.op == 9) = false := by rw [ho]; rfl
  have o18 : (i.op == 18) = false := by rw [ho]; rfl
  have o19 : (i.op == 19) = false := by rw [ho]; rfl
  have o22 : (i.op == 22) = false := by rw [ho]; rfl
  have o23 : (i.op == 23) = false := by rw [ho]; rfl
  have o24 : (i.op == 24) = false := by rw [ho]; rfl
  have o32 : (i.op == 32) = false := by rw [ho]; rfl
  have o33 : (i.op == 33) = false := by rw [ho]; rfl
  have o35 : (i.op == 35) = false := by rw [ho]; rfl
  have o34 : (i.op == 34) = false := by rw [ho]; rfl
  have o36 : (i.op == 36) = false := by rw [ho]; rfl
  clear ho
  cases hzc : (i.c == 0)
  all_goals have hyc : decide (i.c = 0) = _ := hzc
  all_goals (go_enter Tryd.func35, Tryd.ntmps35; go_wp2_with (first | ((with_reducible refine (q_reg C p i.a _).mono ?_); rintro e w2 ⟨rfl, hb2⟩; have HX2 := Lib.hid (HX.out.keep hb2); have HW2 := Lib.hid (Gr.trans HW.out hb2); have hall2 := HX2.out.all; clear hb2)))
  all_goals (go_ret; exact ⟨ret_bool (by rw [HR.out]; simp [inB, *] <;> omega), by first | exact HW2.out | exact HW.out⟩)
set_option maxRecDepth 20000 in
set_option maxHeartbeats 4000000 in
theorem q_plain_2 {C : CV} {p : PV} {w : World} {B : Nat} (h : PlaceAt w B C p) (i : IV) (hi : IOk i) (ho : i.op = 2) :
    Calls Tryd.prog 35 #[.agg #[.slice C.A0 C.n0 C.c0, .slice C.A1 C.n1 C.c1, .slice C.A2 C.n2 C.c2, .slice C.A3 C.n3 C.c3, .slice C.A4 C.n4 C.c4, .slice C.A5 C.n5 C.c5, .slice C.A6 C.n6 C.c6, .int .i64 p.regs, .slice p.A p.n p.c, .int .i64 p.loops, .slice p.A' p.n' p.c'], .agg #[.int .u8 i.op, .int .i64 i.a, .int .i64 i.b, .int .i64 i.c, .string i.s, .slice i.A i.n i.cap]] w fun e w' => e = .returned (.bool (abcB C p [114, 114, 48] i)) ∧ Below w.heap.size w w' := by
  have HX := Lib.hid (BoxI.made i h)
  have HW := Lib.hid (enterI w C p i)
  have hall := True.intro
  have hn0 := h.n0
  have hn' := h.n'
  unfold maxLen at hn0 hn'
  obtain ⟨a1, a2⟩ := i64_bd hi.a
  obtain ⟨b1, b2⟩ := i64_bd hi.b
  obtain ⟨c1, c2⟩ := i64_bd hi.c
  have HR : Hid (abcB C p [114, 114, 48] i = (regB p i.a && (regB p i.b && (i.c == 0)))) := rfl
  clear h
  have o1 : (i.op == 1) = false := by rw [ho]; rfl
  have o2 : (i.op == 2) = true := by rw [ho]; rfl
  have o20 : (i.op == 20) = false := by rw [ho]; rfl
  have o21 : (i.op == 21) = false := by rw [ho]; rfl
  have o7 : (i.op == 7) = false := by rw [ho]; rfl
  have o8 : (i.op == 8) = false := by rw [ho]; rfl
  have o3 : (i.op == 3) = false := by rw [ho]; rfl
  have o4 : (i.op == 4) = false := by rw [ho]; rfl
  have o10 : (i.op == 10) = false := by rw [ho]; rfl
  have o11 : (i.op == 11) = false := by rw [ho]; rfl
  have o12 : (i.op == 12) = false := by rw [ho]; rfl
  have o13 : (i.op == 13) = false := by rw [ho]; rfl
  have o14 : (i.op == 14) = false := by rw [ho]; rfl
  have o15 : (i.op == 15) = false := by rw [ho]; rfl
  have o31 : (i.op == 31) = false := by rw [ho]; rfl
  have o9 : (i.op == 9) = false := by rw [ho]; rfl
  have o18 : (i.op == 18) = false := by rw [ho]; rfl
  have o19 : (i.op == 19) = false := by rw [ho]; rfl
  have o22 : (i.op == 22) = false := by rw [ho]; rfl
  have o23 : (i.op == 23) = false := by rw [ho]; rfl
  have o24 : (i.op == 24) = false := by rw [ho]; rfl
  have o32 : (i.op == 32) = false := by rw [ho]; rfl
  have o33 : (i.op == 33) = false := by rw [ho]; rfl
  have o35 : (i.op == 35) = false := by rw [ho]; rfl
  have o34 : (i.op == 34) = false := by rw [ho]; rfl
  have o36 : (i.op == 36) = false := by rw [ho]; rfl
  clear ho
  cases hzc : (i.c == 0)
  all_goals have hyc : decide (i.c = 0) = _ := hzc
  all_goals (go_enter Tryd.func35, Tryd.ntmps35; go_wp2_with (first | ((with_reducible refine (q_reg C p i.a _).mono ?_); rintro e w2 ⟨rfl, hb2⟩; have HX2 := Lib.hid (HX.out.keep hb2); have HW2 := Lib.hid (Gr.trans HW.out hb2); have hall2 := HX2.out.all; clear hb2) | ((with_reducible refine (q_reg C p i.b _).mono ?_); rintro e w3 ⟨rfl, hb3⟩; have HX3 := Lib.hid (HX2.out.keep hb3); have HW3 := Lib.hid (Gr.trans HW2.out hb3); have hall3 := HX3.out.all; clear hb3)))
  all_goals (go_ret; exact ⟨ret_bool (by rw [HR.out]; simp [inB, *] <;> omega), by first | exact HW3.out | exact HW2.out | exact HW.out⟩)
set_option maxRecDepth 20000 in
set_option maxHeartbeats 4000000 in
theorem q_plain_20 {C : CV} {p : PV} {w : World} {B : Nat} (h : PlaceAt w B C p) (i : IV) (hi : IOk i) (ho : i.op = 20) :
    Calls Tryd.prog 35 #[.agg #[.slice C.A0 C.n0 C.c0, .slice C.A1 C.n1 C.c1, .slice C.A2 C.n2 C.c2, .slice C.A3 C.n3 C.c3, .slice C.A4 C.n4 C.c4, .slice C.A5 C.n5 C.c5, .slice C.A6 C.n6 C.c6, .int .i64 p.regs, .slice p.A p.n p.c, .int .i64 p.loops, .slice p.A' p.n' p.c'], .agg #[.int .u8 i.op, .int .i64 i.a, .int .i64 i.b, .int .i64 i.c, .string i.s, .slice i.A i.n i.cap]] w fun e w' => e = .returned (.bool (abcB C p [114, 114, 48] i)) ∧ Below w.heap.size w w' := by
  have HX := Lib.hid (BoxI.made i h)
  have HW := Lib.hid (enterI w C p i)
  have hall := True.intro
  have hn0 := h.n0
  have hn' := h.n'
  unfold maxLen at hn0 hn'
  obtain ⟨a1, a2⟩ := i64_bd hi.a
  obtain ⟨b1, b2⟩ := i64_bd hi.b
  obtain ⟨c1, c2⟩ := i64_bd hi.c
  have HR : Hid (abcB C p [114, 114, 48] i = (regB p i.a && (regB p i.b && (i.c == 0)))) := rfl
  clear h
  have o1 : (i.op == 1) = false := by rw [ho]; rfl
  have o2 : (i.op == 2) = false := by rw [ho]; rfl
  have o20 : (i.op == 20) = true := by rw [ho]; rfl
  have o21 : (i.op == 21) = false := by rw [ho]; rfl
  have o7 : (i.op == 7) = false := by rw [ho]; rfl
  have o8 : (i.op == 8) = false := by rw [ho]; rfl
  have o3 : (i.op == 3) = false := by rw [ho]; rfl
  have o4 : (i.op == 4) = false := by rw [ho]; rfl
  have o10 : (i.op == 10) = false := by rw [ho]; rfl
  have o11 : (i.op == 11) = false := by rw [ho]; rfl
  have o12 : (i.op == 12) = false := by rw [ho]; rfl
  have o13 : (i.op == 13) = false := by rw [ho]; rfl
  have o14 : (i.op == 14) = false := by rw [ho]; rfl
  have o15 : (i.op == 15) = false := by rw [ho]; rfl
  have o31 : (i.op == 31) = false := by rw [ho]; rfl
  have o9 : (i.op == 9) = false := by rw [ho]; rfl
  have o18 : (i.op == 18) = false := by rw [ho]; rfl
  have o19 : (i.op == 19) = false := by rw [ho]; rfl
  have o22 : (i.op == 22) = false := by rw [ho]; rfl
  have o23 : (i.op == 23) = false := by rw [ho]; rfl
  have o24 : (i.op == 24) = false := by rw [ho]; rfl
  have o32 : (i.op == 32) = false := by rw [ho]; rfl
  have o33 : (i.op == 33) = false := by rw [ho]; rfl
  have o35 : (i.op == 35) = false := by rw [ho]; rfl
  have o34 : (i.op == 34) = false := by rw [ho]; rfl
  have o36 : (i.op == 36) = false := by rw [ho]; rfl
  clear ho
  cases hzc : (i.c == 0)
  all_goals have hyc : decide (i.c = 0) = _ := hzc
  all_goals (go_enter Tryd.func35, Tryd.ntmps35; go_wp2_with (first | ((with_reducible refine (q_reg C p i.a _).mono ?_); rintro e w2 ⟨rfl, hb2⟩; have HX2 := Lib.hid (HX.out.keep hb2); have HW2 := Lib.hid (Gr.trans HW.out hb2); have hall2 := HX2.out.all; clear hb2) | ((with_reducible refine (q_reg C p i.b _).mono ?_); rintro e w3 ⟨rfl, hb3⟩; have HX3 := Lib.hid (HX2.out.keep hb3); have HW3 := Lib.hid (Gr.trans HW2.out hb3); have hall3 := HX3.out.all; clear hb3)))
  all_goals (go_ret; exact ⟨ret_bool (by rw [HR.out]; simp [inB, *] <;> omega), by first | exact HW3.out | exact HW2.out | exact HW.out⟩)
set_option maxRecDepth 20000 in
set_option maxHeartbeats 4000000 in
theorem q_plain_21 {C : CV} {p : PV} {w : World} {B : Nat} (h : PlaceAt w B C p) (i : IV) (hi : IOk i) (ho : i.op = 21) :
    Calls Tryd.prog 35 #[.agg #[.slice C.A0 C.n0 C.c0, .slice C.A1 C.n1 C.c1, .slice C.A2 C.n2 C.c2, .slice C.A3 C.n3 C.c3, .slice C.A4 C.n4 C.c4, .slice C.A5 C.n5 C.c5, .slice C.A6 C.n6 C.c6, .int .i64 p.regs, .slice p.A p.n p.c, .int .i64 p.loops, .slice p.A' p.n' p.c'], .agg #[.int .u8 i.op, .int .i64 i.a, .int .i64 i.b, .int .i64 i.c, .string i.s, .slice i.A i.n i.cap]] w fun e w' => e = .returned (.bool (abcB C p [114, 114, 48] i)) ∧ Below w.heap.size w w' := by
  have HX := Lib.hid (BoxI.made i h)
  have HW := Lib.hid (enterI w C p i)
  have hall := True.intro
  have hn0 := h.n0
  have hn' := h.n'
  unfold maxLen at hn0 hn'
  obtain ⟨a1, a2⟩ := i64_bd hi.a
  obtain ⟨b1, b2⟩ := i64_bd hi.b
  obtain ⟨c1, c2⟩ := i64_bd hi.c
  have HR : Hid (abcB C p [114, 114, 48] i = (regB p i.a && (regB p i.b && (i.c == 0)))) := rfl
  clear h
  have o1 : (i.op == 1) = false := by rw [ho]; rfl
  have o2 : (i.op == 2) = false := by rw [ho]; rfl
  have o20 : (i.op == 20) = false := by rw [ho]; rfl
  have o21 : (i.op == 21) = true := by rw [ho]; rfl
  have o7 : (i.op == 7) = false := by rw [ho]; rfl
  have o8 : (i.op == 8) = false := by rw [ho]; rfl
  have o3 : (i.op == 3) = false := by rw [ho]; rfl
  have o4 : (i.op == 4) = false := by rw [ho]; rfl
  have o10 : (i.op == 10) = false := by rw [ho]; rfl
  have o11 : (i.op == 11) = false := by rw [ho]; rfl
  have o12 : (i.op == 12) = false := by rw [ho]; rfl
  have o13 : (i.op == 13) = false := by rw [ho]; rfl
  have o14 : (i.op == 14) = false := by rw [ho]; rfl
  have o15 : (i.op == 15) = false := by rw [ho]; rfl
  have o31 : (i.op == 31) = false := by rw [ho]; rfl
  have o9 : (i.op == 9) = false := by rw [ho]; rfl
  have o18 : (i.op == 18) = false := by rw [ho]; rfl
  have o19 : (i.op == 19) = false := by rw [ho]; rfl
  have o22 : (i.op == 22) = false := by rw [ho]; rfl
  have o23 : (i.op == 23) = false := by rw [ho]; rfl
  have o24 : (i.op == 24) = false := by rw [ho]; rfl
  have o32 : (i.op == 32) = false := by rw [ho]; rfl
  have o33 : (i.op == 33) = false := by rw [ho]; rfl
  have o35 : (i.op == 35) = false := by rw [ho]; rfl
  have o34 : (i.op == 34) = false := by rw [ho]; rfl
  have o36 : (i.op == 36) = false := by rw [ho]; rfl
  clear ho
  cases hzc : (i.c == 0)
  all_goals have hyc : decide (i.c = 0) = _ := hzc
  all_goals (go_enter Tryd.func35, Tryd.ntmps35; go_wp2_with (first | ((with_reducible refine (q_reg C p i.a _).mono ?_); rintro e w2 ⟨rfl, hb2⟩; have HX2 := Lib.hid (HX.out.keep hb2); have HW2 := Lib.hid (Gr.trans HW.out hb2); have hall2 := HX2.out.all; clear hb2) | ((with_reducible refine (q_reg C p i.b _).mono ?_); rintro e w3 ⟨rfl, hb3⟩; have HX3 := Lib.hid (HX2.out.keep hb3); have HW3 := Lib.hid (Gr.trans HW2.out hb3); have hall3 := HX3.out.all; clear hb3)))
  all_goals (go_ret; exact ⟨ret_bool (by rw [HR.out]; simp [inB, *] <;> omega), by first | exact HW3.out | exact HW2.out | exact HW.out⟩)
set_option maxRecDepth 20000 in
set_option maxHeartbeats 4000000 in
theorem q_plain_7 {C : CV} {p : PV} {w : World} {B : Nat} (h : PlaceAt w B C p) (i : IV) (hi : IOk i) (ho : i.op = 7) :
    Calls Tryd.prog 35 #[.agg #[.slice C.A0 C.n0 C.c0, .slice C.A1 C.n1 C.c1, .slice C.A2 C.n2 C.c2, .slice C.A3 C.n3 C.c3, .slice C.A4 C.n4 C.c4, .slice C.A5 C.n5 C.c5, .slice C.A6 C.n6 C.c6, .int .i64 p.regs, .slice p.A p.n p.c, .int .i64 p.loops, .slice p.A' p.n' p.c'], .agg #[.int .u8 i.op, .int .i64 i.a, .int .i64 i.b, .int .i64 i.c, .string i.s, .slice i.A i.n i.cap]] w fun e w' => e = .returned (.bool (abcB C p [114, 114, 48] i)) ∧ Below w.heap.size w w' := by
  have HX := Lib.hid (BoxI.made i h)
  have HW := Lib.hid (enterI w C p i)
  have hall := True.intro
  have hn0 := h.n0
  have hn' := h.n'
  unfold maxLen at hn0 hn'
  obtain ⟨a1, a2⟩ := i64_bd hi.a
  obtain ⟨b1, b2⟩ := i64_bd hi.b
  obtain ⟨c1, c2⟩ := i64_bd hi.c
  have HR : Hid (abcB C p [114, 114, 48] i = (regB p i.a && (regB p i.b && (i.c == 0)))) := rfl
  clear h
  have o1 : (i.op == 1) = false := by rw [ho]; rfl
  have o2 : (i.op == 2) = false := by rw [ho]; rfl
  have o20 : (i.op == 20) = false := by rw [ho]; rfl
  have o21 : (i.op == 21) = false := by rw [ho]; rfl
  have o7 : (i.op == 7) = true := by rw [ho]; rfl
  have o8 : (i.op == 8) = false := by rw [ho]; rfl
  have o3 : (i.op == 3) = false := by rw [ho]; rfl
  have o4 : (i.op == 4) = false := by rw [ho]; rfl
  have o10 : (i.op == 10) = false := by rw [ho]; rfl
  have o11 : (i.op == 11) = false := by rw [ho]; rfl
  have o12 : (i.op == 12) = false := by rw [ho]; rfl
  have o13 : (i.op == 13) = false := by rw [ho]; rfl
  have o14 : (i.op == 14) = false := by rw [ho]; rfl
  have o15 : (i.op == 15) = false := by rw [ho]; rfl
  have o31 : (i.op == 31) = false := by rw [ho]; rfl
  have o9 : (i.op == 9) = false := by rw [ho]; rfl
  have o18 : (i.op == 18) = false := by rw [ho]; rfl
  have o19 : (i.op == 19) = false := by rw [ho]; rfl
  have o22 : (i.op == 22) = false := by rw [ho]; rfl
  have o23 : (i.op == 23) = false := by rw [ho]; rfl
  have o24 : (i.op == 24) = false := by rw [ho]; rfl
  have o32 : (i.op == 32) = false := by rw [ho]; rfl
  have o33 : (i.op == 33) = false := by rw [ho]; rfl
  have o35 : (i.op == 35) = false := by rw [ho]; rfl
  have o34 : (i.op == 34) = false := by rw [ho]; rfl
  have o36 : (i.op == 36) = false := by rw [ho]; rfl
  clear ho
  cases hzc : (i.c == 0)
  all_goals have hyc : decide (i.c = 0) = _ := hzc
  all_goals (go_enter Tryd.func35, Tryd.ntmps35; go_wp2_with (first | ((with_reducible refine (q_reg C p i.a _).mono ?_); rintro e w2 ⟨rfl, hb2⟩; have HX2 := Lib.hid (HX.out.keep hb2); have HW2 := Lib.hid (Gr.trans HW.out hb2); have hall2 := HX2.out.all; clear hb2) | ((with_reducible refine (q_reg C p i.b _).mono ?_); rintro e w3 ⟨rfl, hb3⟩; have HX3 := Lib.hid (HX2.out.keep hb3); have HW3 := Lib.hid (Gr.trans HW2.out hb3); have hall3 := HX3.out.all; clear hb3)))
  all_goals (go_ret; exact ⟨ret_bool (by rw [HR.out]; simp [inB, *] <;> omega), by first | exact HW3.out | exact HW2.out | exact HW.out⟩)
set_option maxRecDepth 20000 in
set_option maxHeartbeats 4000000 in
theorem q_plain_8 {C : CV} {p : PV} {w : World} {B : Nat} (h : PlaceAt w B C p) (i : IV) (hi : IOk i) (ho : i.op = 8) :
    Calls Tryd.prog 35 #[.agg #[.slice C.A0 C.n0 C.c0, .slice C.A1 C.n1 C.c1, .slice C.A2 C.n2 C.c2, .slice C.A3 C.n3 C.c3, .slice C.A4 C.n4 C.c4, .slice C.A5 C.n5 C.c5, .slice C.A6 C.n6 C.c6, .int .i64 p.regs, .slice p.A p.n p.c, .int .i64 p.loops, .slice p.A' p.n' p.c'], .agg #[.int .u8 i.op, .int .i64 i.a, .int .i64 i.b, .int .i64 i.c, .string i.s, .slice i.A i.n i.cap]] w fun e w' => e = .returned (.bool (abcB C p [114, 114, 48] i)) ∧ Below w.heap.size w w' := by
  have HX := Lib.hid (BoxI.made i h)
  have HW := Lib.hid (enterI w C p i)
  have hall := True.intro
  have hn0 := h.n0
  have hn' := h.n'
  unfold maxLen at hn0 hn'
  obtain ⟨a1, a2⟩ := i64_bd hi.a
  obtain ⟨b1, b2⟩ := i64_bd hi.b
  obtain ⟨c1, c2⟩ := i64_bd hi.c
  have HR : Hid (abcB C p [114, 114, 48] i = (regB p i.a && (regB p i.b && (i.c == 0)))) := rfl
  clear h
  have o1 : (i.op == 1) = false := by rw [ho]; rfl
  have o2 : (i.op == 2) = false := by rw [ho]; rfl
  have o20 : (i.op == 20) = false := by rw [ho]; rfl
  have o21 : (i.op == 21) = false := by rw [ho]; rfl
  have o7 : (i.op == 7) = false := by rw [ho]; rfl
  have o8 : (i.op == 8) = true := by rw [ho]; rfl
  have o3 : (i.op == 3) = false := by rw [ho]; rfl
  have o4 : (i.op == 4) = false := by rw [ho]; rfl
  have o10 : (i.op == 10) = false := by rw [ho]; rfl
  have o11 : (i.op == 11) = false := by rw [ho]; rfl
  have o12 : (i.op == 12) = false := by rw [ho]; rfl
  have o13 : (i.op == 13) = false := by rw [ho]; rfl
  have o14 : (i.op == 14) = false := by rw [ho]; rfl
  have o15 : (i.op == 15) = false := by rw [ho]; rfl
  have o31 : (i.op == 31) = false := by rw [ho]; rfl
  have o9 : (i.op == 9) = false := by rw [ho]; rfl
  have o18 : (i.op == 18) = false := by rw [ho]; rfl
  have o19 : (i.op == 19) = false := by rw [ho]; rfl
  have o22 : (i.op == 22) = false := by rw [ho]; rfl
  have o23 : (i.op == 23) = false := by rw [ho]; rfl
  have o24 : (i.op == 24) = false := by rw [ho]; rfl
  have o32 : (i.op == 32) = false := by rw [ho]; rfl
  have o33 : (i.op == 33) = false := by rw [ho]; rfl
  have o35 : (i.op == 35) = false := by rw [ho]; rfl
  have o34 : (i.op == 34) = false := by rw [ho]; rfl
  have o36 : (i.op == 36) = false := by rw [ho]; rfl
  clear ho
  cases hzc : (i.c == 0)
  all_goals have hyc : decide (i.c = 0) = _ := hzc
  all_goals (go_enter Tryd.func35, Tryd.ntmps35; go_wp2_with (first | ((with_reducible refine (q_reg C p i.a _).mono ?_); rintro e w2 ⟨rfl, hb2⟩; have HX2 := Lib.hid (HX.out.keep hb2); have HW2 := Lib.hid (Gr.trans HW.out hb2); have hall2 := HX2.out.all; clear hb2) | ((with_reducible refine (q_reg C p i.b _).mono ?_); rintro e w3 ⟨rfl, hb3⟩; have HX3 := Lib.hid (HX2.out.keep hb3); have HW3 := Lib.hid (Gr.trans HW2.out hb3); have hall3 := HX3.out.all; clear hb3)))
  all_goals (go_ret; exact ⟨ret_bool (by rw [HR.out]; simp [inB, *] <;> omega), by first | exact HW3.out | exact HW2.out | exact HW.out⟩)
set_option maxRecDepth 20000 in
set_option maxHeartbeats 4000000 in
theorem q_plain_3 {C : CV} {p : PV} {w : World} {B : Nat} (h : PlaceAt w B C p) (i : IV) (hi : IOk i) (ho : i.op = 3) :
    Calls Tryd.prog 35 #[.agg #[.slice C.A0 C.n0 C.c0, .slice C.A1 C.n1 C.c1, .slice C.A2 C.n2 C.c2, .slice C.A3 C.n3 C.c3, .slice C.A4 C.n4 C.c4, .slice C.A5 C.n5 C.c5, .slice C.A6 C.n6 C.c6, .int .i64 p.regs, .slice p.A p.n p.c, .int .i64 p.loops, .slice p.A' p.n' p.c'], .agg #[.int .u8 i.op, .int .i64 i.a, .int .i64 i.b, .int .i64 i.c, .string i.s, .slice i.A i.n i.cap]] w fun e w' => e = .returned (.bool (abcB C p [114, 103, 48] i)) ∧ Below w.heap.size w w' := by
  have HX := Lib.hid (BoxI.made i h)
  have HW := Lib.hid (enterI w C p i)
  have hall := True.intro
  have hn0 := h.n0
  have hn' := h.n'
  unfold maxLen at hn0 hn'
  obtain ⟨a1, a2⟩ := i64_bd hi.a
  obtain ⟨b1, b2⟩ := i64_bd hi.b
  obtain ⟨c1, c2⟩ := i64_bd hi.c
  have HR : Hid (abcB C p [114, 103, 48] i = (regB p i.a && (globB C i.b && (i.c == 0)))) := rfl
  clear h
  have o1 : (i.op == 1) = false := by rw [ho]; rfl
  have o2 : (i.op == 2) = false := by rw [ho]; rfl
  have o20 : (i.op == 20) = false := by rw [ho]; rfl
  have o21 : (i.op == 21) = false := by rw [ho]; rfl
  have o7 : (i.op == 7) = false := by rw [ho]; rfl
  have o8 : (i.op == 8) = false := by rw [ho]; rfl
  have o3 : (i.op == 3) = true := by rw [ho]; rfl
  have o4 : (i.op == 4) = false := by rw [ho]; rfl
  have o10 : (i.op == 10) = false := by rw [ho]; rfl
  have o11 : (i.op == 11) = false := by rw [ho]; rfl
  have o12 : (i.op == 12) = false := by rw [ho]; rfl
  have o13 : (i.op == 13) = false := by rw [ho]; rfl
  have o14 : (i.op == 14) = false := by rw [ho]; rfl
  have o15 : (i.op == 15) = false := by rw [ho]; rfl
  have o31 : (i.op == 31) = false := by rw [ho]; rfl
  have o9 : (i.op == 9) = false := by rw [ho]; rfl
  have o18 : (i.op == 18) = false := by rw [ho]; rfl
  have o19 : (i.op == 19) = false := by rw [ho]; rfl
  have o22 : (i.op == 22) = false := by rw [ho]; rfl
  have o23 : (i.op == 23) = false := by rw [ho]; rfl
  have o24 : (i.op == 24) = false := by rw [ho]; rfl
  have o32 : (i.op == 32) = false := by rw [ho]; rfl
  have o33 : (i.op == 33) = false := by rw [ho]; rfl
  have o35 : (i.op == 35) = false := by rw [ho]; rfl
  have o34 : (i.op == 34) = false := by rw [ho]; rfl
  have o36 : (i.op == 36) = false := by rw [ho]; rfl
  clear ho
  cases hzc : (i.c == 0)
  all_goals have hyc : decide (i.c = 0) = _ := hzc
  all_goals (go_enter Tryd.func35, Tryd.ntmps35; go_wp2_with (first | ((with_reducible refine (q_reg C p i.a _).mono ?_); rintro e w2 ⟨rfl, hb2⟩; have HX2 := Lib.hid (HX.out.keep hb2); have HW2 := Lib.hid (Gr.trans HW.out hb2); have hall2 := HX2.out.all; clear hb2) | ((with_reducible refine (q_global HX2.out.at_ i.b).mono ?_); rintro e w3 ⟨rfl, hb3⟩; have HX3 := Lib.hid (HX2.out.keep hb3); have HW3 := Lib.hid (Gr.trans HW2.out hb3); have hall3 := HX3.out.all; clear hb3)))
  all_goals (go_ret; exact ⟨ret_bool (by rw [HR.out]; simp [inB, *] <;> omega), by first | exact HW3.out | exact HW2.out | exact HW.out⟩)
set_option maxRecDepth 20000 in
set_option maxHeartbeats 4000000 in
theorem q_plain_4 {C : CV} {p : PV} {w : World} {B : Nat} (h : PlaceAt w B C p) (i : IV) (hi : IOk i) (ho : i.op = 4) :
    Calls Tryd.prog 35 #[.agg #[.slice C.A0 C.n0 C.c0, .slice C.A1 C.n1 C.c1, .slice C.A2 C.n2 C.c2, .slice C.A3 C.n3 C.c3, .slice C.A4 C.n4 C.c4, .slice C.A5 C.n5 C.c5, .slice C.A6 C.n6 C.c6, .int .i64 p.regs, .slice p.A p.n p.c, .int .i64 p.loops, .slice p.A' p.n' p.c'], .agg #[.int .u8 i.op, .int .i64 i.a, .int .i64 i.b, .int .i64 i.c, .string i.s, .slice i.A i.n i.cap]] w fun e w' => e = .returned (.bool (abcB C p [114, 103, 48] i)) ∧ Below w.heap.size w w' := by
  have HX := Lib.hid (BoxI.made i h)
  have HW := Lib.hid (enterI w C p i)
  have hall := True.intro
  have hn0 := h.n0
  have hn' := h.n'
  unfold maxLen at hn0 hn'
  obtain ⟨a1, a2⟩ := i64_bd hi.a
  obtain ⟨b1, b2⟩ := i64_bd hi.b
  obtain ⟨c1, c2⟩ := i64_bd hi.c
  have HR : Hid (abcB C p [114, 103, 48] i = (regB p i.a && (globB C i.b && (i.c == 0)))) := rfl
  clear h
  have o1 : (i.op == 1) = false := by rw [ho]; rfl
  have o2 : (i.op == 2) = false := by rw [ho]; rfl
  have o20 : (i.op == 20) = false := by rw [ho]; rfl
  have o21 : (i.op == 21) = false := by rw [ho]; rfl
  have o7 : (i.op == 7) = false := by rw [ho]; rfl
  have o8 : (i.op == 8) = false := by rw [ho]; rfl
  have o3 : (i.op == 3) = false := by rw [ho]; rfl
  have o4 : (i.op == 4) = true := by rw [ho]; rfl
  have o10 : (i.op == 10) = false := by rw [ho]; rfl
  have o11 : (i.op == 11) = false := by rw [ho]; rfl
  have o12 : (i.op == 12) = false := by rw [ho]; rfl
  have o13 : (i.op == 13) = false := by rw [ho]; rfl
  have o14 : (i.op == 14) = false := by rw [ho]; rfl
  have o15 : (i.op == 15) = false := by rw [ho]; rfl
  have o31 : (i.op == 31) = false := by rw [ho]; rfl
  have o9 : (i.op == 9) = false := by rw [ho]; rfl
  have o18 : (i.op == 18) = false := by rw [ho]; rfl
  have o19 : (i.op == 19) = false := by rw [ho]; rfl
  have o22 : (i.op == 22) = false := by rw [ho]; rfl
  have o23 : (i.op == 23) = false := by rw [ho]; rfl
  have o24 : (i.op == 24) = false := by rw [ho]; rfl
  have o32 : (i.op == 32) = false := by rw [ho]; rfl
  have o33 : (i.op == 33) = false := by rw [ho]; rfl
  have o35 : (i.op == 35) = false := by rw [ho]; rfl
  have o34 : (i.op == 34) = false := by rw [ho]; rfl
  have o36 : (i.op == 36) = false := by rw [ho]; rfl
  clear ho
  cases hzc : (i.c == 0)
  all_goals have hyc : decide (i.c = 0) = _ := hzc
  all_goals (go_enter Tryd.func35, Tryd.ntmps35; go_wp2_with (first | ((with_reducible refine (q_reg C p i.a _).mono ?_); rintro e w2 ⟨rfl, hb2⟩; have HX2 := Lib.hid (HX.out.keep hb2); have HW2 := Lib.hid (Gr.trans HW.out hb2); have hall2 := HX2.out.all; clear hb2) | ((with_reducible refine (q_global HX2.out.at_ i.b).mono ?_); rintro e w3 ⟨rfl, hb3⟩; have HX3 := Lib.hid (HX2.out.keep hb3); have HW3 := Lib.hid (Gr.trans HW2.out hb3); have hall3 := HX3.out.all; clear hb3)))
  all_goals (go_ret; exact ⟨ret_bool (by rw [HR.out]; simp [inB, *] <;> omega), by first | exact HW3.out | exact HW2.out | exact HW.out⟩)
set_option maxRecDepth 20000 in
set_option maxHeartbeats 4000000 in
theorem q_plain_18 {C : CV} {p : PV} {w : World} {B : Nat} (h : PlaceAt w B C p) (i : IV) (hi : IOk i) (ho : i.op = 18) :
    Calls Tryd.prog 35 #[.agg #[.slice C.A0 C.n0 C.c0, .slice C.A1 C.n1 C.c1, .slice C.A2 C.n2 C.c2, .slice C.A3 C.n3 C.c3, .slice C.A4 C.n4 C.c4, .slice C.A5 C.n5 C.c5, .slice C.A6 C.n6 C.c6, .int .i64 p.regs, .slice p.A p.n p.c, .int .i64 p.loops, .slice p.A' p.n' p.c'], .agg #[.int .u8 i.op, .int .i64 i.a, .int .i64 i.b, .int .i64 i.c, .string i.s, .slice i.A i.n i.cap]] w fun e w' => e = .returned (.bool (abcB C p [114, 114, 114] i)) ∧ Below w.heap.size w w' := by
  have HX := Lib.hid (BoxI.made i h)
  have HW := Lib.hid (enterI w C p i)
  have hall := True.intro
  have hn0 := h.n0
  have hn' := h.n'
  unfold maxLen at hn0 hn'
  obtain ⟨a1, a2⟩ := i64_bd hi.a
  obtain ⟨b1, b2⟩ := i64_bd hi.b
  obtain ⟨c1, c2⟩ := i64_bd hi.c
  have HR : Hid (abcB C p [114, 114, 114] i = (regB p i.a && (regB p i.b && (regB p i.c)))) := rfl
  clear h
  have o1 : (i.op == 1) = false := by rw [ho]; rfl
  have o2 : (i.op == 2) = false := by rw [ho]; rfl
  have o20 : (i.op == 20) = false := by rw [ho]; rfl
  have o21 : (i.op == 21) = false := by rw [ho]; rfl
  have o7 : (i.op == 7) = false := by rw [ho]; rfl
  have o8 : (i.op == 8) = false := by rw [ho]; rfl
  have o3 : (i.op == 3) = false := by rw [ho]; rfl
  have o4 : (i.op == 4) = false := by rw [ho]; rfl
  have o10 : (i.op == 10) = false := by rw [ho]; rfl
  have o11 : (i.op == 11) = false := by rw [ho]; rfl
  have o12 : (i.op == 12) = false := by rw [ho]; rfl
  have o13 : (i.op == 13) = false := by rw [ho]; rfl
  have o14 : (i.op == 14) = false := by rw [ho]; rfl
  have o15 : (i.op == 15) = false := by rw [ho]; rfl
  have o31 : (i.op == 31) = false := by rw [ho]; rfl
  have o9 : (i.op == 9) = false := by rw [ho]; rfl
  have o18 : (i.op == 18) = true := by rw [ho]; rfl
  have o19 : (i.op == 19) = false := by rw [ho]; rfl
  have o22 : (i.op == 22) = false := by rw [ho]; rfl
  have o23 : (i.op == 23) = false := by rw [ho]; rfl
  have o24 : (i.op == 24) = false := by rw [ho]; rfl
  have o32 : (i.op == 32) = false := by rw [ho]; rfl
  have o33 : (i.op == 33) = false := by rw [ho]; rfl
  have o35 : (i.op == 35) = false := by rw [ho]; rfl
  have o34 : (i.op == 34) = false := by rw [ho]; rfl
  have o36 : (i.op == 36) = false := by rw [ho]; rfl
  clear ho
  (go_enter Tryd.func35, Tryd.ntmps35; go_wp2_with (first | ((with_reducible refine (q_reg C p i.a _).mono ?_); rintro e w2 ⟨rfl, hb2⟩; have HX2 := Lib.hid (HX.out.keep hb2); have HW2 := Lib.hid (Gr.trans HW.out hb2); have hall2 := HX2.out.all; clear hb2) | ((with_reducible refine (q_reg C p i.b _).mono ?_); rintro e w3 ⟨rfl, hb3⟩; have HX3 := Lib.hid (HX2.out.keep hb3); have HW3 := Lib.hid (Gr.trans HW2.out hb3); have hall3 := HX3.out.all; clear hb3) | ((with_reducible refine (q_reg C p i.c _).mono ?_); rintro e w4 ⟨rfl, hb4⟩; have HX4 := Lib.hid (HX3.out.keep hb4); have HW4 := Lib.hid (Gr.trans HW3.out hb4); have hall4 := HX4.out.all; clear hb4)))
  all_goals (go_ret; exact ⟨ret_bool (by rw [HR.out]; simp [inB, *] <;> omega), by first | exact HW4.out | exact HW3.out | exact HW2.out | exact HW.out⟩)
end Go.Proofs.YtankpckkiikmaaaDoor
namespace Go.Proofs.YtankpckkiikmaaaDoor
open Go.RowKit Cod
set_option maxRecDepth 20000 in
set_option maxHeartbeats 4000000 in
theorem q_plain_19 {C : CV} {p : PV} {w : World} {B : Nat} (h : PlaceAt w B C p) (i : IV) (hi : IOk i) (ho : i.op = 19) :
    Calls Tryd.prog 35 #[.agg #[.slice C.A0 C.n0 C.c0, .slice C.A1 C.n1 C.c1, .slice C.A2 C.n2 C.c2, .slice C.A3 C.n3 C.c3, .slice C.A4 C.n4 C.c4, .slice C.A5 C.n5 C.c5, .slice C.A6 C.n6 C.c6, .int .i64 p.regs, .slice p.A p.n p.c, .int .i64 p.loops, .slice p.A' p.n' p.c'], .agg #[.int .u8 i.op, .int .i64 i.a, .int .i64 i.b, .int .i64 i.c, .string i.s, .slice i.A i.n i.cap]] w fun e w' => e = .returned (.bool (abcB C p [114, 114, 114] i)) ∧ Below w.heap.size w w' := by
  have HX := Lib.hid (BoxI.made i h)
  have HW := Lib.hid (enterI w C p i)
  have hall := True.intro
  have hn0 := h.n0
  have hn' := h.n'
  unfold maxLen at hn0 hn'
  obtain ⟨a1, a2⟩ := i64_bd hi.a
  obtain ⟨b1, b2⟩ := i64_bd hi.b
  obtain ⟨c1, c2⟩ := i64_bd hi.c
  have HR : Hid (abcB C p [114, 114, 114] i = (regB p i.a && (regB p i.b && (regB p i.c)))) := rfl
  clear h
  have o1 : (i.op == 1) = false := by rw [ho]; rfl
  have o2 : (i.op == 2) = false := by rw [ho]; rfl
  have o20 : (i.op == 20) = false := by rw [ho]; rfl
  have o21 : (i.op == 21) = false := by rw [ho]; rfl
  have o7 : (i.op == 7) = false := by rw [ho]; rfl
  have o8 : (i.op == 8) = false := by rw [ho]; rfl
  have o3 : (i.op == 3) = false := by rw [ho]; rfl
  have o4 : (i.op == 4) = false := by rw [ho]; rfl
  have o10 : (i.op == 10) = false := by rw [ho]; rfl
  have o11 : (i.op == 11) = false := by rw [ho]; rfl
  have o12 : (i.op == 12) = false := by rw [ho]; rfl
  have o13 : (i.op == 13) = false := by rw [ho]; rfl
  have o14 : (i.op == 14) = false := by rw [ho]; rfl
  have o15 : (i.op == 15) = false := by rw [ho]; rfl
  have o31 : (i.op == 31) = false := by rw [ho]; rfl
  have o9 : (i.op == 9) = false := by rw [ho]; rfl
  have o18 : (i.op == 18) = false := by rw [ho]; rfl
  have o19 : (i.op == 19) = true := by rw [ho]; rfl
  have o22 : (i.op == 22) = false := by rw [ho]; rfl
  have o23 : (i.op == 23) = false := by rw [ho]; rfl
  have o24 : (i.op == 24) = false := by rw [ho]; rfl
  have o32 : (i.op == 32) = false := by rw [ho]; rfl
  have o33 : (i.op == 33) = false := by rw [ho]; rfl
  have o35 : (i.op == 35) = false := by rw [ho]; rfl
  have o34 : (i.op == 34) = false := by rw [ho]; rfl
  have o36 : (i.op == 36) = false := by rw [ho]; rfl
  clear ho
  (go_enter Tryd.func35, Tryd.ntmps35; go_wp2_with (first | ((with_reducible refine (q_reg C p i.a _).mono ?_); rintro e w2 ⟨rfl, hb2⟩; have HX2 := Lib.hid (HX.out.keep hb2); have HW2 := Lib.hid (Gr.trans HW.out hb2); have hall2 := HX2.out.all; clear hb2) | ((with_reducible refine (q_reg C p i.b _).mono ?_); rintro e w3 ⟨rfl, hb3⟩; have HX3 := Lib.hid (HX2.out.keep hb3); have HW3 := Lib.hid (Gr.trans HW2.out hb3); have hall3 := HX3.out.all; clear hb3) | ((with_reducible refine (q_reg C p i.c _).mono ?_); rintro e w4 ⟨rfl, hb4⟩; have HX4 := Lib.hid (HX3.out.keep hb4); have HW4 := Lib.hid (Gr.trans HW3.out hb4); have hall4 := HX4.out.all; clear hb4)))
  all_goals (go_ret; exact ⟨ret_bool (by rw [HR.out]; simp [inB, *] <;> omega), by first | exact HW4.out | exact HW3.out | exact HW2.out | exact HW.out⟩)
set_option maxRecDepth 20000 in
set_option maxHeartbeats 4000000 in
theorem q_plain_22 {C : CV} {p : PV} {w : World} {B : Nat} (h : PlaceAt w B C p) (i : IV) (hi : IOk i) (ho : i.op = 22) :
    Calls Tryd.prog 35 #[.agg #[.slice C.A0 C.n0 C.c0, .slice C.A1 C.n1 C.c1, .slice C.A2 C.n2 C.c2, .slice C.A3 C.n3 C.c3, .slice C.A4 C.n4 C.c4, .slice C.A5 C.n5 C.c5, .slice C.A6 C.n6 C.c6, .int .i64 p.regs, .slice p.A p.n p.c, .int .i64 p.loops, .slice p.A' p.n' p.c'], .agg #[.int .u8 i.op, .int .i64 i.a, .int .i64 i.b, .int .i64 i.c, .string i.s, .slice i.A i.n i.cap]] w fun e w' => e = .returned (.bool (abcB C p [48, 48, 106] i)) ∧ Below w.heap.size w w' := by
  have HX := Lib.hid (BoxI.made i h)
  have HW := Lib.hid (enterI w C p i)
  have hall := True.intro
  have hn0 := h.n0
  have hn' := h.n'
  unfold maxLen at hn0 hn'
  obtain ⟨a1, a2⟩ := i64_bd hi.a
  obtain ⟨b1, b2⟩ := i64_bd hi.b
  obtain ⟨c1, c2⟩ := i64_bd hi.c
  have HR : Hid (abcB C p [48, 48, 106] i = (i.a == 0 && (i.b == 0 && (inB i.c p.n')))) := rfl
  clear h
  have o1 : (i.op == 1) = false := by rw [ho]; rfl
  have o2 : (i.op == 2) = false := by rw [ho]; rfl
  have o20 : (i.op == 20) = false := by rw [ho]; rfl
  have o21 : (i.op == 21) = false := by rw [ho]; rfl
  have o7 : (i.op == 7) = false := by rw [ho]; rfl
  have o8 : (i.op == 8) = false := by rw [ho]; rfl
  have o3 : (i.op == 3) = false := by rw [ho]; rfl
  have o4 : (i.op == 4) = false := by rw [ho]; rfl
  have o10 : (i.op == 10) = false := by rw [ho]; rfl
  have o11 : (i.op == 11) = false := by rw [ho]; rfl
  have o12 : (i.op == 12) = false := by rw [ho]; rfl
  have o13 : (i.op == 13) = false := by rw [ho]; rfl
  have o14 : (i.op == 14) = false := by rw [ho]; rfl
  have o15 : (i.op == 15) = false := by rw [ho]; rfl
  have o31 : (i.op == 31) = false := by rw [ho]; rfl
  have o9 : (i.op == 9) = false := by rw [ho]; rfl
  have o18 : (i.op == 18) = false := by rw [ho]; rfl
  have o19 : (i.op == 19) = false := by rw [ho]; rfl
  have o22 : (i.op == 22) = true := by rw [ho]; rfl
  have o23 : (i.op == 23) = false := by rw [ho]; rfl
  have o24 : (i.op == 24) = false := by rw [ho]; rfl
  have o32 : (i.op == 32) = false := by rw [ho]; rfl
  have o33 : (i.op == 33) = false := by rw [ho]; rfl
  have o35 : (i.op == 35) = false := by rw [ho]; rfl
  have o34 : (i.op == 34) = false := by rw [ho]; rfl
  have o36 : (i.op == 36) = false := by rw [ho]; rfl
  clear ho
  cases hza : (i.a == 0)
  all_goals have hya : decide (i.a = 0) = _ := hza
  all_goals cases hzb : (i.b == 0)
  all_goals have hyb : decide (i.b = 0) = _ := hzb
  all_goals (go_enter Tryd.func35, Tryd.ntmps35; go_wp2_with (first | ((with_reducible refine (q_jump C p i.c _).mono ?_); rintro e w2 ⟨rfl, hb2⟩; have HX2 := Lib.hid (HX.out.keep hb2); have HW2 := Lib.hid (Gr.trans HW.out hb2); have hall2 := HX2.out.all; clear hb2)))
  all_goals (go_ret; exact ⟨ret_bool (by rw [HR.out]; simp [inB, *] <;> omega), by first | exact HW2.out | exact HW.out⟩)
set_option maxRecDepth 20000 in
set_option maxHeartbeats 4000000 in
theorem q_plain_23 {C : CV} {p : PV} {w : World} {B : Nat} (h : PlaceAt w B C p) (i : IV) (hi : IOk i) (ho : i.op = 23) :
    Calls Tryd.prog 35 #[.agg #[.slice C.A0 C.n0 C.c0, .slice C.A1 C.n1 C.c1, .slice C.A2 C.n2 C.c2, .slice C.A3 C.n3 C.c3, .slice C.A4 C.n4 C.c4, .slice C.A5 C.n5 C.c5, .slice C.A6 C.n6 C.c6, .int .i64 p.regs, .slice p.A p.n p.c, .int .i64 p.loops, .slice p.A' p.n' p.c'], .agg #[.int .u8 i.op, .int .i64 i.a, .int .i64 i.b, .int .i64 i.c, .string i.s, .slice i.A i.n i.cap]] w fun e w' => e = .returned (.bool (abcB C p [114, 48, 106] i)) ∧ Below w.heap.size w w' := by
  have HX := Lib.hid (BoxI.made i h)
  have HW := Lib.hid (enterI w C p i)
  have hall := True.intro
  have hn0 := h.n0
  have hn' := h.n'
  unfold maxLen at hn0 hn'
  obtain ⟨a1, a2⟩ := i64_bd hi.a
  obtain ⟨b1, b2⟩ := i64_bd hi.b
  obtain ⟨c1, c2⟩ := i64_bd hi.c
  have HR : Hid (abcB C p [114, 48, 106] i = (regB p i.a && (i.b == 0 && (inB i.c p.n')))) := rfl
  clear h
  have o1 : (i.op == 1) = false := by rw [ho]; rfl
  have o2 : (i.op == 2) = false := by rw [ho]; rfl
  have o20 : (i.op == 20) = false := by rw [ho]; rfl
  have o21 : (i.op == 21) = false := by rw [ho]; rfl
  have o7 : (i.op == 7) = false := by rw [ho]; rfl
  have o8 : (i.op == 8) = false := by rw [ho]; rfl
  have o3 : (i.op == 3) = false := by rw [ho]; rfl
  have o4 : (i.op == 4) = false := by rw [ho]; rfl
  have o10 : (i.op == 10) = false := by rw [ho]; rfl
  have o11 : (i.op == 11) = false := by rw [ho]; rfl
  have o12 : (i.op == 12) = false := by rw [ho]; rfl
  have o13 : (i.op == 13) = false := by rw [ho]; rfl
  have o14 : (i.op == 14) = false := by rw [ho]; rfl
  have o15 : (i.op == 15) = false := by rw [ho]; rfl
  have o31 : (i.op == 31) = false := by rw [ho]; rfl
  have o9 : (i.op == 9) = false := by rw [ho]; rfl
  have o18 : (i.op == 18) = false := by rw [ho]; rfl
  have o19 : (i.op == 19) = false := by rw [ho]; rfl
  have o22 : (i.op == 22) = false := by rw [ho]; rfl
  have o23 : (i.op == 23) = true := by rw [ho]; rfl
  have o24 : (i.op == 24) = false := by rw [ho]; rfl
  have o32 : (i.op == 32) = false := by rw [ho]; rfl
  have o33 : (i.op == 33) = false := by rw [ho]; rfl
  have o35 : (i.op == 35) = false := by rw [ho]; rfl
  have o34 : (i.op == 34) = false := by rw [ho]; rfl
  have o36 : (i.op == 36) = false := by rw [ho]; rfl
  clear ho
  cases hzb : (i.b == 0)
  all_goals have hyb : decide (i.b = 0) = _ := hzb
  all_goals (go_enter Tryd.func35, Tryd.ntmps35; go_wp2_with (first | ((with_reducible refine (q_reg C p i.a _).mono ?_); rintro e w2 ⟨rfl, hb2⟩; have HX2 := Lib.hid (HX.out.keep hb2); have HW2 := Lib.hid (Gr.trans HW.out hb2); have hall2 := HX2.out.all; clear hb2) | ((with_reducible refine (q_jump C p i.c _).mono ?_); rintro e w3 ⟨rfl, hb3⟩; have HX3 := Lib.hid (HX2.out.keep hb3); have HW3 := Lib.hid (Gr.trans HW2.out hb3); have hall3 := HX3.out.all; clear hb3)))
  all_goals (go_ret; exact ⟨ret_bool (by rw [HR.out]; simp [inB, *] <;> omega), by first | exact HW3.out | exact HW2.out | exact HW.out⟩)
set_option maxRecDepth 20000 in
set_option maxHeartbeats 4000000 in
theorem q_plain_24 {C : CV} {p : PV} {w : World} {B : Nat} (h : PlaceAt w B C p) (i : IV) (hi : IOk i) (ho : i.op = 24) :
    Calls Tryd.prog 35 #[.agg #[.slice C.A0 C.n0 C.c0, .slice C.A1 C.n1 C.c1, .slice C.A2 C.n2 C.c2, .slice C.A3 C.n3 C.c3, .slice C.A4 C.n4 C.c4, .slice C.A5 C.n5 C.c5, .slice C.A6 C.n6 C.c6, .int .i64 p.regs, .slice p.A p.n p.c, .int .i64 p.loops, .slice p.A' p.n' p.c'], .agg #[.int .u8 i.op, .int .i64 i.a, .int .i64 i.b, .int .i64 i.c, .string i.s, .slice i.A i.n i.cap]] w fun e w' => e = .returned (.bool (abcB C p [114, 48, 106] i)) ∧ Below w.heap.size w w' := by
  have HX := Lib.hid (BoxI.made i h)
  have HW := Lib.hid (enterI w C p i)
  have hall := True.intro
  have hn0 := h.n0
  have hn' := h.n'
  unfold maxLen at hn0 hn'
  obtain ⟨a1, a2⟩ := i64_bd hi.a
  obtain ⟨b1, b2⟩ := i64_bd hi.b
  obtain ⟨c1, c2⟩ := i64_bd hi.c
  have HR : Hid (abcB C p [114, 48, 106] i = (regB p i.a && (i.b == 0 && (inB i.c p.n')))) := rfl
  clear h
  have o1 : (i.op == 1) = false := by rw [ho]; rfl
  have o2 : (i.op == 2) = false := by rw [ho]; rfl
  have o20 : (i.op == 20) = false := by rw [ho]; rfl
  have o21 : (i.op == 21) = false := by rw [ho]; rfl
  have o7 : (i.op == 7) = false := by rw [ho]; rfl
  have o8 : (i.op == 8) = false := by rw [ho]; rfl
  have o3 : (i.op == 3) = false := by rw [ho]; rfl
  have o4 : (i.op == 4) = false := by rw [ho]; rfl
  have o10 : (i.op == 10) = false := by rw [ho]; rfl
  have o11 : (i.op == 11) = false := by rw [ho]; rfl
  have o12 : (i.op == 12) = false := by rw [ho]; rfl
  have o13 : (i.op == 13) = false := by rw [ho]; rfl
  have o14 : (i.op == 14) = false := by rw [ho]; rfl
  have o15 : (i.op == 15) = false := by rw [ho]; rfl
  have o31 : (i.op == 31) = false := by rw [ho]; rfl
  have o9 : (i.op == 9) = false := by rw [ho]; rfl
  have o18 : (i.op == 18) = false := by rw [ho]; rfl
  have o19 : (i.op == 19) = false := by rw [ho]; rfl
  have o22 : (i.op == 22) = false := by rw [ho]; rfl
  have o23 : (i.op == 23) = false := by rw [ho]; rfl
  have o24 : (i.op == 24) = true := by rw [ho]; rfl
  have o32 : (i.op == 32) = false := by rw [ho]; rfl
  have o33 : (i.op == 33) = false := by rw [ho]; rfl
  have o35 : (i.op == 35) = false := by rw [ho]; rfl
  have o34 : (i.op == 34) = false := by rw [ho]; rfl
  have o36 : (i.op == 36) = false := by rw [ho]; rfl
  clear ho
  cases hzb : (i.b == 0)
  all_goals have hyb : decide (i.b = 0) = _ := hzb
  all_goals (go_enter Tryd.func35, Tryd.ntmps35; go_wp2_with (first | ((with_reducible refine (q_reg C p i.a _).mono ?_); rintro e w2 ⟨rfl, hb2⟩; have HX2 := Lib.hid (HX.out.keep hb2); have HW2 := Lib.hid (Gr.trans HW.out hb2); have hall2 := HX2.out.all; clear hb2) | ((with_reducible refine (q_jump C p i.c _).mono ?_); rintro e w3 ⟨rfl, hb3⟩; have HX3 := Lib.hid (HX2.out.keep hb3); have HW3 := Lib.hid (Gr.trans HW2.out hb3); have hall3 := HX3.out.all; clear hb3)))
  all_goals (go_ret; exact ⟨ret_bool (by rw [HR.out]; simp [inB, *] <;> omega), by first | exact HW3.out | exact HW2.out | exact HW.out⟩)
set_option maxRecDepth 20000 in
set_option maxHeartbeats 4000000 in
theorem q_plain_32 {C : CV} {p : PV} {w : World} {B : Nat} (h : PlaceAt w B C p) (i : IV) (hi : IOk i) (ho : i.op = 32) :
    Calls Tryd.prog 35 #[.agg #[.slice C.A0 C.n0 C.c0, .slice C.A1 C.n1 C.c1, .slice C.A2 C.n2 C.c2, .slice C.A3 C.n3 C.c3, .slice C.A4 C.n4 C.c4, .slice C.A5 C.n5 C.c5, .slice C.A6 C.n6 C.c6, .int .i64 p.regs, .slice p.A p.n p.c, .int .i64 p.loops, .slice p.A' p.n' p.c'], .agg #[.int .u8 i.op, .int .i64 i.a, .int .i64 i.b, .int .i64 i.c, .string i.s, .slice i.A i.n i.cap]] w fun e w' => e = .returned (.bool (abcB C p [114, 108, 106] i)) ∧ Below w.heap.size w w' := by
  have HX := Lib.hid (BoxI.made i h)
  have HW := Lib.hid (enterI w C p i)
  have hall := True.intro
  have hn0 := h.n0
  have hn' := h.n'
  unfold maxLen at hn0 hn'
  obtain ⟨a1, a2⟩ := i64_bd hi.a
  obtain ⟨b1, b2⟩ := i64_bd hi.b
  obtain ⟨c1, c2⟩ := i64_bd hi.c
  have HR : Hid (abcB C p [114, 108, 106] i = (regB p i.a && (inB i.b p.loops && (inB i.c p.n')))) := rfl
  clear h
  have o1 : (i.op == 1) = false := by rw [ho]; rfl
  have o2 : (i.op == 2) = false := by rw [ho]; rfl
  have o20 : (i.op == 20) = false := by rw [ho]; rfl
  have o21 : (i.op == 21) = false := by rw [ho]; rfl
  have o7 : (i.op == 7) = false := by rw [ho]; rfl
  have o8 : (i.op == 8) = false := by rw [ho]; rfl
  have o3 : (i.op == 3) = false := by rw [ho]; rfl
  have o4 : (i.op == 4) = false := by rw [ho]; rfl
  have o10 : (i.op == 10) = false := by rw [ho]; rfl
  have o11 : (i.op == 11) = false := by rw [ho]; rfl
  have o12 : (i.op == 12) = false := by rw [ho]; rfl
  have o13 : (i.op == 13) = false := by rw [ho]; rfl
  have o14 : (i.op == 14) = false := by rw [ho]; rfl
  have o15 : (i.op == 15) = false := by rw [ho]; rfl
  have o31 : (i.op == 31) = false := by rw [ho]; rfl
  have o9 : (i.op == 9) = false := by rw [ho]; rfl
  have o18 : (i.op == 18) = false := by rw [ho]; rfl
  have o19 : (i.op == 19) = false := by rw [ho]; rfl
  have o22 : (i.op == 22) = false := by rw [ho]; rfl
  have o23 : (i.op == 23) = false := by rw [ho]; rfl
  have o24 : (i.op == 24) = false := by rw [ho]; rfl
  have o32 : (i.op == 32) = true := by rw [ho]; rfl
  have o33 : (i.op == 33) = false := by rw [ho]; rfl
  have o35 : (i.op == 35) = false := by rw [ho]; rfl
  have o34 : (i.op == 34) = false := by rw [ho]; rfl
  have o36 : (i.op == 36) = false := by rw [ho]; rfl
  clear ho
  (go_enter Tryd.func35, Tryd.ntmps35; go_wp2_with (first | ((with_reducible refine (q_reg C p i.a _).mono ?_); rintro e w2 ⟨rfl, hb2⟩; have HX2 := Lib.hid (HX.out.keep hb2); have HW2 := Lib.hid (Gr.trans HW.out hb2); have hall2 := HX2.out.all; clear hb2) | ((with_reducible refine (q_jump C p i.c _).mono ?_); rintro e w3 ⟨rfl, hb3⟩; have HX3 := Lib.hid (HX2.out.keep hb3); have HW3 := Lib.hid (Gr.trans HW2.out hb3); have hall3 := HX3.out.all; clear hb3)))
  all_goals (go_ret; exact ⟨ret_bool (by rw [HR.out]; simp [inB, *] <;> omega), by first | exact HW3.out | exact HW2.out | exact HW.out⟩)
set_option maxRecDepth 20000 in
set_option maxHeartbeats 4000000 in
theorem q_plain_33 {C : CV} {p : PV} {w : World} {B : Nat} (h : PlaceAt w B C p) (i : IV) (hi : IOk i) (ho : i.op = 33) :
    Calls Tryd.prog 35 #[.agg #[.slice C.A0 C.n0 C.c0, .slice C.A1 C.n1 C.c1, .slice C.A2 C.n2 C.c2, .slice C.A3 C.n3 C.c3, .slice C.A4 C.n4 C.c4, .slice C.A5 C.n5 C.c5, .slice C.A6 C.n6 C.c6, .int .i64 p.regs, .slice p.A p.n p.c, .int .i64 p.loops, .slice p.A' p.n' p.c'], .agg #[.int .u8 i.op, .int .i64 i.a, .int .i64 i.b, .int .i64 i.c, .string i.s, .slice i.A i.n i.cap]] w fun e w' => e = .returned (.bool (abcB C p [111, 48, 48] i)) ∧ Below w.heap.size w w' := by
  have HX := Lib.hid (BoxI.made i h)
  have HW := Lib.hid (enterI w C p i)
  have hall := True.intro
  have hn0 := h.n0
  have hn' := h.n'
  unfold maxLen at hn0 hn'
  obtain ⟨a1, a2⟩ := i64_bd hi.a
  obtain ⟨b1, b2⟩ := i64_bd hi.b
  obtain ⟨c1, c2⟩ := i64_bd hi.c
  have HR : Hid (abcB C p [111, 48, 48] i = (optB p i.a && (i.b == 0 && (i.c == 0)))) := rfl
  clear h
  have o1 : (i.op == 1) = false := by rw [ho]; rfl
  have o2 : (i.op == 2) = false := by rw [ho]; rfl
  have o20 : (i.op == 20) = false := by rw [ho]; rfl
  have o21 : (i.op == 21) = false := by rw [ho]; rfl
  have o7 : (i.op == 7) = false := by rw [ho]; rfl
  have o8 : (i.op == 8) = false := by rw [ho]; rfl
  have o3 : (i.op == 3) = false := by rw [ho]; rfl
  have o4 : (i.op == 4) = false := by rw [ho]; rfl
  have o10 : (i.op == 10) = false := by rw [ho]; rfl
  have o11 : (i.op == 11) = false := by rw [ho]; rfl
  have o12 : (i.op == 12) = false := by rw [ho]; rfl
  have o13 : (i.op == 13) = false := by rw [ho]; rfl
  have o14 : (i.op == 14) = false := by rw [ho]; rfl
  have o15 : (i.op == 15) = false := by rw [ho]; rfl
  have o31 : (i.op == 31) = false := by rw [ho]; rfl
  have o9 : (i.op == 9) = false := by rw [ho]; rfl
  have o18 : (i.op == 18) = false := by rw [ho]; rfl
  have o19 : (i.op == 19) = false := by rw [ho]; rfl
  have o22 : (i.op == 22) = false := by rw [ho]; rfl
  have o23 : (i.op == 23) = false := by rw [ho]; rfl
  have o24 : (i.op == 24) = false := by rw [ho]; rfl
  have o32 : (i.op == 32) = false := by rw [ho]; rfl
  have o33 : (i.op == 33) = true := by rw [ho]; rfl
  have o35 : (i.op == 35) = false := by rw [ho]; rfl
  have o34 : (i.op == 34) = false := by rw [ho]; rfl
  have o36 : (i.op == 36) = false := by rw [ho]; rfl
  clear ho
  cases hzb : (i.b == 0)
  all_goals have hyb : decide (i.b = 0) = _ := hzb
  all_goals cases hzc : (i.c == 0)
  all_goals have hyc : decide (i.c = 0) = _ := hzc
  all_goals (go_enter Tryd.func35, Tryd.ntmps35; go_wp2_with (first | ((with_reducible refine (q_opt C p i.a _).mono ?_); rintro e w2 ⟨rfl, hb2⟩; have HX2 := Lib.hid (HX.out.keep hb2); have HW2 := Lib.hid (Gr.trans HW.out hb2); have hall2 := HX2.out.all; clear hb2)))
  all_goals (go_ret; exact ⟨ret_bool (by rw [HR.out]; simp [inB, *] <;> omega), by first | exact HW2.out | exact HW.out⟩)
set_option maxRecDepth 20000 in
set_option maxHeartbeats 4000000 in
theorem q_plain_35 {C : CV} {p : PV} {w : World} {B : Nat} (h : PlaceAt w B C p) (i : IV) (hi : IOk i) (ho : i.op = 35) :
    Calls Tryd.prog 35 #[.agg #[.slice C.A0 C.n0 C.c0, .slice C.A1 C.n1 C.c1, .slice C.A2 C.n2 C.c2, .slice C.A3 C.n3 C.c3, .slice C.A4 C.n4 C.c4, .slice C.A5 C.n5 C.c5, .slice C.A6 C.n6 C.c6, .int .i64 p.regs, .slice p.A p.n p.c, .int .i64 p.loops, .slice p.A' p.n' p.c'], .agg #[.int .u8 i.op, .int .i64 i.a, .int .i64 i.b, .int .i64 i.c, .string i.s, .slice i.A i.n i.cap]] w fun e w' => e = .returned (.bool (abcB C p [111, 48, 48] i)) ∧ Below w.heap.size w w' := by
  have HX := Lib.hid (BoxI.made i h)
  have HW := Lib.hid (enterI w C p i)
  have hall := True.intro
  have hn0 := h.n0
  have hn' := h.n'
  unfold maxLen at hn0 hn'
  obtain ⟨a1, a2⟩ := i64_bd hi.a
  obtain ⟨b1, b2⟩ := i64_bd hi.b
  obtain ⟨c1, c2⟩ := i64_bd hi.c
  have HR : Hid (abcB C p [111, 48, 48] i = (optB p i.a && (i.b == 0 && (i.c == 0)))) := rfl
  clear h
  have o1 : (i.op == 1) = false := by rw [ho]; rfl
  have o2 : (i.op == 2) = false := by rw [ho]; rfl
  have o20 : (i.op == 20) = false := by rw [ho]; rfl
  have o21 : (i.op == 21) = false := by rw [ho]; rfl
  have o7 : (i.op == 7) = false := by rw [ho]; rfl
  have o8 : (i.op == 8) = false := by rw [ho]; rfl
  have o3 : (i.op == 3) = false := by rw [ho]; rfl
  have o4 : (i.op == 4) = false := by rw [ho]; rfl
  have o10 : (i.op == 10) = false := by rw [ho]; rfl
  have o11 : (i.op == 11) = false := by rw [ho]; rfl
  have o12 : (i.op == 12) = false := by rw [ho]; rfl
  have o13 : (i.op == 13) = false := by rw [ho]; rfl
  have o14 : (i.op == 14) = false := by rw [ho]; rfl
  have o15 : (i.op == 15) = false := by rw [ho]; rfl
  have o31 : (i.op == 31) = false := by rw [ho]; rfl
  have o9 : (i.op == 9) = false := by rw [ho]; rfl
  have o18 : (i.op == 18) = false := by rw [ho]; rfl
  have o19 : (i.op == 19) = false := by rw [ho]; rfl
  have o22 : (i.op == 22) = false := by rw [ho]; rfl
  have o23 : (i.op == 23) = false := by rw [ho]; rfl
  have o24 : (i.op == 24) = false := by rw [ho]; rfl
  have o32 : (i.op == 32) = false := by rw [ho]; rfl
  have o33 : (i.op == 33) = false := by rw [ho]; rfl
  have o35 : (i.op == 35) = true := by rw [ho]; rfl
  have o34 : (i.op == 34) = false := by rw [ho]; rfl
  have o36 : (i.op == 36) = false := by rw [ho]; rfl
  clear ho
  cases hzb : (i.b == 0)
  all_goals have hyb : decide (i.b = 0) = _ := hzb
  all_goals cases hzc : (i.c == 0)
  all_goals have hyc : decide (i.c = 0) = _ := hzc
  all_goals (go_enter Tryd.func35, Tryd.ntmps35; go_wp2_with (first | ((with_reducible refine (q_opt C p i.a _).mono ?_); rintro e w2 ⟨rfl, hb2⟩; have HX2 := Lib.hid (HX.out.keep hb2); have HW2 := Lib.hid (Gr.trans HW.out hb2); have hall2 := HX2.out.all; clear hb2)))
  all_goals (go_ret; exact ⟨ret_bool (by rw [HR.out]; simp [inB, *] <;> omega), by first | exact HW2.out | exact HW.out⟩)
set_option maxRecDepth 20000 in
set_option maxHeartbeats 4000000 in
theorem q_plain_34 {C : CV} {p : PV} {w : World} {B : Nat} (h : PlaceAt w B C p) (i : IV) (hi : IOk i) (ho : i.op = 34) :
    Calls Tryd.prog 35 #[.agg #[.slice C.A0 C.n0 C.c0, .slice C.A1 C.n1 C.c1, .slice C.A2 C.n2 C.c2, .slice C.A3 C.n3 C.c3, .slice C.A4 C.n4 C.c4, .slice C.A5 C.n5 C.c5, .slice C.A6 C.n6 C.c6, .int .i64 p.regs, .slice p.A p.n p.c, .int .i64 p.loops, .slice p.A' p.n' p.c'], .agg #[.int .u8 i.op, .int .i64 i.a, .int .i64 i.b, .int .i64 i.c, .string i.s, .slice i.A i.n i.cap]] w fun e w' => e = .returned (.bool (abcB C p [48, 48, 48] i)) ∧ Below w.heap.size w w' := by
  have HX := Lib.hid (BoxI.made i h)
  have HW := Lib.hid (enterI w C p i)
  have hall := True.intro
  have hn0 := h.n0
  have hn' := h.n'
  unfold maxLen at hn0 hn'
  obtain ⟨a1, a2⟩ := i64_bd hi.a
  obtain ⟨b1, b2⟩ := i64_bd hi.b
  obtain ⟨c1, c2⟩ := i64_bd hi.c
  have HR : Hid (abcB C p [48, 48, 48] i = (i.a == 0 && (i.b == 0 && (i.c == 0)))) := rfl
  clear h
  have o1 : (i.op == 1) = false := by rw [ho]; rfl
  have o2 : (i.op == 2) = false := by rw [ho]; rfl
  have o20 : (i.op == 20) = false := by rw [ho]; rfl
  have o21 : (i.op == 21) = false := by rw [ho]; rfl
  have o7 : (i.op == 7) = false := by rw [ho]; rfl
  have o8 : (i.op == 8) = false := by rw [ho]; rfl
  have o3 : (i.op == 3) = false := by rw [ho]; rfl
  have o4 : (i.op == 4) = false := by rw [ho]; rfl
  have o10 : (i.op == 10) = false := by rw [ho]; rfl
  have o11 : (i.op == 11) = false := by rw [ho]; rfl
  have o12 : (i.op == 12) = false := by rw [ho]; rfl
  have o13 : (i.op == 13) = false := by rw [ho]; rfl
  have o14 : (i.op == 14) = false := by rw [ho]; rfl
  have o15 : (i.op == 15) = false := by rw [ho]; rfl
  have o31 : (i.op == 31) = false := by rw [ho]; rfl
  have o9 : (i.op == 9) = false := by rw [ho]; rfl
  have o18 : (i.op == 18) = false := by rw [ho]; rfl
  have o19 : (i.op == 19) = false := by rw [ho]; rfl
  have o22 : (i.op == 22) = false := by rw [ho]; rfl
  have o23 : (i.op == 23) = false := by rw [ho]; rfl
  have o24 : (i.op == 24) = false := by rw [ho]; rfl
  have o32 : (i.op == 32) = false := by rw [ho]; rfl
  have o33 : (i.op == 33) = false := by rw [ho]; rfl
  have o35 : (i.op == 35) = false := by rw [ho]; rfl
  have o34 : (i.op == 34) = true := by rw [ho]; rfl
  have o36 : (i.op == 36) = false := by rw [ho]; rfl
  clear ho
  cases hza : (i.a == 0)
  all_goals have hya : decide (i.a = 0) = _ := hza
  all_goals cases hzb : (i.b == 0)
  all_goals have hyb : decide (i.b = 0) = _ := hzb
  all_goals cases hzc : (i.c == 0)
  all_goals have hyc : decide (i.c = 0) = _ := hzc
  all_goals (go_enter Tryd.func35, Tryd.ntmps35; go_wp2_with fail)
  all_goals (go_ret; exact ⟨ret_bool (by rw [HR.out]; simp [inB, *] <;> omega), by first | exact HW.out⟩)
set_option maxRecDepth 20000 in
set_option maxHeartbeats 4000000 in
theorem q_plain_36 {C : CV} {p : PV} {w : World} {B : Nat} (h : PlaceAt w B C p) (i : IV) (hi : IOk i) (ho : i.op = 36) :
    Calls Tryd.prog 35 #[.agg #[.slice C.A0 C.n0 C.c0, .slice C.A1 C.n1 C.c1, .slice C.A2 C.n2 C.c2, .slice C.A3 C.n3 C.c3, .slice C.A4 C.n4 C.c4, .slice C.A5 C.n5 C.c5, .slice C.A6 C.n6 C.c6, .int .i64 p.regs, .slice p.A p.n p.c, .int .i64 p.loops, .slice p.A' p.n' p.c'], .agg #[.int .u8 i.op, .int .i64 i.a, .int .i64 i.b, .int .i64 i.c, .string i.s, .slice i.A i.n i.cap]] w fun e w' => e = .returned (.bool (abcB C p [48, 48, 48] i)) ∧ Below w.heap.size w w' := by
  have HX := Lib.hid (BoxI.made i h)
  have HW := Lib.hid (enterI w C p i)
  have hall := True.intro
  have hn0 := h.n0
  have hn' := h.n'
  unfold maxLen at hn0 hn'
  obtain ⟨a1, a2⟩ := i64_bd hi.a
  obtain ⟨b1, b2⟩ := i64_bd hi.b
  obtain ⟨c1, c2⟩ := i64_bd hi.c
  have HR : Hid (abcB C p [48, 48, 48] i = (i.a == 0 && (i.b == 0 && (i.c == 0)))) := rfl
  clear h
  have o1 : (i.op == 1) = false := by rw [ho]; rfl
  have o2 : (i.op == 2) = false := by rw [ho]; rfl
  have o20 : (i.op == 20) = false := by rw [ho]; rfl
  have o21 : (i.op == 21) = false := by rw [ho]; rfl
  have o7 : (i.op == 7) = false := by rw [ho]; rfl
  have o8 : (i.op == 8) = false := by rw [ho]; rfl
  have o3 : (i.op == 3) = false := by rw [ho]; rfl
  have o4 : (i.op == 4) = false := by rw [ho]; rfl
  have o10 : (i.op == 10) = false := by rw [ho]; rfl
  have o11 : (i.op == 11) = false := by rw [ho]; rfl
  have o12 : (i.op == 12) = false := by rw [ho]; rfl
  have o13 : (i.op == 13) = false := by rw [ho]; rfl
  have o14 : (i.op == 14) = false := by rw [ho]; rfl
  have o15 : (i.op == 15) = false := by rw [ho]; rfl
  have o31 : (i.op == 31) = false := by rw [ho]; rfl
  have o9 : (i.op == 9) = false := by rw [ho]; rfl
  have o18 : (i.op == 18) = false := by rw [ho]; rfl
  have o19 : (i.op == 19) = false := by rw [ho]; rfl
  have o22 : (i.op == 22) = false := by rw [ho]; rfl
  have o23 : (i.op == 23) = false := by rw [ho]; rfl
  have o24 : (i.op == 24) = false := by rw [ho]; rfl
  have o32 : (i.op == 32) = false := by rw [ho]; rfl
  have o33 : (i.op == 33) = false := by rw [ho]; rfl
  have o35 : (i.op == 35) = false := by rw [ho]; rfl
  have o34 : (i.op == 34) = false := by rw [ho]; rfl
  have o36 : (i.op == 36) = true := by rw [ho]; rfl
  clear ho
  cases hza : (i.a == 0)
  all_goals have hya : decide (i.a = 0) = _ := hza
  all_goals cases hzb : (i.b == 0)
  all_goals have hyb : decide (i.b = 0) = _ := hzb
  all_goals cases hzc : (i.c == 0)
  all_goals have hyc : decide (i.c = 0) = _ := hzc
  all_goals (go_enter Tryd.func35, Tryd.ntmps35; go_wp2_with fail)
  all_goals (go_ret; exact ⟨ret_bool (by rw [HR.out]; simp [inB, *] <;> omega), by first | exact HW.out⟩)
end Go.Proofs.YtankpckkiikmaaaDoor
