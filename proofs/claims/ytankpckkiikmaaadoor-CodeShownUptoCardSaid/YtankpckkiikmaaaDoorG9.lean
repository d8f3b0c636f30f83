/- Code: the document's plain instructions in all. -/
import Derived.Test.YtankpckkiikmaaaDoorG7
import Derived.Test.YtankpckkiikmaaaDoorG8
set_option linter.unusedVariables false
set_option linter.unusedSimpArgs false
namespace Go.Proofs.YtankpckkiikmaaaDoor
open Go.RowKit Cod
set_option maxRecDepth 20000 in
set_option maxHeartbeats 4000000 in
theorem q_plain_10 {C : CV} {p : PV} {w : World} {B : Nat} (h : PlaceAt w B C p) (i : IV) (hi : IOk i) (ho : i.op = 10) :
    Calls Tryd.prog 35 #[.agg #[.slice C.A0 C.n0 C.c0, .slice C.A1 C.n1 C.c1, .slice C.A2 C.n2 C.c2, .slice C.A3 C.n3 C.c3, .slice C.A4 C.n4 C.c4, .slice C.A5 C.n5 C.c5, .slice C.A6 C.n6 C.c6, .int .i64 p.regs, .slice p.A p.n p.c, .int .i64 p.loops, .slice p.A' p.n' p.c'], .agg #[.int .u8 i.op, .int .i64 i.a, .int .i64 i.b, .int .i64 i.c, .string i.s, .slice i.A i.n i.cap]] w fun e w' => e = .returned (.bool (abcB C p [114, 120, 114] i)) ∧ Below w.heap.size w w' := by
  have HX := Lib.hid (BoxI.made i h)
  have HW := Lib.hid (enterI w C p i)
  have o1 : (i.op == 1) = false := by rw [ho]; rfl
  have o2 : (i.op == 2) = false := by rw [ho]; rfl
  have o20 : (i.op == 20) = false := by rw [ho]; rfl
  have o21 : (i.op == 21) = false := by rw [ho]; rfl
  have o7 : (i.op == 7) = false := by rw [ho]; rfl
  have o8 : (i.op == 8) = false := by rw [ho]; rfl
  have o3 : (i.op == 3) = false := by rw [ho]; rfl
  have o4 : (i.op == 4) = false := by rw [ho]; rfl
  have o10 : (i.op == 10) = true := by rw [ho]; rfl
  have o11 : (i.op == 11) = false := by rw [ho]; rfl
  have o12 : (i.op == 12) = false := by rw [ho]; rfl
  have o13 : (i.op == 13) = false := by rw [ho]; rfl
  have o14 : (i.op == 14) = false := by rw [ho]; rfl
  have o15 : (i.op == 15) = false := by rw [ho]; rfl
  have o31 : (i.op == 31) = false := by rw [ho]; rfl
  have o9 : (i.op == 9) = false := by rw [ho]; rfl
  have o18 : (i.op == 18) = false := by rw [ho]; rfl
  have o19 : (i.op == 19) = false := by rw [ho]; rfl
  have o22 : (i.op == 22) = false := by rw [ho]; rfl
  have o23 : (i.op == 23) = false := by rw [ho]; rfl
  have o24 : (i.op == 24) = false := by rw [ho]; rfl
  have o32 : (i.op == 32) = false := by rw [ho]; rfl
  have o33 : (i.op == 33) = false := by rw [ho]; rfl
  have o35 : (i.op == 35) = false := by rw [ho]; rfl
  have o34 : (i.op == 34) = false := by rw [ho]; rfl
  have o36 : (i.op == 36) = false := by rw [ho]; rfl
  have HO := Lib.hid ho
  clear h ho
  go_enter Tryd.func35, Tryd.ntmps35
  go_wp2_with (((with_reducible refine (q_arrays_10 HX.out.at_ i hi HO.out).mono ?_); rintro e w2 ⟨rfl, hb2⟩; have HW2 := Lib.hid (Gr.trans HW.out hb2); clear hb2))
  go_ret
  exact ⟨rfl, HW2.out⟩
set_option maxRecDepth 20000 in
set_option maxHeartbeats 4000000 in
theorem q_plain_11 {C : CV} {p : PV} {w : World} {B : Nat} (h : PlaceAt w B C p) (i : IV) (hi : IOk i) (ho : i.op = 11) :
    Calls Tryd.prog 35 #[.agg #[.slice C.A0 C.n0 C.c0, .slice C.A1 C.n1 C.c1, .slice C.A2 C.n2 C.c2, .slice C.A3 C.n3 C.c3, .slice C.A4 C.n4 C.c4, .slice C.A5 C.n5 C.c5, .slice C.A6 C.n6 C.c6, .int .i64 p.regs, .slice p.A p.n p.c, .int .i64 p.loops, .slice p.A' p.n' p.c'], .agg #[.int .u8 i.op, .int .i64 i.a, .int .i64 i.b, .int .i64 i.c, .string i.s, .slice i.A i.n i.cap]] w fun e w' => e = .returned (.bool (abcB C p [114, 120, 114] i)) ∧ Below w.heap.size w w' := by
  have HX := Lib.hid (BoxI.made i h)
  have HW := Lib.hid (enterI w C p i)
  have o1 : (i.op == 1) = false := by rw [ho]; rfl
  have o2 : (i.op == 2) = false := by rw [ho]; rfl
  have o20 : (i.op == 20) = false := by rw [ho]; rfl
  have o21 : (i.op == 21) = false := by rw [ho]; rfl
  have o7 : (i.op == 7) = false := by rw [ho]; rfl
  have o8 : (i.op == 8) = false := by rw [ho]; rfl
  have o3 : (i.op == 3) = false := by rw [ho]; rfl
  have o4 : (i.op == 4) = false := by rw [ho]; rfl
  have o10 : (i.op == 10) = false := by rw [ho]; rfl
  have o11 : (i.op == 11) = true := by rw [ho]; rfl
  have o12 : (i.op == 12) = false := by rw [ho]; rfl
  have o13 : (i.op == 13) = false := by rw [ho]; rfl
  have o14 : (i.op == 14) = false := by rw [ho]; rfl
  have o15 : (i.op == 15) = false := by rw [ho]; rfl
  have o31 : (i.op == 31) = false := by rw [ho]; rfl
  have o9 : (i.op == 9) = false := by rw [ho]; rfl
  have o18 : (i.op == 18) = false := by rw [ho]; rfl
  have o19 : (i.op == 19) = false := by rw [ho]; rfl
  have o22 : (i.op == 22) = false := by rw [ho]; rfl
  have o23 : (i.op == 23) = false := by rw [ho]; rfl
  have o24 : (i.op == 24) = false := by rw [ho]; rfl
  have o32 : (i.op == 32) = false := by rw [ho]; rfl
  have o33 : (i.op == 33) = false := by rw [ho]; rfl
  have o35 : (i.op == 35) = false := by rw [ho]; rfl
  have o34 : (i.op == 34) = false := by rw [ho]; rfl
  have o36 : (i.op == 36) = false := by rw [ho]; rfl
  have HO := Lib.hid ho
  clear h ho
  go_enter Tryd.func35, Tryd.ntmps35
  go_wp2_with (((with_reducible refine (q_arrays_11 HX.out.at_ i hi HO.out).mono ?_); rintro e w2 ⟨rfl, hb2⟩; have HW2 := Lib.hid (Gr.trans HW.out hb2); clear hb2))
  go_ret
  exact ⟨rfl, HW2.out⟩
set_option maxRecDepth 20000 in
set_option maxHeartbeats 4000000 in
theorem q_plain_12 {C : CV} {p : PV} {w : World} {B : Nat} (h : PlaceAt w B C p) (i : IV) (hi : IOk i) (ho : i.op = 12) :
    Calls Tryd.prog 35 #[.agg #[.slice C.A0 C.n0 C.c0, .slice C.A1 C.n1 C.c1, .slice C.A2 C.n2 C.c2, .slice C.A3 C.n3 C.c3, .slice C.A4 C.n4 C.c4, .slice C.A5 C.n5 C.c5, .slice C.A6 C.n6 C.c6, .int .i64 p.regs, .slice p.A p.n p.c, .int .i64 p.loops, .slice p.A' p.n' p.c'], .agg #[.int .u8 i.op, .int .i64 i.a, .int .i64 i.b, .int .i64 i.c, .string i.s, .slice i.A i.n i.cap]] w fun e w' => e = .returned (.bool (abcB C p [114, 120, 114] i)) ∧ Below w.heap.size w w' := by
  have HX := Lib.hid (BoxI.made i h)
  have HW := Lib.hid (enterI w C p i)
  have o1 : (i.op == 1) = false := by rw [ho]; rfl
  have o2 : (i.op == 2) = false := by rw [ho]; rfl
  have o20 : (i.op == 20) = false := by rw [ho]; rfl
  have o21 : (i.op == 21) = false := by rw [ho]; rfl
  have o7 : (i.op == 7) = false := by rw [ho]; rfl
  have o8 : (i.op == 8) = false := by rw [ho]; rfl
  have o3 : (i.op == 3) = false := by rw [ho]; rfl
  have o4 : (i.op == 4) = false := by rw [ho]; rfl
  have o10 : (i.op == 10) = false := by rw [ho]; rfl
  have o11 : (i.op == 11) = false := by rw [ho]; rfl
  have o12 : (i.op == 12) = true := by rw [ho]; rfl
  have o13 : (i.op == 13) = false := by rw [ho]; rfl
  have o14 : (i.op == 14) = false := by rw [ho]; rfl
  have o15 : (i.op == 15) = false := by rw [ho]; rfl
  have o31 : (i.op == 31) = false := by rw [ho]; rfl
  have o9 : (i.op == 9) = false := by rw [ho]; rfl
  have o18 : (i.op == 18) = false := by rw [ho]; rfl
  have o19 : (i.op == 19) = false := by rw [ho]; rfl
  have o22 : (i.op == 22) = false := by rw [ho]; rfl
  have o23 : (i.op == 23) = false := by rw [ho]; rfl
  have o24 : (i.op == 24) = false := by rw [ho]; rfl
  have o32 : (i.op == 32) = false := by rw [ho]; rfl
  have o33 : (i.op == 33) = false := by rw [ho]; rfl
  have o35 : (i.op == 35) = false := by rw [ho]; rfl
  have o34 : (i.op == 34) = false := by rw [ho]; rfl
  have o36 : (i.op == 36) = false := by rw [ho]; rfl
  have HO := Lib.hid ho
  clear h ho
  go_enter Tryd.func35, Tryd.ntmps35
  go_wp2_with (((with_reducible refine (q_arrays_12 HX.out.at_ i hi HO.out).mono ?_); rintro e w2 ⟨rfl, hb2⟩; have HW2 := Lib.hid (Gr.trans HW.out hb2); clear hb2))
  go_ret
  exact ⟨rfl, HW2.out⟩
set_option maxRecDepth 20000 in
set_option maxHeartbeats 4000000 in
theorem q_plain_13 {C : CV} {p : PV} {w : World} {B : Nat} (h : PlaceAt w B C p) (i : IV) (hi : IOk i) (ho : i.op = 13) :
    Calls Tryd.prog 35 #[.agg #[.slice C.A0 C.n0 C.c0, .slice C.A1 C.n1 C.c1, .slice C.A2 C.n2 C.c2, .slice C.A3 C.n3 C.c3, .slice C.A4 C.n4 C.c4, .slice C.A5 C.n5 C.c5, .slice C.A6 C.n6 C.c6, .int .i64 p.regs, .slice p.A p.n p.c, .int .i64 p.loops, .slice p.A' p.n' p.c'], .agg #[.int .u8 i.op, .int .i64 i.a, .int .i64 i.b, .int .i64 i.c, .string i.s, .slice i.A i.n i.cap]] w fun e w' => e = .returned (.bool (abcB C p [48, 120, 114] i)) ∧ Below w.heap.size w w' := by
  have HX := Lib.hid (BoxI.made i h)
  have HW := Lib.hid (enterI w C p i)
  have o1 : (i.op == 1) = false := by rw [ho]; rfl
  have o2 : (i.op == 2) = false := by rw [ho]; rfl
  have o20 : (i.op == 20) = false := by rw [ho]; rfl
  have o21 : (i.op == 21) = false := by rw [ho]; rfl
  have o7 : (i.op == 7) = false := by rw [ho]; rfl
  have o8 : (i.op == 8) = false := by rw [ho]; rfl
  have o3 : (i.op == 3) = false := by rw [ho]; rfl
  have o4 : (i.op == 4) = false := by rw [ho]; rfl
  have o10 : (i.op == 10) = false := by rw [ho]; rfl
  have o11 : (i.op == 11) = false := by rw [ho]; rfl
  have o12 : (i.op == 12) = false := by rw [ho]; rfl
  have o13 : (i.op == 13) = true := by rw [ho]; rfl
  have o14 : (i.op == 14) = false := by rw [ho]; rfl
  have o15 : (i.op == 15) = false := by rw [ho]; rfl
  have o31 : (i.op == 31) = false := by rw [ho]; rfl
  have o9 : (i.op == 9) = false := by rw [ho]; rfl
  have o18 : (i.op == 18) = false := by rw [ho]; rfl
  have o19 : (i.op == 19) = false := by rw [ho]; rfl
  have o22 : (i.op == 22) = false := by rw [ho]; rfl
  have o23 : (i.op == 23) = false := by rw [ho]; rfl
  have o24 : (i.op == 24) = false := by rw [ho]; rfl
  have o32 : (i.op == 32) = false := by rw [ho]; rfl
  have o33 : (i.op == 33) = false := by rw [ho]; rfl
  have o35 : (i.op == 35) = false := by rw [ho]; rfl
  have o34 : (i.op == 34) = false := by rw [ho]; rfl
  have o36 : (i.op == 36) = false := by rw [ho]; rfl
  have HO := Lib.hid ho
  clear h ho
  go_enter Tryd.func35, Tryd.ntmps35
  go_wp2_with (((with_reducible refine (q_arrays_13 HX.out.at_ i hi HO.out).mono ?_); rintro e w2 ⟨rfl, hb2⟩; have HW2 := Lib.hid (Gr.trans HW.out hb2); clear hb2))
  go_ret
  exact ⟨rfl, HW2.out⟩
set_option maxRecDepth 20000 in
set_option maxHeartbeats 4000000 in
theorem q_plain_14 {C : CV} {p : PV} {w : World} {B : Nat} (h : PlaceAt w B C p) (i : IV) (hi : IOk i) (ho : i.op = 14) :
    Calls Tryd.prog 35 #[.agg #[.slice C.A0 C.n0 C.c0, .slice C.A1 C.n1 C.c1, .slice C.A2 C.n2 C.c2, .slice C.A3 C.n3 C.c3, .slice C.A4 C.n4 C.c4, .slice C.A5 C.n5 C.c5, .slice C.A6 C.n6 C.c6, .int .i64 p.regs, .slice p.A p.n p.c, .int .i64 p.loops, .slice p.A' p.n' p.c'], .agg #[.int .u8 i.op, .int .i64 i.a, .int .i64 i.b, .int .i64 i.c, .string i.s, .slice i.A i.n i.cap]] w fun e w' => e = .returned (.bool (abcB C p [48, 120, 48] i)) ∧ Below w.heap.size w w' := by
  have HX := Lib.hid (BoxI.made i h)
  have HW := Lib.hid (enterI w C p i)
  have o1 : (i.op == 1) = false := by rw [ho]; rfl
  have o2 : (i.op == 2) = false := by rw [ho]; rfl
  have o20 : (i.op == 20) = false := by rw [ho]; rfl
  have o21 : (i.op == 21) = false := by rw [ho]; rfl
  have o7 : (i.op == 7) = false := by rw [ho]; rfl
  have o8 : (i.op == 8) = false := by rw [ho]; rfl
  have o3 : (i.op == 3) = false := by rw [ho]; rfl
  have o4 : (i.op == 4) = false := by rw [ho]; rfl
  have o10 : (i.op == 10) = false := by rw [ho]; rfl
  have o11 : (i.op == 11) = false := by rw [ho]; rfl
  have o12 : (i.op == 12) = false := by rw [ho]; rfl
  have o13 : (i.op == 13) = false := by rw [ho]; rfl
  have o14 : (i.op == 14) = true := by rw [ho]; rfl
  have o15 : (i.op == 15) = false := by rw [ho]; rfl
  have o31 : (i.op == 31) = false := by rw [ho]; rfl
  have o9 : (i.op == 9) = false := by rw [ho]; rfl
  have o18 : (i.op == 18) = false := by rw [ho]; rfl
  have o19 : (i.op == 19) = false := by rw [ho]; rfl
  have o22 : (i.op == 22) = false := by rw [ho]; rfl
  have o23 : (i.op == 23) = false := by rw [ho]; rfl
  have o24 : (i.op == 24) = false := by rw [ho]; rfl
  have o32 : (i.op == 32) = false := by rw [ho]; rfl
  have o33 : (i.op == 33) = false := by rw [ho]; rfl
  have o35 : (i.op == 35) = false := by rw [ho]; rfl
  have o34 : (i.op == 34) = false := by rw [ho]; rfl
  have o36 : (i.op == 36) = false := by rw [ho]; rfl
  have HO := Lib.hid ho
  clear h ho
  go_enter Tryd.func35, Tryd.ntmps35
  go_wp2_with (((with_reducible refine (q_arrays_14 HX.out.at_ i hi HO.out).mono ?_); rintro e w2 ⟨rfl, hb2⟩; have HW2 := Lib.hid (Gr.trans HW.out hb2); clear hb2))
  go_ret
  exact ⟨rfl, HW2.out⟩
set_option maxRecDepth 20000 in
set_option maxHeartbeats 4000000 in
theorem q_plain_15 {C : CV} {p : PV} {w : World} {B : Nat} (h : PlaceAt w B C p) (i : IV) (hi : IOk i) (ho : i.op = 15) :
    Calls Tryd.prog 35 #[.agg #[.slice C.A0 C.n0 C.c0, .slice C.A1 C.n1 C.c1, .slice C.A2 C.n2 C.c2, .slice C.A3 C.n3 C.c3, .slice C.A4 C.n4 C.c4, .slice C.A5 C.n5 C.c5, .slice C.A6 C.n6 C.c6, .int .i64 p.regs, .slice p.A p.n p.c, .int .i64 p.loops, .slice p.A' p.n' p.c'], .agg #[.int .u8 i.op, .int .i64 i.a, .int .i64 i.b, .int .i64 i.c, .string i.s, .slice i.A i.n i.cap]] w fun e w' => e = .returned (.bool (abcB C p [114, 120, 48] i)) ∧ Below w.heap.size w w' := by
  have HX := Lib.hid (BoxI.made i h)
  have HW := Lib.hid (enterI w C p i)
  have o1 : (i.op == 1) = false := by rw [ho]; rfl
  have o2 : (i.op == 2) = false := by rw [ho]; rfl
  have o20 : (i.op == 20) = false := by rw [ho]; rfl
  have o21 : (i.op == 21) = false := by rw [ho]; rfl
  have o7 : (i.op == 7) = false := by rw [ho]; rfl
  have o8 : (i.op == 8) = false := by rw [ho]; rfl
  have o3 : (i.op == 3) = false := by rw [ho]; rfl
  have o4 : (i.op == 4) = false := by rw [ho]; rfl
  have o10 : (i.op == 10) = false := by rw [ho]; rfl
  have o11 : (i.op == 11) = false := by rw [ho]; rfl
  have o12 : (i.op == 12) = false := by rw [ho]; rfl
  have o13 : (i.op == 13) = false := by rw [ho]; rfl
  have o14 : (i.op == 14) = false := by rw [ho]; rfl
  have o15 : (i.op == 15) = true := by rw [ho]; rfl
  have o31 : (i.op == 31) = false := by rw [ho]; rfl
  have o9 : (i.op == 9) = false := by rw [ho]; rfl
  have o18 : (i.op == 18) = false := by rw [ho]; rfl
  have o19 : (i.op == 19) = false := by rw [ho]; rfl
  have o22 : (i.op == 22) = false := by rw [ho]; rfl
  have o23 : (i.op == 23) = false := by rw [ho]; rfl
  have o24 : (i.op == 24) = false := by rw [ho]; rfl
  have o32 : (i.op == 32) = false := by rw [ho]; rfl
  have o33 : (i.op == 33) = false := by rw [ho]; rfl
  have o35 : (i.op == 35) = false := by rw [ho]; rfl
  have o34 : (i.op == 34) = false := by rw [ho]; rfl
  have o36 : (i.op == 36) = false := by rw [ho]; rfl
  have HO := Lib.hid ho
  clear h ho
  go_enter Tryd.func35, Tryd.ntmps35
  go_wp2_with (((with_reducible refine (q_arrays_15 HX.out.at_ i hi HO.out).mono ?_); rintro e w2 ⟨rfl, hb2⟩; have HW2 := Lib.hid (Gr.trans HW.out hb2); clear hb2))
  go_ret
  exact ⟨rfl, HW2.out⟩
set_option maxRecDepth 20000 in
set_option maxHeartbeats 4000000 in
theorem q_plain_31 {C : CV} {p : PV} {w : World} {B : Nat} (h : PlaceAt w B C p) (i : IV) (hi : IOk i) (ho : i.op = 31) :
    Calls Tryd.prog 35 #[.agg #[.slice C.A0 C.n0 C.c0, .slice C.A1 C.n1 C.c1, .slice C.A2 C.n2 C.c2, .slice C.A3 C.n3 C.c3, .slice C.A4 C.n4 C.c4, .slice C.A5 C.n5 C.c5, .slice C.A6 C.n6 C.c6, .int .i64 p.regs, .slice p.A p.n p.c, .int .i64 p.loops, .slice p.A' p.n' p.c'], .agg #[.int .u8 i.op, .int .i64 i.a, .int .i64 i.b, .int .i64 i.c, .string i.s, .slice i.A i.n i.cap]] w fun e w' => e = .returned (.bool (abcB C p [108, 120, 48] i)) ∧ Below w.heap.size w w' := by
  have HX := Lib.hid (BoxI.made i h)
  have HW := Lib.hid (enterI w C p i)
  have o1 : (i.op == 1) = false := by rw [ho]; rfl
  have o2 : (i.op == 2) = false := by rw [ho]; rfl
  have o20 : (i.op == 20) = false := by rw [ho]; rfl
  have o21 : (i.op == 21) = false := by rw [ho]; rfl
  have o7 : (i.op == 7) = false := by rw [ho]; rfl
  have o8 : (i.op == 8) = false := by rw [ho]; rfl
  have o3 : (i.op == 3) = false := by rw [ho]; rfl
  have o4 : (i.op == 4) = false := by rw [ho]; rfl
  have o10 : (i.op == 10) = false := by rw [ho]; rfl
  have o11 : (i.op == 11) = false := by rw [ho]; rfl
  have o12 : (i.op == 12) = false := by rw [ho]; rfl
  have o13 : (i.op == 13) = false := by rw [ho]; rfl
  have o14 : (i.op == 14) = false := by rw [ho]; rfl
  have o15 : (i.op == 15) = false := by rw [ho]; rfl
  have o31 : (i.op == 31) = true := by rw [ho]; rfl
  have o9 : (i.op == 9) = false := by rw [ho]; rfl
  have o18 : (i.op == 18) = false := by rw [ho]; rfl
  have o19 : (i.op == 19) = false := by rw [ho]; rfl
  have o22 : (i.op == 22) = false := by rw [ho]; rfl
  have o23 : (i.op == 23) = false := by rw [ho]; rfl
  have o24 : (i.op == 24) = false := by rw [ho]; rfl
  have o32 : (i.op == 32) = false := by rw [ho]; rfl
  have o33 : (i.op == 33) = false := by rw [ho]; rfl
  have o35 : (i.op == 35) = false := by rw [ho]; rfl
  have o34 : (i.op == 34) = false := by rw [ho]; rfl
  have o36 : (i.op == 36) = false := by rw [ho]; rfl
  have HO := Lib.hid ho
  clear h ho
  go_enter Tryd.func35, Tryd.ntmps35
  go_wp2_with (((with_reducible refine (q_arrays_31 HX.out.at_ i hi HO.out).mono ?_); rintro e w2 ⟨rfl, hb2⟩; have HW2 := Lib.hid (Gr.trans HW.out hb2); clear hb2))
  go_ret
  exact ⟨rfl, HW2.out⟩
set_option maxRecDepth 20000 in
set_option maxHeartbeats 4000000 in
theorem q_plain_9 {C : CV} {p : PV} {w : World} {B : Nat} (h : PlaceAt w B C p) (i : IV) (hi : IOk i) (ho : i.op = 9) :
    Calls Tryd.prog 35 #[.agg #[.slice C.A0 C.n0 C.c0, .slice C.A1 C.n1 C.c1, .slice C.A2 C.n2 C.c2, .slice C.A3 C.n3 C.c3, .slice C.A4 C.n4 C.c4, .slice C.A5 C.n5 C.c5, .slice C.A6 C.n6 C.c6, .int .i64 p.regs, .slice p.A p.n p.c, .int .i64 p.loops, .slice p.A' p.n' p.c'], .agg #[.int .u8 i.op, .int .i64 i.a, .int .i64 i.b, .int .i64 i.c, .string i.s, .slice i.A i.n i.cap]] w fun e w' => e = .returned (.bool (regB p i.a && rowB p i.b i.c)) ∧ Below w.heap.size w w' := by
  have HX := Lib.hid (BoxI.made i h)
  have HW := Lib.hid (enterI w C p i)
  have hrg := h.regs
  have o1 : (i.op == 1) = false := by rw [ho]; rfl
  have o2 : (i.op == 2) = false := by rw [ho]; rfl
  have o20 : (i.op == 20) = false := by rw [ho]; rfl
  have o21 : (i.op == 21) = false := by rw [ho]; rfl
  have o7 : (i.op == 7) = false := by rw [ho]; rfl
  have o8 : (i.op == 8) = false := by rw [ho]; rfl
  have o3 : (i.op == 3) = false := by rw [ho]; rfl
  have o4 : (i.op == 4) = false := by rw [ho]; rfl
  have o10 : (i.op == 10) = false := by rw [ho]; rfl
  have o11 : (i.op == 11) = false := by rw [ho]; rfl
  have o12 : (i.op == 12) = false := by rw [ho]; rfl
  have o13 : (i.op == 13) = false := by rw [ho]; rfl
  have o14 : (i.op == 14) = false := by rw [ho]; rfl
  have o15 : (i.op == 15) = false := by rw [ho]; rfl
  have o31 : (i.op == 31) = false := by rw [ho]; rfl
  have o9 : (i.op == 9) = true := by rw [ho]; rfl
  have o18 : (i.op == 18) = false := by rw [ho]; rfl
  have o19 : (i.op == 19) = false := by rw [ho]; rfl
  have o22 : (i.op == 22) = false := by rw [ho]; rfl
  have o23 : (i.op == 23) = false := by rw [ho]; rfl
  have o24 : (i.op == 24) = false := by rw [ho]; rfl
  have o32 : (i.op == 32) = false := by rw [ho]; rfl
  have o33 : (i.op == 33) = false := by rw [ho]; rfl
  have o35 : (i.op == 35) = false := by rw [ho]; rfl
  have o34 : (i.op == 34) = false := by rw [ho]; rfl
  have o36 : (i.op == 36) = false := by rw [ho]; rfl
  clear h ho
  go_enter Tryd.func35, Tryd.ntmps35
  go_wp2_with (first | ((with_reducible refine (q_reg C p i.a _).mono ?_); rintro e w2 ⟨rfl, hb2⟩; have HX2 := Lib.hid (HX.out.keep hb2); have HW2 := Lib.hid (Gr.trans HW.out hb2); have hall2 := HX2.out.all; clear hb2) | ((with_reducible refine (q_row C p i.b i.c _ hrg).mono ?_); rintro e w3 ⟨rfl, hb3⟩; have HX3 := Lib.hid (HX2.out.keep hb3); have HW3 := Lib.hid (Gr.trans HW2.out hb3); have hall3 := HX3.out.all; clear hb3))
  all_goals (go_ret; exact ⟨ret_bool (by simp [*]), by first | exact HW3.out | exact HW2.out⟩)
set_option maxRecDepth 20000 in
set_option maxHeartbeats 4000000 in
theorem q_plain_none {C : CV} {p : PV} {w : World} {B : Nat} (h : PlaceAt w B C p) (i : IV) (hi : IOk i) (o1 : (i.op == 1) = false) (o2 : (i.op == 2) = false) (o20 : (i.op == 20) = false) (o21 : (i.op == 21) = false) (o7 : (i.op == 7) = false) (o8 : (i.op == 8) = false) (o3 : (i.op == 3) = false) (o4 : (i.op == 4) = false) (o10 : (i.op == 10) = false) (o11 : (i.op == 11) = false) (o12 : (i.op == 12) = false) (o13 : (i.op == 13) = false) (o14 : (i.op == 14) = false) (o15 : (i.op == 15) = false) (o31 : (i.op == 31) = false) (o9 : (i.op == 9) = false) (o18 : (i.op == 18) = false) (o19 : (i.op == 19) = false) (o22 : (i.op == 22) = false) (o23 : (i.op == 23) = false) (o24 : (i.op == 24) = false) (o32 : (i.op == 32) = false) (o33 : (i.op == 33) = false) (o35 : (i.op == 35) = false) (o34 : (i.op == 34) = false) (o36 : (i.op == 36) = false) :
    Calls Tryd.prog 35 #[.agg #[.slice C.A0 C.n0 C.c0, .slice C.A1 C.n1 C.c1, .slice C.A2 C.n2 C.c2, .slice C.A3 C.n3 C.c3, .slice C.A4 C.n4 C.c4, .slice C.A5 C.n5 C.c5, .slice C.A6 C.n6 C.c6, .int .i64 p.regs, .slice p.A p.n p.c, .int .i64 p.loops, .slice p.A' p.n' p.c'], .agg #[.int .u8 i.op, .int .i64 i.a, .int .i64 i.b, .int .i64 i.c, .string i.s, .slice i.A i.n i.cap]] w fun e w' => e = .returned (.bool (false)) ∧ Below w.heap.size w w' := by
  have HX := Lib.hid (BoxI.made i h)
  have HW := Lib.hid (enterI w C p i)
  clear h
  go_enter Tryd.func35, Tryd.ntmps35
  go_wp2_with fail
  go_ret
  exact ⟨rfl, HW.out⟩
def Cod.plainB (C : CV) (p : PV) (i : IV) : Bool := bif i.op == 9 then regB p i.a && rowB p i.b i.c else match rowsM.find? (fun r => i.op == r.op) with
  | none => false
  | some r => abcB C p [r.u0, r.u1, r.u2] i
set_option maxRecDepth 20000 in
set_option maxHeartbeats 4000000 in
theorem q_plain {C : CV} {p : PV} {w : World} {B : Nat} (h : PlaceAt w B C p) (i : IV) (hi : IOk i) (o16 : (i.op == 16) = false) (o17 : (i.op == 17) = false) :
    Calls Tryd.prog 35 #[.agg #[.slice C.A0 C.n0 C.c0, .slice C.A1 C.n1 C.c1, .slice C.A2 C.n2 C.c2, .slice C.A3 C.n3 C.c3, .slice C.A4 C.n4 C.c4, .slice C.A5 C.n5 C.c5, .slice C.A6 C.n6 C.c6, .int .i64 p.regs, .slice p.A p.n p.c, .int .i64 p.loops, .slice p.A' p.n' p.c'], .agg #[.int .u8 i.op, .int .i64 i.a, .int .i64 i.b, .int .i64 i.c, .string i.s, .slice i.A i.n i.cap]] w fun e w' => e = .returned (.bool (plainB C p i)) ∧ Below w.heap.size w w' := by
  by_cases h9 : i.op = 9
  · have := q_plain_9 h i hi h9
    rwa [show plainB C p i = (regB p i.a && rowB p i.b i.c) by unfold plainB; rw [h9]; rfl]
  by_cases h1 : i.op = 1
  · have := q_plain_1 h i hi h1
    rwa [show plainB C p i = abcB C p [114, 107, 48] i by unfold plainB; rw [h1]; rfl]
  by_cases h2 : i.op = 2
  · have := q_plain_2 h i hi h2
    rwa [show plainB C p i = abcB C p [114, 114, 48] i by unfold plainB; rw [h2]; rfl]
  by_cases h20 : i.op = 20
  · have := q_plain_20 h i hi h20
    rwa [show plainB C p i = abcB C p [114, 114, 48] i by unfold plainB; rw [h20]; rfl]
  by_cases h21 : i.op = 21
  · have := q_plain_21 h i hi h21
    rwa [show plainB C p i = abcB C p [114, 114, 48] i by unfold plainB; rw [h21]; rfl]
  by_cases h7 : i.op = 7
  · have := q_plain_7 h i hi h7
    rwa [show plainB C p i = abcB C p [114, 114, 48] i by unfold plainB; rw [h7]; rfl]
  by_cases h8 : i.op = 8
  · have := q_plain_8 h i hi h8
    rwa [show plainB C p i = abcB C p [114, 114, 48] i by unfold plainB; rw [h8]; rfl]
  by_cases h3 : i.op = 3
  · have := q_plain_3 h i hi h3
    rwa [show plainB C p i = abcB C p [114, 103, 48] i by unfold plainB; rw [h3]; rfl]
  by_cases h4 : i.op = 4
  · have := q_plain_4 h i hi h4
    rwa [show plainB C p i = abcB C p [114, 103, 48] i by unfold plainB; rw [h4]; rfl]
  by_cases h10 : i.op = 10
  · have := q_plain_10 h i hi h10
    rwa [show plainB C p i = abcB C p [114, 120, 114] i by unfold plainB; rw [h10]; rfl]
  by_cases h11 : i.op = 11
  · have := q_plain_11 h i hi h11
    rwa [show plainB C p i = abcB C p [114, 120, 114] i by unfold plainB; rw [h11]; rfl]
  by_cases h12 : i.op = 12
  · have := q_plain_12 h i hi h12
    rwa [show plainB C p i = abcB C p [114, 120, 114] i by unfold plainB; rw [h12]; rfl]
  by_cases h13 : i.op = 13
  · have := q_plain_13 h i hi h13
    rwa [show plainB C p i = abcB C p [48, 120, 114] i by unfold plainB; rw [h13]; rfl]
  by_cases h14 : i.op = 14
  · have := q_plain_14 h i hi h14
    rwa [show plainB C p i = abcB C p [48, 120, 48] i by unfold plainB; rw [h14]; rfl]
  by_cases h15 : i.op = 15
  · have := q_plain_15 h i hi h15
    rwa [show plainB C p i = abcB C p [114, 120, 48] i by unfold plainB; rw [h15]; rfl]
  by_cases h31 : i.op = 31
  · have := q_plain_31 h i hi h31
    rwa [show plainB C p i = abcB C p [108, 120, 48] i by unfold plainB; rw [h31]; rfl]
  by_cases h18 : i.op = 18
  · have := q_plain_18 h i hi h18
    rwa [show plainB C p i = abcB C p [114, 114, 114] i by unfold plainB; rw [h18]; rfl]
  by_cases h19 : i.op = 19
  · have := q_plain_19 h i hi h19
    rwa [show plainB C p i = abcB C p [114, 114, 114] i by unfold plainB; rw [h19]; rfl]
  by_cases h22 : i.op = 22
  · have := q_plain_22 h i hi h22
    rwa [show plainB C p i = abcB C p [48, 48, 106] i by unfold plainB; rw [h22]; rfl]
  by_cases h23 : i.op = 23
  · have := q_plain_23 h i hi h23
    rwa [show plainB C p i = abcB C p [114, 48, 106] i by unfold plainB; rw [h23]; rfl]
  by_cases h24 : i.op = 24
  · have := q_plain_24 h i hi h24
    rwa [show plainB C p i = abcB C p [114, 48, 106] i by unfold plainB; rw [h24]; rfl]
  by_cases h32 : i.op = 32
  · have := q_plain_32 h i hi h32
    rwa [show plainB C p i = abcB C p [114, 108, 106] i by unfold plainB; rw [h32]; rfl]
  by_cases h33 : i.op = 33
  · have := q_plain_33 h i hi h33
    rwa [show plainB C p i = abcB C p [111, 48, 48] i by unfold plainB; rw [h33]; rfl]
  by_cases h35 : i.op = 35
  · have := q_plain_35 h i hi h35
    rwa [show plainB C p i = abcB C p [111, 48, 48] i by unfold plainB; rw [h35]; rfl]
  by_cases h34 : i.op = 34
  · have := q_plain_34 h i hi h34
    rwa [show plainB C p i = abcB C p [48, 48, 48] i by unfold plainB; rw [h34]; rfl]
  by_cases h36 : i.op = 36
  · have := q_plain_36 h i hi h36
    rwa [show plainB C p i = abcB C p [48, 48, 48] i by unfold plainB; rw [h36]; rfl]
  have := q_plain_none h i hi (beq_false_of_ne h1) (beq_false_of_ne h2) (beq_false_of_ne h20) (beq_false_of_ne h21) (beq_false_of_ne h7) (beq_false_of_ne h8) (beq_false_of_ne h3) (beq_false_of_ne h4) (beq_false_of_ne h10) (beq_false_of_ne h11) (beq_false_of_ne h12) (beq_false_of_ne h13) (beq_false_of_ne h14) (beq_false_of_ne h15) (beq_false_of_ne h31) (beq_false_of_ne h9) (beq_false_of_ne h18) (beq_false_of_ne h19) (beq_false_of_ne h22) (beq_false_of_ne h23) (beq_false_of_ne h24) (beq_false_of_ne h32) (beq_false_of_ne h33) (beq_false_of_ne h35) (beq_false_of_ne h34) (beq_false_of_ne h36)
  rwa [show plainB C p i = false by
    unfold plainB
    rw [show (i.op == 9) = false from beq_false_of_ne h9]
    rw [show rowsM.find? (fun r => i.op == r.op) = none from List.find?_eq_none.2 fun r hr => by
      simp only [rowsM, List.mem_cons, List.not_mem_nil, or_false] at hr
      rcases hr with rfl | rfl | rfl | rfl | rfl | rfl | rfl | rfl | rfl | rfl | rfl | rfl | rfl | rfl | rfl | rfl | rfl | rfl | rfl | rfl | rfl | rfl | rfl | rfl | rfl | rfl | rfl
      · simp [h1]
      · simp [h2]
      · simp [h20]
      · simp [h21]
      · simp [h7]
      · simp [h8]
      · simp [h3]
      · simp [h4]
      · simp [h10]
      · simp [h11]
      · simp [h12]
      · simp [h13]
      · simp [h14]
      · simp [h15]
      · simp only [o16]; decide
      · simp only [o17]; decide
      · simp [h18]
      · simp [h19]
      · simp [h22]
      · simp [h23]
      · simp [h24]
      · simp [h31]
      · simp [h32]
      · simp [h33]
      · simp [h35]
      · simp [h34]
      · simp [h36]
      ]
    rfl]
end Go.Proofs.YtankpckkiikmaaaDoor
