/- Code: the walks of rows of registers, three operands. -/
import Derived.Test.YtankpckkiikmaaaDoorG1
import Derived.Deep.QuietTactic
import Derived.BigQuiet
set_option linter.unusedVariables false
set_option linter.unusedSimpArgs false
namespace Go.Proofs.YtankpckkiikmaaaDoor
open Go.RowKit Cod
def Cod.rowB (p : PV) (fr n : Int) : Bool := regB p fr && (decide (1 ≤ n) && decide (n ≤ p.regs - fr))
def Cod.abcB (C : CV) (p : PV) (s : List UInt8) (i : IV) : Bool := mayB C p (s.getD 0 0).toNat i.a && (mayB C p (s.getD 1 0).toNat i.b && mayB C p (s.getD 2 0).toNat i.c)
/-- A place: its rows of truths lie below B. -/
structure PlaceAt (w : World) (B : Nat) (C : CV) (p : PV) : Prop where
  glob : Bools w B C.A1 C.n1 C.globals
  arr : Bools w B p.A p.n p.arrays
  le : B ≤ w.heap.size
  regs : (Lit.int .i64 p.regs).wf = true
  loops : (Lit.int .i64 p.loops).wf = true
  n0 : C.n0 ≤ maxLen
  n2 : C.n2 ≤ maxLen
  n3 : C.n3 ≤ maxLen
  n' : p.n' ≤ maxLen
theorem PlaceAt.keep {w w' : World} {B : Nat} {C : CV} {p : PV} (h : PlaceAt w B C p) (hb : Below w.heap.size w w') : PlaceAt w' B C p :=
  ⟨h.glob.below (hb.mono h.le), h.arr.below (hb.mono h.le), Nat.le_trans h.le hb.size, h.regs, h.loops, h.n0, h.n2, h.n3, h.n'⟩
structure IOk (i : IV) : Prop where
  a : (Lit.int .i64 i.a).wf = true
  b : (Lit.int .i64 i.b).wf = true
  c : (Lit.int .i64 i.c).wf = true
theorem p_may {C : CV} {p : PV} {w : World} {B : Nat} (h : PlaceAt w B C p) (k n : Int) (hn : (Lit.int .i64 n).wf = true) :
    Calls Tryd.prog 18 #[.agg #[.slice C.A0 C.n0 C.c0, .slice C.A1 C.n1 C.c1, .slice C.A2 C.n2 C.c2, .slice C.A3 C.n3 C.c3, .slice C.A4 C.n4 C.c4, .slice C.A5 C.n5 C.c5, .slice C.A6 C.n6 C.c6, .int .i64 p.regs, .slice p.A p.n p.c, .int .i64 p.loops, .slice p.A' p.n' p.c'], .int .u8 k, .int .i64 n] w fun e w' => e = .returned (.bool (mayB C p k n)) ∧ Below w.heap.size w w' := x_may C p k n w B h.glob h.arr h.le hn
set_option maxHeartbeats 1000000 in
theorem p_row {C : CV} {p : PV} {w : World} {B : Nat} (h : PlaceAt w B C p) (fr n : Int) (hf : (Lit.int .i64 fr).wf = true) (hn : (Lit.int .i64 n).wf = true) :
    Calls Tryd.prog 19 #[.agg #[.slice C.A0 C.n0 C.c0, .slice C.A1 C.n1 C.c1, .slice C.A2 C.n2 C.c2, .slice C.A3 C.n3 C.c3, .slice C.A4 C.n4 C.c4, .slice C.A5 C.n5 C.c5, .slice C.A6 C.n6 C.c6, .int .i64 p.regs, .slice p.A p.n p.c, .int .i64 p.loops, .slice p.A' p.n' p.c'], .int .i64 fr, .int .i64 n] w fun e w' => e = .returned (.bool (rowB p fr n)) ∧ Below w.heap.size w w' := by
  have HP := Lib.hid h
  obtain ⟨r1, r2⟩ := i64_bd h.regs
  obtain ⟨f1, f2⟩ := i64_bd hf
  obtain ⟨n1, n2⟩ := i64_bd hn
  clear h
  have HM : Hid (mayB C p 114 fr = regB p fr) := rfl
  cases hr : regB p fr
  · have HR : Hid (rowB p fr n = false) := by unfold Hid rowB; rw [hr]; rfl
    have HRR := Lib.hid hr
    clear hr
    go_enter Tryd.func19, Tryd.ntmps19
    go_wp2_with (((with_reducible refine (p_may (HP.out.keep ((Below.refl _ _).alloc (Nat.le_refl _) _)) _ _ hf).mono ?_); rintro e w2 ⟨rfl, hb2⟩; rw [HM.out, HRR.out]))
    go_ret
    exact ⟨ret_bool HR.out.symm, ((Below.refl _ _).alloc (Nat.le_refl _) _).trans (hb2.mono (by simp))⟩
  · have HRR := Lib.hid hr
    have hr' := hr
    simp only [regB, inB, Bool.and_eq_true, decide_eq_true_eq] at hr'
    have HR : Hid (rowB p fr n = (decide (1 ≤ n) && decide (n ≤ p.regs - fr))) := by unfold Hid rowB; rw [hr]; rfl
    obtain ⟨g1, g2⟩ := hr'
    clear hr
    have hs1 : 0 ≤ p.regs - fr := by omega
    go_enter Tryd.func19, Tryd.ntmps19
    go_wp2_with (((with_reducible refine (p_may (HP.out.keep ((Below.refl _ _).alloc (Nat.le_refl _) _)) _ _ hf).mono ?_); rintro e w2 ⟨rfl, hb2⟩; rw [HM.out, HRR.out]; obtain ⟨hc, -⟩ := bcell hb2))
    all_goals (go_ret; exact ⟨ret_bool (by rw [HR.out, Bool.eq_iff_iff]; simp [*]; try omega), ((Below.refl _ _).alloc (Nat.le_refl _) _).trans (hb2.mono (by simp))⟩)
theorem pcells {w' : World} {b : Nat} {C : CV} {p : PV} {t : TypeId} {fz : Nat × Nat} (h : w'.heap[b]? = some (.cells #[.slice C.A0 C.n0 C.c0, .slice C.A1 C.n1 C.c1, .slice C.A2 C.n2 C.c2, .slice C.A3 C.n3 C.c3, .slice C.A4 C.n4 C.c4, .slice C.A5 C.n5 C.c5, .slice C.A6 C.n6 C.c6, .int .i64 p.regs, .slice p.A p.n p.c, .int .i64 p.loops, .slice p.A' p.n' p.c'] t fz)) : (w'.cell? ⟨b, 0, none⟩ = some (.slice C.A0 C.n0 C.c0) ∧ w'.cell? ⟨b, 1, none⟩ = some (.slice C.A1 C.n1 C.c1) ∧ w'.cell? ⟨b, 2, none⟩ = some (.slice C.A2 C.n2 C.c2) ∧ w'.cell? ⟨b, 3, none⟩ = some (.slice C.A3 C.n3 C.c3) ∧ w'.cell? ⟨b, 4, none⟩ = some (.slice C.A4 C.n4 C.c4) ∧ w'.cell? ⟨b, 5, none⟩ = some (.slice C.A5 C.n5 C.c5) ∧ w'.cell? ⟨b, 6, none⟩ = some (.slice C.A6 C.n6 C.c6) ∧ w'.cell? ⟨b, 7, none⟩ = some (.int .i64 p.regs) ∧ w'.cell? ⟨b, 8, none⟩ = some (.slice p.A p.n p.c) ∧ w'.cell? ⟨b, 9, none⟩ = some (.int .i64 p.loops) ∧ w'.cell? ⟨b, 10, none⟩ = some (.slice p.A' p.n' p.c')) := by
  simp [World.cell?, h]
theorem icells {w' : World} {b : Nat} {i : IV} {t : TypeId} {fz : Nat × Nat} (h : w'.heap[b]? = some (.cells #[.int .u8 i.op, .int .i64 i.a, .int .i64 i.b, .int .i64 i.c, .string i.s, .slice i.A i.n i.cap] t fz)) : (w'.cell? ⟨b, 0, none⟩ = some (.int .u8 i.op) ∧ w'.cell? ⟨b, 1, none⟩ = some (.int .i64 i.a) ∧ w'.cell? ⟨b, 2, none⟩ = some (.int .i64 i.b) ∧ w'.cell? ⟨b, 3, none⟩ = some (.int .i64 i.c) ∧ w'.cell? ⟨b, 4, none⟩ = some (.string i.s) ∧ w'.cell? ⟨b, 5, none⟩ = some (.slice i.A i.n i.cap)) := by
  simp [World.cell?, h]
/-- Two boxes: of a place and of an instruction. -/
structure Boxed (W : World) (b c : Nat) (B : Nat) (C : CV) (p : PV) (i : IV) : Prop where
  pl : W.heap[b]? = some (.cells #[.slice C.A0 C.n0 C.c0, .slice C.A1 C.n1 C.c1, .slice C.A2 C.n2 C.c2, .slice C.A3 C.n3 C.c3, .slice C.A4 C.n4 C.c4, .slice C.A5 C.n5 C.c5, .slice C.A6 C.n6 C.c6, .int .i64 p.regs, .slice p.A p.n p.c, .int .i64 p.loops, .slice p.A' p.n' p.c'] 46 (0, 0))
  il : W.heap[c]? = some (.cells #[.int .u8 i.op, .int .i64 i.a, .int .i64 i.b, .int .i64 i.c, .string i.s, .slice i.A i.n i.cap] 31 (0, 0))
  at_ : PlaceAt W B C p
theorem Boxed.keep {W W' : World} {b c B : Nat} {C : CV} {p : PV} {i : IV} (h : Boxed W b c B C p i) (hb : Below W.heap.size W W') : Boxed W' b c B C p i :=
  ⟨(hb.block b (Array.getElem?_eq_some_iff.1 h.pl).1).trans h.pl, (hb.block c (Array.getElem?_eq_some_iff.1 h.il).1).trans h.il, h.at_.keep hb⟩
theorem Boxed.drew {W : World} {b c B : Nat} {C : CV} {p : PV} {i : IV} (h : Boxed W b c B C p i) : Boxed W.drew b c B C p i := h.keep (Below.refl _ _).drew
theorem Boxed.made {w : World} {B : Nat} {C : CV} {p : PV} (i : IV) (h : PlaceAt w B C p) : Boxed ((w.alloc (.cells #[.slice C.A0 C.n0 C.c0, .slice C.A1 C.n1 C.c1, .slice C.A2 C.n2 C.c2, .slice C.A3 C.n3 C.c3, .slice C.A4 C.n4 C.c4, .slice C.A5 C.n5 C.c5, .slice C.A6 C.n6 C.c6, .int .i64 p.regs, .slice p.A p.n p.c, .int .i64 p.loops, .slice p.A' p.n' p.c'] 46)).alloc (.cells #[.int .u8 i.op, .int .i64 i.a, .int .i64 i.b, .int .i64 i.c, .string i.s, .slice i.A i.n i.cap] 31)) w.heap.size (w.heap.size + 1) B C p i := by
  refine ⟨?_, ?_, h.keep (((Below.refl _ _).alloc (Nat.le_refl _) _).alloc (by simp) _)⟩
  · rw [(MapKept.heap_alloc _ _).2 _ (by simp), (MapKept.heap_alloc w _).1]
  · have := (MapKept.heap_alloc (w.alloc (.cells #[.slice C.A0 C.n0 C.c0, .slice C.A1 C.n1 C.c1, .slice C.A2 C.n2 C.c2, .slice C.A3 C.n3 C.c3, .slice C.A4 C.n4 C.c4, .slice C.A5 C.n5 C.c5, .slice C.A6 C.n6 C.c6, .int .i64 p.regs, .slice p.A p.n p.c, .int .i64 p.loops, .slice p.A' p.n' p.c'] 46)) (.cells #[.int .u8 i.op, .int .i64 i.a, .int .i64 i.b, .int .i64 i.c, .string i.s, .slice i.A i.n i.cap] 31)).1
    rwa [World.size_alloc] at this
theorem Boxed.cells {w' : World} {b c B : Nat} {C : CV} {p : PV} {i : IV} (h : Boxed w' b c B C p i) : (w'.cell? ⟨b, 0, none⟩ = some (.slice C.A0 C.n0 C.c0) ∧ w'.cell? ⟨b, 1, none⟩ = some (.slice C.A1 C.n1 C.c1) ∧ w'.cell? ⟨b, 2, none⟩ = some (.slice C.A2 C.n2 C.c2) ∧ w'.cell? ⟨b, 3, none⟩ = some (.slice C.A3 C.n3 C.c3) ∧ w'.cell? ⟨b, 4, none⟩ = some (.slice C.A4 C.n4 C.c4) ∧ w'.cell? ⟨b, 5, none⟩ = some (.slice C.A5 C.n5 C.c5) ∧ w'.cell? ⟨b, 6, none⟩ = some (.slice C.A6 C.n6 C.c6) ∧ w'.cell? ⟨b, 7, none⟩ = some (.int .i64 p.regs) ∧ w'.cell? ⟨b, 8, none⟩ = some (.slice p.A p.n p.c) ∧ w'.cell? ⟨b, 9, none⟩ = some (.int .i64 p.loops) ∧ w'.cell? ⟨b, 10, none⟩ = some (.slice p.A' p.n' p.c')) ∧ (w'.cell? ⟨c, 0, none⟩ = some (.int .u8 i.op) ∧ w'.cell? ⟨c, 1, none⟩ = some (.int .i64 i.a) ∧ w'.cell? ⟨c, 2, none⟩ = some (.int .i64 i.b) ∧ w'.cell? ⟨c, 3, none⟩ = some (.int .i64 i.c) ∧ w'.cell? ⟨c, 4, none⟩ = some (.string i.s) ∧ w'.cell? ⟨c, 5, none⟩ = some (.slice i.A i.n i.cap)) := ⟨pcells h.pl, icells h.il⟩
theorem Boxed.all {w w' : World} {B : Nat} {C : CV} {p : PV} {i : IV} (h : Boxed w' w.heap.size (w.heap.size + 1) B C p i) : w'.cell? ⟨w.heap.size, 0, none⟩ = some (.slice C.A0 C.n0 C.c0) ∧ w'.cell? ⟨w.heap.size, 1, none⟩ = some (.slice C.A1 C.n1 C.c1) ∧ w'.cell? ⟨w.heap.size, 2, none⟩ = some (.slice C.A2 C.n2 C.c2) ∧ w'.cell? ⟨w.heap.size, 3, none⟩ = some (.slice C.A3 C.n3 C.c3) ∧ w'.cell? ⟨w.heap.size, 4, none⟩ = some (.slice C.A4 C.n4 C.c4) ∧ w'.cell? ⟨w.heap.size, 5, none⟩ = some (.slice C.A5 C.n5 C.c5) ∧ w'.cell? ⟨w.heap.size, 6, none⟩ = some (.slice C.A6 C.n6 C.c6) ∧ w'.cell? ⟨w.heap.size, 7, none⟩ = some (.int .i64 p.regs) ∧ w'.cell? ⟨w.heap.size, 8, none⟩ = some (.slice p.A p.n p.c) ∧ w'.cell? ⟨w.heap.size, 9, none⟩ = some (.int .i64 p.loops) ∧ w'.cell? ⟨w.heap.size, 10, none⟩ = some (.slice p.A' p.n' p.c') ∧ w'.cell? ⟨w.heap.size + 1, 0, none⟩ = some (.int .u8 i.op) ∧ w'.cell? ⟨w.heap.size + 1, 1, none⟩ = some (.int .i64 i.a) ∧ w'.cell? ⟨w.heap.size + 1, 2, none⟩ = some (.int .i64 i.b) ∧ w'.cell? ⟨w.heap.size + 1, 3, none⟩ = some (.int .i64 i.c) ∧ w'.cell? ⟨w.heap.size + 1, 4, none⟩ = some (.string i.s) ∧ w'.cell? ⟨w.heap.size + 1, 5, none⟩ = some (.slice i.A i.n i.cap) := by
  have := h.cells
  simp only [and_assoc] at this
  exact this
set_option maxHeartbeats 1000000 in
set_option maxRecDepth 20000 in
theorem p_abc {C : CV} {p : PV} {w : World} {B : Nat} (h : PlaceAt w B C p) (i : IV) (hi : IOk i) (u0 u1 u2 : UInt8) :
    Calls Tryd.prog 16 #[.agg #[.slice C.A0 C.n0 C.c0, .slice C.A1 C.n1 C.c1, .slice C.A2 C.n2 C.c2, .slice C.A3 C.n3 C.c3, .slice C.A4 C.n4 C.c4, .slice C.A5 C.n5 C.c5, .slice C.A6 C.n6 C.c6, .int .i64 p.regs, .slice p.A p.n p.c, .int .i64 p.loops, .slice p.A' p.n' p.c'], .string ⟨#[u0, u1, u2]⟩, .agg #[.int .u8 i.op, .int .i64 i.a, .int .i64 i.b, .int .i64 i.c, .string i.s, .slice i.A i.n i.cap]] w fun e w' => e = .returned (.bool (abcB C p [u0, u1, u2] i)) ∧ Below w.heap.size w w' := by
  have HX := Lib.hid (Boxed.made i h)
  clear h
  have HR : Hid (abcB C p [u0, u1, u2] i = (mayB C p u0.toNat i.a && (mayB C p u1.toNat i.b && mayB C p u2.toNat i.c))) := rfl
  obtain ⟨x0, h0⟩ : ∃ x, x = mayB C p u0.toNat i.a := ⟨_, rfl⟩
  obtain ⟨x1, h1⟩ : ∃ x, x = mayB C p u1.toNat i.b := ⟨_, rfl⟩
  obtain ⟨x2, h2⟩ : ∃ x, x = mayB C p u2.toNat i.c := ⟨_, rfl⟩
  rw [HR.out, ← h0, ← h1, ← h2]
  have H0 : Hid (x0 = mayB C p ((⟨#[u0, u1, u2]⟩ : ByteArray)[0]'(by show 0 < 3; omega)).toNat i.a) := h0
  have H1 : Hid (x1 = mayB C p ((⟨#[u0, u1, u2]⟩ : ByteArray)[1]'(by show 1 < 3; omega)).toNat i.b) := h1
  have H2 : Hid (x2 = mayB C p ((⟨#[u0, u1, u2]⟩ : ByteArray)[2]'(by show 2 < 3; omega)).toNat i.c) := h2
  clear h0 h1 h2 HR
  have hbW : Below w.heap.size w ((w.alloc (.cells #[.slice C.A0 C.n0 C.c0, .slice C.A1 C.n1 C.c1, .slice C.A2 C.n2 C.c2, .slice C.A3 C.n3 C.c3, .slice C.A4 C.n4 C.c4, .slice C.A5 C.n5 C.c5, .slice C.A6 C.n6 C.c6, .int .i64 p.regs, .slice p.A p.n p.c, .int .i64 p.loops, .slice p.A' p.n' p.c'] 46)).alloc (.cells #[.int .u8 i.op, .int .i64 i.a, .int .i64 i.b, .int .i64 i.c, .string i.s, .slice i.A i.n i.cap] 31)) := ((Below.refl _ _).alloc (Nat.le_refl _) _).alloc (by simp) _
  have HSZ : Hid (w.heap.size + 2 = ((w.alloc (.cells #[.slice C.A0 C.n0 C.c0, .slice C.A1 C.n1 C.c1, .slice C.A2 C.n2 C.c2, .slice C.A3 C.n3 C.c3, .slice C.A4 C.n4 C.c4, .slice C.A5 C.n5 C.c5, .slice C.A6 C.n6 C.c6, .int .i64 p.regs, .slice p.A p.n p.c, .int .i64 p.loops, .slice p.A' p.n' p.c'] 46)).alloc (.cells #[.int .u8 i.op, .int .i64 i.a, .int .i64 i.b, .int .i64 i.c, .string i.s, .slice i.A i.n i.cap] 31)).heap.size) := by unfold Hid; simp
  go_enter Tryd.func16, Tryd.ntmps16
  go_wp2_with fail
  cases x0
  · refine wp_region_segs [5, 6, 7] (by kernel_rfl) (by kernel_rfl) ?_
    (refine seg_step (fun K hK => ?_); simp only [List.take_succ_cons, List.take_zero, List.drop_succ_cons, List.drop_zero]; (repeat still_step); refine wpStill_nil ?_)
    go_wp2_with (((with_reducible refine (p_may HX.out.drew.at_ _ _ hi.a).mono ?_); rintro e w2 ⟨rfl, hb2⟩; rw [← H0.out]))
    (refine seg_step (fun K hK => ?_); simp only [List.take_succ_cons, List.take_zero, List.drop_succ_cons, List.drop_zero]; (repeat still_step); refine wpStill_nil ?_)
    go_wp2_with fail
    (refine seg_step (fun K hK => ?_); simp only [List.take_succ_cons, List.take_zero, List.drop_succ_cons, List.drop_zero]; (repeat still_step); refine wpStill_nil ?_)
    go_wp2_with fail
    (refine seg_done ?_; simp only [List.drop_succ_cons, List.drop_zero]; go_wp2_with fail)
    go_ret
    exact ⟨rfl, (Gr.trans hbW (Below.refl _ _).drew).trans (hb2.mono (by simp; omega))⟩
  · cases x1
    · refine wp_region_segs [5, 6, 7] (by kernel_rfl) (by kernel_rfl) ?_
      (refine seg_step (fun K hK => ?_); simp only [List.take_succ_cons, List.take_zero, List.drop_succ_cons, List.drop_zero]; (repeat still_step); refine wpStill_nil ?_)
      go_wp2_with (((with_reducible refine (p_may HX.out.drew.at_ _ _ hi.a).mono ?_); rintro e w2 ⟨rfl, hb2⟩; rw [← H0.out]))
      have hX2 := HX.out.drew.keep hb2
      have hbW2 := Gr.trans (Gr.trans hbW (Below.refl _ _).drew) hb2
      have hall2 := hX2.all
      (refine seg_step (fun K hK => ?_); simp only [List.take_succ_cons, List.take_zero, List.drop_succ_cons, List.drop_zero]; (repeat still_step); refine wpStill_nil ?_)
      go_wp2_with (((with_reducible refine (p_may hX2.at_ _ _ hi.b).mono ?_); rintro e w3 ⟨rfl, hb3⟩; rw [← H1.out]))
      (refine seg_step (fun K hK => ?_); simp only [List.take_succ_cons, List.take_zero, List.drop_succ_cons, List.drop_zero]; (repeat still_step); refine wpStill_nil ?_)
      go_wp2_with fail
      (refine seg_done ?_; simp only [List.drop_succ_cons, List.drop_zero]; go_wp2_with fail)
      go_ret
      exact ⟨rfl, Gr.trans hbW2 hb3⟩
    · refine wp_region_segs [5, 6, 7] (by kernel_rfl) (by kernel_rfl) ?_
      (refine seg_step (fun K hK => ?_); simp only [List.take_succ_cons, List.take_zero, List.drop_succ_cons, List.drop_zero]; (repeat still_step); refine wpStill_nil ?_)
      go_wp2_with (((with_reducible refine (p_may HX.out.drew.at_ _ _ hi.a).mono ?_); rintro e w2 ⟨rfl, hb2⟩; rw [← H0.out]))
      have hX2 := HX.out.drew.keep hb2
      have hbW2 := Gr.trans (Gr.trans hbW (Below.refl _ _).drew) hb2
      have hall2 := hX2.all
      (refine seg_step (fun K hK => ?_); simp only [List.take_succ_cons, List.take_zero, List.drop_succ_cons, List.drop_zero]; (repeat still_step); refine wpStill_nil ?_)
      go_wp2_with (((with_reducible refine (p_may hX2.at_ _ _ hi.b).mono ?_); rintro e w3 ⟨rfl, hb3⟩; rw [← H1.out]))
      have hX3 := hX2.keep hb3
      have hall3 := hX3.all
      (refine seg_step (fun K hK => ?_); simp only [List.take_succ_cons, List.take_zero, List.drop_succ_cons, List.drop_zero]; (repeat still_step); refine wpStill_nil ?_)
      go_wp2_with (((with_reducible refine (p_may hX3.at_ _ _ hi.c).mono ?_); rintro e w4 ⟨rfl, hb4⟩; rw [← H2.out]))
      (refine seg_done ?_; simp only [List.drop_succ_cons, List.drop_zero]; go_wp2_with fail)
      go_ret
      exact ⟨rfl, Gr.trans (Gr.trans hbW2 hb3) hb4⟩
end Go.Proofs.YtankpckkiikmaaaDoor
namespace Go.Proofs.YtankpckkiikmaaaDoor
open Go.RowKit Cod
/-- A row of numbers that came in. -/
def Ints (w : World) (B : Nat) (A : Option Addr) (n : Nat) (xs : List Int) : Prop :=
  xs.length = n ∧ n ≤ maxLen ∧ (∀ x ∈ xs, (Lit.int .i64 x).wf = true) ∧ (0 < n → ∃ b o, A = some ⟨b, o, none⟩ ∧ b < B ∧ ∀ i, (hi : i < xs.length) → w.cell? ⟨b, o + i, none⟩ = some (.int .i64 xs[i]))
theorem Ints.below {w w' : World} {B : Nat} {A : Option Addr} {n : Nat} {xs : List Int} (h : Ints w B A n xs) (hb : Below B w w') : Ints w' B A n xs :=
  ⟨h.1, h.2.1, h.2.2.1, fun hn => by
    obtain ⟨b, o, hA, hB, hc⟩ := h.2.2.2 hn
    exact ⟨b, o, hA, hB, fun i hi => (hb.cell (p := ⟨b, o + i, none⟩) hB).trans (hc i hi)⟩⟩
theorem Ints.keep {w w' : World} {B : Nat} {A : Option Addr} {n : Nat} {xs : List Int} (h : Ints w B A n xs) (hB : B ≤ w.heap.size) (hb : Below w.heap.size w w') : Ints w' B A n xs := h.below (hb.mono hB)
theorem Ints.at {w : World} {B : Nat} {A : Option Addr} {n : Nat} {xs : List Int} (h : Ints w B A n xs) {k : Nat} (hk : k < n) : ∃ b o, A = some ⟨b, o, none⟩ ∧ b < B ∧ ∃ x, xs[k]? = some x ∧ (Lit.int .i64 x).wf = true ∧ w.cell? ⟨b, o + k, none⟩ = some (.int .i64 x) := by
  obtain ⟨b, o, hA, hB, hc⟩ := h.2.2.2 (by omega)
  have hk' : k < xs.length := by rw [h.1]; exact hk
  exact ⟨b, o, hA, hB, xs[k], List.getElem?_eq_getElem hk', h.2.2.1 _ (List.getElem_mem _), hc k hk'⟩
def Cod.allB (p : PV) (l : List Int) : Bool := l.all (regB p)
structure BoxP (W : World) (b B : Nat) (C : CV) (p : PV) : Prop where
  pl : W.heap[b]? = some (.cells #[.slice C.A0 C.n0 C.c0, .slice C.A1 C.n1 C.c1, .slice C.A2 C.n2 C.c2, .slice C.A3 C.n3 C.c3, .slice C.A4 C.n4 C.c4, .slice C.A5 C.n5 C.c5, .slice C.A6 C.n6 C.c6, .int .i64 p.regs, .slice p.A p.n p.c, .int .i64 p.loops, .slice p.A' p.n' p.c'] 46 (0, 0))
  at_ : PlaceAt W B C p
theorem BoxP.keep {W W' : World} {b B : Nat} {C : CV} {p : PV} (h : BoxP W b B C p) (hb : Below W.heap.size W W') : BoxP W' b B C p :=
  ⟨(hb.block b (Array.getElem?_eq_some_iff.1 h.pl).1).trans h.pl, h.at_.keep hb⟩
theorem BoxP.made {w : World} {B : Nat} {C : CV} {p : PV} (h : PlaceAt w B C p) : BoxP (w.alloc (.cells #[.slice C.A0 C.n0 C.c0, .slice C.A1 C.n1 C.c1, .slice C.A2 C.n2 C.c2, .slice C.A3 C.n3 C.c3, .slice C.A4 C.n4 C.c4, .slice C.A5 C.n5 C.c5, .slice C.A6 C.n6 C.c6, .int .i64 p.regs, .slice p.A p.n p.c, .int .i64 p.loops, .slice p.A' p.n' p.c'] 46)) w.heap.size B C p :=
  ⟨(MapKept.heap_alloc w _).1, h.keep ((Below.refl _ _).alloc (Nat.le_refl _) _)⟩
theorem Boxed.box {W : World} {b c B : Nat} {C : CV} {p : PV} {i : IV} (h : Boxed W b c B C p i) : BoxP W b B C p := ⟨h.pl, h.at_⟩
theorem below_drewN {w w' : World} {B : Nat} (h : Below B w w') (n : Nat) : Below B w (w'.drewN n) := ⟨h.os, h.tape, h.output, h.size, h.block⟩
def IdxPost (x : Bool) (w : World) (e : Ending) (w' : World) : Prop := ∃ r : Int, e = .returned (.int .i64 r) ∧ -1 ≤ r ∧ decide (0 ≤ r) = x ∧ Below w.heap.size w w'
theorem p_regs1 {C : CV} {p : PV} {w : World} {b B : Nat} (h : BoxP w b B C p) (n : Int) (hn : (Lit.int .i64 n).wf = true) :
    Calls Tryd.prog 54 #[.int .i64 n, .pointer (some ⟨b, 0, none⟩)] w fun e w' => e = .returned (.bool (!regB p n)) ∧ Below w.heap.size w w' := by
  have HX := Lib.hid h
  have hall := pcells h.pl
  have HM : Hid (mayB C p 114 n = regB p n) := rfl
  clear h
  go_enter Tryd.func54, Tryd.ntmps54
  go_wp2_with (((with_reducible refine (p_may HX.out.at_ _ _ hn).mono ?_); rintro e w2 ⟨rfl, hb2⟩; rw [HM.out]))
  go_ret
  exact ⟨rfl, hb2⟩
set_option maxRecDepth 20000 in
set_option maxHeartbeats 1000000 in
theorem p_idx {C : CV} {p : PV} {w : World} {b B : Nat} (h : BoxP w b B C p) (A : Option Addr) (n cap : Nat) (l : List Int) (hl : Ints w B A n l) :
    Calls Tryd.prog 58 #[.slice A n cap, .func (.func 54) #[] #[.pointer (some ⟨b, 0, none⟩)]] w (IdxPost (!allB p l) w) := by
  have HX := Lib.hid h
  have HL := Lib.hid hl
  have hm := hl.2.1
  unfold maxLen at hm
  clear h hl
  go_enter Tryd.func58, Tryd.ntmps58
  go_wp2_with fail
  go_loopw [8] (fun i wr => ∃ k : Nat, k ≤ n ∧ i = .int .i64 k ∧ allB p (l.take k) = true ∧ Below w.heap.size w wr) (fun i wr => n - (intOf i).toNat)
  case atStart => exact ⟨0, Nat.zero_le _, rfl, rfl, Below.refl _ _⟩
  case round =>
    obtain ⟨k, hk, rfl, hall, hb⟩ := hrel
    have HAL := Lib.hid hall
    clear hall
    by_cases hlt : k < n
    · obtain ⟨c, o, rfl, hc, x, hx, hwf, hcell⟩ := (HL.out.keep HX.out.at_.le hb).at hlt
      have HXX := Lib.hid hx
      have HXr := Lib.hid (HX.out.keep hb)
      have HT : Hid (allB p (l.take (k + 1)) = regB p x) := by
        unfold Hid allB
        rw [List.take_add_one, hx, List.all_append, show (l.take k).all (regB p) = true from HAL.out]
        simp
      clear hx
      cases hr : regB p x
      · have HR := Lib.hid hr
        have HALL : Hid (allB p l = false) := by
          unfold Hid allB
          rw [List.all_eq_false]
          exact ⟨x, List.mem_of_getElem? HXX.out, by rw [hr]; decide⟩
        clear hr
        go_wp2_with (((with_reducible refine (p_regs1 HXr.out x hwf).mono ?_); rintro e w2 ⟨rfl, hb2⟩; rw [HR.out]))
        go_ret
        exact ⟨k, rfl, by omega, by rw [HALL.out]; simp, Gr.trans hb hb2⟩
      · have HR := Lib.hid hr
        rw [hr] at HT
        clear hr
        go_wp2_with (((with_reducible refine (p_regs1 HXr.out x hwf).mono ?_); rintro e w2 ⟨rfl, hb2⟩; rw [HR.out]))
        go_roundw
        case rel => exact ⟨k + 1, by omega, by go_num, HT.out, Gr.trans hb hb2⟩
        case measure => simp [intOf]; omega
    · obtain rfl : k = n := by omega
      go_wp2_with fail
      go_ret
      exact ⟨-1, rfl, by omega, by rw [show allB p l = true from by have := HAL.out; rwa [List.take_of_length_le (by rw [HL.out.1]; exact Nat.le_refl _)] at this]; rfl, hb⟩
theorem p_cont {C : CV} {p : PV} {w : World} {b B : Nat} (h : BoxP w b B C p) (A : Option Addr) (n cap : Nat) (l : List Int) (hl : Ints w B A n l) :
    Calls Tryd.prog 53 #[.slice A n cap, .func (.func 54) #[] #[.pointer (some ⟨b, 0, none⟩)]] w fun e w' => e = .returned (.bool (!allB p l)) ∧ Below w.heap.size w w' := by
  go_enter Tryd.func53, Tryd.ntmps53
  go_wp2_with (((with_reducible refine (p_idx h A n cap l hl).mono ?_); rintro e w2 ⟨r, rfl, hr0, hr, hb2⟩; have HR := Lib.hid hr; clear hr))
  all_goals (go_ret; exact ⟨ret_bool (by rw [← HR.out] <;> simp [*]), hb2⟩)
theorem p_regs {C : CV} {p : PV} {w : World} {B : Nat} (h : PlaceAt w B C p) (A : Option Addr) (n cap : Nat) (l : List Int) (hl : Ints w B A n l) :
    Calls Tryd.prog 41 #[.agg #[.slice C.A0 C.n0 C.c0, .slice C.A1 C.n1 C.c1, .slice C.A2 C.n2 C.c2, .slice C.A3 C.n3 C.c3, .slice C.A4 C.n4 C.c4, .slice C.A5 C.n5 C.c5, .slice C.A6 C.n6 C.c6, .int .i64 p.regs, .slice p.A p.n p.c, .int .i64 p.loops, .slice p.A' p.n' p.c'], .slice A n cap] w fun e w' => e = .returned (.bool (allB p l)) ∧ Below w.heap.size w w' := by
  have HX := Lib.hid (BoxP.made h)
  have HL := Lib.hid (hl.keep h.le ((Below.refl _ _).alloc (Nat.le_refl _) (.cells #[.slice C.A0 C.n0 C.c0, .slice C.A1 C.n1 C.c1, .slice C.A2 C.n2 C.c2, .slice C.A3 C.n3 C.c3, .slice C.A4 C.n4 C.c4, .slice C.A5 C.n5 C.c5, .slice C.A6 C.n6 C.c6, .int .i64 p.regs, .slice p.A p.n p.c, .int .i64 p.loops, .slice p.A' p.n' p.c'] 46)))
  clear h hl
  go_enter Tryd.func41, Tryd.ntmps41
  go_wp2_with (((with_reducible refine (p_cont HX.out A n cap l HL.out).mono ?_); rintro e w2 ⟨rfl, hb2⟩))
  go_ret
  exact ⟨ret_bool (by simp), ((Below.refl _ _).alloc (Nat.le_refl _) _).trans (hb2.mono (by simp))⟩

/-- Code that came in. -/
structure CodeAt (w : World) (B : Nat) (C : CV) : Prop where
  glob : Bools w B C.A1 C.n1 C.globals
  fns : Ints w B C.A3 C.n3 C.fns
  plen : C.parts.length = C.n2
  parts : 0 < C.n2 → ∃ b o, C.A2 = some ⟨b, o, none⟩ ∧ b < B ∧ ∀ j, (hj : j < C.parts.length) → w.cell? ⟨b, o + j * 4, none⟩ = some (.int .i64 C.parts[j].regs) ∧ w.cell? ⟨b, o + j * 4 + 1, none⟩ = some (.slice C.parts[j].A C.parts[j].n C.parts[j].c) ∧ w.cell? ⟨b, o + j * 4 + 2, none⟩ = some (.int .i64 C.parts[j].loops) ∧ w.cell? ⟨b, o + j * 4 + 3, none⟩ = some (.slice C.parts[j].A' C.parts[j].n' C.parts[j].c')
  each : ∀ q ∈ C.parts, Bools w B q.A q.n q.arrays ∧ (Lit.int .i64 q.regs).wf = true ∧ (Lit.int .i64 q.loops).wf = true ∧ q.n' ≤ maxLen
  le : B ≤ w.heap.size
  n0 : C.n0 ≤ maxLen
  n2 : C.n2 ≤ maxLen
  n3 : C.n3 ≤ maxLen
theorem CodeAt.keep {w w' : World} {B : Nat} {C : CV} (h : CodeAt w B C) (hb : Below w.heap.size w w') : CodeAt w' B C := by
  refine ⟨h.glob.below (hb.mono h.le), h.fns.below (hb.mono h.le), h.plen, fun hn => ?_, fun q hq => ⟨(h.each q hq).1.below (hb.mono h.le), (h.each q hq).2⟩, Nat.le_trans h.le hb.size, h.n0, h.n2, h.n3⟩
  obtain ⟨b, o, hA, hB, hc⟩ := h.parts hn
  have hlt : b < w.heap.size := Nat.lt_of_lt_of_le hB h.le
  refine ⟨b, o, hA, hB, fun j hj => ⟨(hb.cell (p := ⟨b, o + j * 4, none⟩) hlt).trans (hc j hj).1, (hb.cell (p := ⟨b, o + j * 4 + 1, none⟩) hlt).trans (hc j hj).2.1, (hb.cell (p := ⟨b, o + j * 4 + 2, none⟩) hlt).trans (hc j hj).2.2.1, (hb.cell (p := ⟨b, o + j * 4 + 3, none⟩) hlt).trans (hc j hj).2.2.2⟩⟩
theorem CodeAt.part {w : World} {B : Nat} {C : CV} (h : CodeAt w B C) {j : Nat} (hj : j < C.n2) : ∃ b o q, C.A2 = some ⟨b, o, none⟩ ∧ b < w.heap.size ∧ C.parts[j]? = some q ∧ PlaceAt w B C q ∧
    w.cell? ⟨b, o + j * 4, none⟩ = some (.int .i64 q.regs) ∧ w.cell? ⟨b, o + j * 4 + 1, none⟩ = some (.slice q.A q.n q.c) ∧ w.cell? ⟨b, o + j * 4 + 2, none⟩ = some (.int .i64 q.loops) ∧ w.cell? ⟨b, o + j * 4 + 3, none⟩ = some (.slice q.A' q.n' q.c') := by
  obtain ⟨b, o, hA, hB, hc⟩ := h.parts (by omega)
  have hj' : j < C.parts.length := by rw [h.plen]; exact hj
  have he := h.each _ (List.getElem_mem hj')
  exact ⟨b, o, C.parts[j], hA, Nat.lt_of_lt_of_le hB h.le, List.getElem?_eq_getElem hj', ⟨h.glob, he.1, h.le, he.2.1, he.2.2.1, h.n0, h.n2, h.n3, he.2.2.2⟩, hc j hj'⟩
def Cod.argB (C : CV) (p : PV) (q : PV) (l : List Int) : Bool := (l.zip q.arrays).all (fun x => if x.2 then arrB C p x.1 else regB p x.1)
def Cod.argsB (C : CV) (p : PV) (i : IV) : Bool :=
  regB p i.a && (inB i.b C.n3 && (i.c == 0 && match at? C.fns i.b with
    | none => false
    | some f => inB f C.n2 && match at? C.parts f with
      | none => false
      | some q => decide (i.n ≤ q.n) && argB C p q i.args))
set_option maxRecDepth 20000 in
set_option maxHeartbeats 4000000 in
theorem p_args {C : CV} {p : PV} {w : World} {B : Nat} (h : PlaceAt w B C p) (hC : CodeAt w B C) (i : IV) (hi : IOk i) (hl : Ints w B i.A i.n i.args) :
    Calls Tryd.prog 40 #[.agg #[.slice C.A0 C.n0 C.c0, .slice C.A1 C.n1 C.c1, .slice C.A2 C.n2 C.c2, .slice C.A3 C.n3 C.c3, .slice C.A4 C.n4 C.c4, .slice C.A5 C.n5 C.c5, .slice C.A6 C.n6 C.c6, .int .i64 p.regs, .slice p.A p.n p.c, .int .i64 p.loops, .slice p.A' p.n' p.c'], .agg #[.int .u8 i.op, .int .i64 i.a, .int .i64 i.b, .int .i64 i.c, .string i.s, .slice i.A i.n i.cap]] w fun e w' => e = .returned (.bool (argsB C p i)) ∧ Below w.heap.size w w' := by
  have HX := Lib.hid (Boxed.made i h)
  have hbW : Below w.heap.size w ((w.alloc (.cells #[.slice C.A0 C.n0 C.c0, .slice C.A1 C.n1 C.c1, .slice C.A2 C.n2 C.c2, .slice C.A3 C.n3 C.c3, .slice C.A4 C.n4 C.c4, .slice C.A5 C.n5 C.c5, .slice C.A6 C.n6 C.c6, .int .i64 p.regs, .slice p.A p.n p.c, .int .i64 p.loops, .slice p.A' p.n' p.c'] 46)).alloc (.cells #[.int .u8 i.op, .int .i64 i.a, .int .i64 i.b, .int .i64 i.c, .string i.s, .slice i.A i.n i.cap] 31)) := ((Below.refl _ _).alloc (Nat.le_refl _) _).alloc (by simp) _
  have HC := Lib.hid hC
  have HL := Lib.hid hl
  have hnn := hl.2.1
  have hn3 := hC.n3
  have hn2 := hC.n2
  unfold maxLen at hnn hn3 hn2
  obtain ⟨b1, b2⟩ := i64_bd hi.b
  have HM : Hid (mayB C p 114 i.a = regB p i.a) := rfl
  clear h hl hC
  cases hr : regB p i.a
  · have HR : Hid (argsB C p i = false) := by unfold Hid argsB; rw [hr]; rfl
    have HRR := Lib.hid hr
    clear hr
    go_enter Tryd.func40, Tryd.ntmps40
    go_wp2_with (((with_reducible refine (p_may HX.out.at_ _ _ hi.a).mono ?_); rintro e w2 ⟨rfl, hb2⟩; rw [HM.out, HRR.out]))
    go_ret
    exact ⟨ret_bool HR.out.symm, Gr.trans hbW hb2⟩
  · have HRR := Lib.hid hr
    have HNO : ∀ x : Bool, Hid (argsB C p i = x) → Hid (argsB C p i = x) := fun _ h => h
    by_cases c1 : i.b < 0
    · have HR : Hid (argsB C p i = false) := by
        unfold Hid argsB; rw [show inB i.b C.n3 = false by simp [inB]; omega]; simp
      clear hr
      go_enter Tryd.func40, Tryd.ntmps40
      go_wp2_with (((with_reducible refine (p_may HX.out.at_ _ _ hi.a).mono ?_); rintro e w2 ⟨rfl, hb2⟩; rw [HM.out, HRR.out]; have hall := (HX.out.keep hb2).all; have HX2 := Lib.hid (HX.out.keep hb2); have HW2 := Lib.hid (Gr.trans hbW hb2); clear hb2))
      go_ret
      exact ⟨ret_bool HR.out.symm, HW2.out⟩
    · obtain ⟨j, hj⟩ : ∃ j : Nat, i.b = j := ⟨i.b.toNat, by omega⟩
      by_cases c2 : j < C.n3
      case neg =>
        have HR : Hid (argsB C p i = false) := by
          unfold Hid argsB; rw [show inB i.b C.n3 = false by simp [inB]; omega]; simp
        have c2' : (C.n3 : Int) ≤ i.b := by omega
        clear hr hj c2
        go_enter Tryd.func40, Tryd.ntmps40
        go_wp2_with (((with_reducible refine (p_may HX.out.at_ _ _ hi.a).mono ?_); rintro e w2 ⟨rfl, hb2⟩; rw [HM.out, HRR.out]; have hall := (HX.out.keep hb2).all; have HX2 := Lib.hid (HX.out.keep hb2); have HW2 := Lib.hid (Gr.trans hbW hb2); clear hb2))
        go_ret
        exact ⟨ret_bool HR.out.symm, HW2.out⟩
      case pos =>
        have hin : inB i.b C.n3 = true := by simp [inB]; omega
        have c2' : i.b < (C.n3 : Int) := by omega
        by_cases c3 : i.c = 0
        case neg =>
          have c3' : (i.c != 0) = true := by simpa using c3
          have HR : Hid (argsB C p i = false) := by
            unfold Hid argsB; rw [show (i.c == 0) = false by simpa using c3]; simp
          clear hr hin hj c3
          go_enter Tryd.func40, Tryd.ntmps40
          go_wp2_with (((with_reducible refine (p_may HX.out.at_ _ _ hi.a).mono ?_); rintro e w2 ⟨rfl, hb2⟩; rw [HM.out, HRR.out]; have hall := (HX.out.keep hb2).all; have HX2 := Lib.hid (HX.out.keep hb2); have HW2 := Lib.hid (Gr.trans hbW hb2); clear hb2))
          go_ret
          exact ⟨ret_bool HR.out.symm, HW2.out⟩
        case pos =>
          have c3' : (i.c != 0) = false := by simpa using c3
          have c3b : (i.c == 0) = true := by simpa using c3
          obtain ⟨fb, fo, hfA, hfb, f, hf, hfw, hfc⟩ := HC.out.fns.at c2
          have hfl : fb < w.heap.size := Nat.lt_of_lt_of_le hfb HC.out.le
          have hat : at? C.fns i.b = some f := by unfold at?; rw [if_pos (by omega), hj, Int.toNat_natCast]; exact hf
          have HR0 : Hid (argsB C p i = (inB f C.n2 && match at? C.parts f with
            | none => false
            | some q => decide (i.n ≤ q.n) && argB C p q i.args)) := by
            unfold Hid argsB
            rw [hr, hin, c3b, hat]
            simp
          have HJ := Lib.hid hj
          have HFA := Lib.hid hfA
          have HFC : ∀ w2, Below w.heap.size w w2 → w2.cell? ⟨fb, fo + j, none⟩ = some (.int .i64 f) := fun w2 hb => (hb.cell (p := ⟨fb, fo + j, none⟩) hfl).trans hfc
          have HFCC := Lib.hid HFC
          have hjb : (i.b).toNat = j := by omega
          clear hr hin hf hat hfc HFC c3 c3b hj hfA
          by_cases d1 : f < 0
          · have HR : Hid (argsB C p i = false) := by
              unfold Hid; rw [HR0.out, show inB f C.n2 = false by simp [inB]; omega]; rfl
            clear HR0
            go_enter Tryd.func40, Tryd.ntmps40
            go_wp2_with (((with_reducible refine (p_may HX.out.at_ _ _ hi.a).mono ?_); rintro e w2 ⟨rfl, hb2⟩; rw [HM.out, HRR.out]; have hall := (HX.out.keep hb2).all; have HX2 := Lib.hid (HX.out.keep hb2); have HW2 := Lib.hid (Gr.trans hbW hb2); clear hb2; have hcf := HFCC.out _ HW2.out; have hfA := HFA.out))
            clear hfA
            have d1b : decide (f < 0) = true := by simpa using d1
            go_quiet (fail)
            go_wp2_with fail
            go_ret
            exact ⟨ret_bool HR.out.symm, below_drewN HW2.out _⟩
          · obtain ⟨m, rfl⟩ : ∃ m : Nat, f = m := ⟨f.toNat, by omega⟩
            have d1b : decide ((m : Int) < 0) = false := by simp
            by_cases d2 : m < C.n2
            case neg =>
              have HR : Hid (argsB C p i = false) := by
                unfold Hid; rw [HR0.out, show inB (m : Int) C.n2 = false by simp [inB]; omega]; rfl
              clear HR0
              have d2b : decide ((C.n2 : Int) ≤ (m : Int)) = true := by simp; omega
              have d2c : decide (C.n2 ≤ m) = true := by simp; omega
              have d2d : C.n2 ≤ m := by omega
              go_enter Tryd.func40, Tryd.ntmps40
              go_wp2_with (((with_reducible refine (p_may HX.out.at_ _ _ hi.a).mono ?_); rintro e w2 ⟨rfl, hb2⟩; rw [HM.out, HRR.out]; have hall := (HX.out.keep hb2).all; have HX2 := Lib.hid (HX.out.keep hb2); have HW2 := Lib.hid (Gr.trans hbW hb2); clear hb2; have hcf := HFCC.out _ HW2.out; have hfA := HFA.out))
              clear hfA
              go_quiet (fail)
              go_wp2_with fail
              go_ret
              exact ⟨ret_bool HR.out.symm, below_drewN HW2.out _⟩
            case pos =>
              have d2b : decide ((C.n2 : Int) ≤ (m : Int)) = false := by simp; omega
              have d2c : decide (C.n2 ≤ m) = false := by simp; omega
              obtain ⟨pb, po, q, hpA, hpb, hq, hqp, -, hq1, -, -⟩ := HC.out.part d2
              have hqn := hqp.arr.2.1
              unfold maxLen at hqn
              have HR1 : Hid (argsB C p i = (decide (i.n ≤ q.n) && argB C p q i.args)) := by
                unfold Hid
                rw [HR0.out, show inB (m : Int) C.n2 = true by simp [inB]; omega]
                unfold at?
                rw [if_pos (by omega), Int.toNat_natCast, hq]
                rfl
              have HQ1 : Hid (∀ w2, Below w.heap.size w w2 → w2.cell? ⟨pb, po + m * 4 + 1, none⟩ = some (.slice q.A q.n q.c)) := fun w2 hb => (hb.cell (p := ⟨pb, po + m * 4 + 1, none⟩) hpb).trans hq1
              have HPA := Lib.hid hpA
              have HQA := Lib.hid hqp.arr
              clear HR0 hq hq1 hqp hpA
              by_cases d3 : i.n ≤ q.n
              case neg =>
                have HR : Hid (argsB C p i = false) := by unfold Hid; rw [HR1.out, decide_eq_false d3]; rfl
                clear HR1
                have d3b : decide ((q.n : Int) < (i.n : Int)) = true := by simp; omega
                have d3c : decide (q.n < i.n) = true := by simp; omega
                go_enter Tryd.func40, Tryd.ntmps40
                go_wp2_with (((with_reducible refine (p_may HX.out.at_ _ _ hi.a).mono ?_); rintro e w2 ⟨rfl, hb2⟩; rw [HM.out, HRR.out]; have hall := (HX.out.keep hb2).all; have HX2 := Lib.hid (HX.out.keep hb2); have HW2 := Lib.hid (Gr.trans hbW hb2); clear hb2; have hcf := HFCC.out _ HW2.out; have hfA := HFA.out))
                clear hfA
                have hq1 := HQ1.out _ HW2.out
                have hpA := HPA.out
                go_quiet (fail)
                clear hpA
                go_wp2_with fail
                go_ret
                exact ⟨ret_bool HR.out.symm, below_drewN HW2.out _⟩
              case pos =>
                have HR : Hid (argsB C p i = argB C p q i.args) := by unfold Hid; rw [HR1.out, decide_eq_true d3]; rfl
                clear HR1
                have d3b : decide ((q.n : Int) < (i.n : Int)) = false := by simp; omega
                have d3c : decide (q.n < i.n) = false := by simp; omega
                go_enter Tryd.func40, Tryd.ntmps40
                go_wp2_with (((with_reducible refine (p_may HX.out.at_ _ _ hi.a).mono ?_); rintro e w2 ⟨rfl, hb2⟩; rw [HM.out, HRR.out]; have hall := (HX.out.keep hb2).all; have HX2 := Lib.hid (HX.out.keep hb2); have HW2 := Lib.hid (Gr.trans hbW hb2); clear hb2; have hcf := HFCC.out _ HW2.out; have hfA := HFA.out))
                clear hfA
                have hq1 := HQ1.out _ HW2.out
                have hpA := HPA.out
                go_quiet (fail)
                go_wp2_with fail
                rw [← hpA]
                clear hpA
                go_loopw [67] (fun i0 wr => ∃ k : Nat, k ≤ i.n ∧ i0 = .int .i64 k ∧ argB C p q (i.args.take k) = true ∧ Below w.heap.size w wr ∧ Boxed wr w.heap.size (w.heap.size + 1) B C p i) (fun i0 wr => i.n - (intOf i0).toNat)
                case atStart => exact ⟨0, Nat.zero_le _, rfl, rfl, below_drewN HW2.out _, HX2.out.keep (below_drewN (Below.refl _ _) _)⟩
                case round =>
                  obtain ⟨k, hk, rfl, hac, hb, hX3⟩ := hrel
                  have HAC := Lib.hid hac
                  have HX3 := Lib.hid hX3
                  have hall3 := hX3.all
                  have hq1 := HQ1.out _ hb
                  clear hac hX3 hall hcf
                  by_cases hlt : k < i.n
                  · have hkq : k < q.n := by omega
                    obtain ⟨ab, ao, hiA, hab, x, hx, hwx, hcx⟩ := (HL.out.keep HC.out.le hb).at hlt
                    obtain ⟨qb, qo, hqA, hqb, y, hy, hcy⟩ := (HQA.out.below (hb.mono HC.out.le)).at hkq
                    have hpA := HPA.out
                    have HT : Hid (argB C p q (i.args.take (k + 1)) = if y then arrB C p x else regB p x) := by
                      unfold Hid argB
                      have hz : (i.args.take (k + 1)).zip q.arrays = (i.args.take k).zip q.arrays ++ [(x, y)] := by
                        apply List.ext_getElem?
                        intro j
                        rcases Nat.lt_trichotomy j k with h | h | h
                        · rw [List.getElem?_append_left (by simp [List.length_zip]; have := HL.out.1; have := HQA.out.1; omega)]
                          simp [List.getElem?_zip_eq_some, List.zip, List.getElem?_zipWith, List.getElem?_take, h, Nat.lt_succ_of_lt h]
                        · subst h
                          rw [List.getElem?_append_right (by simp [List.length_zip]; omega)]
                          simp [List.zip, List.getElem?_zipWith, List.getElem?_take, hx, hy]
                          have := HL.out.1; have := HQA.out.1
                          rw [show j - min j (min i.args.length q.arrays.length) = 0 by omega]
                          rfl
                        · rw [List.getElem?_eq_none (by simp [List.length_zip]; omega), List.getElem?_eq_none (by simp [List.length_zip]; omega)]
                      rw [hz, List.all_append, show ((i.args.take k).zip q.arrays).all _ = true from HAC.out]
                      simp
                    have HXX := Lib.hid hx
                    have HYY := Lib.hid hy
                    obtain ⟨z, hz⟩ : ∃ z, z = if y then arrB C p x else regB p x := ⟨_, rfl⟩
                    rw [← hz] at HT
                    have HZ := Lib.hid hz
                    have HMX : Hid (y = true → mayB C p 120 x = z) := fun h => by rw [HZ.out, h]; rfl
                    have HMR : Hid (y = false → mayB C p 114 x = z) := fun h => by rw [HZ.out, h]; rfl
                    have HNO : Hid (z = false → argB C p q i.args = false) := fun h => by
                      unfold argB
                      rw [List.all_eq_false]
                      refine ⟨(x, y), ?_, by show ¬ (if y = true then arrB C p x else regB p x) = true; rw [← HZ.out, h]; decide⟩
                      apply List.mem_of_getElem? (i := k)
                      simp [List.zip, List.getElem?_zipWith, HXX.out, HYY.out]
                    clear hx hy hz
                    cases y
                    · have HMM := Lib.hid (HMR.out rfl)
                      cases z
                      · have HF := Lib.hid (HNO.out rfl)
                        go_wp2_with ((rw [← HPA.out]; (with_reducible refine (p_may HX3.out.at_ _ _ hwx).mono ?_); rintro e w3 ⟨rfl, hb3⟩; rw [HMM.out]))
                        go_ret
                        exact ⟨ret_bool (HR.out.trans HF.out).symm, Gr.trans hb hb3⟩
                      · go_wp2_with ((rw [← HPA.out]; (with_reducible refine (p_may HX3.out.at_ _ _ hwx).mono ?_); rintro e w3 ⟨rfl, hb3⟩; rw [HMM.out]))
                        rw [← hpA, ← hiA, ← hqA]
                        go_roundw
                        case rel => exact ⟨k + 1, by omega, by go_num, HT.out, Gr.trans hb hb3, HX3.out.keep hb3⟩
                        case measure => simp [intOf]; omega
                    · have HMM := Lib.hid (HMX.out rfl)
                      cases z
                      · have HF := Lib.hid (HNO.out rfl)
                        go_wp2_with ((rw [← HPA.out]; (with_reducible refine (p_may HX3.out.at_ _ _ hwx).mono ?_); rintro e w3 ⟨rfl, hb3⟩; rw [HMM.out]))
                        go_ret
                        exact ⟨ret_bool (HR.out.trans HF.out).symm, Gr.trans hb hb3⟩
                      · go_wp2_with ((rw [← HPA.out]; (with_reducible refine (p_may HX3.out.at_ _ _ hwx).mono ?_); rintro e w3 ⟨rfl, hb3⟩; rw [HMM.out]))
                        rw [← hpA, ← hiA, ← hqA]
                        go_roundw
                        case rel => exact ⟨k + 1, by omega, by go_num, HT.out, Gr.trans hb hb3, HX3.out.keep hb3⟩
                        case measure => simp [intOf]; omega
                  · obtain rfl : k = i.n := by omega
                    go_wp2_with fail
                    go_ret
                    exact ⟨ret_bool (by rw [HR.out]; have := HAC.out; rw [List.take_of_length_le (by rw [HL.out.1]; exact Nat.le_refl _)] at this; exact this.symm), hb⟩
end Go.Proofs.YtankpckkiikmaaaDoor
namespace Go.Proofs.YtankpckkiikmaaaDoor
open Go.RowKit Cod
structure Cod.RowM where
  op : Int
  u0 : UInt8
  u1 : UInt8
  u2 : UInt8
  kind : Nat
def Cod.rowsM : List RowM := [⟨1, 114, 107, 48, 0⟩, ⟨2, 114, 114, 48, 0⟩, ⟨20, 114, 114, 48, 0⟩, ⟨21, 114, 114, 48, 0⟩, ⟨7, 114, 114, 48, 0⟩, ⟨8, 114, 114, 48, 0⟩, ⟨3, 114, 103, 48, 0⟩, ⟨4, 114, 103, 48, 0⟩, ⟨10, 114, 120, 114, 0⟩, ⟨11, 114, 120, 114, 0⟩, ⟨12, 114, 120, 114, 0⟩, ⟨13, 48, 120, 114, 0⟩, ⟨14, 48, 120, 48, 0⟩, ⟨15, 114, 120, 48, 0⟩, ⟨16, 114, 114, 114, 1⟩, ⟨17, 114, 114, 114, 2⟩, ⟨18, 114, 114, 114, 0⟩, ⟨19, 114, 114, 114, 0⟩, ⟨22, 48, 48, 106, 0⟩, ⟨23, 114, 48, 106, 0⟩, ⟨24, 114, 48, 106, 0⟩, ⟨31, 108, 120, 48, 0⟩, ⟨32, 114, 108, 106, 0⟩, ⟨33, 111, 48, 48, 0⟩, ⟨35, 111, 48, 48, 0⟩, ⟨34, 48, 48, 48, 0⟩, ⟨36, 48, 48, 48, 0⟩]
def Cod.arithS : List ByteArray := [⟨#[43]⟩, ⟨#[45]⟩, ⟨#[42]⟩, ⟨#[47]⟩, ⟨#[37]⟩, ⟨#[94]⟩]
def Cod.cmpS : List ByteArray := [⟨#[60]⟩, ⟨#[60, 61]⟩, ⟨#[61, 61]⟩, ⟨#[33, 61]⟩, ⟨#[62]⟩, ⟨#[62, 61]⟩]
def Cod.saysOf (k : Nat) : List ByteArray := if k = 1 then arithS else if k = 2 then cmpS else []
def Cod.saysV (g k : Nat) : Value := if k = 1 then .slice (some ⟨g + 1, 0, none⟩) 6 6 else if k = 2 then .slice (some ⟨g + 2, 0, none⟩) 6 6 else .slice none 0 0
def Cod.rowV (g : Nat) (r : RowM) : Value := .agg #[.string ⟨#[r.u0, r.u1, r.u2]⟩, saysV g r.kind]
def Cod.rowsL (g : Nat) : List (Value × Value) := rowsM.map fun r => (.int .u8 r.op, rowV g r)
theorem rows_fresh (g : Nat) : freshB (.int .u8) (rowsL g) = true := by kernel_rfl
/-- A map of rows under way: k of them, j of the lists of signs. -/
structure RowsInv (w0 w : World) (k j : Nat) : Prop where
  map : MapLit w w0.heap.size ((rowsL w0.heap.size).take k)
  below : Below w0.heap.size w0 w
  size : w.heap.size = w0.heap.size + 1 + j
  ar : 1 ≤ j → w.heap[w0.heap.size + 1]? = some (.cells (svals arithS).toArray 9 (0, 0))
  cm : 2 ≤ j → w.heap[w0.heap.size + 2]? = some (.cells (svals cmpS).toArray 9 (0, 0))
theorem RowsInv.made (w0 : World) : RowsInv w0 (w0.alloc (.map #[] 0)) 0 0 :=
  ⟨MapLit.made w0, (Below.refl _ _).alloc (Nat.le_refl _) _, by simp, fun h => by omega, fun h => by omega⟩
theorem RowsInv.arith {w0 w : World} {k : Nat} (h : RowsInv w0 w k 0) : RowsInv w0 (w.alloc (.cells #[.string ⟨#[43]⟩, .string ⟨#[45]⟩, .string ⟨#[42]⟩, .string ⟨#[47]⟩, .string ⟨#[37]⟩, .string ⟨#[94]⟩] 9)) k 1 :=
  ⟨h.map.keep ((MapKept.heap_alloc w _).2 _ h.map.lt), h.below.alloc (by have := h.size; omega) _, by simp [h.size], fun _ => by have := (MapKept.heap_alloc w (.cells #[.string ⟨#[43]⟩, .string ⟨#[45]⟩, .string ⟨#[42]⟩, .string ⟨#[47]⟩, .string ⟨#[37]⟩, .string ⟨#[94]⟩] 9)).1; rw [h.size] at this; exact this, fun h => by omega⟩
theorem RowsInv.cmp {w0 w : World} {k : Nat} (h : RowsInv w0 w k 1) : RowsInv w0 (w.alloc (.cells #[.string ⟨#[60]⟩, .string ⟨#[60, 61]⟩, .string ⟨#[61, 61]⟩, .string ⟨#[33, 61]⟩, .string ⟨#[62]⟩, .string ⟨#[62, 61]⟩] 9)) k 2 :=
  ⟨h.map.keep ((MapKept.heap_alloc w _).2 _ h.map.lt), h.below.alloc (by have := h.size; omega) _, by simp [h.size], fun _ => by rw [(MapKept.heap_alloc w _).2 _ (by have := h.size; omega)]; exact h.ar (Nat.le_refl _), fun _ => by have := (MapKept.heap_alloc w (.cells #[.string ⟨#[60]⟩, .string ⟨#[60, 61]⟩, .string ⟨#[61, 61]⟩, .string ⟨#[33, 61]⟩, .string ⟨#[62]⟩, .string ⟨#[62, 61]⟩] 9)).1; rw [h.size] at this; exact this⟩
section
variable {ops : Array Oper} {rest : List Oper} {o : Oper} {a : Act} {Q : Exit → Act → World → Prop}
theorem wp_rows_put {w0 w : World} {k j : Nat} (h : RowsInv w0 w k j) (hg : o.guard = none) (m x v : Operand) (hop : o.op = Op.insert 56 m x v) (n : Int)
    (hm : a.eval m = .map (some w0.heap.size)) (hx : a.eval x = .int .u8 n) (hL : (rowsL w0.heap.size)[k]? = some (.int .u8 n, a.eval v))
    (hK : ∀ w', RowsInv w0 w' (k + 1) j → wpList Tryd.prog ops Q rest (a.put o.dst undef) w') : wpList Tryd.prog ops Q (o :: rest) a w := by
  refine wp_lit_put_at hg m x v 56 29 54 hop (.int .u8) Tryd.underlying56 Tryd.underlying29 _ (rows_fresh _) k h.map _ (.inl ⟨_, _, rfl, rfl⟩) hm hx hL (fun w' h1 h2 h3 => hK w' ?_)
  have hlt := h.map.lt
  exact ⟨h1, h.below.trans (h3.below _ (by omega) (fun k hk e => by omega)), by rw [h2, h.size], fun hj => (h3.block _ (by have := h.size; omega) (by omega)).trans (h.ar hj), fun hj => (h3.block _ (by have := h.size; omega) (by omega)).trans (h.cm hj)⟩
end
set_option maxRecDepth 20000 in
set_option maxHeartbeats 4000000 in
theorem p_rows (w : World) : Calls Tryd.prog 22 #[] w fun e w' => e = .returned (.map (some w.heap.size)) ∧ RowsInv w w' 27 2 := by
  have h0 := RowsInv.made w
  have HMK := @run_makeMap Tryd.prog
  go_enter Tryd.func22, Tryd.ntmps22
  go_wp2_with (first | (with_reducible refine wp_rows_put (by first | assumption | exact RowsInv.arith (by assumption) | exact RowsInv.cmp (by assumption)) rfl _ _ _ rfl _ rfl rfl rfl ?_; intro w' hinv; have hsz := hinv.size; clear h0; have h0 := hinv; clear hinv))
  go_ret
  exact ⟨rfl, h0⟩
end Go.Proofs.YtankpckkiikmaaaDoor
