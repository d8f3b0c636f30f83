/- Code: the walks of the language's own variables and of builtins. -/
import Derived.Test.YtankpckkiikmaaaDoorG2
import Derived.Test.YtankpckkiikmaaaDoorShelf
set_option linter.unusedVariables false
set_option linter.unusedSimpArgs false
namespace Go.Proofs.YtankpckkiikmaaaDoor
open Go.RowKit Cod
def Cod.specS : List ByteArray := [⟨#[78, 82]⟩, ⟨#[78, 70]⟩, ⟨#[70, 78, 82]⟩, ⟨#[70, 83]⟩, ⟨#[79, 70, 83]⟩, ⟨#[79, 82, 83]⟩, ⟨#[82, 83]⟩, ⟨#[70, 73, 76, 69, 78, 65, 77, 69]⟩, ⟨#[83, 85, 66, 83, 69, 80]⟩, ⟨#[82, 83, 84, 65, 82, 84]⟩, ⟨#[82, 76, 69, 78, 71, 84, 72]⟩, ⟨#[67, 79, 78, 86, 70, 77, 84]⟩, ⟨#[79, 70, 77, 84]⟩]
def Cod.specB (s : ByteArray) : Bool := Lib.containsS specS s
structure Cod.ManyM where
  name : ByteArray
  lo : Int
  hi : Int
def Cod.manyM : List ManyM := [⟨⟨#[108, 101, 110, 103, 116, 104]⟩, 0, 1⟩, ⟨⟨#[115, 114, 97, 110, 100]⟩, 0, 1⟩, ⟨⟨#[115, 117, 98, 115, 116, 114]⟩, 2, 3⟩, ⟨⟨#[105, 110, 100, 101, 120]⟩, 2, 2⟩, ⟨⟨#[109, 97, 116, 99, 104]⟩, 2, 2⟩, ⟨⟨#[115, 112, 114, 105, 110, 116, 102]⟩, 1, 1073741824⟩, ⟨⟨#[114, 97, 110, 100]⟩, 0, 0⟩, ⟨⟨#[116, 111, 108, 111, 119, 101, 114]⟩, 1, 1⟩, ⟨⟨#[116, 111, 117, 112, 112, 101, 114]⟩, 1, 1⟩, ⟨⟨#[105, 110, 116]⟩, 1, 1⟩, ⟨⟨#[99, 108, 111, 115, 101]⟩, 1, 1⟩, ⟨⟨#[115, 121, 115, 116, 101, 109]⟩, 1, 1⟩]
def Cod.manyL : List (Value × Value) := manyM.map fun r => (.string r.name, .agg #[.int .i64 r.lo, .int .i64 r.hi])
theorem many_fresh : freshB .string manyL = true := by kernel_rfl
theorem many_lo : ∀ r ∈ manyM, 0 ≤ r.lo ∧ r.hi ≤ 1073741824 := by decide
theorem contains_any {w : World} {A : Option Addr} {B : Nat} {xs : List ByteArray} {n cap : Nat} (h : Strs w B A n xs) (hn : n ≤ maxLen) (x : ByteArray) :
    Calls Tryd.prog 23 #[.slice A n cap, .string x] w fun e w' => e = .returned (.bool (Lib.containsS xs x)) ∧ w = w' := by
  unfold maxLen at hn
  obtain ⟨h1, h2⟩ := h
  rcases Nat.eq_zero_or_pos n with rfl | hp
  · obtain rfl := List.length_eq_zero_iff.1 h1
    refine (Tryd.slices_Contains_string_empty A cap x w).mono ?_
    rintro e w' ⟨rfl, rfl⟩
    exact ⟨rfl, rfl⟩
  · obtain ⟨b, o, rfl, _, hc⟩ := h2 hp
    refine (Tryd.slices_Contains_string b o n cap xs x w (by omega) (by omega) (fun j hj => by rw [hc j hj]; simp [List.getD_eq_getElem?_getD, hj])).mono ?_
    rintro e w' ⟨rfl, rfl⟩
    exact ⟨ret_bool (by rw [List.take_of_length_le (by omega)]), rfl⟩
theorem p_special (s : ByteArray) (w : World) : Calls Tryd.prog 17 #[.string s] w fun e w' => e = .returned (.bool (specB s)) ∧ Below w.heap.size w w' := by
  have HS : Hid (Strs (w.alloc (.cells #[.string ⟨#[78, 82]⟩, .string ⟨#[78, 70]⟩, .string ⟨#[70, 78, 82]⟩, .string ⟨#[70, 83]⟩, .string ⟨#[79, 70, 83]⟩, .string ⟨#[79, 82, 83]⟩, .string ⟨#[82, 83]⟩, .string ⟨#[70, 73, 76, 69, 78, 65, 77, 69]⟩, .string ⟨#[83, 85, 66, 83, 69, 80]⟩, .string ⟨#[82, 83, 84, 65, 82, 84]⟩, .string ⟨#[82, 76, 69, 78, 71, 84, 72]⟩, .string ⟨#[67, 79, 78, 86, 70, 77, 84]⟩, .string ⟨#[79, 70, 77, 84]⟩] 9)) (w.heap.size + 1) (some ⟨w.heap.size, 0, none⟩) 13 specS) := Strs.lit w 9 specS
  go_enter Tryd.func17, Tryd.ntmps17
  go_wp2_with (((with_reducible refine (contains_any HS.out (by decide) s).mono ?_); rintro e w2 ⟨rfl, rfl⟩))
  go_ret
  exact ⟨rfl, (Below.refl _ _).alloc (Nat.le_refl _) _⟩
def Cod.builtinB (p : PV) (i : IV) : Bool := match manyM.find? (fun r => i.s == r.name) with
  | none => false
  | some r => decide (r.lo ≤ i.c) && (decide (i.c ≤ r.hi) && (regB p i.a && (decide (i.n = 0) && (i.c == 0 && i.b == 0 || decide (0 < i.c) && rowB p i.b i.c))))
theorem zero_pair (w : World) : (zeroValue 67).run Tryd.prog w = .ok (.agg #[.int .i64 0, .int .i64 0]) w := by kernel_rfl
theorem many_at (s : ByteArray) : litAt .string (.string s) manyL = some ((manyM.find? fun r => s == r.name).map fun r => .agg #[.int .i64 r.lo, .int .i64 r.hi]) := litAt_strs s (fun r : ManyM => r.name) _ manyM
section
variable {ops : Array Oper} {rest : List Oper} {o : Oper} {a : Act} {Q : Exit → Act → World → Prop}
theorem wp_many_put {w : World} {b k : Nat} (h : MapLit w b (manyL.take k)) (hg : o.guard = none) (m x v : Operand) (hop : o.op = Op.insert 68 m x v) (s : ByteArray)
    (hm : a.eval m = .map (some b)) (hx : a.eval x = .string s) (hL : manyL[k]? = some (.string s, a.eval v))
    (hK : ∀ w', MapLit w' b (manyL.take (k + 1)) → w'.heap.size = w.heap.size → Tur (· = b) w w' → wpList Tryd.prog ops Q rest (a.put o.dst undef) w') : wpList Tryd.prog ops Q (o :: rest) a w :=
  wp_lit_put_at hg m x v 68 9 67 hop .string Tryd.underlying68 Tryd.underlying9 _ many_fresh k h _ (.inr ⟨_, rfl, rfl⟩) hm hx hL hK
theorem wp_many_look {w : World} {b : Nat} (h : MapLit w b manyL) (hg : o.guard = none) (m x : Operand) (hop : o.op = Op.lookup 68 m x true) (s : ByteArray)
    (hm : a.eval m = .map (some b)) (hx : a.eval x = .string s) (q : Option ManyM) (hq : manyM.find? (fun r => s == r.name) = q)
    (hK : wpList Tryd.prog ops Q rest (a.put o.dst (.tuple #[.agg #[.int .i64 ((q.map (·.lo)).getD 0), .int .i64 ((q.map (·.hi)).getD 0)], .bool q.isSome])) w) : wpList Tryd.prog ops Q (o :: rest) a w := by
  refine wp_lit_look hg m x 68 9 67 hop .string Tryd.underlying68 Tryd.underlying9 _ _ (.inr ⟨_, rfl, rfl⟩) (zero_pair w) hm hx h _ ((many_at s).trans (by rw [hq])) ?_
  cases q <;> exact hK
end
/-- A map of builtins under way. -/
structure ManyInv (w0 w : World) (b k : Nat) (C : CV) (p : PV) (B : Nat) (i : IV) : Prop where
  map : MapLit w b (manyL.take k)
  below : Below w0.heap.size w0 w
  box : Boxed w w0.heap.size (w0.heap.size + 1) B C p i
  lt : w0.heap.size + 2 ≤ b
  hB : B ≤ b
theorem ManyInv.made {w0 : World} {C : CV} {p : PV} {B : Nat} (i : IV) (h : PlaceAt w0 B C p) : ManyInv w0 (((w0.alloc (.cells #[.slice C.A0 C.n0 C.c0, .slice C.A1 C.n1 C.c1, .slice C.A2 C.n2 C.c2, .slice C.A3 C.n3 C.c3, .slice C.A4 C.n4 C.c4, .slice C.A5 C.n5 C.c5, .slice C.A6 C.n6 C.c6, .int .i64 p.regs, .slice p.A p.n p.c, .int .i64 p.loops, .slice p.A' p.n' p.c'] 46)).alloc (.cells #[.int .u8 i.op, .int .i64 i.a, .int .i64 i.b, .int .i64 i.c, .string i.s, .slice i.A i.n i.cap] 31)).alloc (.map #[] 0)) (w0.heap.size + 2) 0 C p B i := by
  have hb : Below w0.heap.size w0 ((w0.alloc (.cells #[.slice C.A0 C.n0 C.c0, .slice C.A1 C.n1 C.c1, .slice C.A2 C.n2 C.c2, .slice C.A3 C.n3 C.c3, .slice C.A4 C.n4 C.c4, .slice C.A5 C.n5 C.c5, .slice C.A6 C.n6 C.c6, .int .i64 p.regs, .slice p.A p.n p.c, .int .i64 p.loops, .slice p.A' p.n' p.c'] 46)).alloc (.cells #[.int .u8 i.op, .int .i64 i.a, .int .i64 i.b, .int .i64 i.c, .string i.s, .slice i.A i.n i.cap] 31)) := ((Below.refl _ _).alloc (Nat.le_refl _) _).alloc (by simp) _
  have hm := MapLit.made ((w0.alloc (.cells #[.slice C.A0 C.n0 C.c0, .slice C.A1 C.n1 C.c1, .slice C.A2 C.n2 C.c2, .slice C.A3 C.n3 C.c3, .slice C.A4 C.n4 C.c4, .slice C.A5 C.n5 C.c5, .slice C.A6 C.n6 C.c6, .int .i64 p.regs, .slice p.A p.n p.c, .int .i64 p.loops, .slice p.A' p.n' p.c'] 46)).alloc (.cells #[.int .u8 i.op, .int .i64 i.a, .int .i64 i.b, .int .i64 i.c, .string i.s, .slice i.A i.n i.cap] 31))
  simp only [World.size_alloc] at hm
  exact ⟨hm, hb.alloc (by simp; omega) _, (Boxed.made i h).keep ((Below.refl _ _).alloc (Nat.le_refl _) _), Nat.le_refl _, Nat.le_trans h.le (by omega)⟩
theorem PlaceAt.turn {w w' : World} {B : Nat} {C : CV} {p : PV} (h : PlaceAt w B C p) (hb : Below B w w') (hs : w.heap.size ≤ w'.heap.size) : PlaceAt w' B C p :=
  ⟨h.glob.below hb, h.arr.below hb, Nat.le_trans h.le hs, h.regs, h.loops, h.n0, h.n2, h.n3, h.n'⟩
theorem ManyInv.put {w0 w w' : World} {b k : Nat} {C : CV} {p : PV} {B : Nat} {i : IV} (h : ManyInv w0 w b k C p B i) (h1 : MapLit w' b (manyL.take (k + 1))) (h3 : Tur (· = b) w w') : ManyInv w0 w' b (k + 1) C p B i := by
  have hlt := h.map.lt
  have hb1 := (Array.getElem?_eq_some_iff.1 h.box.pl).1
  have hb2 := (Array.getElem?_eq_some_iff.1 h.box.il).1
  have hl := h.lt
  have hB := h.hB
  exact ⟨h1, h.below.trans (h3.below _ (by omega) (fun k hk e => by omega)), ⟨(h3.block _ hb1 (by omega)).trans h.box.pl, (h3.block _ hb2 (by omega)).trans h.box.il, h.box.at_.turn (h3.below B h.box.at_.le (fun k hk e => by omega)) h3.size⟩, hl, hB⟩
theorem ManyInv.lt2 {w0 w : World} {b k : Nat} {C : CV} {p : PV} {B : Nat} {i : IV} (h : ManyInv w0 w b k C p B i) : w0.heap.size < w.heap.size ∧ w0.heap.size + 1 < w.heap.size := by
  have := h.map.lt; have := h.lt; omega
theorem ManyInv.all {w0 w : World} {b : Nat} {C : CV} {p : PV} {B : Nat} {i : IV} (h : ManyInv w0 w b 12 C p B i) : MapLit w b manyL := h.map
set_option maxRecDepth 20000 in
set_option maxHeartbeats 4000000 in
theorem p_builtin {C : CV} {p : PV} {w : World} {B : Nat} (h : PlaceAt w B C p) (i : IV) (hi : IOk i) (hin : i.n ≤ maxLen) :
    Calls Tryd.prog 20 #[.agg #[.slice C.A0 C.n0 C.c0, .slice C.A1 C.n1 C.c1, .slice C.A2 C.n2 C.c2, .slice C.A3 C.n3 C.c3, .slice C.A4 C.n4 C.c4, .slice C.A5 C.n5 C.c5, .slice C.A6 C.n6 C.c6, .int .i64 p.regs, .slice p.A p.n p.c, .int .i64 p.loops, .slice p.A' p.n' p.c'], .agg #[.int .u8 i.op, .int .i64 i.a, .int .i64 i.b, .int .i64 i.c, .string i.s, .slice i.A i.n i.cap]] w fun e w' => e = .returned (.bool (builtinB p i)) ∧ Below w.heap.size w w' := by
  have h0 := ManyInv.made i h
  have HMK := @run_makeMap Tryd.prog
  have hall := True.intro
  unfold maxLen at hin
  clear h
  cases hq : manyM.find? (fun r => i.s == r.name) with
  | none =>
    have HR : Hid (builtinB p i = false) := by unfold Hid builtinB; rw [hq]
    have HQ := Lib.hid hq
    clear hq
    go_enter Tryd.func20, Tryd.ntmps20
    go_wp2_with (first | (with_reducible refine wp_many_put (ManyInv.map (by assumption)) rfl _ _ _ rfl _ rfl rfl rfl ?_; intro w' hm1 hm2 hm3; have h1 := h0.put hm1 hm3; clear h0 hm1 hm2 hm3 hall; have h0 := h1; have hall := h1.box.all; clear h1) | (with_reducible refine wp_many_look (ManyInv.all (by assumption)) rfl _ _ rfl _ rfl rfl _ HQ.out ?_; have HI := Lib.hid h0; obtain ⟨hl1, hl2⟩ := h0.lt2; clear h0; simp only [Option.map_none, Option.map_some, Option.getD_none, Option.getD_some, Option.isSome_none, Option.isSome_some]))
    go_ret
    exact ⟨ret_bool HR.out.symm, Gr.trans HI.out.below ((Below.refl _ _).alloc (Nat.le_refl _) _)⟩
  | some r =>
    have hrm := many_lo _ (List.mem_of_find?_eq_some hq)
    have HR : Hid (builtinB p i = (decide (r.lo ≤ i.c) && (decide (i.c ≤ r.hi) && (regB p i.a && (decide (i.n = 0) && (i.c == 0 && i.b == 0 || decide (0 < i.c) && rowB p i.b i.c)))))) := by unfold Hid builtinB; rw [hq]
    have HQ := Lib.hid hq
    clear hq
    obtain ⟨rn, lo, hi'⟩ := r
    simp only at hrm HR
    obtain ⟨hr1, hr2⟩ := hrm
    have HM : Hid (mayB C p 114 i.a = regB p i.a) := rfl
    cases hr : regB p i.a
    all_goals
      have HRR := Lib.hid hr
      rw [hr] at HR
      clear hr
      go_enter Tryd.func20, Tryd.ntmps20
      go_wp2_with (first | (with_reducible refine wp_many_put (ManyInv.map (by assumption)) rfl _ _ _ rfl _ rfl rfl rfl ?_; intro w' hm1 hm2 hm3; have h1 := h0.put hm1 hm3; clear h0 hm1 hm2 hm3 hall; have h0 := h1; have hall := h1.box.all; clear h1) | (with_reducible refine wp_many_look (ManyInv.all (by assumption)) rfl _ _ rfl _ rfl rfl _ HQ.out ?_; have HI := Lib.hid h0; obtain ⟨hl1, hl2⟩ := h0.lt2; clear h0; simp only [Option.map_none, Option.map_some, Option.getD_none, Option.getD_some, Option.isSome_none, Option.isSome_some]) | ((with_reducible refine (p_may (HI.out.box.at_.keep ((Below.refl _ _).alloc (Nat.le_refl _) _)) _ _ hi.a).mono ?_); rintro e w2 ⟨rfl, hb2⟩; rw [HM.out, HRR.out]; have HX2 := Lib.hid ((HI.out.box.keep ((Below.refl _ _).alloc (Nat.le_refl _) _)).keep hb2); have HW2 := Lib.hid (Gr.trans (Gr.trans HI.out.below ((Below.refl _ _).alloc (Nat.le_refl _) _)) hb2); have hall2 := HX2.out.all; clear hb2) | ((with_reducible refine (p_row HX2.out.at_ _ _ hi.b hi.c).mono ?_); rintro e w3 ⟨rfl, hb3⟩; have HW3 := Lib.hid (Gr.trans HW2.out hb3); clear hb3))
      all_goals (go_ret; exact ⟨ret_bool (by rw [HR.out]; generalize rowB p i.b i.c = z; cases z <;> rw [Bool.eq_iff_iff] <;> simp <;> omega), by first | exact HW3.out | exact HW2.out | exact Gr.trans HI.out.below ((Below.refl _ _).alloc (Nat.le_refl _) _)⟩)
end Go.Proofs.YtankpckkiikmaaaDoor
namespace Go.Proofs.YtankpckkiikmaaaDoor
open Go.RowKit Cod
theorem p_listed1 {C : CV} {p : PV} {w : World} {b B : Nat} (h : BoxP w b B C p) (n : Int) (hn : (Lit.int .i64 n).wf = true) :
    Calls Tryd.prog 39 #[.int .i64 n, .pointer (some ⟨b, 0, none⟩)] w fun e w' => e = .returned (.bool (regB p n)) ∧ Below w.heap.size w w' := by
  have HX := Lib.hid h
  have hall := pcells h.pl
  have HM : Hid (mayB C p 114 n = regB p n) := rfl
  clear h
  go_enter Tryd.func39, Tryd.ntmps39
  go_wp2_with (((with_reducible refine (p_may HX.out.at_ _ _ hn).mono ?_); rintro e w2 ⟨rfl, hb2⟩; rw [HM.out]))
  go_ret
  exact ⟨rfl, hb2⟩
def Cod.bitB (n : Int) : Bool := decide (0 ≤ n) && decide (n ≤ 1)
def Cod.splitB (C : CV) (p : PV) (i : IV) : Bool := regB p i.a && (arrB C p i.b && (i.c == 0 && (decide (i.n = 2) && (regB p (i.args.getD 0 0) && optB p (i.args.getD 1 0)))))
def Cod.subB (p : PV) (i : IV) : Bool := regB p i.a && (regB p i.b && (bitB i.c && (decide (i.n = 3) && allB p i.args)))
def Cod.getlB (p : PV) (i : IV) : Bool := regB p i.a && (decide (1 ≤ i.b) && (decide (i.b ≤ 3) && (decide (i.n ≤ 1) && (allB p i.args && (decide (i.b = 1) && decide (i.c = -1) || decide (1 < i.b) && regB p i.c)))))
def Cod.printB (p : PV) (i : IV) : Bool := decide (0 ≤ i.a) && (decide (i.a ≤ 3) && (bitB i.c && (decide (i.c ≤ i.n) && (allB p i.args && (decide (i.a = 0) && decide (i.b = -1) || decide (0 < i.a) && regB p i.b)))))
theorem enterW (w : World) (C : CV) (p : PV) (i : IV) : Below w.heap.size w ((w.alloc (.cells #[.slice C.A0 C.n0 C.c0, .slice C.A1 C.n1 C.c1, .slice C.A2 C.n2 C.c2, .slice C.A3 C.n3 C.c3, .slice C.A4 C.n4 C.c4, .slice C.A5 C.n5 C.c5, .slice C.A6 C.n6 C.c6, .int .i64 p.regs, .slice p.A p.n p.c, .int .i64 p.loops, .slice p.A' p.n' p.c'] 46)).alloc (.cells #[.int .u8 i.op, .int .i64 i.a, .int .i64 i.b, .int .i64 i.c, .string i.s, .slice i.A i.n i.cap] 31)) := ((Below.refl _ _).alloc (Nat.le_refl _) _).alloc (by simp) _
set_option maxRecDepth 20000 in
set_option maxHeartbeats 4000000 in
theorem p_listed28 {C : CV} {p : PV} {w : World} {B : Nat} (h : PlaceAt w B C p) (i : IV) (hi : IOk i) (hl : Ints w B i.A i.n i.args) (o25 : (i.op == 25) = false) (o27 : (i.op == 27) = false) (o28 : (i.op == 28) = true) :
    Calls Tryd.prog 21 #[.agg #[.slice C.A0 C.n0 C.c0, .slice C.A1 C.n1 C.c1, .slice C.A2 C.n2 C.c2, .slice C.A3 C.n3 C.c3, .slice C.A4 C.n4 C.c4, .slice C.A5 C.n5 C.c5, .slice C.A6 C.n6 C.c6, .int .i64 p.regs, .slice p.A p.n p.c, .int .i64 p.loops, .slice p.A' p.n' p.c'], .agg #[.int .u8 i.op, .int .i64 i.a, .int .i64 i.b, .int .i64 i.c, .string i.s, .slice i.A i.n i.cap]] w fun e w' => e = .returned (.bool (subB p i)) ∧ Below w.heap.size w w' := by
  have HX := Lib.hid (Boxed.made i h)
  have HW := Lib.hid (enterW w C p i)
  have hln := hl.2.1
  have HL := Lib.hid hl
  have HLE := Lib.hid h.le
  obtain ⟨c1, c2⟩ := i64_bd hi.c
  unfold maxLen at hln
  clear h hl
  cases hra : regB p i.a
  all_goals cases hrb : regB p i.b
  all_goals
    have HRA := Lib.hid hra
    have HRB := Lib.hid hrb
    have HR : Hid (subB p i = (regB p i.a && (regB p i.b && (bitB i.c && (decide (i.n = 3) && allB p i.args))))) := rfl
    rw [hra, hrb] at HR
    clear hra hrb
    go_enter Tryd.func21, Tryd.ntmps21
    go_wp2_with (first | ((with_reducible refine (p_listed1 HX.out.box _ hi.a).mono ?_); rintro e w2 ⟨rfl, hb2⟩; have HX2 := Lib.hid (HX.out.keep hb2); have HW2 := Lib.hid (Gr.trans HW.out hb2); have hall2 := HX2.out.all; clear hb2; rw [HRA.out]) | ((with_reducible refine (p_listed1 HX2.out.box _ hi.b).mono ?_); rintro e w3 ⟨rfl, hb3⟩; have HX3 := Lib.hid (HX2.out.keep hb3); have HW3 := Lib.hid (Gr.trans HW2.out hb3); have hall3 := HX3.out.all; clear hb3; rw [HRB.out]) | ((with_reducible refine (p_regs HX3.out.at_ _ _ _ _ (HL.out.keep HLE.out HW3.out)).mono ?_); rintro e w4 ⟨rfl, hb4⟩; have HX4 := Lib.hid (HX3.out.keep hb4); have HW4 := Lib.hid (Gr.trans HW3.out hb4); have hall4 := HX4.out.all; clear hb4))
    all_goals (go_ret; exact ⟨ret_bool (by rw [HR.out]; (try unfold bitB); generalize allB p i.args = z0; cases z0 <;> rw [Bool.eq_iff_iff] <;> simp <;> omega), by first | exact HW4.out | exact HW3.out | exact HW2.out⟩)
set_option maxRecDepth 20000 in
set_option maxHeartbeats 4000000 in
theorem p_listed29 {C : CV} {p : PV} {w : World} {B : Nat} (h : PlaceAt w B C p) (i : IV) (hi : IOk i) (hl : Ints w B i.A i.n i.args) (o25 : (i.op == 25) = false) (o27 : (i.op == 27) = false) (o28 : (i.op == 28) = false) (o29 : (i.op == 29) = true) :
    Calls Tryd.prog 21 #[.agg #[.slice C.A0 C.n0 C.c0, .slice C.A1 C.n1 C.c1, .slice C.A2 C.n2 C.c2, .slice C.A3 C.n3 C.c3, .slice C.A4 C.n4 C.c4, .slice C.A5 C.n5 C.c5, .slice C.A6 C.n6 C.c6, .int .i64 p.regs, .slice p.A p.n p.c, .int .i64 p.loops, .slice p.A' p.n' p.c'], .agg #[.int .u8 i.op, .int .i64 i.a, .int .i64 i.b, .int .i64 i.c, .string i.s, .slice i.A i.n i.cap]] w fun e w' => e = .returned (.bool (getlB p i)) ∧ Below w.heap.size w w' := by
  have HX := Lib.hid (Boxed.made i h)
  have HW := Lib.hid (enterW w C p i)
  have hln := hl.2.1
  have HL := Lib.hid hl
  have HLE := Lib.hid h.le
  obtain ⟨c1, c2⟩ := i64_bd hi.c
  unfold maxLen at hln
  clear h hl
  obtain ⟨b1, b2⟩ := i64_bd hi.b
  cases hra : regB p i.a
  all_goals cases hrb : allB p i.args
  all_goals
    have HRA := Lib.hid hra
    have HRB := Lib.hid hrb
    have HR : Hid (getlB p i = (regB p i.a && (decide (1 ≤ i.b) && (decide (i.b ≤ 3) && (decide (i.n ≤ 1) && (allB p i.args && (decide (i.b = 1) && decide (i.c = -1) || decide (1 < i.b) && regB p i.c))))))) := rfl
    rw [hra, hrb] at HR
    clear hra hrb
    go_enter Tryd.func21, Tryd.ntmps21
    go_wp2_with (first | ((with_reducible refine (p_listed1 HX.out.box _ hi.a).mono ?_); rintro e w2 ⟨rfl, hb2⟩; have HX2 := Lib.hid (HX.out.keep hb2); have HW2 := Lib.hid (Gr.trans HW.out hb2); have hall2 := HX2.out.all; clear hb2; rw [HRA.out]) | ((with_reducible refine (p_regs HX2.out.at_ _ _ _ _ (HL.out.keep HLE.out HW2.out)).mono ?_); rintro e w3 ⟨rfl, hb3⟩; have HX3 := Lib.hid (HX2.out.keep hb3); have HW3 := Lib.hid (Gr.trans HW2.out hb3); have hall3 := HX3.out.all; clear hb3; rw [HRB.out]) | ((with_reducible refine (p_listed1 HX3.out.box _ hi.c).mono ?_); rintro e w4 ⟨rfl, hb4⟩; have HX4 := Lib.hid (HX3.out.keep hb4); have HW4 := Lib.hid (Gr.trans HW3.out hb4); have hall4 := HX4.out.all; clear hb4))
    all_goals (go_ret; exact ⟨ret_bool (by rw [HR.out]; (try unfold bitB); generalize regB p i.c = z0; cases z0 <;> rw [Bool.eq_iff_iff] <;> simp <;> omega), by first | exact HW4.out | exact HW3.out | exact HW2.out⟩)
set_option maxRecDepth 20000 in
set_option maxHeartbeats 4000000 in
theorem p_listed30 {C : CV} {p : PV} {w : World} {B : Nat} (h : PlaceAt w B C p) (i : IV) (hi : IOk i) (hl : Ints w B i.A i.n i.args) (o25 : (i.op == 25) = false) (o27 : (i.op == 27) = false) (o28 : (i.op == 28) = false) (o29 : (i.op == 29) = false) :
    Calls Tryd.prog 21 #[.agg #[.slice C.A0 C.n0 C.c0, .slice C.A1 C.n1 C.c1, .slice C.A2 C.n2 C.c2, .slice C.A3 C.n3 C.c3, .slice C.A4 C.n4 C.c4, .slice C.A5 C.n5 C.c5, .slice C.A6 C.n6 C.c6, .int .i64 p.regs, .slice p.A p.n p.c, .int .i64 p.loops, .slice p.A' p.n' p.c'], .agg #[.int .u8 i.op, .int .i64 i.a, .int .i64 i.b, .int .i64 i.c, .string i.s, .slice i.A i.n i.cap]] w fun e w' => e = .returned (.bool (printB p i)) ∧ Below w.heap.size w w' := by
  have HX := Lib.hid (Boxed.made i h)
  have HW := Lib.hid (enterW w C p i)
  have hln := hl.2.1
  have HL := Lib.hid hl
  have HLE := Lib.hid h.le
  obtain ⟨c1, c2⟩ := i64_bd hi.c
  unfold maxLen at hln
  clear h hl
  obtain ⟨b1, b2⟩ := i64_bd hi.b
  obtain ⟨a1, a2⟩ := i64_bd hi.a
  cases hrb : allB p i.args
  all_goals
    have HRB := Lib.hid hrb
    have hall := HX.out.all
    have HR : Hid (printB p i = (decide (0 ≤ i.a) && (decide (i.a ≤ 3) && (bitB i.c && (decide (i.c ≤ i.n) && (allB p i.args && (decide (i.a = 0) && decide (i.b = -1) || decide (0 < i.a) && regB p i.b))))))) := rfl
    rw [hrb] at HR
    clear hrb
    go_enter Tryd.func21, Tryd.ntmps21
    go_wp2_with (first | ((with_reducible refine (p_regs HX.out.at_ _ _ _ _ (HL.out.keep HLE.out HW.out)).mono ?_); rintro e w3 ⟨rfl, hb3⟩; have HX3 := Lib.hid (HX.out.keep hb3); have HW3 := Lib.hid (Gr.trans HW.out hb3); have hall3 := HX3.out.all; clear hb3; rw [HRB.out]) | ((with_reducible refine (p_listed1 HX3.out.box _ hi.b).mono ?_); rintro e w4 ⟨rfl, hb4⟩; have HX4 := Lib.hid (HX3.out.keep hb4); have HW4 := Lib.hid (Gr.trans HW3.out hb4); have hall4 := HX4.out.all; clear hb4))
    all_goals (go_ret; exact ⟨ret_bool (by rw [HR.out]; (try unfold bitB); generalize regB p i.b = z0; cases z0 <;> rw [Bool.eq_iff_iff] <;> simp <;> omega), by first | exact HW4.out | exact HW3.out | exact HW.out⟩)
end Go.Proofs.YtankpckkiikmaaaDoor
namespace Go.Proofs.YtankpckkiikmaaaDoor
open Go.RowKit Cod
theorem p_array {C : CV} {p : PV} {w : World} {B : Nat} (h : PlaceAt w B C p) (n : Int) (hn : (Lit.int .i64 n).wf = true) :
    Calls Tryd.prog 38 #[.agg #[.slice C.A0 C.n0 C.c0, .slice C.A1 C.n1 C.c1, .slice C.A2 C.n2 C.c2, .slice C.A3 C.n3 C.c3, .slice C.A4 C.n4 C.c4, .slice C.A5 C.n5 C.c5, .slice C.A6 C.n6 C.c6, .int .i64 p.regs, .slice p.A p.n p.c, .int .i64 p.loops, .slice p.A' p.n' p.c'], .int .i64 n] w fun e w' => e = .returned (.bool (arrB C p n)) ∧ Below w.heap.size w w' := x_array C p n w B h.glob h.arr h.le hn
set_option maxRecDepth 20000 in
set_option maxHeartbeats 4000000 in
theorem p_listed27 {C : CV} {p : PV} {w : World} {B : Nat} (h : PlaceAt w B C p) (i : IV) (hi : IOk i) (hl : Ints w B i.A i.n i.args) (o25 : (i.op == 25) = false) (o27 : (i.op == 27) = true) :
    Calls Tryd.prog 21 #[.agg #[.slice C.A0 C.n0 C.c0, .slice C.A1 C.n1 C.c1, .slice C.A2 C.n2 C.c2, .slice C.A3 C.n3 C.c3, .slice C.A4 C.n4 C.c4, .slice C.A5 C.n5 C.c5, .slice C.A6 C.n6 C.c6, .int .i64 p.regs, .slice p.A p.n p.c, .int .i64 p.loops, .slice p.A' p.n' p.c'], .agg #[.int .u8 i.op, .int .i64 i.a, .int .i64 i.b, .int .i64 i.c, .string i.s, .slice i.A i.n i.cap]] w fun e w' => e = .returned (.bool (splitB C p i)) ∧ Below w.heap.size w w' := by
  have HX0 := Lib.hid (Boxed.made i h)
  have HX := Lib.hid HX0.out.drew
  have HW := Lib.hid (Gr.trans (enterW w C p i) (Below.refl _ _).drew)
  have hln := hl.2.1
  have HL := Lib.hid hl
  have HLE := Lib.hid h.le
  unfold maxLen at hln
  have HR : Hid (splitB C p i = (regB p i.a && (arrB C p i.b && (i.c == 0 && (decide (i.n = 2) && (regB p (i.args.getD 0 0) && optB p (i.args.getD 1 0))))))) := rfl
  clear h hl
  cases hra : regB p i.a
  · have HRA := Lib.hid hra
    rw [hra] at HR
    clear hra
    go_enter Tryd.func21, Tryd.ntmps21
    go_wp2_with fail
    refine wp_region_segs [3, 4, 18, 7] (by kernel_rfl) (by kernel_rfl) ?_
    (refine seg_step (fun K hK => ?_); simp only [List.take_succ_cons, List.take_zero, List.drop_succ_cons, List.drop_zero]; (repeat still_step); refine wpStill_nil ?_)
    go_wp2_with (((with_reducible refine (p_listed1 HX.out.box _ hi.a).mono ?_); rintro e w2 ⟨rfl, hb2⟩; have HX2 := Lib.hid (HX.out.keep hb2); have HW2 := Lib.hid (Gr.trans HW.out hb2); have hall2 := HX2.out.all; clear hb2; rw [HRA.out]))
    (refine seg_step (fun K hK => ?_); simp only [List.take_succ_cons, List.take_zero, List.drop_succ_cons, List.drop_zero]; (repeat still_step); refine wpStill_nil ?_)
    go_wp2_with fail
    (refine seg_step (fun K hK => ?_); simp only [List.take_succ_cons, List.take_zero, List.drop_succ_cons, List.drop_zero]; (repeat still_step); refine wpStill_nil ?_)
    go_wp2_with fail
    (refine seg_step (fun K hK => ?_); simp only [List.take_succ_cons, List.take_zero, List.drop_succ_cons, List.drop_zero]; (repeat still_step); refine wpStill_nil ?_)
    go_wp2_with fail
    (refine seg_done ?_; simp only [List.drop_succ_cons, List.drop_zero]; go_wp2_with fail)
    go_ret
    exact ⟨ret_bool HR.out.symm, HW2.out⟩
  cases hrb : arrB C p i.b
  · have HRA := Lib.hid hra
    have HRB := Lib.hid hrb
    rw [hra, hrb] at HR
    clear hra hrb
    go_enter Tryd.func21, Tryd.ntmps21
    go_wp2_with fail
    refine wp_region_segs [3, 4, 18, 7] (by kernel_rfl) (by kernel_rfl) ?_
    (refine seg_step (fun K hK => ?_); simp only [List.take_succ_cons, List.take_zero, List.drop_succ_cons, List.drop_zero]; (repeat still_step); refine wpStill_nil ?_)
    go_wp2_with (((with_reducible refine (p_listed1 HX.out.box _ hi.a).mono ?_); rintro e w2 ⟨rfl, hb2⟩; have HX2 := Lib.hid (HX.out.keep hb2); have HW2 := Lib.hid (Gr.trans HW.out hb2); have hall2 := HX2.out.all; clear hb2; rw [HRA.out]))
    (refine seg_step (fun K hK => ?_); simp only [List.take_succ_cons, List.take_zero, List.drop_succ_cons, List.drop_zero]; (repeat still_step); refine wpStill_nil ?_)
    go_wp2_with (((with_reducible refine (p_array HX2.out.at_ _ hi.b).mono ?_); rintro e w3 ⟨rfl, hb3⟩; have HX3 := Lib.hid (HX2.out.keep hb3); have HW3 := Lib.hid (Gr.trans HW2.out hb3); have hall3 := HX3.out.all; clear hb3; rw [HRB.out]))
    (refine seg_step (fun K hK => ?_); simp only [List.take_succ_cons, List.take_zero, List.drop_succ_cons, List.drop_zero]; (repeat still_step); refine wpStill_nil ?_)
    go_wp2_with fail
    (refine seg_step (fun K hK => ?_); simp only [List.take_succ_cons, List.take_zero, List.drop_succ_cons, List.drop_zero]; (repeat still_step); refine wpStill_nil ?_)
    go_wp2_with fail
    (refine seg_done ?_; simp only [List.drop_succ_cons, List.drop_zero]; go_wp2_with fail)
    go_ret
    exact ⟨ret_bool HR.out.symm, HW3.out⟩
  have HRA := Lib.hid hra
  have HRB := Lib.hid hrb
  rw [hra, hrb] at HR
  clear hra hrb
  by_cases hc : i.c = 0
  case neg =>
    have hc1 : (i.c == 0) = false := by simpa using hc
    have hc2 : decide (i.c = 0) = false := by simpa using hc
    rw [hc1] at HR
    go_enter Tryd.func21, Tryd.ntmps21
    go_wp2_with fail
    refine wp_region_segs [3, 4, 18, 7] (by kernel_rfl) (by kernel_rfl) ?_
    (refine seg_step (fun K hK => ?_); simp only [List.take_succ_cons, List.take_zero, List.drop_succ_cons, List.drop_zero]; (repeat still_step); refine wpStill_nil ?_)
    go_wp2_with (((with_reducible refine (p_listed1 HX.out.box _ hi.a).mono ?_); rintro e w2 ⟨rfl, hb2⟩; have HX2 := Lib.hid (HX.out.keep hb2); have HW2 := Lib.hid (Gr.trans HW.out hb2); have hall2 := HX2.out.all; clear hb2; rw [HRA.out]))
    (refine seg_step (fun K hK => ?_); simp only [List.take_succ_cons, List.take_zero, List.drop_succ_cons, List.drop_zero]; (repeat still_step); refine wpStill_nil ?_)
    go_wp2_with (((with_reducible refine (p_array HX2.out.at_ _ hi.b).mono ?_); rintro e w3 ⟨rfl, hb3⟩; have HX3 := Lib.hid (HX2.out.keep hb3); have HW3 := Lib.hid (Gr.trans HW2.out hb3); have hall3 := HX3.out.all; clear hb3; rw [HRB.out]))
    (refine seg_step (fun K hK => ?_); simp only [List.take_succ_cons, List.take_zero, List.drop_succ_cons, List.drop_zero]; (repeat still_step); refine wpStill_nil ?_)
    go_wp2_with fail
    (refine seg_step (fun K hK => ?_); simp only [List.take_succ_cons, List.take_zero, List.drop_succ_cons, List.drop_zero]; (repeat still_step); refine wpStill_nil ?_)
    go_wp2_with fail
    (refine seg_done ?_; simp only [List.drop_succ_cons, List.drop_zero]; go_wp2_with fail)
    go_ret
    exact ⟨ret_bool HR.out.symm, HW3.out⟩
  case pos =>
  have hc1 : (i.c == 0) = true := by simpa using hc
  have hc2 : decide (i.c = 0) = true := by simpa using hc
  rw [hc1] at HR
  clear hc
  by_cases hn : i.n = 2
  case neg =>
    have hn1 : ((i.n : Int) == 2) = false := by simp; omega
    have hn2 : decide ((i.n : Int) = 2) = false := by simp; omega
    have hn3 : decide (i.n = 2) = false := by simpa using hn
    rw [hn3] at HR
    go_enter Tryd.func21, Tryd.ntmps21
    go_wp2_with fail
    refine wp_region_segs [3, 4, 18, 7] (by kernel_rfl) (by kernel_rfl) ?_
    (refine seg_step (fun K hK => ?_); simp only [List.take_succ_cons, List.take_zero, List.drop_succ_cons, List.drop_zero]; (repeat still_step); refine wpStill_nil ?_)
    go_wp2_with (((with_reducible refine (p_listed1 HX.out.box _ hi.a).mono ?_); rintro e w2 ⟨rfl, hb2⟩; have HX2 := Lib.hid (HX.out.keep hb2); have HW2 := Lib.hid (Gr.trans HW.out hb2); have hall2 := HX2.out.all; clear hb2; rw [HRA.out]))
    (refine seg_step (fun K hK => ?_); simp only [List.take_succ_cons, List.take_zero, List.drop_succ_cons, List.drop_zero]; (repeat still_step); refine wpStill_nil ?_)
    go_wp2_with (((with_reducible refine (p_array HX2.out.at_ _ hi.b).mono ?_); rintro e w3 ⟨rfl, hb3⟩; have HX3 := Lib.hid (HX2.out.keep hb3); have HW3 := Lib.hid (Gr.trans HW2.out hb3); have hall3 := HX3.out.all; clear hb3; rw [HRB.out]))
    (refine seg_step (fun K hK => ?_); simp only [List.take_succ_cons, List.take_zero, List.drop_succ_cons, List.drop_zero]; (repeat still_step); refine wpStill_nil ?_)
    go_wp2_with fail
    (refine seg_step (fun K hK => ?_); simp only [List.take_succ_cons, List.take_zero, List.drop_succ_cons, List.drop_zero]; (repeat still_step); refine wpStill_nil ?_)
    go_wp2_with fail
    (refine seg_done ?_; simp only [List.drop_succ_cons, List.drop_zero]; go_wp2_with fail)
    go_ret
    exact ⟨ret_bool HR.out.symm, HW3.out⟩
  case pos =>
  have hn1 : ((i.n : Int) == 2) = true := by simp; omega
  have hn2 : decide ((i.n : Int) = 2) = true := by simp; omega
  have hn3 : decide (i.n = 2) = true := by simpa using hn
  have hn4 : 1 < i.n := by omega
  have hn5 : 0 < i.n := by omega
  have hn6 : (0 : Int) < i.n := by omega
  have hn7 : (1 : Int) < i.n := by omega
  rw [hn3] at HR
  obtain ⟨ab, ao, hiA, hab, x0, hx0, hwx0, hcx0⟩ := HL.out.at (k := 0) (by omega)
  obtain ⟨ab', ao', hiA', -, x1, hx1, hwx1, hcx1⟩ := HL.out.at (k := 1) (by omega)
  rw [hiA] at hiA'
  injection hiA' with hiA'
  injection hiA' with e1 e2
  subst e1 e2
  have habl : ab < w.heap.size := Nat.lt_of_lt_of_le hab HLE.out
  have HG : Hid ((i.args.getD 0 0) = x0 ∧ (i.args.getD 1 0) = x1) := by
    unfold Hid
    rw [List.getD_eq_getElem?_getD, List.getD_eq_getElem?_getD, hx0, hx1]
    exact ⟨rfl, rfl⟩
  rw [HG.out.1, HG.out.2] at HR
  have HIA := Lib.hid hiA
  have HC0 : Hid (∀ w2, Below w.heap.size w w2 → w2.cell? ⟨ab, ao, none⟩ = some (.int .i64 x0) ∧ w2.cell? ⟨ab, ao + 1, none⟩ = some (.int .i64 x1)) := fun w2 hb => ⟨(hb.cell (p := ⟨ab, ao, none⟩) habl).trans hcx0, (hb.cell (p := ⟨ab, ao + 1, none⟩) habl).trans hcx1⟩
  clear hx0 hx1 hcx0 hcx1 hiA hn
  have HMO : Hid (mayB C p 111 x1 = optB p x1) := rfl
  cases hrc : regB p x0
  · have HRC := Lib.hid hrc
    rw [hrc] at HR
    clear hrc
    go_enter Tryd.func21, Tryd.ntmps21
    go_wp2_with fail
    refine wp_region_segs [3, 4, 18, 7] (by kernel_rfl) (by kernel_rfl) ?_
    (refine seg_step (fun K hK => ?_); simp only [List.take_succ_cons, List.take_zero, List.drop_succ_cons, List.drop_zero]; (repeat still_step); refine wpStill_nil ?_)
    go_wp2_with (((with_reducible refine (p_listed1 HX.out.box _ hi.a).mono ?_); rintro e w2 ⟨rfl, hb2⟩; have HX2 := Lib.hid (HX.out.keep hb2); have HW2 := Lib.hid (Gr.trans HW.out hb2); have hall2 := HX2.out.all; clear hb2; rw [HRA.out]))
    (refine seg_step (fun K hK => ?_); simp only [List.take_succ_cons, List.take_zero, List.drop_succ_cons, List.drop_zero]; (repeat still_step); refine wpStill_nil ?_)
    go_wp2_with (((with_reducible refine (p_array HX2.out.at_ _ hi.b).mono ?_); rintro e w3 ⟨rfl, hb3⟩; have HX3 := Lib.hid (HX2.out.keep hb3); have HW3 := Lib.hid (Gr.trans HW2.out hb3); have hall3 := HX3.out.all; clear hb3; rw [HRB.out]))
    have hiA := HIA.out
    have hcc := HC0.out _ HW3.out
    (refine seg_step (fun K hK => ?_); simp only [List.take_succ_cons, List.take_zero, List.drop_succ_cons, List.drop_zero]; (repeat still_step); refine wpStill_nil ?_)
    go_wp2_with (((with_reducible refine (p_listed1 HX3.out.box _ hwx0).mono ?_); rintro e w4 ⟨rfl, hb4⟩; have HX4 := Lib.hid (HX3.out.keep hb4); have HW4 := Lib.hid (Gr.trans HW3.out hb4); have hall4 := HX4.out.all; clear hb4; rw [HRC.out]))
    (refine seg_step (fun K hK => ?_); simp only [List.take_succ_cons, List.take_zero, List.drop_succ_cons, List.drop_zero]; (repeat still_step); refine wpStill_nil ?_)
    go_wp2_with fail
    (refine seg_done ?_; simp only [List.drop_succ_cons, List.drop_zero]; go_wp2_with fail)
    go_ret
    exact ⟨ret_bool HR.out.symm, HW4.out⟩
  · have HRC := Lib.hid hrc
    rw [hrc] at HR
    clear hrc
    go_enter Tryd.func21, Tryd.ntmps21
    go_wp2_with fail
    refine wp_region_segs [3, 4, 18, 7] (by kernel_rfl) (by kernel_rfl) ?_
    (refine seg_step (fun K hK => ?_); simp only [List.take_succ_cons, List.take_zero, List.drop_succ_cons, List.drop_zero]; (repeat still_step); refine wpStill_nil ?_)
    go_wp2_with (((with_reducible refine (p_listed1 HX.out.box _ hi.a).mono ?_); rintro e w2 ⟨rfl, hb2⟩; have HX2 := Lib.hid (HX.out.keep hb2); have HW2 := Lib.hid (Gr.trans HW.out hb2); have hall2 := HX2.out.all; clear hb2; rw [HRA.out]))
    (refine seg_step (fun K hK => ?_); simp only [List.take_succ_cons, List.take_zero, List.drop_succ_cons, List.drop_zero]; (repeat still_step); refine wpStill_nil ?_)
    go_wp2_with (((with_reducible refine (p_array HX2.out.at_ _ hi.b).mono ?_); rintro e w3 ⟨rfl, hb3⟩; have HX3 := Lib.hid (HX2.out.keep hb3); have HW3 := Lib.hid (Gr.trans HW2.out hb3); have hall3 := HX3.out.all; clear hb3; rw [HRB.out]))
    have hiA := HIA.out
    have hcc := HC0.out _ HW3.out
    (refine seg_step (fun K hK => ?_); simp only [List.take_succ_cons, List.take_zero, List.drop_succ_cons, List.drop_zero]; (repeat still_step); refine wpStill_nil ?_)
    go_wp2_with (((with_reducible refine (p_listed1 HX3.out.box _ hwx0).mono ?_); rintro e w4 ⟨rfl, hb4⟩; have HX4 := Lib.hid (HX3.out.keep hb4); have HW4 := Lib.hid (Gr.trans HW3.out hb4); have hall4 := HX4.out.all; clear hb4; rw [HRC.out]))
    have hcc4 := HC0.out _ HW4.out
    (refine seg_step (fun K hK => ?_); simp only [List.take_succ_cons, List.take_zero, List.drop_succ_cons, List.drop_zero]; (repeat still_step); refine wpStill_nil ?_)
    go_wp2_with (((with_reducible refine (p_may HX4.out.at_ _ _ hwx1).mono ?_); rintro e w5 ⟨rfl, hb5⟩; have HX5 := Lib.hid (HX4.out.keep hb5); have HW5 := Lib.hid (Gr.trans HW4.out hb5); have hall5 := HX5.out.all; clear hb5; rw [HMO.out]))
    (refine seg_done ?_; simp only [List.drop_succ_cons, List.drop_zero]; go_wp2_with fail)
    go_ret
    exact ⟨ret_bool (by rw [HR.out]; rfl), HW5.out⟩
def Cod.listedB (C : CV) (p : PV) (i : IV) : Bool := bif i.op == 25 then argsB C p i else bif i.op == 27 then splitB C p i else bif i.op == 28 then subB p i else bif i.op == 29 then getlB p i else printB p i
set_option maxRecDepth 20000 in
theorem p_listed25 {C : CV} {p : PV} {w : World} {B : Nat} (h : PlaceAt w B C p) (hC : CodeAt w B C) (i : IV) (hi : IOk i) (hl : Ints w B i.A i.n i.args) (o25 : (i.op == 25) = true) :
    Calls Tryd.prog 21 #[.agg #[.slice C.A0 C.n0 C.c0, .slice C.A1 C.n1 C.c1, .slice C.A2 C.n2 C.c2, .slice C.A3 C.n3 C.c3, .slice C.A4 C.n4 C.c4, .slice C.A5 C.n5 C.c5, .slice C.A6 C.n6 C.c6, .int .i64 p.regs, .slice p.A p.n p.c, .int .i64 p.loops, .slice p.A' p.n' p.c'], .agg #[.int .u8 i.op, .int .i64 i.a, .int .i64 i.b, .int .i64 i.c, .string i.s, .slice i.A i.n i.cap]] w fun e w' => e = .returned (.bool (argsB C p i)) ∧ Below w.heap.size w w' := by
  have HX := Lib.hid (Boxed.made i h)
  have HC := Lib.hid (hC.keep (enterW w C p i))
  have HL := Lib.hid (hl.keep h.le (enterW w C p i))
  clear h hC hl
  go_enter Tryd.func21, Tryd.ntmps21
  go_wp2_with (((with_reducible refine (p_args HX.out.at_ HC.out i hi HL.out).mono ?_); rintro e w2 ⟨rfl, hb2⟩))
  go_ret
  exact ⟨rfl, Gr.trans (enterW w C p i) hb2⟩
theorem p_listed {C : CV} {p : PV} {w : World} {B : Nat} (h : PlaceAt w B C p) (hC : CodeAt w B C) (i : IV) (hi : IOk i) (hl : Ints w B i.A i.n i.args) :
    Calls Tryd.prog 21 #[.agg #[.slice C.A0 C.n0 C.c0, .slice C.A1 C.n1 C.c1, .slice C.A2 C.n2 C.c2, .slice C.A3 C.n3 C.c3, .slice C.A4 C.n4 C.c4, .slice C.A5 C.n5 C.c5, .slice C.A6 C.n6 C.c6, .int .i64 p.regs, .slice p.A p.n p.c, .int .i64 p.loops, .slice p.A' p.n' p.c'], .agg #[.int .u8 i.op, .int .i64 i.a, .int .i64 i.b, .int .i64 i.c, .string i.s, .slice i.A i.n i.cap]] w fun e w' => e = .returned (.bool (listedB C p i)) ∧ Below w.heap.size w w' := by
  unfold listedB
  cases o25 : i.op == 25
  · cases o27 : i.op == 27
    · cases o28 : i.op == 28
      · cases o29 : i.op == 29
        · exact p_listed30 h i hi hl o25 o27 o28 o29
        · exact p_listed29 h i hi hl o25 o27 o28 o29
      · exact p_listed28 h i hi hl o25 o27 o28
    · exact p_listed27 h i hi hl o25 o27
  · exact p_listed25 h hC i hi hl o25
end Go.Proofs.YtankpckkiikmaaaDoor
