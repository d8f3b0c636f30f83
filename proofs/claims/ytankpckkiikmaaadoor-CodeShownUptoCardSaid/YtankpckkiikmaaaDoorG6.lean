/- Code: the walk of Ins: the rows of the table. -/
import Derived.Test.YtankpckkiikmaaaDoorG5
set_option linter.unusedVariables false
set_option linter.unusedSimpArgs false
namespace Go.Proofs.YtankpckkiikmaaaDoor
open Go.RowKit Cod
theorem set_c0 {W : World} {X : Nat} {u a b : Value} (h : W.cell? ⟨X, 0, none⟩ = some u) : ((W.setCell ⟨X, 0, none⟩ a).setCell ⟨X, 1, none⟩ b).cell? ⟨X, 0, none⟩ = some a :=
  by rw [World.cell?_setCell_other _ _ _ _ (by simp)]; exact World.cell?_setCell_same' _ _ _ (by rw [h]; rfl)
theorem set_c1 {W : World} {X : Nat} {u a b : Value} (h : W.cell? ⟨X, 1, none⟩ = some u) : ((W.setCell ⟨X, 0, none⟩ a).setCell ⟨X, 1, none⟩ b).cell? ⟨X, 1, none⟩ = some b :=
  World.cell?_setCell_same' _ _ _ (by rw [World.cell?_setCell_other _ _ _ _ (by simp), h]; rfl)
theorem row_fin {bn a s : Bool} {n : Nat} (h : bn = decide (0 < n)) : (decide (n = 0) && (a && s)) = (!bn && (a && s)) := by
  subst h
  cases n <;> simp
theorem row_e1 {bn a s : Bool} (h : bn = true) : false = (!bn && (a && s)) := by rw [h]; rfl
theorem row_e2 {bn a s : Bool} (h : (!a) = true) : false = (!bn && (a && s)) := by cases a <;> simp_all
theorem row_e3 {bn a s : Bool} (h : ¬ bn = true) (h2 : (!a) = false) : s = (!bn && (a && s)) := by cases a <;> cases bn <;> simp_all
theorem row_e5 {bn a s v : Bool} (h : ¬ bn = true) (h2 : (!a) = false) (h3 : v = s) : v = (!bn && (a && s)) := by subst h3; exact row_e3 h h2
theorem row_z1 {s : ByteArray} (h : s.toList = []) : true = empB s := by
  rw [ByteArray.toList_eq] at h; unfold empB; rw [h]; rfl
theorem row_z2 {s : ByteArray} : (s.toList.isEmpty || Lib.containsS [] s) = empB s := by
  rw [ByteArray.toList_eq, show Lib.containsS [] s = false from rfl, Bool.or_false]; rfl
structure RowSt (w W : World) (BP X B : Nat) (C : CV) (p : PV) (i : IV) (abc : ByteArray) (V : Value) (A : Option Addr) (n : Nat) (L : List ByteArray) : Prop where
  box : Boxed W BP (w.heap.size + 1) B C p i
  below : Below w.heap.size w W
  c0 : W.cell? ⟨X, 0, none⟩ = some (.string abc)
  c1 : W.cell? ⟨X, 1, none⟩ = some V
  lt : X < W.heap.size
  say : Strs W W.heap.size A n L
theorem RowSt.keep {w W W' : World} {BP X B : Nat} {C : CV} {p : PV} {i : IV} {abc : ByteArray} {V : Value} {A : Option Addr} {n : Nat} {L : List ByteArray} (h : RowSt w W BP X B C p i abc V A n L) (hb : Below W.heap.size W W') : RowSt w W' BP X B C p i abc V A n L :=
  ⟨h.box.keep hb, Gr.trans h.below hb, (hb.cell (p := ⟨X, 0, none⟩) h.lt).trans h.c0, (hb.cell (p := ⟨X, 1, none⟩) h.lt).trans h.c1, Nat.lt_of_lt_of_le h.lt hb.size, h.say.keep hb.size (fun b o _ hl => hb.block b hl)⟩
theorem RowSt.madeA {w w3 : World} {BP B : Nat} {C : CV} {p : PV} {i : IV} (hX : Boxed w3 BP (w.heap.size + 1) B C p i) (hW : Below w.heap.size w w3) (u0 u1 u2 : UInt8) (V : Value) {A : Option Addr} {n : Nat} {L : List ByteArray} (hs : Strs w3 w3.heap.size A n L) :
    RowSt w (w3.alloc (.cells #[.string ⟨#[u0, u1, u2]⟩, V] 54)) BP w3.heap.size B C p i ⟨#[u0, u1, u2]⟩ V A n L :=
  have hb : Below w3.heap.size w3 (w3.alloc (.cells #[.string ⟨#[u0, u1, u2]⟩, V] 54)) := (Below.refl _ _).alloc (Nat.le_refl _) _
  ⟨hX.keep hb, Gr.trans hW hb, by simp, by simp, by simp, hs.keep hb.size (fun b o _ hl => hb.block b hl)⟩
theorem RowSt.madeB {w W2 w3 : World} {BP B : Nat} {C : CV} {p : PV} {i : IV} (hX2 : Boxed W2 BP (w.heap.size + 1) B C p i) (hX : Boxed w3 BP (w.heap.size + 1) B C p i) (hW2 : Below w.heap.size w W2) (hW : Below w.heap.size w w3) (u0 u1 u2 : UInt8) (V : Value)
    (hz : w3.cell? ⟨W2.heap.size, 0, none⟩ = some (.string ⟨#[]⟩) ∧ w3.cell? ⟨W2.heap.size, 1, none⟩ = some (.slice none 0 0) ∧ w3.frozen? ⟨W2.heap.size, 0, none⟩ = false ∧ w3.frozen? ⟨W2.heap.size, 1, none⟩ = false) {A : Option Addr} {n : Nat} {L : List ByteArray} (hs : Strs w3 w3.heap.size A n L) (hA : ∀ b o, A = some ⟨b, o, none⟩ → b ≠ W2.heap.size) :
    RowSt w ((w3.setCell ⟨W2.heap.size, 0, none⟩ (.string ⟨#[u0, u1, u2]⟩)).setCell ⟨W2.heap.size, 1, none⟩ V) BP W2.heap.size B C p i ⟨#[u0, u1, u2]⟩ V A n L := by
  have h1 := (Array.getElem?_eq_some_iff.1 hX2.pl).1
  have h2 := (Array.getElem?_eq_some_iff.1 hX2.il).1
  have h3 := hX2.at_.le
  have hs2 := hW2.size
  have hlt : W2.heap.size < w3.heap.size := by
    rcases Nat.lt_or_ge W2.heap.size w3.heap.size with h | h
    · exact h
    · have := hz.1; simp [World.cell?, Array.getElem?_eq_none h] at this
  have hsz : ((w3.setCell ⟨W2.heap.size, 0, none⟩ (.string ⟨#[u0, u1, u2]⟩)).setCell ⟨W2.heap.size, 1, none⟩ V).heap.size = w3.heap.size := by simp [World.setCell]
  have hB : Below B w3 ((w3.setCell ⟨W2.heap.size, 0, none⟩ (.string ⟨#[u0, u1, u2]⟩)).setCell ⟨W2.heap.size, 1, none⟩ V) := ((Below.refl _ _).setCell h3 _).setCell h3 _
  refine ⟨⟨heap_set2 hX.pl (by omega) _ _, heap_set2 hX.il (by omega) _ _, hX.at_.turn hB (by rw [hsz]; exact Nat.le_refl _)⟩, (hW.setCell hs2 _).setCell hs2 _, ?_, ?_, by rw [hsz]; exact hlt, hs.keep (by rw [hsz]; exact Nat.le_refl _) (fun b o e _ => ?_)⟩
  · exact set_c0 hz.1
  · exact set_c1 hz.2.1
  · have := hA b o e
    rw [RowKit.Below.heap_setCell _ _ _ _ this, RowKit.Below.heap_setCell _ _ _ _ this]
theorem row_look0 {w0 w : World} (h : RowsInv w0 w 27 2) (n : Nat) (hn : w0.heap.size = n) (op : Int) (r : RowM) (hq : rowsM.find? (fun r => op == r.op) = some r) (hk : r.kind = 0) :
    (Instr.lookup 56 (.map (some n)) (.int .u8 op) true).run Tryd.prog w = .ok (.tuple #[.agg #[.string ⟨#[r.u0, r.u1, r.u2]⟩, .slice none 0 0], .bool true]) w := by
  subst hn
  have := rows_look h op (some r) hq
  simp only [Option.map_some, Option.getD_some, Option.isSome_some, rowV, saysV, hk] at this
  exact this
theorem row_look0_alloc {w0 w : World} (h : RowsInv w0 w 27 2) (n : Nat) (hn : w0.heap.size = n) (op : Int) (r : RowM) (ob : Obj) (hq : rowsM.find? (fun r => op == r.op) = some r) (hk : r.kind = 0) :
    (Instr.lookup 56 (.map (some n)) (.int .u8 op) true).run Tryd.prog (w.alloc ob) = .ok (.tuple #[.agg #[.string ⟨#[r.u0, r.u1, r.u2]⟩, .slice none 0 0], .bool true]) (w.alloc ob) := by
  subst hn
  have h2 : MapLit (w.alloc ob) w0.heap.size (rowsL w0.heap.size) := MapLit.keep h.map ((MapKept.heap_alloc w ob).2 _ h.map.lt)
  have := h2.run_look Tryd.underlying56 Tryd.underlying29 (key := .int .u8 op) (.inl ⟨_, _, rfl, rfl⟩) (zero_has _) (rows_at _ op)
  rw [hq] at this
  simp only [Option.map_some, Option.getD_some, Option.isSome_some, rowV, saysV, hk] at this
  exact this
theorem row_look1 {w0 w : World} (h : RowsInv w0 w 27 2) (n : Nat) (hn : w0.heap.size = n) (op : Int) (r : RowM) (hq : rowsM.find? (fun r => op == r.op) = some r) (hk : r.kind = 1) :
    (Instr.lookup 56 (.map (some n)) (.int .u8 op) true).run Tryd.prog w = .ok (.tuple #[.agg #[.string ⟨#[r.u0, r.u1, r.u2]⟩, .slice (some ⟨n + 1, 0, none⟩) 6 6], .bool true]) w := by
  subst hn
  have := rows_look h op (some r) hq
  simp only [Option.map_some, Option.getD_some, Option.isSome_some, rowV, saysV, hk] at this
  exact this
theorem row_look1_alloc {w0 w : World} (h : RowsInv w0 w 27 2) (n : Nat) (hn : w0.heap.size = n) (op : Int) (r : RowM) (ob : Obj) (hq : rowsM.find? (fun r => op == r.op) = some r) (hk : r.kind = 1) :
    (Instr.lookup 56 (.map (some n)) (.int .u8 op) true).run Tryd.prog (w.alloc ob) = .ok (.tuple #[.agg #[.string ⟨#[r.u0, r.u1, r.u2]⟩, .slice (some ⟨n + 1, 0, none⟩) 6 6], .bool true]) (w.alloc ob) := by
  subst hn
  have h2 : MapLit (w.alloc ob) w0.heap.size (rowsL w0.heap.size) := MapLit.keep h.map ((MapKept.heap_alloc w ob).2 _ h.map.lt)
  have := h2.run_look Tryd.underlying56 Tryd.underlying29 (key := .int .u8 op) (.inl ⟨_, _, rfl, rfl⟩) (zero_has _) (rows_at _ op)
  rw [hq] at this
  simp only [Option.map_some, Option.getD_some, Option.isSome_some, rowV, saysV, hk] at this
  exact this
theorem row_look2 {w0 w : World} (h : RowsInv w0 w 27 2) (n : Nat) (hn : w0.heap.size = n) (op : Int) (r : RowM) (hq : rowsM.find? (fun r => op == r.op) = some r) (hk : r.kind = 2) :
    (Instr.lookup 56 (.map (some n)) (.int .u8 op) true).run Tryd.prog w = .ok (.tuple #[.agg #[.string ⟨#[r.u0, r.u1, r.u2]⟩, .slice (some ⟨n + 2, 0, none⟩) 6 6], .bool true]) w := by
  subst hn
  have := rows_look h op (some r) hq
  simp only [Option.map_some, Option.getD_some, Option.isSome_some, rowV, saysV, hk] at this
  exact this
theorem row_look2_alloc {w0 w : World} (h : RowsInv w0 w 27 2) (n : Nat) (hn : w0.heap.size = n) (op : Int) (r : RowM) (ob : Obj) (hq : rowsM.find? (fun r => op == r.op) = some r) (hk : r.kind = 2) :
    (Instr.lookup 56 (.map (some n)) (.int .u8 op) true).run Tryd.prog (w.alloc ob) = .ok (.tuple #[.agg #[.string ⟨#[r.u0, r.u1, r.u2]⟩, .slice (some ⟨n + 2, 0, none⟩) 6 6], .bool true]) (w.alloc ob) := by
  subst hn
  have h2 : MapLit (w.alloc ob) w0.heap.size (rowsL w0.heap.size) := MapLit.keep h.map ((MapKept.heap_alloc w ob).2 _ h.map.lt)
  have := h2.run_look Tryd.underlying56 Tryd.underlying29 (key := .int .u8 op) (.inl ⟨_, _, rfl, rfl⟩) (zero_has _) (rows_at _ op)
  rw [hq] at this
  simp only [Option.map_some, Option.getD_some, Option.isSome_some, rowV, saysV, hk] at this
  exact this
theorem says_row0 {w0 w : World} (h : RowsInv w0 w 27 2) (n : Nat) (hn : w0.heap.size = n) : True := trivial
theorem strs_blk {w : World} {g : Nat} {l : List ByteArray} {t : TypeId} {fz : Nat × Nat} (h : w.heap[g]? = some (.cells (svals l).toArray t fz)) : Strs w w.heap.size (some ⟨g, 0, none⟩) l.length l :=
  ⟨rfl, fun _ => ⟨g, 0, rfl, (Array.getElem?_eq_some_iff.1 h).1, fun i hi => by simp [World.cell?, h, svals, hi]⟩⟩
theorem says_row1 {w0 w : World} (h : RowsInv w0 w 27 2) (n : Nat) (hn : w0.heap.size = n) : Strs w w.heap.size (some ⟨n + 1, 0, none⟩) 6 arithS := by
  subst hn
  exact strs_blk (h.ar (by omega))
theorem says_row2 {w0 w : World} (h : RowsInv w0 w 27 2) (n : Nat) (hn : w0.heap.size = n) : Strs w w.heap.size (some ⟨n + 2, 0, none⟩) 6 cmpS := by
  subst hn
  exact strs_blk (h.cm (Nat.le_refl _))
set_option maxRecDepth 20000 in
set_option maxHeartbeats 4000000 in
theorem p_ins_row0 {C : CV} {w : World} {B : Nat} (hC : CodeAt w B C) (k : Nat) (hk : k < C.n2) (i : IV) (q : PV) (hq : C.parts[k]? = some q) (hi : IOk i) (hl : Ints w B i.A i.n i.args) (r : RowM) (o5 : (i.op == 5) = false) (o6 : (i.op == 6) = false) (o9 : (i.op == 9) = false) (o26 : (i.op == 26) = false) (o25 : (i.op == 25) = false) (o27 : (i.op == 27) = false) (o28 : (i.op == 28) = false) (o29 : (i.op == 29) = false) (o30 : (i.op == 30) = false) (hfind : rowsM.find? (fun r => i.op == r.op) = some r) (hkind : r.kind = 0) :
    Calls Tryd.prog 7 #[.agg #[.slice C.A0 C.n0 C.c0, .slice C.A1 C.n1 C.c1, .slice C.A2 C.n2 C.c2, .slice C.A3 C.n3 C.c3, .slice C.A4 C.n4 C.c4, .slice C.A5 C.n5 C.c5, .slice C.A6 C.n6 C.c6], .int .i64 k, .agg #[.int .u8 i.op, .int .i64 i.a, .int .i64 i.b, .int .i64 i.c, .string i.s, .slice i.A i.n i.cap]] w fun e w' => e = .returned (.bool (decide (i.n = 0) && (abcB C q [r.u0, r.u1, r.u2] i && empB i.s))) ∧ Below w.heap.size w w' := by
  have HC := Lib.hid hC
  have hn2 := hC.n2
  unfold maxLen at hn2
  obtain ⟨pb, po, q', hpA, hpb, hq', hqp, r0, r1, r2, r3⟩ := hC.part hk
  obtain rfl : q' = q := Option.some.inj (hq'.symm.trans hq)
  clear hC hq hq'
  have HPA := Lib.hid hpA
  have HNN := Lib.hid hfind
  have HKK := Lib.hid hkind
  clear hfind hkind
  have hln := hl.2.1
  unfold maxLen at hln
  have HQP := Lib.hid hqp
  clear hpA hqp
  have hs0 : ((w.alloc (.cells #[.slice C.A0 C.n0 C.c0, .slice C.A1 C.n1 C.c1, .slice C.A2 C.n2 C.c2, .slice C.A3 C.n3 C.c3, .slice C.A4 C.n4 C.c4, .slice C.A5 C.n5 C.c5, .slice C.A6 C.n6 C.c6] 28)).alloc (.cells #[.int .u8 i.op, .int .i64 i.a, .int .i64 i.b, .int .i64 i.c, .string i.s, .slice i.A i.n i.cap] 31)).heap[w.heap.size]? = some (.cells #[.slice C.A0 C.n0 C.c0, .slice C.A1 C.n1 C.c1, .slice C.A2 C.n2 C.c2, .slice C.A3 C.n3 C.c3, .slice C.A4 C.n4 C.c4, .slice C.A5 C.n5 C.c5, .slice C.A6 C.n6 C.c6] 28 (0, 0)) := by
    rw [(MapKept.heap_alloc _ _).2 _ (by simp), (MapKept.heap_alloc w _).1]
  have hs1 : ((w.alloc (.cells #[.slice C.A0 C.n0 C.c0, .slice C.A1 C.n1 C.c1, .slice C.A2 C.n2 C.c2, .slice C.A3 C.n3 C.c3, .slice C.A4 C.n4 C.c4, .slice C.A5 C.n5 C.c5, .slice C.A6 C.n6 C.c6] 28)).alloc (.cells #[.int .u8 i.op, .int .i64 i.a, .int .i64 i.b, .int .i64 i.c, .string i.s, .slice i.A i.n i.cap] 31)).heap[w.heap.size + 1]? = some (.cells #[.int .u8 i.op, .int .i64 i.a, .int .i64 i.b, .int .i64 i.c, .string i.s, .slice i.A i.n i.cap] 31 (0, 0)) := by
    have := (MapKept.heap_alloc (w.alloc (.cells #[.slice C.A0 C.n0 C.c0, .slice C.A1 C.n1 C.c1, .slice C.A2 C.n2 C.c2, .slice C.A3 C.n3 C.c3, .slice C.A4 C.n4 C.c4, .slice C.A5 C.n5 C.c5, .slice C.A6 C.n6 C.c6] 28)) (.cells #[.int .u8 i.op, .int .i64 i.a, .int .i64 i.b, .int .i64 i.c, .string i.s, .slice i.A i.n i.cap] 31)).1
    rwa [World.size_alloc] at this
  have hbW : Below w.heap.size w ((w.alloc (.cells #[.slice C.A0 C.n0 C.c0, .slice C.A1 C.n1 C.c1, .slice C.A2 C.n2 C.c2, .slice C.A3 C.n3 C.c3, .slice C.A4 C.n4 C.c4, .slice C.A5 C.n5 C.c5, .slice C.A6 C.n6 C.c6] 28)).alloc (.cells #[.int .u8 i.op, .int .i64 i.a, .int .i64 i.b, .int .i64 i.c, .string i.s, .slice i.A i.n i.cap] 31)) := ((Below.refl _ _).alloc (Nat.le_refl _) _).alloc (by simp) _
  have HBW := Lib.hid hbW
  have HS0 := Lib.hid hs0
  have HS1 := Lib.hid hs1
  clear hs0 hs1 hbW
  go_enter Tryd.func7, Tryd.ntmps7
  go_wp2_with fail
  generalize ((w.alloc (.cells #[.slice C.A0 C.n0 C.c0, .slice C.A1 C.n1 C.c1, .slice C.A2 C.n2 C.c2, .slice C.A3 C.n3 C.c3, .slice C.A4 C.n4 C.c4, .slice C.A5 C.n5 C.c5, .slice C.A6 C.n6 C.c6] 28)).alloc (.cells #[.int .u8 i.op, .int .i64 i.a, .int .i64 i.b, .int .i64 i.c, .string i.s, .slice i.A i.n i.cap] 31)) = W at HS0 HS1 HBW ⊢
  have k0 := (HBW.out.cell (p := ⟨pb, po + k * 4, none⟩) hpb).trans r0
  have k1 := (HBW.out.cell (p := ⟨pb, po + k * 4 + 1, none⟩) hpb).trans r1
  have k2 := (HBW.out.cell (p := ⟨pb, po + k * 4 + 2, none⟩) hpb).trans r2
  have k3 := (HBW.out.cell (p := ⟨pb, po + k * 4 + 3, none⟩) hpb).trans r3
  have kc := ccells HS0.out
  have hpA := HPA.out
  go_region_held3 (fun w' => (w'.cell? ⟨w.heap.size, 0, none⟩ = some (.slice C.A0 C.n0 C.c0) ∧ w'.cell? ⟨w.heap.size, 1, none⟩ = some (.slice C.A1 C.n1 C.c1) ∧ w'.cell? ⟨w.heap.size, 2, none⟩ = some (.slice C.A2 C.n2 C.c2) ∧ w'.cell? ⟨w.heap.size, 3, none⟩ = some (.slice C.A3 C.n3 C.c3) ∧ w'.cell? ⟨w.heap.size, 4, none⟩ = some (.slice C.A4 C.n4 C.c4) ∧ w'.cell? ⟨w.heap.size, 5, none⟩ = some (.slice C.A5 C.n5 C.c5) ∧ w'.cell? ⟨w.heap.size, 6, none⟩ = some (.slice C.A6 C.n6 C.c6)) ∧ w'.cell? ⟨pb, po + k * 4, none⟩ = some (.int .i64 q'.regs) ∧ w'.cell? ⟨pb, po + k * 4 + 1, none⟩ = some (.slice q'.A q'.n q'.c) ∧ w'.cell? ⟨pb, po + k * 4 + 2, none⟩ = some (.int .i64 q'.loops) ∧ w'.cell? ⟨pb, po + k * 4 + 3, none⟩ = some (.slice q'.A' q'.n' q'.c')) (first | exact ⟨kc, k0, k1, k2, k3⟩ | go_keep) (fail)
  rw [← hpA]
  clear hpA kc k0 k1 k2 k3
  have hX2 : Boxed (W.alloc (.cells #[.slice C.A0 C.n0 C.c0, .slice C.A1 C.n1 C.c1, .slice C.A2 C.n2 C.c2, .slice C.A3 C.n3 C.c3, .slice C.A4 C.n4 C.c4, .slice C.A5 C.n5 C.c5, .slice C.A6 C.n6 C.c6, .int .i64 q'.regs, .slice q'.A q'.n q'.c, .int .i64 q'.loops, .slice q'.A' q'.n' q'.c'] 46)).drew W.heap.size (w.heap.size + 1) B C q' i :=
    (⟨(MapKept.heap_alloc W _).1, ((MapKept.heap_alloc W _).2 _ (Array.getElem?_eq_some_iff.1 HS1.out).1).trans HS1.out, HQP.out.keep (HBW.out.trans ((Below.refl _ _).alloc HBW.out.size _))⟩ : Boxed (W.alloc (.cells #[.slice C.A0 C.n0 C.c0, .slice C.A1 C.n1 C.c1, .slice C.A2 C.n2 C.c2, .slice C.A3 C.n3 C.c3, .slice C.A4 C.n4 C.c4, .slice C.A5 C.n5 C.c5, .slice C.A6 C.n6 C.c6, .int .i64 q'.regs, .slice q'.A q'.n q'.c, .int .i64 q'.loops, .slice q'.A' q'.n' q'.c'] 46)) W.heap.size (w.heap.size + 1) B C q' i).drew
  have hb2 : Below w.heap.size w (W.alloc (.cells #[.slice C.A0 C.n0 C.c0, .slice C.A1 C.n1 C.c1, .slice C.A2 C.n2 C.c2, .slice C.A3 C.n3 C.c3, .slice C.A4 C.n4 C.c4, .slice C.A5 C.n5 C.c5, .slice C.A6 C.n6 C.c6, .int .i64 q'.regs, .slice q'.A q'.n q'.c, .int .i64 q'.loops, .slice q'.A' q'.n' q'.c'] 46)).drew := Gr.trans (Gr.trans HBW.out ((Below.refl _ _).alloc (Nat.le_refl _) _)) (Below.refl _ _).drew
  generalize (W.alloc (.cells #[.slice C.A0 C.n0 C.c0, .slice C.A1 C.n1 C.c1, .slice C.A2 C.n2 C.c2, .slice C.A3 C.n3 C.c3, .slice C.A4 C.n4 C.c4, .slice C.A5 C.n5 C.c5, .slice C.A6 C.n6 C.c6, .int .i64 q'.regs, .slice q'.A q'.n q'.c, .int .i64 q'.loops, .slice q'.A' q'.n' q'.c'] 46)).drew = W2 at hX2 hb2 ⊢
  generalize W.heap.size = BP at hX2 ⊢
  have HX2 := Lib.hid hX2
  have HW2 := Lib.hid hb2
  have hall2 := HX2.out.cells
  clear hX2 hb2
  go_wp2_with fail
  all_goals
   have HXd := Lib.hid HX2.out.drew
   have hsi := icells HXd.out.il
   have hne : w.heap.size + 1 ≠ W2.heap.size := Nat.ne_of_lt (Array.getElem?_eq_some_iff.1 HX2.out.il).1
   go_region_held3 (fun w' => w'.cell? ⟨w.heap.size + 1, 0, none⟩ = some (.int .u8 i.op) ∧ w'.cell? ⟨w.heap.size + 1, 1, none⟩ = some (.int .i64 i.a) ∧ w'.cell? ⟨w.heap.size + 1, 2, none⟩ = some (.int .i64 i.b) ∧ w'.cell? ⟨w.heap.size + 1, 3, none⟩ = some (.int .i64 i.c) ∧ w'.cell? ⟨w.heap.size + 1, 4, none⟩ = some (.string i.s) ∧ w'.cell? ⟨w.heap.size + 1, 5, none⟩ = some (.slice i.A i.n i.cap)) (first | exact hsi | exact icells HX3.out.il | exact icells (HX3.out.keep (Below.refl _ _).drew).il | exact icells (heap_set2 HX3.out.il hne _ _) | exact icells (HX3.out.keep ((Below.refl _ _).alloc (Nat.le_refl _) _)).il | go_keep) (first | (go_at_call 22; with_reducible refine (p_rows W2.drew).mono ?_; rintro e w3 ⟨rfl, hinv⟩; have HX3 := Lib.hid (HX2.out.keep (Gr.trans (Below.refl _ _).drew hinv.below)); have HW3 := Lib.hid (Gr.trans HW2.out (Gr.trans (Below.refl _ _).drew hinv.below)); have hlk := row_look0 hinv (W2.heap.size) rfl i.op r HNN.out HKK.out; have hlk2 := row_look0_alloc hinv (W2.heap.size) rfl i.op r (.cells #[.string ⟨#[]⟩, .slice none 0 0] 54) HNN.out HKK.out; have HSAY := Lib.hid (says_row0 hinv (W2.heap.size) rfl); clear hinv) | (go_at_call 22; with_reducible refine (p_rows (W2.alloc (.cells #[.string ⟨#[]⟩, .slice none 0 0] 54)).drew).mono ?_; rintro e w3 ⟨rfl, hinv⟩; have HX3 := Lib.hid (HX2.out.keep (Gr.trans ((Below.refl _ _).alloc (Nat.le_refl _) _).drew hinv.below)); have HW3 := Lib.hid (Gr.trans HW2.out (Gr.trans ((Below.refl _ _).alloc (Nat.le_refl _) _).drew hinv.below)); have hlk := row_look0 hinv (W2.heap.size + 1) (size_ad _ _) i.op r HNN.out HKK.out; have hlk2 := row_look0_alloc hinv (W2.heap.size + 1) (size_ad _ _) i.op r (.cells #[.string ⟨#[]⟩, .slice none 0 0] 54) HNN.out HKK.out; have HSAY := Lib.hid (says_row0 hinv (W2.heap.size + 1) (size_ad _ _)); have hz := had_cells hinv.below; clear hinv))
   all_goals
    first
    | (have hst := RowSt.madeB HX2.out HX3.out HW2.out HW3.out r.u0 r.u1 r.u2 (.slice none 0 0) hz (L := []) (A := none) (n := 0) (Strs.nil _ _) (by intro b o e; cases e); generalize ((w3.setCell ⟨W2.heap.size, 0, none⟩ (.string ⟨#[r.u0, r.u1, r.u2]⟩)).setCell ⟨W2.heap.size, 1, none⟩ (.slice none 0 0)) = W9 at hst ⊢; generalize W2.heap.size = X9 at hst ⊢)
    | (have hst := RowSt.madeA HX3.out HW3.out r.u0 r.u1 r.u2 (.slice none 0 0) (L := []) (A := none) (n := 0) (Strs.nil _ _); generalize w3.alloc (.cells #[.string ⟨#[r.u0, r.u1, r.u2]⟩, .slice none 0 0] 54) = W9 at hst ⊢; generalize w3.heap.size = X9 at hst ⊢)
    | (have hst := RowSt.madeA HX3.out HW3.out r.u0 r.u1 r.u2 (.slice none 0 0) (L := []) (A := none) (n := 0) (Strs.nil _ _); generalize w3.alloc (.cells #[.string ⟨#[r.u0, r.u1, r.u2]⟩, .slice none 0 0] 54) = W9 at hst ⊢; generalize w3.heap.size = X9 at hst ⊢)
   all_goals
    have HST := Lib.hid hst
    have hc0 := hst.c0
    have hc1 := hst.c1
    have hall9 := hst.box.cells
    clear hst
    obtain ⟨bn, hbn⟩ : ∃ b : Bool, b = decide (0 < i.n) := ⟨_, rfl⟩
    have hn1 : decide ((0 : Int) < (i.n : Int)) = bn := by rw [hbn]; simp
    have hn2 : decide (0 < i.n) = bn := hbn.symm
    have HBN := Lib.hid hbn
    clear hbn
    have hnil := fun w (aa : Option Addr) (n c : Nat) => Lib.run_eql_slice_nil (P := Tryd.prog) w 52 9 aa n c 0 0 Tryd.underlying52
    go_wp2_with (first | ((with_reducible refine (p_abc HST.out.box.at_ i hi r.u0 r.u1 r.u2).mono ?_); rintro e w4 ⟨rfl, hb4⟩; have HST4 := Lib.hid (HST.out.keep hb4); have hall4 := HST4.out.box.cells; have hc04 := HST4.out.c0; have hc14 := HST4.out.c1; clear hb4) | ((with_reducible refine (contains_any HST4.out.say (by decide) i.s).mono ?_); rintro e w5 ⟨rfl, rfl⟩))
   all_goals
    try (
     go_ret
     refine ⟨ret_bool ?_, by first | exact HST4.out.below | exact HST.out.below⟩
     rw [row_fin HBN.out]
     first | exact row_e1 (by assumption) | exact row_e2 (by assumption) | exact row_e3 (by assumption) (by assumption) | exact row_e5 (by assumption) (by assumption) (row_z1 (by assumption)) | exact row_e5 (by assumption) (by assumption) row_z2)
set_option maxRecDepth 20000 in
set_option maxHeartbeats 4000000 in
theorem p_ins_row1 {C : CV} {w : World} {B : Nat} (hC : CodeAt w B C) (k : Nat) (hk : k < C.n2) (i : IV) (q : PV) (hq : C.parts[k]? = some q) (hi : IOk i) (hl : Ints w B i.A i.n i.args) (r : RowM) (o5 : (i.op == 5) = false) (o6 : (i.op == 6) = false) (o9 : (i.op == 9) = false) (o26 : (i.op == 26) = false) (o25 : (i.op == 25) = false) (o27 : (i.op == 27) = false) (o28 : (i.op == 28) = false) (o29 : (i.op == 29) = false) (o30 : (i.op == 30) = false) (hfind : rowsM.find? (fun r => i.op == r.op) = some r) (hkind : r.kind = 1) :
    Calls Tryd.prog 7 #[.agg #[.slice C.A0 C.n0 C.c0, .slice C.A1 C.n1 C.c1, .slice C.A2 C.n2 C.c2, .slice C.A3 C.n3 C.c3, .slice C.A4 C.n4 C.c4, .slice C.A5 C.n5 C.c5, .slice C.A6 C.n6 C.c6], .int .i64 k, .agg #[.int .u8 i.op, .int .i64 i.a, .int .i64 i.b, .int .i64 i.c, .string i.s, .slice i.A i.n i.cap]] w fun e w' => e = .returned (.bool (decide (i.n = 0) && (abcB C q [r.u0, r.u1, r.u2] i && Lib.containsS arithS i.s))) ∧ Below w.heap.size w w' := by
  have HC := Lib.hid hC
  have hn2 := hC.n2
  unfold maxLen at hn2
  obtain ⟨pb, po, q', hpA, hpb, hq', hqp, r0, r1, r2, r3⟩ := hC.part hk
  obtain rfl : q' = q := Option.some.inj (hq'.symm.trans hq)
  clear hC hq hq'
  have HPA := Lib.hid hpA
  have HNN := Lib.hid hfind
  have HKK := Lib.hid hkind
  clear hfind hkind
  have hln := hl.2.1
  unfold maxLen at hln
  have HQP := Lib.hid hqp
  clear hpA hqp
  have hs0 : ((w.alloc (.cells #[.slice C.A0 C.n0 C.c0, .slice C.A1 C.n1 C.c1, .slice C.A2 C.n2 C.c2, .slice C.A3 C.n3 C.c3, .slice C.A4 C.n4 C.c4, .slice C.A5 C.n5 C.c5, .slice C.A6 C.n6 C.c6] 28)).alloc (.cells #[.int .u8 i.op, .int .i64 i.a, .int .i64 i.b, .int .i64 i.c, .string i.s, .slice i.A i.n i.cap] 31)).heap[w.heap.size]? = some (.cells #[.slice C.A0 C.n0 C.c0, .slice C.A1 C.n1 C.c1, .slice C.A2 C.n2 C.c2, .slice C.A3 C.n3 C.c3, .slice C.A4 C.n4 C.c4, .slice C.A5 C.n5 C.c5, .slice C.A6 C.n6 C.c6] 28 (0, 0)) := by
    rw [(MapKept.heap_alloc _ _).2 _ (by simp), (MapKept.heap_alloc w _).1]
  have hs1 : ((w.alloc (.cells #[.slice C.A0 C.n0 C.c0, .slice C.A1 C.n1 C.c1, .slice C.A2 C.n2 C.c2, .slice C.A3 C.n3 C.c3, .slice C.A4 C.n4 C.c4, .slice C.A5 C.n5 C.c5, .slice C.A6 C.n6 C.c6] 28)).alloc (.cells #[.int .u8 i.op, .int .i64 i.a, .int .i64 i.b, .int .i64 i.c, .string i.s, .slice i.A i.n i.cap] 31)).heap[w.heap.size + 1]? = some (.cells #[.int .u8 i.op, .int .i64 i.a, .int .i64 i.b, .int .i64 i.c, .string i.s, .slice i.A i.n i.cap] 31 (0, 0)) := by
    have := (MapKept.heap_alloc (w.alloc (.cells #[.slice C.A0 C.n0 C.c0, .slice C.A1 C.n1 C.c1, .slice C.A2 C.n2 C.c2, .slice C.A3 C.n3 C.c3, .slice C.A4 C.n4 C.c4, .slice C.A5 C.n5 C.c5, .slice C.A6 C.n6 C.c6] 28)) (.cells #[.int .u8 i.op, .int .i64 i.a, .int .i64 i.b, .int .i64 i.c, .string i.s, .slice i.A i.n i.cap] 31)).1
    rwa [World.size_alloc] at this
  have hbW : Below w.heap.size w ((w.alloc (.cells #[.slice C.A0 C.n0 C.c0, .slice C.A1 C.n1 C.c1, .slice C.A2 C.n2 C.c2, .slice C.A3 C.n3 C.c3, .slice C.A4 C.n4 C.c4, .slice C.A5 C.n5 C.c5, .slice C.A6 C.n6 C.c6] 28)).alloc (.cells #[.int .u8 i.op, .int .i64 i.a, .int .i64 i.b, .int .i64 i.c, .string i.s, .slice i.A i.n i.cap] 31)) := ((Below.refl _ _).alloc (Nat.le_refl _) _).alloc (by simp) _
  have HBW := Lib.hid hbW
  have HS0 := Lib.hid hs0
  have HS1 := Lib.hid hs1
  clear hs0 hs1 hbW
  go_enter Tryd.func7, Tryd.ntmps7
  go_wp2_with fail
  generalize ((w.alloc (.cells #[.slice C.A0 C.n0 C.c0, .slice C.A1 C.n1 C.c1, .slice C.A2 C.n2 C.c2, .slice C.A3 C.n3 C.c3, .slice C.A4 C.n4 C.c4, .slice C.A5 C.n5 C.c5, .slice C.A6 C.n6 C.c6] 28)).alloc (.cells #[.int .u8 i.op, .int .i64 i.a, .int .i64 i.b, .int .i64 i.c, .string i.s, .slice i.A i.n i.cap] 31)) = W at HS0 HS1 HBW ⊢
  have k0 := (HBW.out.cell (p := ⟨pb, po + k * 4, none⟩) hpb).trans r0
  have k1 := (HBW.out.cell (p := ⟨pb, po + k * 4 + 1, none⟩) hpb).trans r1
  have k2 := (HBW.out.cell (p := ⟨pb, po + k * 4 + 2, none⟩) hpb).trans r2
  have k3 := (HBW.out.cell (p := ⟨pb, po + k * 4 + 3, none⟩) hpb).trans r3
  have kc := ccells HS0.out
  have hpA := HPA.out
  go_region_held3 (fun w' => (w'.cell? ⟨w.heap.size, 0, none⟩ = some (.slice C.A0 C.n0 C.c0) ∧ w'.cell? ⟨w.heap.size, 1, none⟩ = some (.slice C.A1 C.n1 C.c1) ∧ w'.cell? ⟨w.heap.size, 2, none⟩ = some (.slice C.A2 C.n2 C.c2) ∧ w'.cell? ⟨w.heap.size, 3, none⟩ = some (.slice C.A3 C.n3 C.c3) ∧ w'.cell? ⟨w.heap.size, 4, none⟩ = some (.slice C.A4 C.n4 C.c4) ∧ w'.cell? ⟨w.heap.size, 5, none⟩ = some (.slice C.A5 C.n5 C.c5) ∧ w'.cell? ⟨w.heap.size, 6, none⟩ = some (.slice C.A6 C.n6 C.c6)) ∧ w'.cell? ⟨pb, po + k * 4, none⟩ = some (.int .i64 q'.regs) ∧ w'.cell? ⟨pb, po + k * 4 + 1, none⟩ = some (.slice q'.A q'.n q'.c) ∧ w'.cell? ⟨pb, po + k * 4 + 2, none⟩ = some (.int .i64 q'.loops) ∧ w'.cell? ⟨pb, po + k * 4 + 3, none⟩ = some (.slice q'.A' q'.n' q'.c')) (first | exact ⟨kc, k0, k1, k2, k3⟩ | go_keep) (fail)
  rw [← hpA]
  clear hpA kc k0 k1 k2 k3
  have hX2 : Boxed (W.alloc (.cells #[.slice C.A0 C.n0 C.c0, .slice C.A1 C.n1 C.c1, .slice C.A2 C.n2 C.c2, .slice C.A3 C.n3 C.c3, .slice C.A4 C.n4 C.c4, .slice C.A5 C.n5 C.c5, .slice C.A6 C.n6 C.c6, .int .i64 q'.regs, .slice q'.A q'.n q'.c, .int .i64 q'.loops, .slice q'.A' q'.n' q'.c'] 46)).drew W.heap.size (w.heap.size + 1) B C q' i :=
    (⟨(MapKept.heap_alloc W _).1, ((MapKept.heap_alloc W _).2 _ (Array.getElem?_eq_some_iff.1 HS1.out).1).trans HS1.out, HQP.out.keep (HBW.out.trans ((Below.refl _ _).alloc HBW.out.size _))⟩ : Boxed (W.alloc (.cells #[.slice C.A0 C.n0 C.c0, .slice C.A1 C.n1 C.c1, .slice C.A2 C.n2 C.c2, .slice C.A3 C.n3 C.c3, .slice C.A4 C.n4 C.c4, .slice C.A5 C.n5 C.c5, .slice C.A6 C.n6 C.c6, .int .i64 q'.regs, .slice q'.A q'.n q'.c, .int .i64 q'.loops, .slice q'.A' q'.n' q'.c'] 46)) W.heap.size (w.heap.size + 1) B C q' i).drew
  have hb2 : Below w.heap.size w (W.alloc (.cells #[.slice C.A0 C.n0 C.c0, .slice C.A1 C.n1 C.c1, .slice C.A2 C.n2 C.c2, .slice C.A3 C.n3 C.c3, .slice C.A4 C.n4 C.c4, .slice C.A5 C.n5 C.c5, .slice C.A6 C.n6 C.c6, .int .i64 q'.regs, .slice q'.A q'.n q'.c, .int .i64 q'.loops, .slice q'.A' q'.n' q'.c'] 46)).drew := Gr.trans (Gr.trans HBW.out ((Below.refl _ _).alloc (Nat.le_refl _) _)) (Below.refl _ _).drew
  generalize (W.alloc (.cells #[.slice C.A0 C.n0 C.c0, .slice C.A1 C.n1 C.c1, .slice C.A2 C.n2 C.c2, .slice C.A3 C.n3 C.c3, .slice C.A4 C.n4 C.c4, .slice C.A5 C.n5 C.c5, .slice C.A6 C.n6 C.c6, .int .i64 q'.regs, .slice q'.A q'.n q'.c, .int .i64 q'.loops, .slice q'.A' q'.n' q'.c'] 46)).drew = W2 at hX2 hb2 ⊢
  generalize W.heap.size = BP at hX2 ⊢
  have HX2 := Lib.hid hX2
  have HW2 := Lib.hid hb2
  have hall2 := HX2.out.cells
  clear hX2 hb2
  go_wp2_with fail
  all_goals
   have HXd := Lib.hid HX2.out.drew
   have hsi := icells HXd.out.il
   have hne : w.heap.size + 1 ≠ W2.heap.size := Nat.ne_of_lt (Array.getElem?_eq_some_iff.1 HX2.out.il).1
   go_region_held3 (fun w' => w'.cell? ⟨w.heap.size + 1, 0, none⟩ = some (.int .u8 i.op) ∧ w'.cell? ⟨w.heap.size + 1, 1, none⟩ = some (.int .i64 i.a) ∧ w'.cell? ⟨w.heap.size + 1, 2, none⟩ = some (.int .i64 i.b) ∧ w'.cell? ⟨w.heap.size + 1, 3, none⟩ = some (.int .i64 i.c) ∧ w'.cell? ⟨w.heap.size + 1, 4, none⟩ = some (.string i.s) ∧ w'.cell? ⟨w.heap.size + 1, 5, none⟩ = some (.slice i.A i.n i.cap)) (first | exact hsi | exact icells HX3.out.il | exact icells (HX3.out.keep (Below.refl _ _).drew).il | exact icells (heap_set2 HX3.out.il hne _ _) | exact icells (HX3.out.keep ((Below.refl _ _).alloc (Nat.le_refl _) _)).il | go_keep) (first | (go_at_call 22; with_reducible refine (p_rows W2.drew).mono ?_; rintro e w3 ⟨rfl, hinv⟩; have HX3 := Lib.hid (HX2.out.keep (Gr.trans (Below.refl _ _).drew hinv.below)); have HW3 := Lib.hid (Gr.trans HW2.out (Gr.trans (Below.refl _ _).drew hinv.below)); have hlk := row_look1 hinv (W2.heap.size) rfl i.op r HNN.out HKK.out; have hlk2 := row_look1_alloc hinv (W2.heap.size) rfl i.op r (.cells #[.string ⟨#[]⟩, .slice none 0 0] 54) HNN.out HKK.out; have HSAY := Lib.hid (says_row1 hinv (W2.heap.size) rfl); clear hinv) | (go_at_call 22; with_reducible refine (p_rows (W2.alloc (.cells #[.string ⟨#[]⟩, .slice none 0 0] 54)).drew).mono ?_; rintro e w3 ⟨rfl, hinv⟩; have HX3 := Lib.hid (HX2.out.keep (Gr.trans ((Below.refl _ _).alloc (Nat.le_refl _) _).drew hinv.below)); have HW3 := Lib.hid (Gr.trans HW2.out (Gr.trans ((Below.refl _ _).alloc (Nat.le_refl _) _).drew hinv.below)); have hlk := row_look1 hinv (W2.heap.size + 1) (size_ad _ _) i.op r HNN.out HKK.out; have hlk2 := row_look1_alloc hinv (W2.heap.size + 1) (size_ad _ _) i.op r (.cells #[.string ⟨#[]⟩, .slice none 0 0] 54) HNN.out HKK.out; have HSAY := Lib.hid (says_row1 hinv (W2.heap.size + 1) (size_ad _ _)); have hz := had_cells hinv.below; clear hinv))
   all_goals
    first
    | (have hst := RowSt.madeB HX2.out HX3.out HW2.out HW3.out r.u0 r.u1 r.u2 (.slice (some ⟨(W2.heap.size + 1) + 1, 0, none⟩) 6 6) hz HSAY.out (by intro b o e; injection e with e; injection e with e1; omega); generalize ((w3.setCell ⟨W2.heap.size, 0, none⟩ (.string ⟨#[r.u0, r.u1, r.u2]⟩)).setCell ⟨W2.heap.size, 1, none⟩ (.slice (some ⟨(W2.heap.size + 1) + 1, 0, none⟩) 6 6)) = W9 at hst ⊢; generalize W2.heap.size = X9 at hst ⊢)
    | (have hst := RowSt.madeA HX3.out HW3.out r.u0 r.u1 r.u2 (.slice (some ⟨W2.heap.size + 1, 0, none⟩) 6 6) HSAY.out; generalize w3.alloc (.cells #[.string ⟨#[r.u0, r.u1, r.u2]⟩, .slice (some ⟨W2.heap.size + 1, 0, none⟩) 6 6] 54) = W9 at hst ⊢; generalize w3.heap.size = X9 at hst ⊢)
    | (have hst := RowSt.madeA HX3.out HW3.out r.u0 r.u1 r.u2 (.slice (some ⟨(W2.heap.size + 1) + 1, 0, none⟩) 6 6) HSAY.out; generalize w3.alloc (.cells #[.string ⟨#[r.u0, r.u1, r.u2]⟩, .slice (some ⟨(W2.heap.size + 1) + 1, 0, none⟩) 6 6] 54) = W9 at hst ⊢; generalize w3.heap.size = X9 at hst ⊢)
   all_goals
    have HST := Lib.hid hst
    have hc0 := hst.c0
    have hc1 := hst.c1
    have hall9 := hst.box.cells
    clear hst
    obtain ⟨bn, hbn⟩ : ∃ b : Bool, b = decide (0 < i.n) := ⟨_, rfl⟩
    have hn1 : decide ((0 : Int) < (i.n : Int)) = bn := by rw [hbn]; simp
    have hn2 : decide (0 < i.n) = bn := hbn.symm
    have HBN := Lib.hid hbn
    clear hbn
    have hnil := fun w (aa : Option Addr) (n c : Nat) => Lib.run_eql_slice_nil (P := Tryd.prog) w 52 9 aa n c 0 0 Tryd.underlying52
    go_wp2_with (first | ((with_reducible refine (p_abc HST.out.box.at_ i hi r.u0 r.u1 r.u2).mono ?_); rintro e w4 ⟨rfl, hb4⟩; have HST4 := Lib.hid (HST.out.keep hb4); have hall4 := HST4.out.box.cells; have hc04 := HST4.out.c0; have hc14 := HST4.out.c1; clear hb4) | ((with_reducible refine (contains_any HST4.out.say (by decide) i.s).mono ?_); rintro e w5 ⟨rfl, rfl⟩))
   all_goals
    try (
     go_ret
     refine ⟨ret_bool ?_, by first | exact HST4.out.below | exact HST.out.below⟩
     rw [row_fin HBN.out]
     first | exact row_e1 (by assumption) | exact row_e2 (by assumption) | exact row_e3 (by assumption) (by assumption) | exact row_e5 (by assumption) (by assumption) (row_z1 (by assumption)) | exact row_e5 (by assumption) (by assumption) row_z2)
set_option maxRecDepth 20000 in
set_option maxHeartbeats 4000000 in
theorem p_ins_row2 {C : CV} {w : World} {B : Nat} (hC : CodeAt w B C) (k : Nat) (hk : k < C.n2) (i : IV) (q : PV) (hq : C.parts[k]? = some q) (hi : IOk i) (hl : Ints w B i.A i.n i.args) (r : RowM) (o5 : (i.op == 5) = false) (o6 : (i.op == 6) = false) (o9 : (i.op == 9) = false) (o26 : (i.op == 26) = false) (o25 : (i.op == 25) = false) (o27 : (i.op == 27) = false) (o28 : (i.op == 28) = false) (o29 : (i.op == 29) = false) (o30 : (i.op == 30) = false) (hfind : rowsM.find? (fun r => i.op == r.op) = some r) (hkind : r.kind = 2) :
    Calls Tryd.prog 7 #[.agg #[.slice C.A0 C.n0 C.c0, .slice C.A1 C.n1 C.c1, .slice C.A2 C.n2 C.c2, .slice C.A3 C.n3 C.c3, .slice C.A4 C.n4 C.c4, .slice C.A5 C.n5 C.c5, .slice C.A6 C.n6 C.c6], .int .i64 k, .agg #[.int .u8 i.op, .int .i64 i.a, .int .i64 i.b, .int .i64 i.c, .string i.s, .slice i.A i.n i.cap]] w fun e w' => e = .returned (.bool (decide (i.n = 0) && (abcB C q [r.u0, r.u1, r.u2] i && Lib.containsS cmpS i.s))) ∧ Below w.heap.size w w' := by
  have HC := Lib.hid hC
  have hn2 := hC.n2
  unfold maxLen at hn2
  obtain ⟨pb, po, q', hpA, hpb, hq', hqp, r0, r1, r2, r3⟩ := hC.part hk
  obtain rfl : q' = q := Option.some.inj (hq'.symm.trans hq)
  clear hC hq hq'
  have HPA := Lib.hid hpA
  have HNN := Lib.hid hfind
  have HKK := Lib.hid hkind
  clear hfind hkind
  have hln := hl.2.1
  unfold maxLen at hln
  have HQP := Lib.hid hqp
  clear hpA hqp
  have hs0 : ((w.alloc (.cells #[.slice C.A0 C.n0 C.c0, .slice C.A1 C.n1 C.c1, .slice C.A2 C.n2 C.c2, .slice C.A3 C.n3 C.c3, .slice C.A4 C.n4 C.c4, .slice C.A5 C.n5 C.c5, .slice C.A6 C.n6 C.c6] 28)).alloc (.cells #[.int .u8 i.op, .int .i64 i.a, .int .i64 i.b, .int .i64 i.c, .string i.s, .slice i.A i.n i.cap] 31)).heap[w.heap.size]? = some (.cells #[.slice C.A0 C.n0 C.c0, .slice C.A1 C.n1 C.c1, .slice C.A2 C.n2 C.c2, .slice C.A3 C.n3 C.c3, .slice C.A4 C.n4 C.c4, .slice C.A5 C.n5 C.c5, .slice C.A6 C.n6 C.c6] 28 (0, 0)) := by
    rw [(MapKept.heap_alloc _ _).2 _ (by simp), (MapKept.heap_alloc w _).1]
  have hs1 : ((w.alloc (.cells #[.slice C.A0 C.n0 C.c0, .slice C.A1 C.n1 C.c1, .slice C.A2 C.n2 C.c2, .slice C.A3 C.n3 C.c3, .slice C.A4 C.n4 C.c4, .slice C.A5 C.n5 C.c5, .slice C.A6 C.n6 C.c6] 28)).alloc (.cells #[.int .u8 i.op, .int .i64 i.a, .int .i64 i.b, .int .i64 i.c, .string i.s, .slice i.A i.n i.cap] 31)).heap[w.heap.size + 1]? = some (.cells #[.int .u8 i.op, .int .i64 i.a, .int .i64 i.b, .int .i64 i.c, .string i.s, .slice i.A i.n i.cap] 31 (0, 0)) := by
    have := (MapKept.heap_alloc (w.alloc (.cells #[.slice C.A0 C.n0 C.c0, .slice C.A1 C.n1 C.c1, .slice C.A2 C.n2 C.c2, .slice C.A3 C.n3 C.c3, .slice C.A4 C.n4 C.c4, .slice C.A5 C.n5 C.c5, .slice C.A6 C.n6 C.c6] 28)) (.cells #[.int .u8 i.op, .int .i64 i.a, .int .i64 i.b, .int .i64 i.c, .string i.s, .slice i.A i.n i.cap] 31)).1
    rwa [World.size_alloc] at this
  have hbW : Below w.heap.size w ((w.alloc (.cells #[.slice C.A0 C.n0 C.c0, .slice C.A1 C.n1 C.c1, .slice C.A2 C.n2 C.c2, .slice C.A3 C.n3 C.c3, .slice C.A4 C.n4 C.c4, .slice C.A5 C.n5 C.c5, .slice C.A6 C.n6 C.c6] 28)).alloc (.cells #[.int .u8 i.op, .int .i64 i.a, .int .i64 i.b, .int .i64 i.c, .string i.s, .slice i.A i.n i.cap] 31)) := ((Below.refl _ _).alloc (Nat.le_refl _) _).alloc (by simp) _
  have HBW := Lib.hid hbW
  have HS0 := Lib.hid hs0
  have HS1 := Lib.hid hs1
  clear hs0 hs1 hbW
  go_enter Tryd.func7, Tryd.ntmps7
  go_wp2_with fail
  generalize ((w.alloc (.cells #[.slice C.A0 C.n0 C.c0, .slice C.A1 C.n1 C.c1, .slice C.A2 C.n2 C.c2, .slice C.A3 C.n3 C.c3, .slice C.A4 C.n4 C.c4, .slice C.A5 C.n5 C.c5, .slice C.A6 C.n6 C.c6] 28)).alloc (.cells #[.int .u8 i.op, .int .i64 i.a, .int .i64 i.b, .int .i64 i.c, .string i.s, .slice i.A i.n i.cap] 31)) = W at HS0 HS1 HBW ⊢
  have k0 := (HBW.out.cell (p := ⟨pb, po + k * 4, none⟩) hpb).trans r0
  have k1 := (HBW.out.cell (p := ⟨pb, po + k * 4 + 1, none⟩) hpb).trans r1
  have k2 := (HBW.out.cell (p := ⟨pb, po + k * 4 + 2, none⟩) hpb).trans r2
  have k3 := (HBW.out.cell (p := ⟨pb, po + k * 4 + 3, none⟩) hpb).trans r3
  have kc := ccells HS0.out
  have hpA := HPA.out
  go_region_held3 (fun w' => (w'.cell? ⟨w.heap.size, 0, none⟩ = some (.slice C.A0 C.n0 C.c0) ∧ w'.cell? ⟨w.heap.size, 1, none⟩ = some (.slice C.A1 C.n1 C.c1) ∧ w'.cell? ⟨w.heap.size, 2, none⟩ = some (.slice C.A2 C.n2 C.c2) ∧ w'.cell? ⟨w.heap.size, 3, none⟩ = some (.slice C.A3 C.n3 C.c3) ∧ w'.cell? ⟨w.heap.size, 4, none⟩ = some (.slice C.A4 C.n4 C.c4) ∧ w'.cell? ⟨w.heap.size, 5, none⟩ = some (.slice C.A5 C.n5 C.c5) ∧ w'.cell? ⟨w.heap.size, 6, none⟩ = some (.slice C.A6 C.n6 C.c6)) ∧ w'.cell? ⟨pb, po + k * 4, none⟩ = some (.int .i64 q'.regs) ∧ w'.cell? ⟨pb, po + k * 4 + 1, none⟩ = some (.slice q'.A q'.n q'.c) ∧ w'.cell? ⟨pb, po + k * 4 + 2, none⟩ = some (.int .i64 q'.loops) ∧ w'.cell? ⟨pb, po + k * 4 + 3, none⟩ = some (.slice q'.A' q'.n' q'.c')) (first | exact ⟨kc, k0, k1, k2, k3⟩ | go_keep) (fail)
  rw [← hpA]
  clear hpA kc k0 k1 k2 k3
  have hX2 : Boxed (W.alloc (.cells #[.slice C.A0 C.n0 C.c0, .slice C.A1 C.n1 C.c1, .slice C.A2 C.n2 C.c2, .slice C.A3 C.n3 C.c3, .slice C.A4 C.n4 C.c4, .slice C.A5 C.n5 C.c5, .slice C.A6 C.n6 C.c6, .int .i64 q'.regs, .slice q'.A q'.n q'.c, .int .i64 q'.loops, .slice q'.A' q'.n' q'.c'] 46)).drew W.heap.size (w.heap.size + 1) B C q' i :=
    (⟨(MapKept.heap_alloc W _).1, ((MapKept.heap_alloc W _).2 _ (Array.getElem?_eq_some_iff.1 HS1.out).1).trans HS1.out, HQP.out.keep (HBW.out.trans ((Below.refl _ _).alloc HBW.out.size _))⟩ : Boxed (W.alloc (.cells #[.slice C.A0 C.n0 C.c0, .slice C.A1 C.n1 C.c1, .slice C.A2 C.n2 C.c2, .slice C.A3 C.n3 C.c3, .slice C.A4 C.n4 C.c4, .slice C.A5 C.n5 C.c5, .slice C.A6 C.n6 C.c6, .int .i64 q'.regs, .slice q'.A q'.n q'.c, .int .i64 q'.loops, .slice q'.A' q'.n' q'.c'] 46)) W.heap.size (w.heap.size + 1) B C q' i).drew
  have hb2 : Below w.heap.size w (W.alloc (.cells #[.slice C.A0 C.n0 C.c0, .slice C.A1 C.n1 C.c1, .slice C.A2 C.n2 C.c2, .slice C.A3 C.n3 C.c3, .slice C.A4 C.n4 C.c4, .slice C.A5 C.n5 C.c5, .slice C.A6 C.n6 C.c6, .int .i64 q'.regs, .slice q'.A q'.n q'.c, .int .i64 q'.loops, .slice q'.A' q'.n' q'.c'] 46)).drew := Gr.trans (Gr.trans HBW.out ((Below.refl _ _).alloc (Nat.le_refl _) _)) (Below.refl _ _).drew
  generalize (W.alloc (.cells #[.slice C.A0 C.n0 C.c0, .slice C.A1 C.n1 C.c1, .slice C.A2 C.n2 C.c2, .slice C.A3 C.n3 C.c3, .slice C.A4 C.n4 C.c4, .slice C.A5 C.n5 C.c5, .slice C.A6 C.n6 C.c6, .int .i64 q'.regs, .slice q'.A q'.n q'.c, .int .i64 q'.loops, .slice q'.A' q'.n' q'.c'] 46)).drew = W2 at hX2 hb2 ⊢
  generalize W.heap.size = BP at hX2 ⊢
  have HX2 := Lib.hid hX2
  have HW2 := Lib.hid hb2
  have hall2 := HX2.out.cells
  clear hX2 hb2
  go_wp2_with fail
  all_goals
   have HXd := Lib.hid HX2.out.drew
   have hsi := icells HXd.out.il
   have hne : w.heap.size + 1 ≠ W2.heap.size := Nat.ne_of_lt (Array.getElem?_eq_some_iff.1 HX2.out.il).1
   go_region_held3 (fun w' => w'.cell? ⟨w.heap.size + 1, 0, none⟩ = some (.int .u8 i.op) ∧ w'.cell? ⟨w.heap.size + 1, 1, none⟩ = some (.int .i64 i.a) ∧ w'.cell? ⟨w.heap.size + 1, 2, none⟩ = some (.int .i64 i.b) ∧ w'.cell? ⟨w.heap.size + 1, 3, none⟩ = some (.int .i64 i.c) ∧ w'.cell? ⟨w.heap.size + 1, 4, none⟩ = some (.string i.s) ∧ w'.cell? ⟨w.heap.size + 1, 5, none⟩ = some (.slice i.A i.n i.cap)) (first | exact hsi | exact icells HX3.out.il | exact icells (HX3.out.keep (Below.refl _ _).drew).il | exact icells (heap_set2 HX3.out.il hne _ _) | exact icells (HX3.out.keep ((Below.refl _ _).alloc (Nat.le_refl _) _)).il | go_keep) (first | (go_at_call 22; with_reducible refine (p_rows W2.drew).mono ?_; rintro e w3 ⟨rfl, hinv⟩; have HX3 := Lib.hid (HX2.out.keep (Gr.trans (Below.refl _ _).drew hinv.below)); have HW3 := Lib.hid (Gr.trans HW2.out (Gr.trans (Below.refl _ _).drew hinv.below)); have hlk := row_look2 hinv (W2.heap.size) rfl i.op r HNN.out HKK.out; have hlk2 := row_look2_alloc hinv (W2.heap.size) rfl i.op r (.cells #[.string ⟨#[]⟩, .slice none 0 0] 54) HNN.out HKK.out; have HSAY := Lib.hid (says_row2 hinv (W2.heap.size) rfl); clear hinv) | (go_at_call 22; with_reducible refine (p_rows (W2.alloc (.cells #[.string ⟨#[]⟩, .slice none 0 0] 54)).drew).mono ?_; rintro e w3 ⟨rfl, hinv⟩; have HX3 := Lib.hid (HX2.out.keep (Gr.trans ((Below.refl _ _).alloc (Nat.le_refl _) _).drew hinv.below)); have HW3 := Lib.hid (Gr.trans HW2.out (Gr.trans ((Below.refl _ _).alloc (Nat.le_refl _) _).drew hinv.below)); have hlk := row_look2 hinv (W2.heap.size + 1) (size_ad _ _) i.op r HNN.out HKK.out; have hlk2 := row_look2_alloc hinv (W2.heap.size + 1) (size_ad _ _) i.op r (.cells #[.string ⟨#[]⟩, .slice none 0 0] 54) HNN.out HKK.out; have HSAY := Lib.hid (says_row2 hinv (W2.heap.size + 1) (size_ad _ _)); have hz := had_cells hinv.below; clear hinv))
   all_goals
    first
    | (have hst := RowSt.madeB HX2.out HX3.out HW2.out HW3.out r.u0 r.u1 r.u2 (.slice (some ⟨(W2.heap.size + 1) + 2, 0, none⟩) 6 6) hz HSAY.out (by intro b o e; injection e with e; injection e with e1; omega); generalize ((w3.setCell ⟨W2.heap.size, 0, none⟩ (.string ⟨#[r.u0, r.u1, r.u2]⟩)).setCell ⟨W2.heap.size, 1, none⟩ (.slice (some ⟨(W2.heap.size + 1) + 2, 0, none⟩) 6 6)) = W9 at hst ⊢; generalize W2.heap.size = X9 at hst ⊢)
    | (have hst := RowSt.madeA HX3.out HW3.out r.u0 r.u1 r.u2 (.slice (some ⟨W2.heap.size + 2, 0, none⟩) 6 6) HSAY.out; generalize w3.alloc (.cells #[.string ⟨#[r.u0, r.u1, r.u2]⟩, .slice (some ⟨W2.heap.size + 2, 0, none⟩) 6 6] 54) = W9 at hst ⊢; generalize w3.heap.size = X9 at hst ⊢)
    | (have hst := RowSt.madeA HX3.out HW3.out r.u0 r.u1 r.u2 (.slice (some ⟨(W2.heap.size + 1) + 2, 0, none⟩) 6 6) HSAY.out; generalize w3.alloc (.cells #[.string ⟨#[r.u0, r.u1, r.u2]⟩, .slice (some ⟨(W2.heap.size + 1) + 2, 0, none⟩) 6 6] 54) = W9 at hst ⊢; generalize w3.heap.size = X9 at hst ⊢)
   all_goals
    have HST := Lib.hid hst
    have hc0 := hst.c0
    have hc1 := hst.c1
    have hall9 := hst.box.cells
    clear hst
    obtain ⟨bn, hbn⟩ : ∃ b : Bool, b = decide (0 < i.n) := ⟨_, rfl⟩
    have hn1 : decide ((0 : Int) < (i.n : Int)) = bn := by rw [hbn]; simp
    have hn2 : decide (0 < i.n) = bn := hbn.symm
    have HBN := Lib.hid hbn
    clear hbn
    have hnil := fun w (aa : Option Addr) (n c : Nat) => Lib.run_eql_slice_nil (P := Tryd.prog) w 52 9 aa n c 0 0 Tryd.underlying52
    go_wp2_with (first | ((with_reducible refine (p_abc HST.out.box.at_ i hi r.u0 r.u1 r.u2).mono ?_); rintro e w4 ⟨rfl, hb4⟩; have HST4 := Lib.hid (HST.out.keep hb4); have hall4 := HST4.out.box.cells; have hc04 := HST4.out.c0; have hc14 := HST4.out.c1; clear hb4) | ((with_reducible refine (contains_any HST4.out.say (by decide) i.s).mono ?_); rintro e w5 ⟨rfl, rfl⟩))
   all_goals
    try (
     go_ret
     refine ⟨ret_bool ?_, by first | exact HST4.out.below | exact HST.out.below⟩
     rw [row_fin HBN.out]
     first | exact row_e1 (by assumption) | exact row_e2 (by assumption) | exact row_e3 (by assumption) (by assumption) | exact row_e5 (by assumption) (by assumption) (row_z1 (by assumption)) | exact row_e5 (by assumption) (by assumption) row_z2)
end Go.Proofs.YtankpckkiikmaaaDoor
