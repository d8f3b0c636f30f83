/- Blocks of one kind, cell by cell. -/
import Derived.Test.YtodjjnklelfgfaaBase
namespace Go.Proofs.Ytodjjnklelfgfaa
open Go.RowKit

def Blk (w : World) (g : Nat) (t : TypeId) (cs : Array Value) : Prop := w.heap[g]? = some (.cells cs t (0, 0))
theorem Blk.cell {w : World} {g : Nat} {t : TypeId} {cs : Array Value} (h : Blk w g t cs) (i : Nat) : w.cell? ⟨g, i, none⟩ = cs[i]? := by
  unfold Blk at h; simp [World.cell?, h]
theorem Blk.free {w : World} {g : Nat} {t : TypeId} {cs : Array Value} (h : Blk w g t cs) (i : Nat) : w.frozen? ⟨g, i, none⟩ = false := by
  unfold Blk at h; simp [World.frozen?, h]
theorem Blk.set {w : World} {g : Nat} {t : TypeId} {cs : Array Value} (h : Blk w g t cs) (i : Nat) (u : Value) : Blk (w.setCell ⟨g, i, none⟩ u) g t (cs.setIfInBounds i u) := heap_setCell_self (a := ⟨g, i, none⟩) rfl h
theorem Blk.set3 {w : World} {g : Nat} {t : TypeId} {a b c : Value} (h : Blk w g t #[a, b, c]) (x y z : Value) : Blk (((w.setCell ⟨g, 0, none⟩ x).setCell ⟨g, 1, none⟩ y).setCell ⟨g, 2, none⟩ z) g t #[x, y, z] := by
  have := ((h.set 0 x).set 1 y).set 2 z
  simpa using this
theorem Tur.set3 {w : World} {g i j k : Nat} (x y z : Value) : Tur (· = g) w (((w.setCell ⟨g, i, none⟩ x).setCell ⟨g, j, none⟩ y).setCell ⟨g, k, none⟩ z) :=
  ((Tur.of_set ⟨g, i, none⟩ x).trans (Tur.of_set ⟨g, j, none⟩ y) (fun _ _ h => h)).trans (Tur.of_set ⟨g, k, none⟩ z) (fun _ _ h => h)
theorem Blk.lt {w : World} {g : Nat} {t : TypeId} {cs : Array Value} (h : Blk w g t cs) : g < w.heap.size := (Array.getElem?_eq_some_iff.1 h).1
theorem Blk.new (w : World) (t : TypeId) (cs : Array Value) : Blk (w.alloc (.cells cs t)) w.heap.size t cs := heap_alloc_new w _

theorem below_blk {w w' : World} {B g : Nat} {t : TypeId} {cs : Array Value} (h : Blk w g t cs) (hb : Below B w w') (hg : g < B) : Blk w' g t cs := (hb.block g hg).trans h

theorem Blk.set5 {w : World} {g : Nat} {t : TypeId} {a b c d e : Value} (h : Blk w g t #[a, b, c, d, e]) (v x y z u : Value) : Blk (((((w.setCell ⟨g, 0, none⟩ v).setCell ⟨g, 1, none⟩ x).setCell ⟨g, 2, none⟩ y).setCell ⟨g, 3, none⟩ z).setCell ⟨g, 4, none⟩ u) g t #[v, x, y, z, u] := by
  have := ((((h.set 0 v).set 1 x).set 2 y).set 3 z).set 4 u
  simpa using this
theorem Tur.set5 {w : World} {g i1 i2 i3 i4 i5 : Nat} (x1 x2 x3 x4 x5 : Value) : Tur (· = g) w (((((w.setCell ⟨g, i1, none⟩ x1).setCell ⟨g, i2, none⟩ x2).setCell ⟨g, i3, none⟩ x3).setCell ⟨g, i4, none⟩ x4).setCell ⟨g, i5, none⟩ x5) :=
  (((((Tur.of_set ⟨g, i1, none⟩ x1).trans (Tur.of_set ⟨g, i2, none⟩ x2) (fun i _ h => h)).trans (Tur.of_set ⟨g, i3, none⟩ x3) (fun i _ h => h)).trans (Tur.of_set ⟨g, i4, none⟩ x4) (fun i _ h => h)).trans (Tur.of_set ⟨g, i5, none⟩ x5) (fun i _ h => h))
theorem below_set5 {w : World} {g B : Nat} (hB : B ≤ g) (hg : B ≤ w.heap.size) (v x y z u : Value) : Below B w (((((w.setCell ⟨g, 0, none⟩ v).setCell ⟨g, 1, none⟩ x).setCell ⟨g, 2, none⟩ y).setCell ⟨g, 3, none⟩ z).setCell ⟨g, 4, none⟩ u) :=
  (Tur.set5 (g := g) (i1 := 0) (i2 := 1) (i3 := 2) (i4 := 3) (i5 := 4) v x y z u).below B hg (fun j hj e => by omega)
theorem Tur.set2 {w : World} {g i1 i2 : Nat} (x1 x2 : Value) : Tur (· = g) w ((w.setCell ⟨g, i1, none⟩ x1).setCell ⟨g, i2, none⟩ x2) :=
  (Tur.of_set ⟨g, i1, none⟩ x1).trans (Tur.of_set ⟨g, i2, none⟩ x2) (fun i _ h => h)
theorem below_set2 {w : World} {g B : Nat} (hB : B ≤ g) (hg : B ≤ w.heap.size) (v x : Value) : Below B w ((w.setCell ⟨g, 0, none⟩ v).setCell ⟨g, 1, none⟩ x) :=
  (Tur.set2 (g := g) (i1 := 0) (i2 := 1) v x).below B hg (fun j hj e => by omega)
theorem Blk.set2 {w : World} {g : Nat} {t : TypeId} {a b : Value} (h : Blk w g t #[a, b]) (x y : Value) : Blk ((w.setCell ⟨g, 0, none⟩ x).setCell ⟨g, 1, none⟩ y) g t #[x, y] := by
  have := (h.set 0 x).set 1 y
  simpa using this
theorem Blk.two {w : World} {R : Nat} {t : TypeId} {a b : Value} (h : Blk w R t #[a, b]) : (w.cell? ⟨R, 0, none⟩ = some a ∧ w.cell? ⟨R, 1, none⟩ = some b) ∧ (w.frozen? ⟨R, 0, none⟩ = false ∧ w.frozen? ⟨R, 1, none⟩ = false) :=
  ⟨⟨h.cell 0, h.cell 1⟩, h.free 0, h.free 1⟩
theorem Blk.keep {w w' : World} {F : Nat → Prop} {g : Nat} {t : TypeId} {cs : Array Value} (h : Blk w g t cs) (ht : Tur F w w') (hF : ¬ F g) : Blk w' g t cs := (ht.block g h.lt hF).trans h
theorem Blk.five {w : World} {R : Nat} {t : TypeId} {a b c d e : Value} (h : Blk w R t #[a, b, c, d, e]) : (w.cell? ⟨R, 0, none⟩ = some a ∧ w.cell? ⟨R, 1, none⟩ = some b ∧ w.cell? ⟨R, 2, none⟩ = some c ∧ w.cell? ⟨R, 3, none⟩ = some d ∧ w.cell? ⟨R, 4, none⟩ = some e) ∧
    (w.frozen? ⟨R, 0, none⟩ = false ∧ w.frozen? ⟨R, 1, none⟩ = false ∧ w.frozen? ⟨R, 2, none⟩ = false ∧ w.frozen? ⟨R, 3, none⟩ = false ∧ w.frozen? ⟨R, 4, none⟩ = false) :=
  ⟨⟨h.cell 0, h.cell 1, h.cell 2, h.cell 3, h.cell 4⟩, h.free 0, h.free 1, h.free 2, h.free 3, h.free 4⟩
end Go.Proofs.Ytodjjnklelfgfaa
