/- Plain lemmas that the walks of this seat use: endings, what lies below a block, rows of bytes. No program in sight. -/
import Derived.WalkKit
import Derived.WalkLawsBesides
import Derived.WalkSpells
import Derived.LoopTactic
import Derived.Outline
import Derived.Below
import Derived.Lib.Hide
import Derived.Lib.ConvBytes
import Derived.ChangeAgain
import Derived.Maps.AppendAt
import Derived.Laws.OwnMore
import Derived.Laws.IdiomStrings
import Derived.StillTail
import Derived.RegionTactic
import Derived.StillTailTactics
import Derived.OrdersHeld
set_option linter.unusedVariables false
set_option linter.unusedSimpArgs false
namespace Go.Proofs.YtmapjahpjolmnaaGreatDoor
open Go.RowKit

theorem ret_int {k : IntKind} {a b : Int} (h : a = b) : Ending.returned (.int k a) = .returned (.int k b) := by rw [h]
theorem ret_bool {a b : Bool} (h : a = b) : Ending.returned (.bool a) = .returned (.bool b) := by rw [h]
theorem heap_setCell_self {w : World} {a : Addr} {v : Value} {c : Array Value} {e : TypeId} {f : Nat × Nat} (hs : a.spot = none) (h : w.heap[a.block]? = some (.cells c e f)) :
    (w.setCell a v).heap[a.block]? = some (.cells (c.setIfInBounds a.off v) e f) := by
  simp only [World.setCell, Array.getElem?_modify, h, hs]; simp

theorem add_off (g i : Nat) : (⟨g, 0, none⟩ : Addr).add i = ⟨g, i, none⟩ := by unfold Addr.add; split <;> simp_all
/-- Bytes as values. -/
def bvals (l : List UInt8) : List Value := l.map fun b => Value.int .u8 b.toNat
theorem bvals_snoc (l : List UInt8) (b : UInt8) : bvals l ++ [.int .u8 b.toNat] = bvals (l ++ [b]) := by simp [bvals]
theorem bvals_length (l : List UInt8) : (bvals l).length = l.length := by simp [bvals]
theorem grown_comp {a b c : World} {row : Option Nat} (h : a.grownBy b none) (k : b.grownBy c row) : a.grownBy c row :=
  ⟨k.os.trans h.os, k.tape.trans h.tape, k.output.trans h.output, Nat.le_trans h.size k.size, fun i hi hr => (k.block i (Nat.lt_of_lt_of_le hi h.size) hr).trans (h.block i hi (by simp))⟩
/-- What a law that ends in 'grownBy' leaves below the base of the row that it has written. -/
theorem below_grown {w w' : World} {base e size n : Nat} {v : Value} {xs : List Value} (h : w.ownsRow base e size v n xs) (hg : w.grownBy w' v.ownBlock) (hb : base ≤ w.heap.size) : Below base w w' :=
  (Below.refl _ _).grown hg hb (fun k hk => (h.lt k hk).1)

/-- The world has turned at blocks of F alone (and at new ones). -/
structure Tur (F : Nat → Prop) (w w' : World) : Prop where
  os : w'.os = w.os
  tape : w'.tape = w.tape
  output : w'.output = w.output
  size : w.heap.size ≤ w'.heap.size
  block : ∀ k, k < w.heap.size → ¬ F k → w'.heap[k]? = w.heap[k]?
theorem Tur.refl (F : Nat → Prop) (w : World) : Tur F w w := ⟨rfl, rfl, rfl, Nat.le_refl _, fun _ _ _ => rfl⟩
theorem Tur.trans {F G : Nat → Prop} {a b c : World} (h : Tur F a b) (k : Tur G b c) (hG : ∀ i, i < a.heap.size → G i → F i) : Tur F a c :=
  ⟨k.os.trans h.os, k.tape.trans h.tape, k.output.trans h.output, Nat.le_trans h.size k.size, fun i hi hF => (k.block i (Nat.lt_of_lt_of_le hi h.size) (fun g => hF (hG i hi g))).trans (h.block i hi hF)⟩
theorem Tur.mono {F G : Nat → Prop} {a b : World} (h : Tur F a b) (hG : ∀ i, i < a.heap.size → F i → G i) : Tur G a b :=
  ⟨h.os, h.tape, h.output, h.size, fun i hi hF => h.block i hi (fun f => hF (hG i hi f))⟩
theorem Tur.of_below {B : Nat} {w w' : World} (h : Below B w w') : Tur (B ≤ ·) w w' := ⟨h.os, h.tape, h.output, h.size, fun k _ hk => h.block k (Nat.lt_of_not_le hk)⟩
theorem Tur.of_gr {F : Nat → Prop} {w w' : World} (h : Below w.heap.size w w') : Tur F w w' := ⟨h.os, h.tape, h.output, h.size, fun k hk _ => h.block k hk⟩
theorem Tur.of_grown {w w' : World} {row : Option Nat} (h : w.grownBy w' row) : Tur (fun k => some k = row) w w' := ⟨h.os, h.tape, h.output, h.size, fun k hk hr => h.block k hk hr⟩
theorem Tur.of_alloc {F : Nat → Prop} (w : World) (o : Obj) : Tur F w (w.alloc o) := ⟨rfl, rfl, rfl, by simp, fun k hk _ => Below.heap_alloc _ _ _ hk⟩
theorem Tur.of_drew {F : Nat → Prop} (w : World) : Tur F w w.drew := ⟨rfl, rfl, rfl, Nat.le_refl _, fun _ _ _ => rfl⟩
theorem Tur.of_set {w : World} (p : Addr) (u : Value) : Tur (· = p.block) w (w.setCell p u) := ⟨rfl, rfl, rfl, by simp [World.setCell], fun k _ hk => Below.heap_setCell _ _ _ _ hk⟩
theorem Tur.below {F : Nat → Prop} {w w' : World} (h : Tur F w w') (B : Nat) (hB : B ≤ w.heap.size) (hF : ∀ k, k < B → ¬ F k) : Below B w w' := ⟨h.os, h.tape, h.output, h.size, fun k hk => h.block k (Nat.lt_of_lt_of_le hk hB) (hF k hk)⟩
theorem own_of_block {w w' : World} {base e size n : Nat} {v : Value} {xs : List Value} (h : w.ownsRow base e size v n xs) (hb : ∀ g, v.ownBlock = some g → w'.heap[g]? = w.heap[g]?) : w'.ownsRow base e size v n xs := by
  refine ⟨h.1, ?_⟩
  rcases h.2 with h2 | ⟨g, cap, cur, rfl, hg, hh, r⟩
  · exact Or.inl h2
  · exact Or.inr ⟨g, cap, cur, rfl, hg, (hb g rfl).trans hh, r⟩
theorem one_int {k : IntKind} {n : Int} : ∀ u ∈ [Value.int k n], u.oneCell' = true := by intro u hu; simp at hu; subst hu; rfl
section
variable {P : Program} {w : World}
/-- 'append(out, x)', out a row of the call's own (or nil), x one element of 'size' cells, laid just before in a block of its own. -/
theorem wp_app1 {ops : Array Oper} {rest : List Oper} {o : Oper} {a : Act} {Q : Exit → Act → World → Prop} (hgd : o.guard = none) (s x : Operand) (t : TypeId)
    (ho : o.op = .call { callee := .builtin .append, args := #[s, x], argTypes := #[t, t] })
    (e size bytes : Nat) (z : Value) (ht : P.underlying t = some (.slice e)) (hinf : (P.info? e).map (fun i => (i.zero, i.size, i.bytes)) = some (some z, size, bytes)) (hzs : z.cells.size = size) (hsz : 0 < size)
    (base : Nat) (v : Value) (n : Nat) (xs : List Value) (hs : a.eval s = v) (hown : w.ownsRow base e size v n xs)
    (news : List Value) (hx : a.eval x = .slice (some ⟨w.heap.size, 0, none⟩) 1 1) (hl : news.length = size) (h1 : ∀ u ∈ news, u.oneCell' = true)
    (h63 : n + 1 ≤ maxLen) (hbytes : (n + 1) * bytes ≤ 140737488355328) (hbase : base ≤ w.heap.size)
    (h : ∀ v' w', w'.ownsRow base e size v' (n + 1) (xs ++ news) → w.grownBy w' v.ownBlock → v' ≠ .slice none 0 0 → wpList P ops Q rest (a.put o.dst v') w') : wpList P ops Q (o :: rest) a (w.alloc (.cells news.toArray e)) := by
  obtain ⟨i, hi, hz0, hz1, hz2⟩ := info_parts hinf
  refine wpList_append_own _ hgd s x t ho base e i z size bytes ht hi hz0 hz1 hz2 hzs hsz v n xs hs (hown.alloc _) ⟨w.heap.size, 0, none⟩ 1 1 news hx (by omega) ?_ h1 h63 hbytes (by simp; omega) ?_
  · intro j u hj
    have hj' : j < news.length := (List.getElem?_eq_some_iff.1 hj).1
    rw [add_off, World.cell?_alloc_at _ _ _ _ rfl]
    simpa using hj
  · intro v' w' ho' hg' hn'
    exact h v' w' ho' (grown_comp (World.grownBy_alloc w _ none) hg') (fun e => by have := (hn'.1 e).2; omega)
/-- .. and where the new row lies: 'append(out, x)', out a row of the call's own (or nil), x one element of 'size' cells, laid just before in a block of its own. -/
theorem wp_app1_at {ops : Array Oper} {rest : List Oper} {o : Oper} {a : Act} {Q : Exit → Act → World → Prop} (hgd : o.guard = none) (s x : Operand) (t : TypeId)
    (ho : o.op = .call { callee := .builtin .append, args := #[s, x], argTypes := #[t, t] })
    (e size bytes : Nat) (z : Value) (ht : P.underlying t = some (.slice e)) (hinf : (P.info? e).map (fun i => (i.zero, i.size, i.bytes)) = some (some z, size, bytes)) (hzs : z.cells.size = size) (hsz : 0 < size)
    (base : Nat) (v : Value) (n : Nat) (xs : List Value) (hs : a.eval s = v) (hown : w.ownsRow base e size v n xs)
    (news : List Value) (S : Nat) (hS : w.heap.size = S) (hx : a.eval x = .slice (some ⟨S, 0, none⟩) 1 1) (hl : news.length = size) (h1 : ∀ u ∈ news, u.oneCell' = true)
    (h63 : n + 1 ≤ maxLen) (hbytes : (n + 1) * bytes ≤ 140737488355328) (hbase : base ≤ w.heap.size)
    (h : ∀ g cap w', n + 1 ≤ cap → cap ≤ maxLen → w'.ownsRow base e size (.slice (some ⟨g, 0, none⟩) (n + 1) cap) (n + 1) (xs ++ news) → w.grownBy w' v.ownBlock → (v.ownBlock = some g ∨ w.heap.size ≤ g) → wpList P ops Q rest (a.put o.dst (.slice (some ⟨g, 0, none⟩) (n + 1) cap)) w') : wpList P ops Q (o :: rest) a (w.alloc (.cells news.toArray e)) := by
  subst hS
  obtain ⟨i, hi, hz0, hz1, hz2⟩ := info_parts hinf
  refine wpList_append_own_at _ hgd s x t ho base e i z size bytes ht hi hz0 hz1 hz2 hzs hsz v n xs hs (hown.alloc _) ⟨w.heap.size, 0, none⟩ 1 1 news hx (by omega) ?_ h1 h63 hbytes (by simp; omega) ?_
  · intro j u hj
    have hj' : j < news.length := (List.getElem?_eq_some_iff.1 hj).1
    rw [add_off, World.cell?_alloc_at _ _ _ _ rfl]
    simpa using hj
  · intro v' w' ho' hg' hn' hat
    rcases ho'.2 with ⟨_, h0⟩ | ⟨g, cap, cur, e1, _, _, h4, h5, _⟩
    · omega
    · subst e1
      refine h g cap w' h4 h5 ho' (grown_comp (World.grownBy_alloc w _ none) hg') ?_
      rcases hat with h | h
      · exact Or.inl h.symm
      · right; injection h with hg; simp at hg; omega
end

/-- Texts as values. -/
def svals (l : List ByteArray) : List Value := l.map Value.string
theorem svals_one {l : List ByteArray} : ∀ u ∈ svals l, u.oneCell' = true := by
  intro u hu; simp only [svals, List.mem_map] at hu; obtain ⟨s, _, rfl⟩ := hu; rfl
/-- A slice of texts that lies below block B. -/
def Strs (w : World) (B : Nat) (A : Option Addr) (n : Nat) (xs : List ByteArray) : Prop :=
  xs.length = n ∧ (0 < n → ∃ b o, A = some ⟨b, o, none⟩ ∧ b < B ∧ ∀ i, (hi : i < xs.length) → w.cell? ⟨b, o + i, none⟩ = some (.string xs[i]))
theorem Strs.below {w w' : World} {B : Nat} {A : Option Addr} {n : Nat} {xs : List ByteArray} (h : Strs w B A n xs) (hb : Below B w w') : Strs w' B A n xs :=
  ⟨h.1, fun hn => by
    obtain ⟨b, o, hA, hB, hc⟩ := h.2 hn
    exact ⟨b, o, hA, hB, fun i hi => (hb.cell (p := ⟨b, o + i, none⟩) hB).trans (hc i hi)⟩⟩
theorem tolist_beq (a b : ByteArray) : (a.toList == b.toList) = decide (a.data.toList = b.data.toList) := by
  rw [ByteArray.toList_eq, ByteArray.toList_eq, Bool.eq_iff_iff]; simp
theorem bytes_ext {a b : ByteArray} (h : a.data.toList = b.data.toList) : a = b := ByteArray.ext (Array.toList_inj.1 h)
end Go.Proofs.YtmapjahpjolmnaaGreatDoor
namespace Go.Proofs.YtmapjahpjolmnaaGreatDoor
open Go.RowKit

def Blk (w : World) (g : Nat) (t : TypeId) (cs : Array Value) : Prop := w.heap[g]? = some (.cells cs t (0, 0))
theorem Blk.cell {w : World} {g : Nat} {t : TypeId} {cs : Array Value} (h : Blk w g t cs) (i : Nat) : w.cell? ⟨g, i, none⟩ = cs[i]? := by
  unfold Blk at h; simp [World.cell?, h]
theorem Blk.free {w : World} {g : Nat} {t : TypeId} {cs : Array Value} (h : Blk w g t cs) (i : Nat) : w.frozen? ⟨g, i, none⟩ = false := by
  unfold Blk at h; simp [World.frozen?, h]
theorem Blk.set {w : World} {g : Nat} {t : TypeId} {cs : Array Value} (h : Blk w g t cs) (i : Nat) (u : Value) : Blk (w.setCell ⟨g, i, none⟩ u) g t (cs.setIfInBounds i u) := heap_setCell_self (a := ⟨g, i, none⟩) rfl h
theorem Blk.lt {w : World} {g : Nat} {t : TypeId} {cs : Array Value} (h : Blk w g t cs) : g < w.heap.size := (Array.getElem?_eq_some_iff.1 h).1
theorem Blk.new (w : World) (t : TypeId) (cs : Array Value) : Blk (w.alloc (.cells cs t)) w.heap.size t cs := heap_alloc_new w _

theorem below_blk {w w' : World} {B g : Nat} {t : TypeId} {cs : Array Value} (h : Blk w g t cs) (hb : Below B w w') (hg : g < B) : Blk w' g t cs := (hb.block g hg).trans h

theorem Blk.set5 {w : World} {g : Nat} {t : TypeId} {a b c d e : Value} (h : Blk w g t #[a, b, c, d, e]) (v x y z u : Value) : Blk (((((w.setCell ⟨g, 0, none⟩ v).setCell ⟨g, 1, none⟩ x).setCell ⟨g, 2, none⟩ y).setCell ⟨g, 3, none⟩ z).setCell ⟨g, 4, none⟩ u) g t #[v, x, y, z, u] := by
  have := ((((h.set 0 v).set 1 x).set 2 y).set 3 z).set 4 u
  simpa using this
theorem Tur.set5 {w : World} {g i1 i2 i3 i4 i5 : Nat} (x1 x2 x3 x4 x5 : Value) : Tur (· = g) w (((((w.setCell ⟨g, i1, none⟩ x1).setCell ⟨g, i2, none⟩ x2).setCell ⟨g, i3, none⟩ x3).setCell ⟨g, i4, none⟩ x4).setCell ⟨g, i5, none⟩ x5) :=
  (((((Tur.of_set ⟨g, i1, none⟩ x1).trans (Tur.of_set ⟨g, i2, none⟩ x2) (fun i _ h => h)).trans (Tur.of_set ⟨g, i3, none⟩ x3) (fun i _ h => h)).trans (Tur.of_set ⟨g, i4, none⟩ x4) (fun i _ h => h)).trans (Tur.of_set ⟨g, i5, none⟩ x5) (fun i _ h => h))
theorem below_set5 {w : World} {g B : Nat} (hB : B ≤ g) (hg : B ≤ w.heap.size) (v x y z u : Value) : Below B w (((((w.setCell ⟨g, 0, none⟩ v).setCell ⟨g, 1, none⟩ x).setCell ⟨g, 2, none⟩ y).setCell ⟨g, 3, none⟩ z).setCell ⟨g, 4, none⟩ u) :=
  (Tur.set5 (g := g) (i1 := 0) (i2 := 1) (i3 := 2) (i4 := 3) (i5 := 4) v x y z u).below B hg (fun j hj e => by omega)
theorem Tur.set2 {w : World} {g i1 i2 : Nat} (x1 x2 : Value) : Tur (· = g) w ((w.setCell ⟨g, i1, none⟩ x1).setCell ⟨g, i2, none⟩ x2) :=
  (Tur.of_set ⟨g, i1, none⟩ x1).trans (Tur.of_set ⟨g, i2, none⟩ x2) (fun i _ h => h)
theorem below_set2 {w : World} {g B : Nat} (hB : B ≤ g) (hg : B ≤ w.heap.size) (v x : Value) : Below B w ((w.setCell ⟨g, 0, none⟩ v).setCell ⟨g, 1, none⟩ x) :=
  (Tur.set2 (g := g) (i1 := 0) (i2 := 1) v x).below B hg (fun j hj e => by omega)
theorem Blk.set2 {w : World} {g : Nat} {t : TypeId} {a b : Value} (h : Blk w g t #[a, b]) (x y : Value) : Blk ((w.setCell ⟨g, 0, none⟩ x).setCell ⟨g, 1, none⟩ y) g t #[x, y] := by
  have := (h.set 0 x).set 1 y
  simpa using this
theorem Blk.two {w : World} {R : Nat} {t : TypeId} {a b : Value} (h : Blk w R t #[a, b]) : (w.cell? ⟨R, 0, none⟩ = some a ∧ w.cell? ⟨R, 1, none⟩ = some b) ∧ (w.frozen? ⟨R, 0, none⟩ = false ∧ w.frozen? ⟨R, 1, none⟩ = false) :=
  ⟨⟨h.cell 0, h.cell 1⟩, h.free 0, h.free 1⟩
theorem Blk.keep {w w' : World} {F : Nat → Prop} {g : Nat} {t : TypeId} {cs : Array Value} (h : Blk w g t cs) (ht : Tur F w w') (hF : ¬ F g) : Blk w' g t cs := (ht.block g h.lt hF).trans h
theorem Blk.five {w : World} {R : Nat} {t : TypeId} {a b c d e : Value} (h : Blk w R t #[a, b, c, d, e]) : (w.cell? ⟨R, 0, none⟩ = some a ∧ w.cell? ⟨R, 1, none⟩ = some b ∧ w.cell? ⟨R, 2, none⟩ = some c ∧ w.cell? ⟨R, 3, none⟩ = some d ∧ w.cell? ⟨R, 4, none⟩ = some e) ∧
    (w.frozen? ⟨R, 0, none⟩ = false ∧ w.frozen? ⟨R, 1, none⟩ = false ∧ w.frozen? ⟨R, 2, none⟩ = false ∧ w.frozen? ⟨R, 3, none⟩ = false ∧ w.frozen? ⟨R, 4, none⟩ = false) :=
  ⟨⟨h.cell 0, h.cell 1, h.cell 2, h.cell 3, h.cell 4⟩, h.free 0, h.free 1, h.free 2, h.free 3, h.free 4⟩
end Go.Proofs.YtmapjahpjolmnaaGreatDoor
namespace Go.Proofs.YtmapjahpjolmnaaGreatDoor
open Go.RowKit
/-- An expression. -/
inductive XE where
  | mk (k : Int) (s : ByteArray) (n : Int) (kids : List XE)
namespace XE
def k : XE → Int | mk k _ _ _ => k
def s : XE → ByteArray | mk _ s _ _ => s
def n : XE → Int | mk _ _ n _ => n
def kids : XE → List XE | mk _ _ _ l => l
def Ok (e : XE) : Prop := (Lit.int .u8 e.k).wf = true ∧ e.s.size ≤ maxLen ∧ (Lit.int .u64 e.n).wf = true
end XE
/-- A statement. -/
inductive XS where
  | mk (k : Int) (s : ByteArray) (n : Int) (exprs : List XE) (body els : List XS) (line : Int)
namespace XS
def k : XS → Int | mk k _ _ _ _ _ _ => k
def s : XS → ByteArray | mk _ s _ _ _ _ _ => s
def n : XS → Int | mk _ _ n _ _ _ _ => n
def exprs : XS → List XE | mk _ _ _ l _ _ _ => l
def body : XS → List XS | mk _ _ _ _ l _ _ => l
def els : XS → List XS | mk _ _ _ _ _ l _ => l
def line : XS → Int | mk _ _ _ _ _ _ l => l
def Ok (e : XS) : Prop := (Lit.int .u8 e.k).wf = true ∧ e.s.size ≤ maxLen ∧ (Lit.int .i64 e.n).wf = true ∧ (Lit.int .i64 e.line).wf = true
end XS
/-- An item. -/
structure XI where
  k : Int
  name : ByteArray
  params : List ByteArray
  exprs : List XE
  has : Bool
  body : List XS
  line : Int
def XI.Ok (e : XI) : Prop := (Lit.int .u8 e.k).wf = true ∧ e.name.size ≤ maxLen ∧ (Lit.int .i64 e.line).wf = true ∧ ∀ p ∈ e.params, p.size ≤ maxLen
/-- Four cells of an expression. -/
def ecells (w : World) (b o : Nat) (e : XE) (kv : Value) : Prop := w.cell? ⟨b, o, none⟩ = some (.int .u8 e.k) ∧ w.cell? ⟨b, o + 1, none⟩ = some (.string e.s) ∧ w.cell? ⟨b, o + 2, none⟩ = some (.int .u64 e.n) ∧ w.cell? ⟨b, o + 3, none⟩ = some kv
/-- A slice value that holds expressions, in blocks below Bd. -/
inductive EsAt (w : World) (Bd : Nat) : List XE → Value → Prop
  | mk {l : List XE} {A : Option Addr} {cap : Nat} (kv : Nat → Value) (hc : l.length ≤ cap) (hm : cap ≤ maxLen)
      (hat : 0 < l.length → ∃ b o, A = some ⟨b, o, none⟩ ∧ b < Bd ∧ ∀ i (h : i < l.length), ecells w b (o + i * 4) l[i] (kv i))
      (hok : ∀ i (h : i < l.length), l[i].Ok) (hk : ∀ i (h : i < l.length), EsAt w Bd l[i].kids (kv i)) : EsAt w Bd l (.slice A l.length cap)
/-- Seven cells of a statement. -/
def scellsT (w : World) (b o : Nat) (e : XS) (ev bv lv : Value) : Prop := w.cell? ⟨b, o, none⟩ = some (.int .u8 e.k) ∧ w.cell? ⟨b, o + 1, none⟩ = some (.string e.s) ∧ w.cell? ⟨b, o + 2, none⟩ = some (.int .i64 e.n) ∧ w.cell? ⟨b, o + 3, none⟩ = some ev ∧ w.cell? ⟨b, o + 4, none⟩ = some bv ∧ w.cell? ⟨b, o + 5, none⟩ = some lv ∧ w.cell? ⟨b, o + 6, none⟩ = some (.int .i64 e.line)
inductive SsAt (w : World) (Bd : Nat) : List XS → Value → Prop
  | mk {l : List XS} {A : Option Addr} {cap : Nat} (ev bv lv : Nat → Value) (hc : l.length ≤ cap) (hm : cap ≤ maxLen)
      (hat : 0 < l.length → ∃ b o, A = some ⟨b, o, none⟩ ∧ b < Bd ∧ ∀ i (h : i < l.length), scellsT w b (o + i * 7) l[i] (ev i) (bv i) (lv i))
      (hok : ∀ i (h : i < l.length), l[i].Ok) (he : ∀ i (h : i < l.length), EsAt w Bd l[i].exprs (ev i)) (hb : ∀ i (h : i < l.length), SsAt w Bd l[i].body (bv i)) (hl : ∀ i (h : i < l.length), SsAt w Bd l[i].els (lv i)) : SsAt w Bd l (.slice A l.length cap)
/-- Texts. -/
structure TsAt (w : World) (Bd : Nat) (l : List ByteArray) (v : Value) : Prop where
  form : ∃ A cap, v = .slice A l.length cap ∧ l.length ≤ cap ∧ cap ≤ maxLen ∧ (0 < l.length → ∃ b o, A = some ⟨b, o, none⟩ ∧ b < Bd ∧ ∀ i (h : i < l.length), w.cell? ⟨b, o + i, none⟩ = some (.string l[i]))
/-- Seven cells of an item. -/
def icells (w : World) (b o : Nat) (e : XI) (pv ev bv : Value) : Prop := w.cell? ⟨b, o, none⟩ = some (.int .u8 e.k) ∧ w.cell? ⟨b, o + 1, none⟩ = some (.string e.name) ∧ w.cell? ⟨b, o + 2, none⟩ = some pv ∧ w.cell? ⟨b, o + 3, none⟩ = some ev ∧ w.cell? ⟨b, o + 4, none⟩ = some (.bool e.has) ∧ w.cell? ⟨b, o + 5, none⟩ = some bv ∧ w.cell? ⟨b, o + 6, none⟩ = some (.int .i64 e.line)
structure IsAt (w : World) (Bd : Nat) (l : List XI) (v : Value) : Prop where
  form : ∃ A cap, ∃ pv ev bv : Nat → Value, v = .slice A l.length cap ∧ l.length ≤ cap ∧ cap ≤ maxLen ∧ (0 < l.length → ∃ b o, A = some ⟨b, o, none⟩ ∧ b < Bd ∧ ∀ i (h : i < l.length), icells w b (o + i * 7) l[i] (pv i) (ev i) (bv i)) ∧
    ∀ i (h : i < l.length), l[i].Ok ∧ TsAt w Bd l[i].params (pv i) ∧ EsAt w Bd l[i].exprs (ev i) ∧ SsAt w Bd l[i].body (bv i)
section
variable {w w' : World} {Bd B : Nat}
theorem cell_keep {b o : Nat} (hb : Below Bd w w') (h : b < Bd) : w'.cell? ⟨b, o, none⟩ = w.cell? ⟨b, o, none⟩ := hb.cell (p := ⟨b, o, none⟩) h
theorem ecells.keep {b o : Nat} {e : XE} {v : Value} (h : ecells w b o e v) (hb : Below Bd w w') (hlt : b < Bd) : ecells w' b o e v := by
  unfold ecells at h ⊢
  simp only [cell_keep hb hlt]
  exact h
theorem EsAt.form {l : List XE} {v : Value} (h : EsAt w Bd l v) : ∃ A cap, v = .slice A l.length cap ∧ l.length ≤ cap ∧ cap ≤ maxLen := by
  cases h with
  | mk kv hc hm _ _ _ => exact ⟨_, _, rfl, hc, hm⟩
theorem SsAt.form {l : List XS} {v : Value} (h : SsAt w Bd l v) : ∃ A cap, v = .slice A l.length cap ∧ l.length ≤ cap ∧ cap ≤ maxLen := by
  cases h with
  | mk ev bv lv hc hm _ _ _ _ _ => exact ⟨_, _, rfl, hc, hm⟩
theorem EsAt.keep {l : List XE} {v : Value} (h : EsAt w Bd l v) (hb : Below Bd w w') : EsAt w' Bd l v := by
  induction h with
  | mk kv hc hm hat hok hk ih =>
    refine .mk kv hc hm (fun hp => ?_) hok (fun i h => ih i h)
    obtain ⟨b, o, h1, h2, h3⟩ := hat hp
    exact ⟨b, o, h1, h2, fun i h => (h3 i h).keep hb h2⟩
theorem EsAt.mono {l : List XE} {v : Value} (h : EsAt w Bd l v) (hB : Bd ≤ B) : EsAt w B l v := by
  induction h with
  | mk kv hc hm hat hok hk ih =>
    refine .mk kv hc hm (fun hp => ?_) hok (fun i h => ih i h)
    obtain ⟨b, o, h1, h2, h3⟩ := hat hp
    exact ⟨b, o, h1, Nat.lt_of_lt_of_le h2 hB, h3⟩
theorem SsAt.keep {l : List XS} {v : Value} (h : SsAt w Bd l v) (hb : Below Bd w w') : SsAt w' Bd l v := by
  induction h with
  | mk ev bv lv hc hm hat hok he hbb hl ih1 ih2 =>
    refine .mk ev bv lv hc hm (fun hp => ?_) hok (fun i h => (he i h).keep hb) (fun i h => ih1 i h) (fun i h => ih2 i h)
    obtain ⟨b, o, h1, h2, h3⟩ := hat hp
    refine ⟨b, o, h1, h2, fun i h => ?_⟩
    have := h3 i h
    unfold scellsT at this ⊢
    simp only [cell_keep hb h2]
    exact this
theorem SsAt.mono {l : List XS} {v : Value} (h : SsAt w Bd l v) (hB : Bd ≤ B) : SsAt w B l v := by
  induction h with
  | mk ev bv lv hc hm hat hok he hbb hl ih1 ih2 =>
    refine .mk ev bv lv hc hm (fun hp => ?_) hok (fun i h => (he i h).mono hB) (fun i h => ih1 i h) (fun i h => ih2 i h)
    obtain ⟨b, o, h1, h2, h3⟩ := hat hp
    exact ⟨b, o, h1, Nat.lt_of_lt_of_le h2 hB, h3⟩
theorem TsAt.keep {l : List ByteArray} {v : Value} (h : TsAt w Bd l v) (hb : Below Bd w w') : TsAt w' Bd l v := by
  obtain ⟨A, cap, h1, h2, h3, h4⟩ := h.form
  refine ⟨A, cap, h1, h2, h3, fun hp => ?_⟩
  obtain ⟨b, o, e1, e2, e3⟩ := h4 hp
  exact ⟨b, o, e1, e2, fun i h => by rw [cell_keep hb e2]; exact e3 i h⟩
theorem IsAt.keep {l : List XI} {v : Value} (h : IsAt w Bd l v) (hb : Below Bd w w') : IsAt w' Bd l v := by
  obtain ⟨A, cap, pv, ev, bv, h1, h2, h3, h4, h5⟩ := h.form
  refine ⟨A, cap, pv, ev, bv, h1, h2, h3, fun hp => ?_, fun i h => ?_⟩
  · obtain ⟨b, o, e1, e2, e3⟩ := h4 hp
    refine ⟨b, o, e1, e2, fun i h => ?_⟩
    have := e3 i h
    unfold icells at this ⊢
    simp only [cell_keep hb e2]
    exact this
  · obtain ⟨a, b, c, d⟩ := h5 i h
    exact ⟨a, b.keep hb, c.keep hb, d.keep hb⟩
end
end Go.Proofs.YtmapjahpjolmnaaGreatDoor
namespace Go.Proofs.YtmapjahpjolmnaaGreatDoor
open Go.RowKit
namespace Tr
section
variable {σ : Type} (se : σ → XE → Int → σ) (ss : σ → XS → Int → σ) (most : Int)
mutual
def foldE : XE → Int → σ → σ
  | .mk k s n l, d, a => foldEs l (d + 1) (se a (.mk k s n l) d)
def foldEs : List XE → Int → σ → σ
  | [], _, a => a
  | e :: r, d, a => if most < d then a else foldEs r d (foldE e d a)
end
mutual
def foldS : XS → Int → σ → σ
  | .mk k s n l b o ln, d, a => foldSs o (d + 1) (foldSs b (d + 1) (foldEs se most l (d + 1) (ss a (.mk k s n l b o ln) d)))
def foldSs : List XS → Int → σ → σ
  | [], _, a => a
  | e :: r, d, a => if most < d then a else foldSs r d (foldS e d a)
end
theorem foldE_eq (e : XE) (d : Int) (a : σ) : foldE se most e d a = foldEs se most e.kids (d + 1) (se a e d) := by
  cases e; rw [foldE]; rfl
theorem foldS_eq (e : XS) (d : Int) (a : σ) : foldS se ss most e d a = foldSs se ss most e.els (d + 1) (foldSs se ss most e.body (d + 1) (foldEs se most e.exprs (d + 1) (ss a e d))) := by
  cases e; rw [foldS]; rfl
theorem foldEs_nil (d : Int) (a : σ) : foldEs se most [] d a = a := by rw [foldEs]
theorem foldEs_cons (e : XE) (r : List XE) (d : Int) (a : σ) : foldEs se most (e :: r) d a = if most < d then a else foldEs se most r d (foldE se most e d a) := by rw [foldEs]
theorem foldSs_nil (d : Int) (a : σ) : foldSs se ss most [] d a = a := by rw [foldSs]
theorem foldSs_cons (e : XS) (r : List XS) (d : Int) (a : σ) : foldSs se ss most (e :: r) d a = if most < d then a else foldSs se ss most r d (foldS se ss most e d a) := by rw [foldSs]
theorem foldEs_deep {d : Int} (h : most < d) (l : List XE) (a : σ) : foldEs se most l d a = a := by
  cases l with
  | nil => rw [foldEs_nil]
  | cons e r => rw [foldEs_cons, if_pos h]
theorem foldSs_deep {d : Int} (h : most < d) (l : List XS) (a : σ) : foldSs se ss most l d a = a := by
  cases l with
  | nil => rw [foldSs_nil]
  | cons e r => rw [foldSs_cons, if_pos h]
theorem foldEs_snoc {d : Int} (h : ¬ most < d) (e : XE) : ∀ (l : List XE) (a : σ), foldEs se most (l ++ [e]) d a = foldE se most e d (foldEs se most l d a)
  | [], a => by rw [List.nil_append, foldEs_cons, if_neg h, foldEs_nil, foldEs_nil]
  | x :: l, a => by rw [List.cons_append, foldEs_cons, if_neg h, foldEs_cons, if_neg h]; exact foldEs_snoc h e l _
theorem foldSs_snoc {d : Int} (h : ¬ most < d) (e : XS) : ∀ (l : List XS) (a : σ), foldSs se ss most (l ++ [e]) d a = foldS se ss most e d (foldSs se ss most l d a)
  | [], a => by rw [List.nil_append, foldSs_cons, if_neg h, foldSs_nil, foldSs_nil]
  | x :: l, a => by rw [List.cons_append, foldSs_cons, if_neg h, foldSs_cons, if_neg h]; exact foldSs_snoc h e l _
theorem foldEs_take {d : Int} (h : ¬ most < d) (l : List XE) (i : Nat) (hi : i < l.length) (a : σ) : foldEs se most (l.take (i + 1)) d a = foldE se most l[i] d (foldEs se most (l.take i) d a) := by
  rw [List.take_succ_eq_append_getElem hi, foldEs_snoc _ _ h]
theorem foldSs_take {d : Int} (h : ¬ most < d) (l : List XS) (i : Nat) (hi : i < l.length) (a : σ) : foldSs se ss most (l.take (i + 1)) d a = foldS se ss most l[i] d (foldSs se ss most (l.take i) d a) := by
  rw [List.take_succ_eq_append_getElem hi, foldSs_snoc _ _ _ h]
end
/-- May a pattern be? -/
def patB : List UInt8 → Bool
  | [] => true
  | c :: r => if c = 10 then false else if c = 92 then (match r with
      | [] => false
      | d :: r2 => if d = 47 ∨ d = 10 then false else patB r2) else patB r
def lvalB (e : XE) : Bool := decide (e.k = 4) || (decide (e.k = 5) || decide (e.k = 6))
/-- How many kids: from, to (below 0: any number). -/
def kidsN (k n : Int) : Int × Int :=
  if k = 1 ∨ k = 2 ∨ k = 3 ∨ k = 4 then (0, 0) else if k = 5 ∨ k = 12 then (1, -1) else if k = 6 ∨ k = 11 ∨ k = 17 ∨ k = 18 ∨ k = 19 ∨ k = 20 then (1, 1)
  else if k = 7 ∨ k = 9 ∨ k = 10 ∨ k = 13 ∨ k = 14 ∨ k = 15 ∨ k = 16 then (2, 2) else if k = 8 then (3, 3) else if k = 21 ∨ k = 22 then (0, -1)
  else if k = 23 then ((if 8 ≤ n then 1 else 0) + (if 1 < n % 8 then 1 else 0), (if 8 ≤ n then 1 else 0) + (if 1 < n % 8 then 1 else 0)) else (-1, -1)
def kidsB (e : XE) : Bool := decide (0 ≤ (kidsN e.k e.n).1) && (decide ((kidsN e.k e.n).1 ≤ e.kids.length) && (decide ((kidsN e.k e.n).2 < 0) || decide ((e.kids.length : Int) ≤ (kidsN e.k e.n).2)))
def firstB (e : XE) : Bool := (decide (e.k = 7) || (decide (e.k = 19) || (decide (e.k = 20) || (decide (e.k = 23) && decide (8 ≤ e.n)))))
def kidLB (e : XE) : Bool := match e.kids with
  | [] => false
  | x :: _ => lvalB x
section
variable (nm : ByteArray → Bool)
def bts : List UInt8 := [108, 101]
/-- Is what an expression says by itself right? -/
def saysB (has : List ByteArray → ByteArray → Bool) (sg : Int → List ByteArray) (e : XE) : Bool :=
  if e.k = 1 then decide (e.s.size = 0) && decide (e.n < 9218868437227405312)
  else if e.k = 2 then decide (e.n = 0)
  else if e.k = 3 then decide (e.n = 0) && patB e.s.data.toList
  else if e.k = 4 ∨ e.k = 5 ∨ e.k = 12 ∨ e.k = 21 then decide (e.n = 0) && nm e.s
  else if e.k = 7 ∨ e.k = 13 ∨ e.k = 14 ∨ e.k = 16 ∨ e.k = 19 ∨ e.k = 20 ∨ e.k = 22 then decide (e.n = 0) && has (sg e.k) e.s
  else if e.k = 23 then decide (e.s.size = 0) && (decide (1 ≤ e.n ∧ e.n ≤ 3) || decide (9 ≤ e.n ∧ e.n ≤ 11))
  else decide (e.s.size = 0) && decide (e.n = 0)
end
end Tr
end Go.Proofs.YtmapjahpjolmnaaGreatDoor
namespace Go.Proofs.YtmapjahpjolmnaaGreatDoor
open Go
section
variable {P : Program} {ops : Array Oper} {md : Region.Mode} {S : World → Prop} {Q : Exit → Act → World → Prop}
/-- In every world that meets S the operation leaves v, and S holds behind it. -/
def Gives (P : Program) (ops : Array Oper) (S : World → Prop) (o : Oper) (a : Act) (v : Value) : Prop :=
  ∀ w, S w → wpList P ops (Exit.then (fun a' w' => a' = a.put o.dst v ∧ S w') (fun _ _ _ => False)) [o] a w
def wpDet (P : Program) (ops : Array Oper) (S : World → Prop) (K : Act → Prop) : List Oper → Act → Prop
  | [], a => K a
  | o :: l, a => ∃ v, Gives P ops S o a v ∧ wpDet P ops S K l (a.put o.dst v)
theorem put_size (a : Act) (d : Option Tmp) (v : Value) : (a.put d v).tmps.size = a.tmps.size := by
  cases d <;> simp [Act.put]
theorem put_eq_of {a a' : Act} {d : Option Tmp} {u v : Value} (hs : a.tmps.size = a'.tmps.size) (h : a.put d u = a.put d v) : a'.put d u = a'.put d v := by
  cases d with
  | none => rfl
  | some d =>
    have h1 := congrArg Act.tmps h
    simp only [Act.put] at h1 ⊢
    by_cases hd : d < a.tmps.size
    · have h2 := congrArg (·[d]?) h1
      simp [hd] at h2
      rw [h2]
    · have hsz : a'.tmps.size ≤ d := by rw [← hs]; exact Nat.le_of_not_lt hd
      rw [Array.setIfInBounds_eq_of_size_le hsz, Array.setIfInBounds_eq_of_size_le hsz]
theorem put_defers_ne {a : Act} {x : Option Tmp} {d : Deferred} {u v : Value} (h : ({ a with defers := d :: a.defers } : Act).put x u = a.put x v) : False := by
  have h1 := congrArg Act.defers h
  cases x <;> simp [Act.put] at h1
theorem lets_no {K : Act → World → Prop} (h : LetsOut (Exit.then K (fun _ _ _ => False))) : False := by
  obtain ⟨_, _, h⟩ := h; exact h
/-- A state that differs only in what the operation does not look at. -/
theorem Gives.same {o : Oper} {a a' : Act} {v : Value} (h : Gives P ops S o a v) (he : execOp a'.eval o = execOp a.eval o)
    (hw : Region.wanted o (yielded ops a'.tmps) = Region.wanted o (yielded ops a.tmps)) (hs : a.tmps.size = a'.tmps.size) : Gives P ops S o a' v := by
  intro w hS
  have h1 := h w hS
  unfold wpList at *
  rw [hw]
  split
  · rename_i hw
    simp only [hw, if_true] at h1
    refine .inl ?_
    rcases h1 with h1 | ⟨-, h1⟩
    case inr => exact (lets_no h1).elim
    unfold Oper.wp at *
    rw [he]
    generalize (execOp a.eval o).run P w = r at *
    cases r with
    | ok n w' =>
      cases n <;> simp only [Oper.upon] at h1 ⊢
      case value u => exact ⟨put_eq_of hs h1.1, h1.2⟩
      case skip => exact ⟨put_eq_of hs h1.1, h1.2⟩
      case defer d => exact (put_defers_ne h1.1).elim
      case enter f args =>
        refine Calls.mono h1 fun e w'' he => ?_
        cases e with
        | returned u => exact ⟨put_eq_of hs he.1, he.2⟩
        | panicked c => exact he
        | outgrown => exact (lets_no he).elim
      case row row args => exact Rows.mono h1 fun u w'' he => ⟨put_eq_of hs he.1, he.2⟩
    | halt x w' =>
      cases x <;> simp only [Oper.upon] at h1 ⊢
      case panic u => exact h1
  · rename_i hw
    simp only [hw] at h1
    exact ⟨put_eq_of hs h1.1, h1.2⟩
def detAct (ops : Array Oper) (vs : Nat → Value) (a0 : Act) (l : List Nat) : Act := l.foldl (fun a j => a.put ((ops[j]?).bind (·.dst)) (vs j)) a0
theorem detAct_append (vs : Nat → Value) (a0 : Act) (x y : List Nat) : detAct ops vs a0 (x ++ y) = detAct ops vs (detAct ops vs a0 x) y := by
  unfold detAct; rw [List.foldl_append]
theorem detAct_size (vs : Nat → Value) : ∀ (l : List Nat) (a0 : Act), (detAct ops vs a0 l).tmps.size = a0.tmps.size
  | [], _ => rfl
  | j :: l, a0 => by
    show (detAct ops vs (a0.put _ _) l).tmps.size = _
    rw [detAct_size vs l, put_size]
theorem detAct_vs (vs vs' : Nat → Value) : ∀ (l : List Nat) (a0 : Act), (∀ j ∈ l, vs j = vs' j) → detAct ops vs a0 l = detAct ops vs' a0 l
  | [], _, _ => rfl
  | j :: l, a0, h => by
    show detAct ops vs (a0.put _ (vs j)) l = detAct ops vs' (a0.put _ (vs' j)) l
    rw [h j List.mem_cons_self]
    exact detAct_vs vs vs' l _ (fun k hk => h k (List.mem_cons_of_mem _ hk))
/-- Each operation waits for earlier ones alone, and for all whose values it looks at; no two leave their values in one place. -/
def looksB (ops : Array Oper) (o : Oper) (j : Nat) : Bool := match (ops[j]?).bind (·.dst) with
  | some d => (o.looksAt ops).contains d
  | none => false
def detB (md : Region.Mode) (ops : Array Oper) : Bool :=
  Region.noSelect ops && (List.range ops.size).all fun i => match ops[i]? with
    | none => true
    | some o => (o.after.all fun e => !Region.binds md e || decide (e.on < i)) &&
        (List.range ops.size).all fun j => j == i || ((!looksB ops o j || o.after.any fun e => Region.binds md e && e.on == j) &&
          (match (ops[j]?).bind (·.dst) with
           | some d => o.dst != some d
           | none => true))
structure DetOk (md : Region.Mode) (ops : Array Oper) : Prop where
  sel : ∀ (j : Nat) (o : Oper) cs b, ops[j]? = some o → o.op ≠ .select cs b
  before : ∀ (i : Nat) (o : Oper), ops[i]? = some o → ∀ e ∈ o.after, Region.binds md e = true → e.on < i
  deps : ∀ (i : Nat) (o : Oper), ops[i]? = some o → ∀ j, j < ops.size → j ≠ i → looksB ops o j = true → ∃ e ∈ o.after, Region.binds md e = true ∧ e.on = j
  apart : ∀ (i j : Nat) (oi oj : Oper), ops[i]? = some oi → ops[j]? = some oj → i ≠ j → ∀ d, oi.dst = some d → oj.dst ≠ some d
theorem detOk (h : detB md ops = true) : DetOk md ops := by
  unfold detB at h
  simp only [Bool.and_eq_true, List.all_eq_true, List.mem_range] at h
  obtain ⟨hs, h⟩ := h
  refine ⟨fun j o cs b => Region.noSelect_spec hs j o cs b, fun i o ho e he hb => ?_, fun i o ho j hj hne hl => ?_, fun i j oi oj hoi hoj hne d hd hd2 => ?_⟩
  · have h1 := h i (Array.getElem?_eq_some_iff.1 ho).1
    rw [ho] at h1
    simp only [Bool.and_eq_true] at h1
    have h2 := Array.all_eq_true'.1 h1.1 e he
    simpa [hb] using h2
  · have h1 := h i (Array.getElem?_eq_some_iff.1 ho).1
    rw [ho] at h1
    simp only [Bool.and_eq_true, List.all_eq_true, List.mem_range] at h1
    have h2 := h1.2 j hj
    simp only [Bool.or_eq_true, beq_iff_eq, hne, false_or, Bool.and_eq_true, Bool.not_eq_true', hl, Bool.true_eq_false] at h2
    obtain ⟨e, he, hb⟩ := Array.any_eq_true'.1 h2.1
    simp only [Bool.and_eq_true, beq_iff_eq] at hb
    exact ⟨e, he, hb.1, hb.2⟩
  · have h1 := h i (Array.getElem?_eq_some_iff.1 hoi).1
    rw [hoi] at h1
    simp only [Bool.and_eq_true, List.all_eq_true, List.mem_range] at h1
    have h2 := h1.2 j (Array.getElem?_eq_some_iff.1 hoj).1
    simp only [Bool.or_eq_true, beq_iff_eq, Ne.symm hne, false_or, Bool.and_eq_true, hoj, Option.bind_some, hd2, hd] at h2
    simp at h2
theorem detAct_perm (hB : DetOk md ops) (vs : Nat → Value) {x y : List Nat} (a0 : Act) (h : x.Perm y) : detAct ops vs a0 x = detAct ops vs a0 y := by
  unfold detAct
  refine h.foldl_eq' (fun i _ j _ a => ?_) a0
  by_cases hij : i = j
  · subst hij; rfl
  · refine Act.put_comm a _ _ (fun d hd hd2 => ?_)
    cases hi : ops[i]? with
    | none => rw [hi] at hd; cases hd
    | some oi =>
      cases hj : ops[j]? with
      | none => rw [hj] at hd2; cases hd2
      | some oj =>
        rw [hi] at hd; rw [hj] at hd2
        exact hB.apart i j oi oj hi hj hij d hd hd2
theorem detAct_skip (hB : DetOk md ops) (vs : Nat → Value) {i : Nat} {o : Oper} (ho : ops[i]? = some o) : ∀ (l : List Nat) (a : Act), (∀ j ∈ l, looksB ops o j = false) →
    execOp (detAct ops vs a l).eval o = execOp a.eval o ∧ Region.wanted o (yielded ops (detAct ops vs a l).tmps) = Region.wanted o (yielded ops a.tmps)
  | [], _, _ => ⟨rfl, rfl⟩
  | j :: l, a, h => by
    have ih := detAct_skip hB vs ho l (a.put ((ops[j]?).bind (·.dst)) (vs j)) (fun k hk => h k (List.mem_cons_of_mem _ hk))
    have hj := h j List.mem_cons_self
    have hd : ∀ d, (ops[j]?).bind (·.dst) = some d → d ∉ o.looksAt ops := fun d hd hm => by
      unfold looksB at hj
      rw [hd] at hj
      simp only [List.contains_eq_mem, decide_eq_false_iff_not] at hj
      exact hj hm
    exact ⟨ih.1.trans (execOp_put o (hB.sel i o · · ho) a _ _ hd), ih.2.trans (wanted_put o a _ _ hd)⟩
theorem detAct_see (hB : DetOk md ops) (vs : Nat → Value) {i : Nat} {o : Oper} (ho : ops[i]? = some o) (a0 : Act) (l : List Nat) :
    execOp (detAct ops vs a0 l).eval o = execOp (detAct ops vs a0 (l.filter (looksB ops o))).eval o ∧
    Region.wanted o (yielded ops (detAct ops vs a0 l).tmps) = Region.wanted o (yielded ops (detAct ops vs a0 (l.filter (looksB ops o))).tmps) := by
  have hp := (List.filter_append_perm (looksB ops o) l).symm
  rw [detAct_perm hB vs a0 hp, detAct_append]
  exact detAct_skip hB vs ho _ _ (fun j hj => by
    have := (List.mem_filter.1 hj).2
    simpa using this)
theorem wpDet_vs {K : Act → Prop} : ∀ (l : List Oper) (k : Nat) (vs0 : Nat → Value) (a0 : Act), (∀ j, l[j]? = ops[k + j]?) → wpDet P ops S K l (detAct ops vs0 a0 (List.range k)) →
    ∃ vs : Nat → Value, (∀ j, j < k → vs j = vs0 j) ∧ (∀ i o, k ≤ i → ops[i]? = some o → Gives P ops S o (detAct ops vs a0 (List.range i)) (vs i)) ∧ K (detAct ops vs a0 (List.range (k + l.length)))
  | [], k, vs0, a0, hl, h => ⟨vs0, fun _ _ => rfl, fun i o hi ho => by
      have := hl (i - k)
      rw [show k + (i - k) = i by omega, ho] at this
      simp at this, by simpa [wpDet] using h⟩
  | o :: l, k, vs0, a0, hl, h => by
    obtain ⟨v, hg, h⟩ := h
    have h0 : ops[k]? = some o := by simpa using (hl 0).symm
    let vs1 : Nat → Value := fun j => if j = k then v else vs0 j
    have e1 : detAct ops vs1 a0 (List.range k) = detAct ops vs0 a0 (List.range k) := detAct_vs _ _ _ _ (fun j hj => by
      have := List.mem_range.1 hj
      show (if j = k then v else vs0 j) = _
      rw [if_neg (by omega)])
    have e2 : detAct ops vs1 a0 (List.range (k + 1)) = (detAct ops vs0 a0 (List.range k)).put o.dst v := by
      rw [List.range_succ, detAct_append, e1]
      show Act.put _ ((ops[k]?).bind (·.dst)) (if k = k then v else vs0 k) = _
      rw [h0, if_pos rfl]; rfl
    rw [← e2] at h
    obtain ⟨vs, hv, hG, hK⟩ := wpDet_vs l (k + 1) vs1 a0 (fun j => by
      have := hl (j + 1)
      rw [show k + (j + 1) = k + 1 + j by omega] at this
      simpa using this) h
    refine ⟨vs, fun j hj => (hv j (by omega)).trans (by show (if j = k then v else vs0 j) = _; rw [if_neg (by omega)]), fun i o' hi ho' => ?_, by rw [show k + (o :: l).length = k + 1 + l.length by simp; omega]; exact hK⟩
    rcases Nat.lt_or_ge k i with h1 | h1
    · exact hG i o' h1 ho'
    · obtain rfl : i = k := by omega
      obtain rfl : o = o' := Option.some.inj (h0.symm.trans ho')
      have e3 : detAct ops vs a0 (List.range i) = detAct ops vs0 a0 (List.range i) := (detAct_vs _ _ _ _ (fun j hj => hv j (by have := List.mem_range.1 hj; omega))).trans e1
      have e4 : vs i = v := (hv i (by omega)).trans (by show (if i = i then v else vs0 i) = _; rw [if_pos rfl])
      rw [e3, e4]; exact hg
theorem wpOp_gives {i : Nat} {o : Oper} {a : Act} {v : Value} {w : World} {K : Act → World → Prop} (ho : ops[i]? = some o) (h : Gives P ops S o a v) (hS : S w) (hK : ∀ w', S w' → K (a.put o.dst v) w') : wpOp P ops Q i K a w := by
  have h1 := h w hS
  unfold wpOp
  simp only [ho]
  unfold wpList at h1
  split
  · rename_i hw
    simp only [hw, if_true] at h1
    refine .inl ?_
    rcases h1 with h1 | ⟨-, h1⟩
    case inr => exact (lets_no h1).elim
    unfold Oper.wp at *
    generalize (execOp a.eval o).run P w = r at *
    cases r with
    | ok n w' =>
      cases n <;> simp only [Oper.upon] at h1 ⊢
      case value u => obtain ⟨e, h1⟩ := h1; rw [e]; exact hK _ h1
      case skip => obtain ⟨e, h1⟩ := h1; rw [e]; exact hK _ h1
      case defer d => exact (put_defers_ne h1.1).elim
      case enter f args =>
        refine Calls.mono h1 fun e w'' he => ?_
        cases e with
        | returned u => obtain ⟨e, h1⟩ := he; show K (a.put o.dst u) w''; rw [e]; exact hK _ h1
        | panicked c => exact he.elim
        | outgrown => exact (lets_no he).elim
      case row row args => exact Rows.mono h1 fun u w'' he => by obtain ⟨e, h1⟩ := he; show K (a.put o.dst u) w''; rw [e]; exact hK _ h1
    | halt x w' =>
      cases x <;> simp only [Oper.upon] at h1 ⊢
      case panic u => exact h1.elim
  · rename_i hw
    simp only [hw] at h1
    obtain ⟨e, h1⟩ := h1
    rw [show a.put o.dst undef = a.put o.dst v from e]; exact hK _ h1
def listedOf (n : Nat) (l : List Nat) : Array Bool := ((List.range n).map fun j => decide (j ∈ l)).toArray
theorem listedOf_get (n : Nat) (l : List Nat) (j : Nat) : (listedOf n l)[j]? = if j < n then some (decide (j ∈ l)) else none := by
  unfold listedOf
  rw [List.getElem?_toArray, List.getElem?_map]
  by_cases h : j < n
  · rw [if_pos h, List.getElem?_range h]; rfl
  · rw [if_neg h, List.getElem?_eq_none (by simp; omega)]; rfl
theorem listedOf_set {n : Nat} {l : List Nat} {i : Nat} (h : i < n) : (listedOf n l).setIfInBounds i true = listedOf n (l ++ [i]) := by
  apply Array.ext_getElem?
  intro j
  rw [Array.getElem?_setIfInBounds, listedOf_get, listedOf_get]
  have hsz : (listedOf n l).size = n := by simp [listedOf]
  by_cases hij : i = j
  · subst hij
    rw [if_pos rfl, hsz, if_pos h, if_pos h]; simp
  · rw [if_neg hij]
    by_cases hj : j < n
    · rw [if_pos hj, if_pos hj]
      congr 1
      simp [Ne.symm hij]
    · rw [if_neg hj, if_neg hj]
theorem any_det (hB : DetOk md ops) (vs : Nat → Value) (a0 : Act) (hG : ∀ i o, ops[i]? = some o → Gives P ops S o (detAct ops vs a0 (List.range i)) (vs i))
    (hE : ∀ w, S w → Q .normal (detAct ops vs a0 (List.range ops.size)) w) :
    ∀ (fuel : Nat) (l : List Nat) (w : World), l.Nodup → (∀ i ∈ l, i < ops.size) → ops.size ≤ fuel + l.length → S w → wpAny P md ops Q fuel (listedOf ops.size l) (detAct ops vs a0 l) w := by
  have hend : ∀ (l : List Nat) (w : World), l.Nodup → (∀ i ∈ l, i < ops.size) → (∀ i, i < ops.size → i ∈ l) → S w → Q .normal (detAct ops vs a0 l) w := fun l w hn hl hall hS => by
    have hp : l.Perm (List.range ops.size) := by
      rw [List.perm_ext_iff_of_nodup hn List.nodup_range]
      intro j
      exact ⟨fun h => List.mem_range.2 (hl j h), fun h => hall j (List.mem_range.1 h)⟩
    rw [detAct_perm hB vs a0 hp]; exact hE w hS
  have hready : ∀ (l : List Nat), Region.ready md ops (listedOf ops.size l) = [] → ∀ i, i < ops.size → i ∈ l := fun l hr => by
    intro i
    induction i using Nat.strongRecOn with
    | _ i ih =>
      intro hi
      by_cases hm : i ∈ l
      · exact hm
      have : i ∈ Region.ready md ops (listedOf ops.size l) := by
        rw [mem_ready]
        refine ⟨?_, ops[i], Array.getElem?_eq_getElem hi, fun e he hb => ?_⟩
        · rw [Array.getD_eq_getD_getElem?, listedOf_get, if_pos hi]; simp [hm]
        · have h1 := hB.before i _ (Array.getElem?_eq_getElem hi) e he hb
          have h2 := ih e.on h1 (by omega)
          rw [Array.getD_eq_getD_getElem?, listedOf_get, if_pos (by omega)]; simp [h2]
      rw [hr] at this
      cases this
  intro fuel
  induction fuel with
  | zero =>
    intro l w hn hl hlen hS
    have hall : ∀ i, i < ops.size → i ∈ l := by
      intro i hi
      by_cases hm : i ∈ l
      · exact hm
      have hn2 : (i :: l).Nodup := List.nodup_cons.2 ⟨hm, hn⟩
      have hsub : (i :: l) ⊆ List.range ops.size := fun j hj => by
        rcases List.mem_cons.1 hj with rfl | h
        · exact List.mem_range.2 hi
        · exact List.mem_range.2 (hl j h)
      have := List.Nodup.length_le_of_subset hn2 hsub
      simp at this
      omega
    refine ⟨?_, hend l w hn hl hall hS⟩
    cases hr : Region.ready md ops (listedOf ops.size l) with
    | nil => rfl
    | cons i r =>
      have h1 : i ∈ Region.ready md ops (listedOf ops.size l) := by rw [hr]; exact List.mem_cons_self
      obtain ⟨h2, o, ho, -⟩ := mem_ready.1 h1
      have hi := (Array.getElem?_eq_some_iff.1 ho).1
      rw [Array.getD_eq_getD_getElem?, listedOf_get, if_pos hi] at h2
      simp [hall i hi] at h2
  | succ fuel ih =>
    intro l w hn hl hlen hS
    refine ⟨fun hr => hend l w hn hl (hready l hr) hS, fun i hi => ?_⟩
    obtain ⟨h2, o, ho, haf⟩ := mem_ready.1 hi
    have hin := (Array.getElem?_eq_some_iff.1 ho).1
    have hil : i ∉ l := by
      rw [Array.getD_eq_getD_getElem?, listedOf_get, if_pos hin] at h2
      simpa using h2
    have hset := listedOf_set (l := l) hin
    rw [hset]
    have hsame : Gives P ops S o (detAct ops vs a0 l) (vs i) := by
      have e1 := detAct_see hB vs ho a0 l
      have e2 := detAct_see hB vs ho a0 (List.range i)
      have hp : (l.filter (looksB ops o)).Perm ((List.range i).filter (looksB ops o)) := by
        rw [List.perm_ext_iff_of_nodup (hn.filter _) (List.nodup_range.filter _)]
        intro j
        rw [List.mem_filter, List.mem_filter, List.mem_range]
        constructor
        · rintro ⟨hj, hlk⟩
          obtain ⟨e, he, hb, rfl⟩ := hB.deps i o ho j (hl j hj) (fun h => hil (h ▸ hj)) hlk
          exact ⟨hB.before i o ho e he hb, hlk⟩
        · rintro ⟨hj, hlk⟩
          obtain ⟨e, he, hb, rfl⟩ := hB.deps i o ho j (by omega) (by omega) hlk
          have h3 := haf e he hb
          rw [Array.getD_eq_getD_getElem?, listedOf_get, if_pos (by omega)] at h3
          exact ⟨by simpa using h3, hlk⟩
      have e3 := detAct_perm hB vs a0 hp
      refine (hG i o ho).same (e1.1.trans (by rw [e3]; exact e2.1.symm)) (e1.2.trans (by rw [e3]; exact e2.2.symm)) ?_
      rw [detAct_size, detAct_size]
    refine wpOp_gives ho hsame hS (fun w' hS' => ?_)
    have e4 : (detAct ops vs a0 l).put o.dst (vs i) = detAct ops vs a0 (l ++ [i]) := by
      rw [detAct_append]
      show _ = Act.put _ ((ops[i]?).bind (·.dst)) (vs i)
      rw [ho]; rfl
    rw [e4]
    refine ih (l ++ [i]) w' ?_ ?_ (by simp; omega) hS'
    · rw [List.nodup_append]
      exact ⟨hn, by simp, fun a ha b hb => by simp at hb; subst hb; exact fun h => hil (h ▸ ha)⟩
    · intro j hj
      rcases List.mem_append.1 hj with h | h
      · exact hl j h
      · simp at h; omega
/-- THE LAW. -/
theorem wp_region_det {id : Nat} {a : Act} {w : World} {l : List Oper} (S : World → Prop) (hm : P.follows .mixedOrders = true) (hB : detB .any l.toArray = true) (hS : S w.drew)
    (h : wpDet P l.toArray S (fun a' => ∀ w', S w' → Q .normal a' w') l a) : (Code.region id l.toArray true).wp P Q a w := by
  refine wp_region_any hm ?_
  obtain ⟨vs, -, hG, hK⟩ := wpDet_vs (P := P) (S := S) (ops := l.toArray) l 0 (fun _ => undef) a (fun j => by simp) (by simpa [detAct] using h)
  have h0 : listedOf l.toArray.size [] = Array.replicate l.toArray.size false := by
    apply Array.ext_getElem?
    intro j
    rw [listedOf_get, Array.getElem?_replicate]
    by_cases hj : j < l.toArray.size <;> simp [hj]
  have := any_det (P := P) (S := S) (md := .any) (Q := Q) (detOk hB) vs a (fun i o ho => hG i o (Nat.zero_le _) ho) (by simpa using hK) l.toArray.size [] w.drew (by simp) (by simp) (by simp) hS
  rw [h0] at this
  exact this
def valOf (d : Option Tmp) (a : Act) : Value := match d with
  | some d => a.tmps.getD d undef
  | none => undef
/-- One operation: run alone in a world of which S is known. -/
theorem det_step {K : Act → Prop} {o : Oper} {l : List Oper} {a : Act} (a2 : Act)
    (h : ∀ w, S w → ∀ M : Act → World → Prop, (∀ w', S w' → M a2 w') → wpList P ops (Exit.then M (fun _ _ _ => False)) [o] a w) (he : a.put o.dst (valOf o.dst a2) = a2) (h2 : wpDet P ops S K l a2) : wpDet P ops S K (o :: l) a :=
  ⟨valOf o.dst a2, fun w hS => h w hS _ (fun _ hS' => ⟨he.symm, hS'⟩), by rw [he]; exact h2⟩
end
end Go.Proofs.YtmapjahpjolmnaaGreatDoor
namespace Go.Proofs.YtmapjahpjolmnaaGreatDoor
open Go
section
variable {P : Program} {ops : Array Oper} {md : Region.Mode} {w : World}
end
end Go.Proofs.YtmapjahpjolmnaaGreatDoor
namespace Go.Proofs.YtmapjahpjolmnaaGreatDoor
open Go
section
variable {P : Program} {ops : Array Oper} {md : Region.Mode} {S : World → Prop} {Q : Exit → Act → World → Prop}
/-- In every world that meets S the operation leaves v, and the world as it is. -/
def Reads (P : Program) (ops : Array Oper) (S : World → Prop) (o : Oper) (a : Act) (v : Value) : Prop := ∀ w, S w → Gives P ops (fun w' => w' = w) o a v
theorem Reads.same {o : Oper} {a a' : Act} {v : Value} (h : Reads P ops S o a v) (he : execOp a'.eval o = execOp a.eval o)
    (hw : Region.wanted o (yielded ops a'.tmps) = Region.wanted o (yielded ops a.tmps)) (hs : a.tmps.size = a'.tmps.size) : Reads P ops S o a' v := fun w hS => (h w hS).same he hw hs
theorem Reads.wpOp {i : Nat} {o : Oper} {v : Value} {a : Act} (hi : ops[i]? = some o) (hy : Reads P ops S o a v) {K : Act → World → Prop} {w : World} (hS : S w) (h : K (a.put o.dst v) w) : wpOp P ops Q i K a w :=
  wpOp_gives hi (hy w hS) rfl (fun w' e => by subst e; exact h)
theorem wpOp_putR {j : Nat} {oi oj : Oper} {v : Value} (hj : ops[j]? = some oj) (hap : oi.apart ops oj = true)
    (hsi : ∀ cs b, oi.op ≠ .select cs b) (hsj : ∀ cs b, oj.op ≠ .select cs b)
    (hQ : ∀ c a w, Q (.panic c) (a.put oi.dst v) w → Q (.panic c) a w) {K : Act → World → Prop} {a : Act} {w : World}
    (hy : Reads P ops S oi a v) (h : wpOp P ops Q j K (a.put oi.dst v) w) :
    wpOp P ops Q j (fun a' w' => Reads P ops S oi a' v ∧ K (a'.put oi.dst v) w') a w := by
  obtain ⟨h1, h2, h3⟩ := Oper.apart_spec hap
  have keep : ∀ (a : Act), Reads P ops S oi a v → ∀ u, Reads P ops S oi (a.put oj.dst u) v := fun a hy u =>
    hy.same (execOp_put oi hsi a oj.dst u h3) (wanted_put oi a oj.dst u h3) (by rw [put_size])
  have keepD : ∀ d, Reads P ops S oi { a with defers := d :: a.defers } v := fun d => hy.same rfl rfl rfl
  unfold wpOp at *
  simp only [hj] at *
  rw [wanted_put oj a oi.dst v h1] at h
  split
  · rename_i hw
    simp only [hw, if_true] at h
    rcases h with h | ⟨hasks, hlets⟩
    case inr => exact .inr ⟨by unfold Oper.asks at *; rw [execOp_put oj hsj a oi.dst v h1] at hasks; exact hasks, hlets⟩
    refine .inl ?_
    unfold Oper.wp at *
    rw [execOp_put oj hsj a oi.dst v h1] at h
    generalize (execOp a.eval oj).run P w = r at *
    cases r with
    | ok n w' =>
      cases n <;> simp only [Oper.upon] at h ⊢
      case value u => exact ⟨keep a hy u, by rw [← Act.put_comm a v u h2]; exact h⟩
      case skip => exact ⟨keep a hy _, by rw [← Act.put_comm a v undef h2]; exact h⟩
      case defer d =>
        refine ⟨keep _ (keepD d) _, ?_⟩
        rw [← Act.put_comm _ v undef h2, ← Act.put_defers]
        exact h
      case enter f args =>
        refine Calls.mono h fun e w'' he => ?_
        cases e with
        | returned u => exact ⟨keep a hy u, by rw [← Act.put_comm a v u h2]; exact he⟩
        | panicked c => exact hQ _ _ _ he
        | outgrown => exact he
      case row row args => exact Rows.mono h fun u w'' he => ⟨keep a hy u, by rw [← Act.put_comm a v u h2]; exact he⟩
    | halt x w' =>
      cases x <;> simp only [Oper.upon] at h ⊢
      case panic u => exact hQ _ _ _ h
  · rename_i hw
    simp only [hw] at h
    exact ⟨keep a hy _, by rw [← Act.put_comm a v undef h2]; exact h⟩
theorem anyR_first {i : Nat} {oi : Oper} {v : Value} (hi : ops[i]? = some oi) (hsel : ∀ (j : Nat) (o : Oper) cs b, ops[j]? = some o → o.op ≠ .select cs b)
    (hQ : ∀ c a w, Q (.panic c) (a.put oi.dst v) w → Q (.panic c) a w) :
    ∀ (fuel : Nat) (listed : Array Bool) (a : Act) (w : World),
      (∀ j oj, ops[j]? = some oj → j ≠ i → listed.getD j true = false → (∀ e ∈ oj.after, Region.binds md e = true → e.on ≠ i) → oi.apart ops oj = true) →
      i ∈ Region.ready md ops listed → Reads P ops S oi a v → S w →
      wpAnyH P md ops Q S fuel (listed.setIfInBounds i true) (a.put oi.dst v) w → wpAnyH P md ops Q S (fuel + 1) listed a w := by
  intro fuel
  induction fuel with
  | zero =>
    intro listed a w _ hr hy hS H
    refine ⟨fun h => (by rw [h] at hr; cases hr), fun j hj => ?_⟩
    by_cases hji : j = i
    · subst hji; exact hy.wpOp hi hS ⟨hS, H⟩
    · have := ready_mono hj hji
      rw [H.1] at this
      cases this
  | succ fuel ih =>
    intro listed a w hfree hr hy hS H
    refine ⟨fun h => (by rw [h] at hr; cases hr), fun j hj => ?_⟩
    by_cases hji : j = i
    · subst hji; exact hy.wpOp hi hS ⟨hS, H⟩
    · have h1 := H.2 j (ready_mono hj hji)
      obtain ⟨hjun, oj, hoj, hall⟩ := mem_ready.1 hj
      have hnot : ∀ e ∈ oj.after, Region.binds md e = true → e.on ≠ i := fun e he hb heq => by
        have h1 := hall e he hb
        have h0 := (mem_ready.1 hr).1
        rw [heq] at h1
        rcases Nat.lt_or_ge i listed.size with h' | h'
        · simp [h'] at h0 h1; rw [h0] at h1; cases h1
        · simp [Array.getElem?_eq_none h'] at h1
      have h2 := wpOp_putR hoj (hfree j oj hoj hji hjun hnot) (fun cs b => hsel i oi cs b hi) (fun cs b => hsel j oj cs b hoj) hQ hy h1
      have hfree' : ∀ k ok, ops[k]? = some ok → k ≠ i → (listed.setIfInBounds j true).getD k true = false →
          (∀ e ∈ ok.after, Region.binds md e = true → e.on ≠ i) → oi.apart ops ok = true := fun k ok hk hki hun hno => by
        refine hfree k ok hk hki ?_ hno
        by_cases hjk : j = k
        · subst hjk; exact hjun
        · rw [getD_set_ne true hjk] at hun; exact hun
      refine wpOp_mono (fun a' w' h3 => ⟨h3.2.1, ih (listed.setIfInBounds j true) a' w' hfree' (ready_mono hr (Ne.symm hji)) h3.1 h3.2.1 ?_⟩) h2
      rw [Array.setIfInBounds_comm _ _ hji]
      exact h3.2.2
theorem ready_some {i : Nat} {l : Array Bool} (h : i ∈ Region.ready md ops l) : ∃ o, ops[i]? = some o := by
  obtain ⟨-, o, ho, -⟩ := mem_ready.1 h
  exact ⟨o, ho⟩
theorem wp_then' {o : Oper} {a : Act} {w : World} {K M : Act → World → Prop} (h : o.wp P a w K (Exit.then M Q)) : o.wp P a w K Q := by
  unfold Oper.wp at *
  generalize (execOp a.eval o).run P w = r at *
  cases r with
  | ok n w' =>
    cases n <;> simp only [Oper.upon] at h ⊢
    case enter f args =>
      refine Calls.mono h fun e w'' he => ?_
      cases e <;> exact he
    all_goals exact h
  | halt x w' =>
    cases x <;> simp only [Oper.upon] at h ⊢
    all_goals exact h
theorem wpOp_of_list' {i : Nat} {o : Oper} {a : Act} {w : World} {M : Act → World → Prop} (hi : ops[i]? = some o) (h : wpList P ops (Exit.then M Q) [o] a w) : wpOp P ops Q i M a w := by
  unfold wpOp
  simp only [hi]
  unfold wpList at h
  split at h
  · rename_i hw
    rw [if_pos hw]
    rcases h with h | ⟨h1, h2⟩
    · exact .inl (wp_then' (Oper.wp_mono (fun a w h => h) h))
    · exact .inr ⟨h1, h2⟩
  · rename_i hw
    rw [if_neg hw]
    exact h
theorem any_fuel : ∀ (f g : Nat) (l : Array Bool) (a : Act) (w : World), wpAnyH P md ops Q S f l a w → wpAnyH P md ops Q S (f + g) l a w
  | 0, g, l, a, w, h => by
    rw [Nat.zero_add]
    exact wpAnyH_done h.1 h.2 g
  | f + 1, g, l, a, w, h => by
    rw [show f + 1 + g = (f + g) + 1 by omega]
    exact ⟨h.1, fun i hi => wpOp_mono (fun a' w' h' => ⟨h'.1, any_fuel f g _ a' w' h'.2⟩) (h.2 i hi)⟩
end
end Go.Proofs.YtmapjahpjolmnaaGreatDoor
