/- Plain lemmas that the walks of this seat use: endings, what lies below a block, rows of bytes. No program in sight. -/
import Derived.WalkKit
import Derived.WalkLawsBesides
import Derived.WalkSpells
import Derived.LoopTactic
import Derived.Outline
import Derived.Below
import Derived.Lib.Hide
import Derived.Lib.ConvBytes
import Derived.ChangeAgain
import Derived.Laws.IdiomStrings
namespace Go.Proofs.Ytfemkfdaeojdhaa
open Go.RowKit

theorem ret_int {k : IntKind} {a b : Int} (h : a = b) : Ending.returned (.int k a) = .returned (.int k b) := by rw [h]
theorem ret_bool {a b : Bool} (h : a = b) : Ending.returned (.bool a) = .returned (.bool b) := by rw [h]
theorem ret_str {a b : ByteArray} (h : a = b) : Ending.returned (.string a) = .returned (.string b) := by rw [h]

theorem data_nil {t : ByteArray} (h : t.size = 0) : t.data.toList = [] := by
  have : t.data.toList.length = 0 := h
  exact List.length_eq_zero_iff.1 this
theorem data_ne {t : ByteArray} (h : t.size ≠ 0) : t.data.toList ≠ [] := by
  intro e; apply h
  have : t.data.toList.length = 0 := by rw [e]; rfl
  exact this
theorem bcell {W w1 : World} (hb : Below W.heap.size W w1) : (∀ b o, b < W.heap.size → w1.cell? ⟨b, o, none⟩ = W.cell? ⟨b, o, none⟩) ∧ (∀ b o, b < W.heap.size → w1.frozen? ⟨b, o, none⟩ = W.frozen? ⟨b, o, none⟩) :=
  ⟨fun b o h => hb.cell (p := ⟨b, o, none⟩) h, fun b o h => hb.frozen (p := ⟨b, o, none⟩) h⟩

theorem Gr.trans {w w1 w2 : World} (h : Below w.heap.size w w1) (k : Below w1.heap.size w1 w2) : Below w.heap.size w w2 := h.trans (k.mono h.size)
theorem shaped_below {P : Program} {w w' : World} (h : w.ShapedOpen P) (hb : Below w.heap.size w w') : w'.ShapedOpen P :=
  h.keptBut (hb.frame (fun _ => False)) (fun _ f => f.elim)

theorem heap_setCell_self {w : World} {a : Addr} {v : Value} {c : Array Value} {e : TypeId} {f : Nat × Nat} (hs : a.spot = none) (h : w.heap[a.block]? = some (.cells c e f)) :
    (w.setCell a v).heap[a.block]? = some (.cells (c.setIfInBounds a.off v) e f) := by
  simp only [World.setCell, Array.getElem?_modify, h, hs]; simp

/-- A row that a conversion of a string has made: its first cells are bytes; the mark lies behind its end. -/
def Bytes (w : World) (g : Nat) (l : List UInt8) : Prop :=
  ∃ cur : Array Value, ∃ e m, w.heap[g]? = some (.cells cur e (m, m + 1)) ∧ cur.size ≤ m ∧ l.length ≤ cur.size ∧ ∀ i (h : i < l.length), cur[i]? = some (.int .u8 (l[i].toNat : Int))
theorem Bytes.cell {w : World} {g : Nat} {l : List UInt8} (h : Bytes w g l) (i : Nat) (hi : i < l.length) : w.cell? ⟨g, i, none⟩ = some (.int .u8 (l[i].toNat : Int)) := by
  obtain ⟨cur, e, m, h1, h2, h3, h4⟩ := h
  simp [World.cell?, h1, h4 i hi]
theorem Bytes.free {w : World} {g : Nat} {l : List UInt8} (h : Bytes w g l) (i : Nat) (hi : i < l.length) : w.frozen? ⟨g, i, none⟩ = false := by
  obtain ⟨cur, e, m, h1, h2, h3, h4⟩ := h
  simp [World.frozen?, h1]; omega
theorem Bytes.set {w : World} {g : Nat} {l : List UInt8} (h : Bytes w g l) (i : Nat) (x : UInt8) : Bytes (w.setCell ⟨g, i, none⟩ (.int .u8 x.toNat)) g (l.set i x) := by
  obtain ⟨cur, e, m, h1, h2, h3, h4⟩ := h
  refine ⟨cur.setIfInBounds i (.int .u8 x.toNat), e, m, heap_setCell_self rfl h1, by simpa using h2, by simpa using h3, ?_⟩
  intro j hj
  simp only [List.length_set] at hj
  by_cases hij : i = j
  · subst hij; simp [Array.getElem?_setIfInBounds]; omega
  · rw [Array.getElem?_setIfInBounds_ne hij, h4 j hj]; simp [List.getElem_set, hij]
theorem Bytes.new (w : World) (e : TypeId) (s : ByteArray) : Bytes (Lib.bytesWorld w e s) w.heap.size s.data.toList := by
  refine ⟨_, _, _, Lib.bytesWorld_at_new w e s, Nat.le_refl _, ?_, ?_⟩
  · simp [Lib.bytesCells]
  · intro i hi
    have h := Lib.bytesWorld_cell w e s i (by simpa using hi)
    simp only [World.cell?, Lib.bytesWorld_at_new] at h
    simp only [List.getD_eq_getElem?_getD, List.getElem?_eq_getElem hi, Option.getD_some] at h
    simpa using h
theorem below_bytesWorld (w : World) (e : TypeId) (s : ByteArray) : Below w.heap.size w (Lib.bytesWorld w e s) :=
  ⟨by rfl, by rfl, by rfl, by simp [Lib.bytesWorld_size], fun k hk => Lib.bytesWorld_at_old w e s k hk⟩
theorem add_off (g i : Nat) : (⟨g, 0, none⟩ : Addr).add i = ⟨g, i, none⟩ := by unfold Addr.add; split <;> simp_all
theorem Bytes.back {P : Program} {w : World} {g : Nat} {l : List UInt8} (h : Bytes w g l) (src dst e : TypeId) (cap n : Nat) (hs : P.underlying src = some (.slice e)) (he : P.underlying e = some (.int .u8)) (hd : P.underlying dst = some .string) (hn : l.length = n) :
    (convert src dst (.slice (some ⟨g, 0, none⟩) n cap)).run P w = .ok (.string ⟨l.toArray⟩) w := by
  subst hn
  exact run_convert_bytes_back w src dst e ⟨g, 0, none⟩ cap l hs he hd (fun j hj => by rw [add_off]; exact h.cell j hj)

/-- Bytes as values. -/
def bvals (l : List UInt8) : List Value := l.map fun b => Value.int .u8 b.toNat
theorem bvals_snoc (l : List UInt8) (b : UInt8) : bvals l ++ [.int .u8 b.toNat] = bvals (l ++ [b]) := by simp [bvals]
theorem bvals_length (l : List UInt8) : (bvals l).length = l.length := by simp [bvals]
/-- 'string(out)' of an owned row of bytes, nil or not. -/
theorem own_back {P : Program} {w : World} {base e' : Nat} {v : Value} {n : Nat} {l : List UInt8} (h : w.ownsRow base e' 1 v n (bvals l)) (src dst e : TypeId) (hs : P.underlying src = some (.slice e)) (he : P.underlying e = some (.int .u8)) (hd : P.underlying dst = some .string) :
    (convert src dst v).run P w = .ok (.string ⟨l.toArray⟩) w := by
  have hl : l.length = n := by have := h.1; simpa [bvals] using this
  rcases h.2 with ⟨rfl, h0⟩ | ⟨g, cap, cur, rfl, hbg, hg, hnc, hcm, hcs, htake⟩
  · have : l = [] := List.length_eq_zero_iff.1 (by omega)
    subst this
    rw [run_convert_bytes_string w src dst e none 0 0 hs he hd]; simp [Conv.bytesToString]; rfl
  · subst hl
    refine run_convert_bytes_back w src dst e ⟨g, 0, none⟩ cap l hs he hd (fun j hj => ?_)
    rw [add_off, h.cellAt j (by omega)]
    simp [bvals, hj]

theorem grown_comp {a b c : World} {row : Option Nat} (h : a.grownBy b none) (k : b.grownBy c row) : a.grownBy c row :=
  ⟨k.os.trans h.os, k.tape.trans h.tape, k.output.trans h.output, Nat.le_trans h.size k.size, fun i hi hr => (k.block i (Nat.lt_of_lt_of_le hi h.size) hr).trans (h.block i hi (by simp))⟩
/-- What a law that ends in 'grownBy' leaves below the base of the row that it has written. -/
theorem below_grown {w w' : World} {base e size n : Nat} {v : Value} {xs : List Value} (h : w.ownsRow base e size v n xs) (hg : w.grownBy w' v.ownBlock) (hb : base ≤ w.heap.size) : Below base w w' :=
  (Below.refl _ _).grown hg hb (fun k hk => (h.lt k hk).1)

theorem one_int {k : IntKind} {n : Int} : ∀ u ∈ [Value.int k n], u.oneCell' = true := by intro u hu; simp at hu; subst hu; rfl
theorem one_str {s : ByteArray} : ∀ u ∈ [Value.string s], u.oneCell' = true := by intro u hu; simp at hu; subst hu; rfl

section
variable {P : Program} {w : World}
/-- 'append(out, x)', out a row of the call's own (or nil), x one element of 'size' cells, laid just before in a block of its own. -/
theorem wp_app1 {ops : Array Oper} {rest : List Oper} {o : Oper} {a : Act} {Q : Exit → Act → World → Prop} (hgd : o.guard = none) (s x : Operand) (t : TypeId)
    (ho : o.op = .call { callee := .builtin .append, args := #[s, x], argTypes := #[t, t] })
    (e size bytes : Nat) (z : Value) (ht : P.underlying t = some (.slice e)) (hinf : (P.info? e).map (fun i => (i.zero, i.size, i.bytes)) = some (some z, size, bytes)) (hzs : z.cells.size = size) (hsz : 0 < size)
    (base : Nat) (v : Value) (n : Nat) (xs : List Value) (hs : a.eval s = v) (hown : w.ownsRow base e size v n xs)
    (news : List Value) (hx : a.eval x = .slice (some ⟨w.heap.size, 0, none⟩) 1 1) (hl : news.length = size) (h1 : ∀ u ∈ news, u.oneCell' = true)
    (h63 : n + 1 ≤ maxLen) (hbytes : (n + 1) * bytes ≤ 140737488355328) (hbase : base ≤ w.heap.size)
    (h : ∀ v' w', w'.ownsRow base e size v' (n + 1) (xs ++ news) → w.grownBy w' v.ownBlock → v' ≠ .slice none 0 0 → wpList P ops Q rest (a.put o.dst v') w') : wpList P ops Q (o :: rest) a (w.alloc (.cells news.toArray e)) := by
  obtain ⟨i, hi, hz0, hz1, hz2⟩ := info_parts hinf
  refine wpList_append_own _ hgd s x t ho base e i z size bytes ht hi hz0 hz1 hz2 hzs hsz v n xs hs (hown.alloc _) ⟨w.heap.size, 0, none⟩ 1 1 news hx (by omega) ?_ h1 h63 hbytes (by simp; omega) ?_
  · intro j u hj
    have hj' : j < news.length := (List.getElem?_eq_some_iff.1 hj).1
    rw [add_off, World.cell?_alloc_at _ _ _ _ rfl]
    simpa using hj
  · intro v' w' ho' hg' hn'
    exact h v' w' ho' (grown_comp (World.grownBy_alloc w _ none) hg') (fun e => by have := (hn'.1 e).2; omega)
end
end Go.Proofs.Ytfemkfdaeojdhaa
