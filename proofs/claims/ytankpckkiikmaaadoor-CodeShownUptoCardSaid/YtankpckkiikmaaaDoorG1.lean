/- Plain lemmas that the walks of this seat use: endings, what lies below a block, rows of bytes. No program in sight. -/
import Derived.WalkKit
import Derived.WalkLawsBesides
import Derived.WalkSpells
import Derived.LoopTactic
import Derived.Outline
import Derived.Below
import Derived.Lib.Hide
import Derived.Lib.ConvBytes
import Derived.ChangeAgain
import Derived.Maps.AppendAt
import Derived.Laws.OwnMore
import Derived.Laws.IdiomStrings
import Derived.Maps.OwnSet
import Derived.Test.YtankpckkiikmaaaDoorProg
import Derived.IntWalk
import Derived.StillTail
import Derived.RegionTactic
import Derived.StillTailTactics
set_option linter.unusedVariables false
set_option linter.unusedSimpArgs false
namespace Go.Proofs.YtankpckkiikmaaaDoor
open Go.RowKit

theorem ret_int {k : IntKind} {a b : Int} (h : a = b) : Ending.returned (.int k a) = .returned (.int k b) := by rw [h]
theorem ret_bool {a b : Bool} (h : a = b) : Ending.returned (.bool a) = .returned (.bool b) := by rw [h]
theorem ret_str {a b : ByteArray} (h : a = b) : Ending.returned (.string a) = .returned (.string b) := by rw [h]

theorem data_nil {t : ByteArray} (h : t.size = 0) : t.data.toList = [] := by
  have : t.data.toList.length = 0 := h
  exact List.length_eq_zero_iff.1 this
theorem data_ne {t : ByteArray} (h : t.size ≠ 0) : t.data.toList ≠ [] := by
  intro e; apply h
  have : t.data.toList.length = 0 := by rw [e]; rfl
  exact this
theorem bcell {W w1 : World} (hb : Below W.heap.size W w1) : (∀ b o, b < W.heap.size → w1.cell? ⟨b, o, none⟩ = W.cell? ⟨b, o, none⟩) ∧ (∀ b o, b < W.heap.size → w1.frozen? ⟨b, o, none⟩ = W.frozen? ⟨b, o, none⟩) :=
  ⟨fun b o h => hb.cell (p := ⟨b, o, none⟩) h, fun b o h => hb.frozen (p := ⟨b, o, none⟩) h⟩

theorem Gr.trans {w w1 w2 : World} (h : Below w.heap.size w w1) (k : Below w1.heap.size w1 w2) : Below w.heap.size w w2 := h.trans (k.mono h.size)
theorem shaped_below {P : Program} {w w' : World} (h : w.ShapedOpen P) (hb : Below w.heap.size w w') : w'.ShapedOpen P :=
  h.keptBut (hb.frame (fun _ => False)) (fun _ f => f.elim)

theorem heap_setCell_self {w : World} {a : Addr} {v : Value} {c : Array Value} {e : TypeId} {f : Nat × Nat} (hs : a.spot = none) (h : w.heap[a.block]? = some (.cells c e f)) :
    (w.setCell a v).heap[a.block]? = some (.cells (c.setIfInBounds a.off v) e f) := by
  simp only [World.setCell, Array.getElem?_modify, h, hs]; simp

/-- A row that a conversion of a string has made: its first cells are bytes; the mark lies behind its end. -/
def Bytes (w : World) (g : Nat) (l : List UInt8) : Prop :=
  ∃ cur : Array Value, ∃ e m, w.heap[g]? = some (.cells cur e (m, m + 1)) ∧ cur.size ≤ m ∧ l.length ≤ cur.size ∧ ∀ i (h : i < l.length), cur[i]? = some (.int .u8 (l[i].toNat : Int))
theorem Bytes.cell {w : World} {g : Nat} {l : List UInt8} (h : Bytes w g l) (i : Nat) (hi : i < l.length) : w.cell? ⟨g, i, none⟩ = some (.int .u8 (l[i].toNat : Int)) := by
  obtain ⟨cur, e, m, h1, h2, h3, h4⟩ := h
  simp [World.cell?, h1, h4 i hi]
theorem Bytes.free {w : World} {g : Nat} {l : List UInt8} (h : Bytes w g l) (i : Nat) (hi : i < l.length) : w.frozen? ⟨g, i, none⟩ = false := by
  obtain ⟨cur, e, m, h1, h2, h3, h4⟩ := h
  simp [World.frozen?, h1]; omega
theorem Bytes.set {w : World} {g : Nat} {l : List UInt8} (h : Bytes w g l) (i : Nat) (x : UInt8) : Bytes (w.setCell ⟨g, i, none⟩ (.int .u8 x.toNat)) g (l.set i x) := by
  obtain ⟨cur, e, m, h1, h2, h3, h4⟩ := h
  refine ⟨cur.setIfInBounds i (.int .u8 x.toNat), e, m, heap_setCell_self rfl h1, by simpa using h2, by simpa using h3, ?_⟩
  intro j hj
  simp only [List.length_set] at hj
  by_cases hij : i = j
  · subst hij; simp [Array.getElem?_setIfInBounds]; omega
  · rw [Array.getElem?_setIfInBounds_ne hij, h4 j hj]; simp [List.getElem_set, hij]
theorem Bytes.new (w : World) (e : TypeId) (s : ByteArray) : Bytes (Lib.bytesWorld w e s) w.heap.size s.data.toList := by
  refine ⟨_, _, _, Lib.bytesWorld_at_new w e s, Nat.le_refl _, ?_, ?_⟩
  · simp [Lib.bytesCells]
  · intro i hi
    have h := Lib.bytesWorld_cell w e s i (by simpa using hi)
    simp only [World.cell?, Lib.bytesWorld_at_new] at h
    simp only [List.getD_eq_getElem?_getD, List.getElem?_eq_getElem hi, Option.getD_some] at h
    simpa using h
theorem below_bytesWorld (w : World) (e : TypeId) (s : ByteArray) : Below w.heap.size w (Lib.bytesWorld w e s) :=
  ⟨by rfl, by rfl, by rfl, by simp [Lib.bytesWorld_size], fun k hk => Lib.bytesWorld_at_old w e s k hk⟩
theorem add_off (g i : Nat) : (⟨g, 0, none⟩ : Addr).add i = ⟨g, i, none⟩ := by unfold Addr.add; split <;> simp_all
theorem Bytes.back {P : Program} {w : World} {g : Nat} {l : List UInt8} (h : Bytes w g l) (src dst e : TypeId) (cap n : Nat) (hs : P.underlying src = some (.slice e)) (he : P.underlying e = some (.int .u8)) (hd : P.underlying dst = some .string) (hn : l.length = n) :
    (convert src dst (.slice (some ⟨g, 0, none⟩) n cap)).run P w = .ok (.string ⟨l.toArray⟩) w := by
  subst hn
  exact run_convert_bytes_back w src dst e ⟨g, 0, none⟩ cap l hs he hd (fun j hj => by rw [add_off]; exact h.cell j hj)

/-- Bytes as values. -/
def bvals (l : List UInt8) : List Value := l.map fun b => Value.int .u8 b.toNat
theorem bvals_snoc (l : List UInt8) (b : UInt8) : bvals l ++ [.int .u8 b.toNat] = bvals (l ++ [b]) := by simp [bvals]
theorem bvals_length (l : List UInt8) : (bvals l).length = l.length := by simp [bvals]
/-- 'string(out)' of an owned row of bytes, nil or not. -/
theorem own_back {P : Program} {w : World} {base e' : Nat} {v : Value} {n : Nat} {l : List UInt8} (h : w.ownsRow base e' 1 v n (bvals l)) (src dst e : TypeId) (hs : P.underlying src = some (.slice e)) (he : P.underlying e = some (.int .u8)) (hd : P.underlying dst = some .string) :
    (convert src dst v).run P w = .ok (.string ⟨l.toArray⟩) w := by
  have hl : l.length = n := by have := h.1; simpa [bvals] using this
  rcases h.2 with ⟨rfl, h0⟩ | ⟨g, cap, cur, rfl, hbg, hg, hnc, hcm, hcs, htake⟩
  · have : l = [] := List.length_eq_zero_iff.1 (by omega)
    subst this
    rw [run_convert_bytes_string w src dst e none 0 0 hs he hd]; simp [Conv.bytesToString]; rfl
  · subst hl
    refine run_convert_bytes_back w src dst e ⟨g, 0, none⟩ cap l hs he hd (fun j hj => ?_)
    rw [add_off, h.cellAt j (by omega)]
    simp [bvals, hj]

theorem grown_comp {a b c : World} {row : Option Nat} (h : a.grownBy b none) (k : b.grownBy c row) : a.grownBy c row :=
  ⟨k.os.trans h.os, k.tape.trans h.tape, k.output.trans h.output, Nat.le_trans h.size k.size, fun i hi hr => (k.block i (Nat.lt_of_lt_of_le hi h.size) hr).trans (h.block i hi (by simp))⟩
/-- What a law that ends in 'grownBy' leaves below the base of the row that it has written. -/
theorem below_grown {w w' : World} {base e size n : Nat} {v : Value} {xs : List Value} (h : w.ownsRow base e size v n xs) (hg : w.grownBy w' v.ownBlock) (hb : base ≤ w.heap.size) : Below base w w' :=
  (Below.refl _ _).grown hg hb (fun k hk => (h.lt k hk).1)

/-- The world has turned at blocks of F alone (and at new ones). -/
structure Tur (F : Nat → Prop) (w w' : World) : Prop where
  os : w'.os = w.os
  tape : w'.tape = w.tape
  output : w'.output = w.output
  size : w.heap.size ≤ w'.heap.size
  block : ∀ k, k < w.heap.size → ¬ F k → w'.heap[k]? = w.heap[k]?
theorem Tur.refl (F : Nat → Prop) (w : World) : Tur F w w := ⟨rfl, rfl, rfl, Nat.le_refl _, fun _ _ _ => rfl⟩
theorem Tur.trans {F G : Nat → Prop} {a b c : World} (h : Tur F a b) (k : Tur G b c) (hG : ∀ i, i < a.heap.size → G i → F i) : Tur F a c :=
  ⟨k.os.trans h.os, k.tape.trans h.tape, k.output.trans h.output, Nat.le_trans h.size k.size, fun i hi hF => (k.block i (Nat.lt_of_lt_of_le hi h.size) (fun g => hF (hG i hi g))).trans (h.block i hi hF)⟩
theorem Tur.mono {F G : Nat → Prop} {a b : World} (h : Tur F a b) (hG : ∀ i, i < a.heap.size → F i → G i) : Tur G a b :=
  ⟨h.os, h.tape, h.output, h.size, fun i hi hF => h.block i hi (fun f => hF (hG i hi f))⟩
theorem Tur.of_below {B : Nat} {w w' : World} (h : Below B w w') : Tur (B ≤ ·) w w' := ⟨h.os, h.tape, h.output, h.size, fun k _ hk => h.block k (Nat.lt_of_not_le hk)⟩
theorem Tur.of_gr {F : Nat → Prop} {w w' : World} (h : Below w.heap.size w w') : Tur F w w' := ⟨h.os, h.tape, h.output, h.size, fun k hk _ => h.block k hk⟩
theorem Tur.of_grown {w w' : World} {row : Option Nat} (h : w.grownBy w' row) : Tur (fun k => some k = row) w w' := ⟨h.os, h.tape, h.output, h.size, fun k hk hr => h.block k hk hr⟩
theorem Tur.of_alloc {F : Nat → Prop} (w : World) (o : Obj) : Tur F w (w.alloc o) := ⟨rfl, rfl, rfl, by simp, fun k hk _ => Below.heap_alloc _ _ _ hk⟩
theorem Tur.of_drew {F : Nat → Prop} (w : World) : Tur F w w.drew := ⟨rfl, rfl, rfl, Nat.le_refl _, fun _ _ _ => rfl⟩
theorem Tur.drew {F : Nat → Prop} {w w' : World} (h : Tur F w w') : Tur F w w'.drew := ⟨h.os, h.tape, h.output, h.size, h.block⟩
theorem Tur.of_drewN {F : Nat → Prop} (w : World) (n : Nat) : Tur F w (w.drewN n) := ⟨rfl, rfl, rfl, Nat.le_refl _, fun _ _ _ => rfl⟩
theorem Tur.of_set {w : World} (p : Addr) (u : Value) : Tur (· = p.block) w (w.setCell p u) := ⟨rfl, rfl, rfl, by simp [World.setCell], fun k _ hk => Below.heap_setCell _ _ _ _ hk⟩
theorem Tur.below {F : Nat → Prop} {w w' : World} (h : Tur F w w') (B : Nat) (hB : B ≤ w.heap.size) (hF : ∀ k, k < B → ¬ F k) : Below B w w' := ⟨h.os, h.tape, h.output, h.size, fun k hk => h.block k (Nat.lt_of_lt_of_le hk hB) (hF k hk)⟩
theorem own_of_block {w w' : World} {base e size n : Nat} {v : Value} {xs : List Value} (h : w.ownsRow base e size v n xs) (hb : ∀ g, v.ownBlock = some g → w'.heap[g]? = w.heap[g]?) : w'.ownsRow base e size v n xs := by
  refine ⟨h.1, ?_⟩
  rcases h.2 with h2 | ⟨g, cap, cur, rfl, hg, hh, r⟩
  · exact Or.inl h2
  · exact Or.inr ⟨g, cap, cur, rfl, hg, (hb g rfl).trans hh, r⟩
theorem own_base {w : World} {base base' e size n : Nat} {v : Value} {xs : List Value} (h : w.ownsRow base e size v n xs) (hb : ∀ g, v.ownBlock = some g → base' ≤ g) : w.ownsRow base' e size v n xs := by
  refine ⟨h.1, ?_⟩
  rcases h.2 with h2 | ⟨g, cap, cur, rfl, hg, hh, r⟩
  · exact Or.inl h2
  · exact Or.inr ⟨g, cap, cur, rfl, hb g rfl, hh, r⟩

theorem one_int {k : IntKind} {n : Int} : ∀ u ∈ [Value.int k n], u.oneCell' = true := by intro u hu; simp at hu; subst hu; rfl
theorem one_str {s : ByteArray} : ∀ u ∈ [Value.string s], u.oneCell' = true := by intro u hu; simp at hu; subst hu; rfl

section
variable {P : Program} {w : World}
/-- 'append(out, x)', out a row of the call's own (or nil), x one element of 'size' cells, laid just before in a block of its own. -/
theorem wp_app1 {ops : Array Oper} {rest : List Oper} {o : Oper} {a : Act} {Q : Exit → Act → World → Prop} (hgd : o.guard = none) (s x : Operand) (t : TypeId)
    (ho : o.op = .call { callee := .builtin .append, args := #[s, x], argTypes := #[t, t] })
    (e size bytes : Nat) (z : Value) (ht : P.underlying t = some (.slice e)) (hinf : (P.info? e).map (fun i => (i.zero, i.size, i.bytes)) = some (some z, size, bytes)) (hzs : z.cells.size = size) (hsz : 0 < size)
    (base : Nat) (v : Value) (n : Nat) (xs : List Value) (hs : a.eval s = v) (hown : w.ownsRow base e size v n xs)
    (news : List Value) (hx : a.eval x = .slice (some ⟨w.heap.size, 0, none⟩) 1 1) (hl : news.length = size) (h1 : ∀ u ∈ news, u.oneCell' = true)
    (h63 : n + 1 ≤ maxLen) (hbytes : (n + 1) * bytes ≤ 140737488355328) (hbase : base ≤ w.heap.size)
    (h : ∀ v' w', w'.ownsRow base e size v' (n + 1) (xs ++ news) → w.grownBy w' v.ownBlock → v' ≠ .slice none 0 0 → wpList P ops Q rest (a.put o.dst v') w') : wpList P ops Q (o :: rest) a (w.alloc (.cells news.toArray e)) := by
  obtain ⟨i, hi, hz0, hz1, hz2⟩ := info_parts hinf
  refine wpList_append_own _ hgd s x t ho base e i z size bytes ht hi hz0 hz1 hz2 hzs hsz v n xs hs (hown.alloc _) ⟨w.heap.size, 0, none⟩ 1 1 news hx (by omega) ?_ h1 h63 hbytes (by simp; omega) ?_
  · intro j u hj
    have hj' : j < news.length := (List.getElem?_eq_some_iff.1 hj).1
    rw [add_off, World.cell?_alloc_at _ _ _ _ rfl]
    simpa using hj
  · intro v' w' ho' hg' hn'
    exact h v' w' ho' (grown_comp (World.grownBy_alloc w _ none) hg') (fun e => by have := (hn'.1 e).2; omega)
/-- .. and where the new row lies: 'append(out, x)', out a row of the call's own (or nil), x one element of 'size' cells, laid just before in a block of its own. -/
theorem wp_app1_at {ops : Array Oper} {rest : List Oper} {o : Oper} {a : Act} {Q : Exit → Act → World → Prop} (hgd : o.guard = none) (s x : Operand) (t : TypeId)
    (ho : o.op = .call { callee := .builtin .append, args := #[s, x], argTypes := #[t, t] })
    (e size bytes : Nat) (z : Value) (ht : P.underlying t = some (.slice e)) (hinf : (P.info? e).map (fun i => (i.zero, i.size, i.bytes)) = some (some z, size, bytes)) (hzs : z.cells.size = size) (hsz : 0 < size)
    (base : Nat) (v : Value) (n : Nat) (xs : List Value) (hs : a.eval s = v) (hown : w.ownsRow base e size v n xs)
    (news : List Value) (S : Nat) (hS : w.heap.size = S) (hx : a.eval x = .slice (some ⟨S, 0, none⟩) 1 1) (hl : news.length = size) (h1 : ∀ u ∈ news, u.oneCell' = true)
    (h63 : n + 1 ≤ maxLen) (hbytes : (n + 1) * bytes ≤ 140737488355328) (hbase : base ≤ w.heap.size)
    (h : ∀ g cap w', n + 1 ≤ cap → cap ≤ maxLen → w'.ownsRow base e size (.slice (some ⟨g, 0, none⟩) (n + 1) cap) (n + 1) (xs ++ news) → w.grownBy w' v.ownBlock → (v.ownBlock = some g ∨ w.heap.size ≤ g) → wpList P ops Q rest (a.put o.dst (.slice (some ⟨g, 0, none⟩) (n + 1) cap)) w') : wpList P ops Q (o :: rest) a (w.alloc (.cells news.toArray e)) := by
  subst hS
  obtain ⟨i, hi, hz0, hz1, hz2⟩ := info_parts hinf
  refine wpList_append_own_at _ hgd s x t ho base e i z size bytes ht hi hz0 hz1 hz2 hzs hsz v n xs hs (hown.alloc _) ⟨w.heap.size, 0, none⟩ 1 1 news hx (by omega) ?_ h1 h63 hbytes (by simp; omega) ?_
  · intro j u hj
    have hj' : j < news.length := (List.getElem?_eq_some_iff.1 hj).1
    rw [add_off, World.cell?_alloc_at _ _ _ _ rfl]
    simpa using hj
  · intro v' w' ho' hg' hn' hat
    rcases ho'.2 with ⟨_, h0⟩ | ⟨g, cap, cur, e1, _, _, h4, h5, _⟩
    · omega
    · subst e1
      refine h g cap w' h4 h5 ho' (grown_comp (World.grownBy_alloc w _ none) hg') ?_
      rcases hat with h | h
      · exact Or.inl h.symm
      · right; injection h with hg; simp at hg; omega
/-- 'append(out, x...)', out a row of the call's own (or nil), x a row that is known, nil or not. -/
theorem wp_appn {ops : Array Oper} {rest : List Oper} {o : Oper} {a : Act} {Q : Exit → Act → World → Prop} (hgd : o.guard = none) (s x : Operand) (t : TypeId)
    (ho : o.op = .call { callee := .builtin .append, args := #[s, x], argTypes := #[t, t] })
    (e size bytes : Nat) (z : Value) (ht : P.underlying t = some (.slice e)) (hinf : (P.info? e).map (fun i => (i.zero, i.size, i.bytes)) = some (some z, size, bytes)) (hzs : z.cells.size = size) (hsz : 0 < size)
    (base : Nat) (v : Value) (n : Nat) (xs : List Value) (hs : a.eval s = v) (hown : w.ownsRow base e size v n xs)
    (base2 : Nat) (u : Value) (m : Nat) (news : List Value) (hx : a.eval x = u) (hu : w.ownsRow base2 e size u m news) (h1 : ∀ u ∈ news, u.oneCell' = true)
    (h63 : n + m ≤ maxLen) (hbytes : (n + m) * bytes ≤ 140737488355328) (hbase : base ≤ w.heap.size)
    (h : ∀ A cap w', w'.ownsRow base e size (.slice A (n + m) cap) (n + m) (xs ++ news) → w.grownBy w' v.ownBlock → (∀ g, (.slice A (n + m) cap : Value).ownBlock = some g → v.ownBlock = some g ∨ w.heap.size ≤ g) → wpList P ops Q rest (a.put o.dst (.slice A (n + m) cap)) w') : wpList P ops Q (o :: rest) a w := by
  obtain ⟨i, hi, hz0, hz1, hz2⟩ := info_parts hinf
  rcases hu.2 with ⟨rfl, rfl⟩ | ⟨g2, cap2, cur2, rfl, _, hg2, hnc2, _⟩
  · have hnil : news = [] := List.eq_nil_of_length_eq_zero (by rw [hu.1]; simp)
    subst hnil
    have hv : ∃ A cap, v = .slice A n cap := by
      rcases hown.2 with ⟨h1, h0⟩ | ⟨g, cap, cur, h1, _⟩
      · exact ⟨none, 0, by rw [h1, h0]⟩
      · exact ⟨_, _, h1⟩
    obtain ⟨A, cap, rfl⟩ := hv
    have hr := run_append_owned_none (P := P) w base t o.type e i size ht hi _ n xs hown
    refine wpList_plain hgd fun K hK => ?_
    unfold Oper.wp execOp
    simp only [ho, resolve, invoke, builtin, Sem.run_bind, Sem.run_pure, Result.andThen_ok, List.map_toArray, List.map_cons, List.map_nil, hs, hx, hr]
    exact hK _ _ (h A cap w (by simpa using hown) ⟨rfl, rfl, rfl, Nat.le_refl _, fun _ _ _ => rfl⟩ (fun g hg => .inl hg))
  · refine wpList_append_own_at _ hgd s x t ho base e i z size bytes ht hi hz0 hz1 hz2 hzs hsz v n xs hs hown ⟨g2, 0, none⟩ m cap2 news hx hu.1 (fun j u hj => by rw [add_off]; exact (hu.cells (g := g2) rfl j u hj ▸ by rw [add_off])) h1 h63 hbytes hbase ?_
    intro v' w' ho' hg' hn' hat
    have hv : ∃ A cap, v' = .slice A (n + m) cap := by
      rcases ho'.2 with ⟨h1, h0⟩ | ⟨g, cap, cur, h1, _⟩
      · exact ⟨none, 0, by rw [h1, h0]⟩
      · exact ⟨_, _, h1⟩
    obtain ⟨A, cap, rfl⟩ := hv
    refine h A cap w' ho' hg' (fun g hg => ?_)
    rcases hat with h | h
    · exact .inl (h ▸ hg)
    · right; rw [h] at hg; injection hg with hg; omega
end

/-- Texts as values. -/
def svals (l : List ByteArray) : List Value := l.map Value.string
theorem svals_length (l : List ByteArray) : (svals l).length = l.length := by simp [svals]
theorem svals_one {l : List ByteArray} : ∀ u ∈ svals l, u.oneCell' = true := by
  intro u hu; simp only [svals, List.mem_map] at hu; obtain ⟨s, _, rfl⟩ := hu; rfl
/-- A slice of texts that lies below block B. -/
def Strs (w : World) (B : Nat) (A : Option Addr) (n : Nat) (xs : List ByteArray) : Prop :=
  xs.length = n ∧ (0 < n → ∃ b o, A = some ⟨b, o, none⟩ ∧ b < B ∧ ∀ i, (hi : i < xs.length) → w.cell? ⟨b, o + i, none⟩ = some (.string xs[i]))
theorem Strs.nil (w : World) (B : Nat) : Strs w B none 0 [] := ⟨rfl, fun h => by omega⟩
theorem Strs.below {w w' : World} {B : Nat} {A : Option Addr} {n : Nat} {xs : List ByteArray} (h : Strs w B A n xs) (hb : Below B w w') : Strs w' B A n xs :=
  ⟨h.1, fun hn => by
    obtain ⟨b, o, hA, hB, hc⟩ := h.2 hn
    exact ⟨b, o, hA, hB, fun i hi => (hb.cell (p := ⟨b, o + i, none⟩) hB).trans (hc i hi)⟩⟩
theorem Strs.keep {w w' : World} {B B' : Nat} {A : Option Addr} {n : Nat} {xs : List ByteArray} (h : Strs w B A n xs) (hB' : B ≤ B') (hk : ∀ b o, A = some ⟨b, o, none⟩ → b < B → w'.heap[b]? = w.heap[b]?) : Strs w' B' A n xs :=
  ⟨h.1, fun hn => by
    obtain ⟨b, o, hA, hB, hc⟩ := h.2 hn
    exact ⟨b, o, hA, by omega, fun i hi => (World.cell?_of_block (w := w) (a := ⟨b, o + i, none⟩) (hk b o hA hB)).trans (hc i hi)⟩⟩
theorem Strs.of_own {w : World} {base e cap n : Nat} {A : Option Addr} {xs : List ByteArray} (h : w.ownsRow base e 1 (.slice A n cap) n (svals xs)) : Strs w w.heap.size A n xs := by
  have hl : xs.length = n := by have := h.1; simpa [svals] using this
  refine ⟨hl, fun hn => ?_⟩
  rcases h.2 with ⟨_, h0⟩ | ⟨g, cap', cur, h1, _, hg, _⟩
  · omega
  · injection h1 with h1 _ h3
    subst h1; subst h3
    refine ⟨g, 0, rfl, (Array.getElem?_eq_some_iff.1 hg).1, fun i hi => ?_⟩
    rw [Nat.zero_add, h.cellAt i (by omega)]
    simp [svals, hi]
theorem Strs.lit (w : World) (e : TypeId) (xs : List ByteArray) : Strs (w.alloc (.cells (svals xs).toArray e)) (w.heap.size + 1) (some ⟨w.heap.size, 0, none⟩) xs.length xs :=
  ⟨rfl, fun hn => ⟨w.heap.size, 0, rfl, by omega, fun i hi => by
    rw [World.cell?_alloc_at _ _ _ _ rfl]; simp [svals, hi]⟩⟩
theorem tolist_beq (a b : ByteArray) : (a.toList == b.toList) = decide (a.data.toList = b.data.toList) := by
  rw [ByteArray.toList_eq, ByteArray.toList_eq, Bool.eq_iff_iff]; simp
def sameT (xs ys : List ByteArray) : Bool := decide (xs.map (·.data.toList) = ys.map (·.data.toList))
theorem bytes_ext {a b : ByteArray} (h : a.data.toList = b.data.toList) : a = b := ByteArray.ext (Array.toList_inj.1 h)
theorem sameT_iff (xs ys : List ByteArray) : sameT xs ys = true ↔ xs = ys := by
  simp only [sameT, decide_eq_true_eq]
  constructor
  · intro h
    exact List.map_inj_right (fun a b hab => bytes_ext hab) |>.1 h
  · intro h; rw [h]
end Go.Proofs.YtankpckkiikmaaaDoor
namespace Go.Proofs.YtankpckkiikmaaaDoor
open Go.RowKit
open Go.ChangeMaps (setBlock heap_setBlock_same heap_setBlock_other)

/-- Block b is a map whose entries are these. -/
def MapLit (w : World) (b : Nat) (T : List (Value × Value)) : Prop := ∃ es c, w.heap[b]? = some (.map es c) ∧ es.toList.map (fun e => (e.key, e.val)) = T
/-- What stands at a key. -/
def litAt (d : TypeDesc) (k : Value) : List (Value × Value) → Option (Option Value)
  | [] => some none
  | (k', v) :: r => match Instr.sameNow d k k' with
    | some true => some (some v)
    | some false => litAt d k r
    | none => none
theorem litAt_find {d : TypeDesc} {k : Value} : ∀ (es : List MapEntry) (i : Nat) (q : Option Value), litAt d k (es.map (fun e => (e.key, e.val))) = some q → ∃ q', Instr.findNow d k es i = some q' ∧ q'.map (·.2) = q
  | [], i, q, h => ⟨none, rfl, by simpa [litAt] using h⟩
  | e :: es, i, q, h => by
    simp only [List.map_cons, litAt] at h
    unfold Instr.findNow
    split at h
    · rename_i hs
      rw [hs]
      exact ⟨some (i, e.val), rfl, by simpa using h⟩
    · rename_i hs
      rw [hs]
      exact litAt_find es (i + 1) q h
    · cases h
section
variable {P : Program} {w : World} {b : Nat} {T : List (Value × Value)} {t kt e : TypeId} {d : TypeDesc}
theorem MapLit.lt (h : MapLit w b T) : b < w.heap.size := by
  obtain ⟨es, c, h, _⟩ := h
  exact (Array.getElem?_eq_some_iff.1 h).1
theorem MapLit.made (w : World) : MapLit (w.alloc (.map #[] 0)) w.heap.size [] := ⟨#[], 0, (MapKept.heap_alloc w _).1, rfl⟩
theorem MapLit.keep {w' : World} (h : MapLit w b T) (hb : w'.heap[b]? = w.heap[b]?) : MapLit w' b T := by
  obtain ⟨es, c, h1, h2⟩ := h
  exact ⟨es, c, hb.trans h1, h2⟩
theorem run_ckey {key : Value} (hk : P.underlying kt = some d) (hd : (∃ i n, d = .int i ∧ key = .int i n) ∨ (∃ s, d = .string ∧ key = .string s)) (x : Bool) : (Instr.checkKey x 10000 kt key).run P w = .ok () w := by
  show (Instr.checkKey x (9999 + 1) kt key).run P w = _
  unfold Instr.checkKey
  rcases hd with ⟨i, n, rfl, rfl⟩ | ⟨s, rfl, rfl⟩ <;> simp [run_underlying hk, Result.andThen]
theorem run_fkey {key : Value} {es : List MapEntry} {q : Option (Nat × Value)} (hk : P.underlying kt = some d) (hf : Instr.findNow d key es 0 = some q) : (Instr.findKey kt key es).run P w = .ok q w := by
  unfold Instr.findKey
  simp [run_underlying hk, Result.andThen, hf]
theorem MapLit.run_look (h : MapLit w b T) {key z : Value} {q : Option Value} (ht : P.underlying t = some (.map kt e)) (hk : P.underlying kt = some d) (hd : (∃ i n, d = .int i ∧ key = .int i n) ∨ (∃ s, d = .string ∧ key = .string s))
    (hz : (zeroValue e).run P w = .ok z w) (hq : litAt d key T = some q) : (Instr.lookup t (.map (some b)) key true).run P w = .ok (.tuple #[q.getD z, .bool q.isSome]) w := by
  obtain ⟨es, c, h1, rfl⟩ := h
  obtain ⟨q', hf, rfl⟩ := litAt_find es.toList 0 q hq
  unfold Instr.lookup
  cases q' <;> simp [run_underlying ht, MapKept.run_getObj_map h1, Result.andThen, run_ckey (w := w) hk hd, run_fkey (w := w) hk hf, hz]
theorem MapLit.run_put (h : MapLit w b T) {key v : Value} (ht : P.underlying t = some (.map kt e)) (hk : P.underlying kt = some d) (hd : (∃ i n, d = .int i ∧ key = .int i n) ∨ (∃ s, d = .string ∧ key = .string s))
    (hq : litAt d key T = some none) : ∃ w', (Instr.mapUpdate t (.map (some b)) key v).run P w = .ok () w' ∧ MapLit w' b (T ++ [(key, v)]) ∧ w'.heap.size = w.heap.size ∧ Tur (· = b) w w' := by
  obtain ⟨es, c, h1, rfl⟩ := h
  obtain ⟨q', hf, hq'⟩ := litAt_find es.toList 0 none hq
  obtain rfl : q' = none := by cases q' <;> simp_all
  refine ⟨setBlock w b (.map (es.push ⟨key, v, c⟩) (c + 1)), ?_, ⟨_, _, heap_setBlock_same h1 _, by simp⟩, by simp [setBlock], ⟨rfl, rfl, rfl, by simp [setBlock], fun k _ hk => heap_setBlock_other h1 _ hk⟩⟩
  have hs : ∀ o, (setObj b o).run P w = .ok () (setBlock w b o) := fun o => by simp [setObj, Sem.run, h1, setBlock]
  unfold Instr.mapUpdate
  simp [run_underlying ht, MapKept.run_getObj_map h1, Result.andThen, run_ckey (w := w) hk hd, run_fkey (w := w) hk hf, hs]
variable {ops : Array Oper} {rest : List Oper} {o : Oper} {a : Act} {Q : Exit → Act → World → Prop}
theorem wp_lit_look (hg : o.guard = none) (m x : Operand) (t kt e : TypeId) (hop : o.op = Op.lookup t m x true) (d : TypeDesc) (ht : P.underlying t = some (.map kt e)) (hk : P.underlying kt = some d) (key z : Value) (hd : (∃ i n, d = .int i ∧ key = .int i n) ∨ (∃ s, d = .string ∧ key = .string s))
    (hz : (zeroValue e).run P w = .ok z w) (hm : a.eval m = .map (some b)) (hx : a.eval x = key) (h : MapLit w b T) (q : Option Value) (hq : litAt d key T = some q)
    (hK : wpList P ops Q rest (a.put o.dst (.tuple #[q.getD z, .bool q.isSome])) w) : wpList P ops Q (o :: rest) a w := by
  refine wpList_plain hg fun K' hK' => ?_
  unfold Oper.wp
  simp [execOp, hop, hm, hx, h.run_look ht hk hd hz hq, Result.andThen]
  exact hK' _ _ hK
theorem wp_lit_put (hg : o.guard = none) (m x v : Operand) (t kt e : TypeId) (hop : o.op = Op.insert t m x v) (d : TypeDesc) (ht : P.underlying t = some (.map kt e)) (hk : P.underlying kt = some d) (key : Value) (hd : (∃ i n, d = .int i ∧ key = .int i n) ∨ (∃ s, d = .string ∧ key = .string s))
    (hm : a.eval m = .map (some b)) (hx : a.eval x = key) (h : MapLit w b T) (hq : litAt d key T = some none)
    (hK : ∀ w', MapLit w' b (T ++ [(key, a.eval v)]) → w'.heap.size = w.heap.size → Tur (· = b) w w' → wpList P ops Q rest (a.put o.dst undef) w') : wpList P ops Q (o :: rest) a w := by
  refine wpList_plain hg fun K' hK' => ?_
  obtain ⟨w', h1, h2, h3, h4⟩ := h.run_put (v := a.eval v) ht hk hd hq
  unfold Oper.wp
  simp [execOp, hop, hm, hx, h1, Result.andThen]
  exact hK' _ _ (hK w' h2 h3 h4)
/-- No key of the list stands ahead of itself. -/
def freshB (d : TypeDesc) (L : List (Value × Value)) : Bool := (List.range L.length).all fun k => match L[k]? with
  | some (key, _) => (match litAt d key (L.take k) with | some none => true | _ => false)
  | none => false
theorem fresh_at {d : TypeDesc} {L : List (Value × Value)} (h : freshB d L = true) {k : Nat} {key v : Value} (hk : L[k]? = some (key, v)) : litAt d key (L.take k) = some none := by
  have hlt := (List.getElem?_eq_some_iff.1 hk).1
  have h1 := List.all_eq_true.1 h k (List.mem_range.2 hlt)
  simp only [hk] at h1
  split at h1 <;> simp_all
theorem take_snoc' {α : Type} {L : List α} {k : Nat} {x : α} (hk : L[k]? = some x) : L.take (k + 1) = L.take k ++ [x] := by
  rw [List.take_add_one, hk]; rfl
theorem wp_lit_put_at (hg : o.guard = none) (m x v : Operand) (t kt e : TypeId) (hop : o.op = Op.insert t m x v) (d : TypeDesc) (ht : P.underlying t = some (.map kt e)) (hk : P.underlying kt = some d) (L : List (Value × Value)) (hD : freshB d L = true) (k : Nat) (h : MapLit w b (L.take k)) (key : Value) (hd : (∃ i n, d = .int i ∧ key = .int i n) ∨ (∃ s, d = .string ∧ key = .string s))
    (hm : a.eval m = .map (some b)) (hx : a.eval x = key) (hL : L[k]? = some (key, a.eval v))
    (hK : ∀ w', MapLit w' b (L.take (k + 1)) → w'.heap.size = w.heap.size → Tur (· = b) w w' → wpList P ops Q rest (a.put o.dst undef) w') : wpList P ops Q (o :: rest) a w :=
  wp_lit_put hg m x v t kt e hop d ht hk key hd hm hx h (fresh_at hD hL) (fun w' h1 h2 h3 => hK w' (by rw [take_snoc' hL]; exact h1) h2 h3)
theorem litAt_ints {α : Type} (i : IntKind) (n : Int) (f : α → Int) (v : α → Value) : ∀ M : List α, litAt (.int i) (.int i n) (M.map fun r => (.int i (f r), v r)) = some ((M.find? fun r => n == f r).map v)
  | [] => rfl
  | r :: M => by
    have hs : Instr.sameNow (.int i) (.int i n) (.int i (f r)) = some (n == f r) := by simp [Instr.sameNow]
    simp only [List.map_cons, litAt, hs, List.find?_cons]
    cases n == f r
    · exact litAt_ints i n f v M
    · rfl
theorem litAt_strs {α : Type} (s : ByteArray) (f : α → ByteArray) (v : α → Value) : ∀ M : List α, litAt .string (.string s) (M.map fun r => (.string (f r), v r)) = some ((M.find? fun r => s == f r).map v)
  | [] => rfl
  | r :: M => by
    have hs : Instr.sameNow .string (.string s) (.string (f r)) = some (s == f r) := by simp [Instr.sameNow]
    simp only [List.map_cons, litAt, hs, List.find?_cons]
    cases s == f r
    · exact litAt_strs s f v M
    · rfl
end
end Go.Proofs.YtankpckkiikmaaaDoor
namespace Go.Proofs.YtankpckkiikmaaaDoor
open Go.RowKit

namespace Cod
structure PV where
  regs : Int
  A : Option Addr
  n : Nat
  c : Nat
  loops : Int
  A' : Option Addr
  n' : Nat
  c' : Nat
  arrays : List Bool
structure CV where
  A0 : Option Addr
  n0 : Nat
  c0 : Nat
  A1 : Option Addr
  n1 : Nat
  c1 : Nat
  A2 : Option Addr
  n2 : Nat
  c2 : Nat
  A3 : Option Addr
  n3 : Nat
  c3 : Nat
  A4 : Option Addr
  n4 : Nat
  c4 : Nat
  A5 : Option Addr
  n5 : Nat
  c5 : Nat
  A6 : Option Addr
  n6 : Nat
  c6 : Nat
  globals : List Bool
  parts : List PV
  fns : List Int
structure IV where
  op : Int
  a : Int
  b : Int
  c : Int
  s : ByteArray
  A : Option Addr
  n : Nat
  cap : Nat
  args : List Int
def at? {α : Type} (l : List α) (n : Int) : Option α := if 0 ≤ n then l[n.toNat]? else none
def inB (n : Int) (many : Int) : Bool := decide (0 ≤ n) && decide (n < many)
def regB (p : PV) (n : Int) : Bool := inB n p.regs
def optB (p : PV) (n : Int) : Bool := n == -1 || regB p n
def globB (C : CV) (n : Int) : Bool := inB n C.n1 && (at? C.globals n == some false)
def arrB (C : CV) (p : PV) (n : Int) : Bool := if 0 ≤ n then at? C.globals n == some true else at? p.arrays (-1 - n) == some true
def mayB (C : CV) (p : PV) (k : Int) (n : Int) : Bool :=
  bif k == 114 then regB p n else bif k == 111 then optB p n else bif k == 103 then globB C n else bif k == 120 then arrB C p n
  else bif k == 106 then inB n p.n' else bif k == 108 then inB n p.loops else bif k == 107 then inB n C.n0 else n == 0
end Cod
open Cod
/-- A row of truths that came in. -/
def Bools (w : World) (B : Nat) (A : Option Addr) (n : Nat) (xs : List Bool) : Prop :=
  xs.length = n ∧ n ≤ maxLen ∧ (0 < n → ∃ b o, A = some ⟨b, o, none⟩ ∧ b < B ∧ ∀ i, (hi : i < xs.length) → w.cell? ⟨b, o + i, none⟩ = some (.bool xs[i]))
theorem Bools.below {w w' : World} {B : Nat} {A : Option Addr} {n : Nat} {xs : List Bool} (h : Bools w B A n xs) (hb : Below B w w') : Bools w' B A n xs :=
  ⟨h.1, h.2.1, fun hn => by
    obtain ⟨b, o, hA, hB, hc⟩ := h.2.2 hn
    exact ⟨b, o, hA, hB, fun i hi => (hb.cell (p := ⟨b, o + i, none⟩) hB).trans (hc i hi)⟩⟩
theorem Bools.at {w : World} {B : Nat} {A : Option Addr} {n : Nat} {xs : List Bool} (h : Bools w B A n xs) {k : Nat} (hk : k < n) : ∃ b o, A = some ⟨b, o, none⟩ ∧ b < B ∧ ∃ x, xs[k]? = some x ∧ w.cell? ⟨b, o + k, none⟩ = some (.bool x) := by
  obtain ⟨b, o, hA, hB, hc⟩ := h.2.2 (by omega)
  have hk' : k < xs.length := by rw [h.1]; exact hk
  exact ⟨b, o, hA, hB, xs[k], List.getElem?_eq_getElem hk', hc k hk'⟩
theorem i64_bd {n : Int} (h : (Lit.int .i64 n).wf = true) : -9223372036854775808 ≤ n ∧ n ≤ 9223372036854775807 := by
  simp [Lit.wf, IntKind.min, IntKind.max, IntKind.bits, IntKind.signed] at h
  omega

theorem x_in (many n : Int) (b : Nat) (w : World) (hc : w.cell? ⟨b, 0, none⟩ = some (.int .i64 n)) : Calls Tryd.prog 37 #[.int .i64 many, .pointer (some ⟨b, 0, none⟩)] w fun e w' => e = .returned (.bool (inB n many)) ∧ w = w' := by
  go_enter Tryd.func37, Tryd.ntmps37
  go_wp2
  all_goals (go_ret; exact ⟨ret_bool (by rw [Bool.eq_iff_iff]; simp [inB, *]; try omega), rfl⟩)
theorem x_array (C : CV) (p : PV) (n : Int) (w : World) (B : Nat) (hC : Bools w B C.A1 C.n1 C.globals) (hp : Bools w B p.A p.n p.arrays) (hB : B ≤ w.heap.size) (hn : (Lit.int .i64 n).wf = true) :
    Calls Tryd.prog 38 #[.agg #[.slice C.A0 C.n0 C.c0, .slice C.A1 C.n1 C.c1, .slice C.A2 C.n2 C.c2, .slice C.A3 C.n3 C.c3, .slice C.A4 C.n4 C.c4, .slice C.A5 C.n5 C.c5, .slice C.A6 C.n6 C.c6, .int .i64 p.regs, .slice p.A p.n p.c, .int .i64 p.loops, .slice p.A' p.n' p.c'], .int .i64 n] w fun e w' => e = .returned (.bool (arrB C p n)) ∧ Below w.heap.size w w' := by
  obtain ⟨n1, n2⟩ := i64_bd hn
  have hl1 := hC.2.1
  have hl2 := hp.2.1
  have e1 := hC.1
  have e2 := hp.1
  unfold maxLen at hl1 hl2
  by_cases h0 : 0 ≤ n
  · obtain ⟨k, rfl⟩ : ∃ k : Nat, n = k := ⟨n.toNat, by omega⟩
    by_cases hk : k < C.n1
    · obtain ⟨b, o, hA, hb, x, hx, hc⟩ := hC.at hk
      have HR : Hid (arrB C p k = x) := by
        unfold Hid arrB at?
        rw [if_pos h0, if_pos h0, Int.toNat_natCast, hx]
        cases x <;> rfl
      clear hx e1 e2 hC hp
      have hbs : b < w.heap.size := by omega
      rw [hA]
      go_enter Tryd.func38, Tryd.ntmps38
      go_wp2
      go_ret
      exact ⟨ret_bool HR.out.symm, (Below.refl _ _).alloc (Nat.le_refl _) _⟩
    · have HR : Hid (arrB C p k = false) := by
        unfold Hid arrB at?
        rw [if_pos h0, if_pos h0, Int.toNat_natCast, List.getElem?_eq_none (by omega)]
        rfl
      clear e1 e2 hC hp
      go_enter Tryd.func38, Tryd.ntmps38
      go_wp2
      go_ret
      exact ⟨ret_bool HR.out.symm, (Below.refl _ _).alloc (Nat.le_refl _) _⟩
  · obtain ⟨k, e3⟩ : ∃ k : Nat, -1 - n = (k : Int) := ⟨(-1 - n).toNat, by omega⟩
    have hn0 : n < 0 := by omega
    by_cases hk : k < p.n
    · obtain ⟨b, o, hA, hb, x, hx, hc⟩ := hp.at hk
      have HR : Hid (arrB C p n = x) := by
        unfold Hid arrB at?
        rw [if_neg h0, e3, if_pos (by omega), Int.toNat_natCast, hx]
        cases x <;> rfl
      clear hx e1 e2 hC hp h0
      have hbs : b < w.heap.size := by omega
      rw [hA]
      go_enter Tryd.func38, Tryd.ntmps38
      go_wp2
      go_ret
      exact ⟨ret_bool HR.out.symm, (Below.refl _ _).alloc (Nat.le_refl _) _⟩
    · have HR : Hid (arrB C p n = false) := by
        unfold Hid arrB at?
        rw [if_neg h0, e3, if_pos (by omega), Int.toNat_natCast, List.getElem?_eq_none (by omega)]
        rfl
      clear e1 e2 hC hp h0
      go_enter Tryd.func38, Tryd.ntmps38
      go_wp2
      go_ret
      exact ⟨ret_bool HR.out.symm, (Below.refl _ _).alloc (Nat.le_refl _) _⟩
set_option maxHeartbeats 2000000 in
theorem x_may (C : CV) (p : PV) (k n : Int) (w : World) (B : Nat) (hC : Bools w B C.A1 C.n1 C.globals) (hp : Bools w B p.A p.n p.arrays) (hB : B ≤ w.heap.size) (hn : (Lit.int .i64 n).wf = true) :
    Calls Tryd.prog 18 #[.agg #[.slice C.A0 C.n0 C.c0, .slice C.A1 C.n1 C.c1, .slice C.A2 C.n2 C.c2, .slice C.A3 C.n3 C.c3, .slice C.A4 C.n4 C.c4, .slice C.A5 C.n5 C.c5, .slice C.A6 C.n6 C.c6, .int .i64 p.regs, .slice p.A p.n p.c, .int .i64 p.loops, .slice p.A' p.n' p.c'], .int .u8 k, .int .i64 n] w fun e w' => e = .returned (.bool (mayB C p k n)) ∧ Below w.heap.size w w' := by
  have HC := Lib.hid hC
  have HP := Lib.hid hp
  have HB : Hid (∀ b : Bool, (∃ x, at? C.globals n = some x ∧ x = b) → globB C n = (inB n C.n1 && !b)) := by
    intro b ⟨x, h, hx⟩
    subst hx
    unfold globB
    rw [h]
    cases x <;> rfl
  have HG : Hid (inB n C.n1 = true → ∃ (b o j : Nat) (x : Bool), C.A1 = some ⟨b, o, none⟩ ∧ b < w.heap.size ∧ n = (j : Int) ∧ j < C.n1 ∧ w.cell? ⟨b, o + j, none⟩ = some (.bool x) ∧ globB C n = !x) := by
    intro h
    simp only [inB, Bool.and_eq_true, decide_eq_true_eq] at h
    obtain ⟨j, rfl⟩ : ∃ j : Nat, n = j := ⟨n.toNat, by omega⟩
    obtain ⟨b, o, hA, hb, x, hx, hc⟩ := hC.at (k := j) (by omega)
    refine ⟨b, o, j, x, hA, by omega, rfl, by omega, hc, ?_⟩
    unfold globB at?
    rw [if_pos h.1, Int.toNat_natCast, hx]
    have : inB (j : Int) C.n1 = true := by simp [inB]; omega
    rw [this]
    cases x <;> rfl
  clear hC hp HB
  by_cases k1 : k = 103
  · subst k1
    cases hg : inB n C.n1
    · have HR : Hid (mayB C p 103 n = false) := by unfold Hid mayB globB; rw [hg]; rfl
      have HGG := Lib.hid hg
      clear hg HG
      go_enter Tryd.func18, Tryd.ntmps18
      go_wp2_with (((with_reducible refine (x_in _ n _ _ (by simp)).mono ?_); rintro e w2 ⟨rfl, rfl⟩; rw [HGG.out]))
      go_ret
      exact ⟨ret_bool HR.out.symm, (((Below.refl _ _).alloc (Nat.le_refl _) _).alloc (by simp) _)⟩
    · obtain ⟨b, o, j, x, hA, hb, rfl, hj, hc, hr⟩ := HG.out hg
      have HR : Hid (mayB C p 103 j = !x) := by unfold Hid mayB; exact hr
      have HGG := Lib.hid hg
      clear hg HG hr
      rw [hA]
      go_enter Tryd.func18, Tryd.ntmps18
      go_wp2_with (((with_reducible refine (x_in _ (j : Int) _ _ (by simp)).mono ?_); rintro e w2 ⟨rfl, rfl⟩; rw [HGG.out]))
      go_ret
      exact ⟨ret_bool HR.out.symm, (((Below.refl _ _).alloc (Nat.le_refl _) _).alloc (by simp) _)⟩
  · by_cases k2 : k = 120
    · subst k2
      have HR : Hid (mayB C p 120 n = arrB C p n) := rfl
      clear k1
      go_enter Tryd.func18, Tryd.ntmps18
      have hBb : Below B w w := Below.refl _ _
      go_wp2_with (((with_reducible refine (x_array C p n _ B (HC.out.below ((hBb.alloc hB _).alloc (by simp; omega) _)) (HP.out.below ((hBb.alloc hB _).alloc (by simp; omega) _)) (by simp; omega) hn).mono ?_); rintro e w2 ⟨rfl, hb⟩))
      go_ret
      exact ⟨ret_bool HR.out.symm, (((Below.refl _ _).alloc (Nat.le_refl _) _).alloc (by simp) _).trans (hb.mono (by simp; omega))⟩
    · go_enter Tryd.func18, Tryd.ntmps18
      go_wp2_with (((with_reducible refine (x_in _ n _ _ (by simp)).mono ?_); rintro e w2 ⟨rfl, rfl⟩))
      all_goals (go_ret; exact ⟨ret_bool (by unfold mayB optB regB; simp only [*, cond_true, cond_false] <;> first | rfl | (cases inB _ _ <;> rfl) | simp), (((Below.refl _ _).alloc (Nat.le_refl _) _).alloc (by simp) _)⟩)
end Go.Proofs.YtankpckkiikmaaaDoor
namespace Go.Proofs.YtankpckkiikmaaaDoor
open Go
section
variable {P : Program} {ops : Array Oper} {md : Region.Mode} {w : World}
/-- Each operation behind the n-th waits for one from the n-th on. -/
def hangB (md : Region.Mode) (ops : Array Oper) (n : Nat) : Bool :=
  (List.range ops.size).all fun t => decide (t ≤ n) || (List.range t).any fun j => decide (n ≤ j) && Region.waitsFor md ops t j
def lexTo : Nat → Nat → Array Bool → Array Bool
  | 0, _, l => l
  | f + 1, k, l => lexTo f (k + 1) (l.setIfInBounds k true)
def lexFree (md : Region.Mode) (ops : Array Oper) : Nat → Nat → Array Bool → Bool
  | 0, _, _ => true
  | f + 1, k, listed => (Region.ready md ops listed).contains k && Region.free md ops listed k && lexFree md ops f (k + 1) (listed.setIfInBounds k true)
theorem hang_waits {n : Nat} {listed : Array Bool} (hs : Region.sinkB md ops n = true) (hc : hangB md ops n = true) (hn : n < ops.size) (inv : HeadInv md ops n listed) :
    ∀ (d i : Nat), n - i = d → i < n → listed.getD i true = false → ∀ t, n ≤ t → t ∉ Region.ready md ops listed := by
  intro d
  induction d using Nat.strongRecOn with
  | _ d ih =>
    intro i hd hi hun t ht hr
    obtain ⟨_, ot, hot, hall⟩ := mem_ready.1 hr
    have htlt : t < ops.size := (Array.getElem?_eq_some_iff.1 hot).1
    by_cases htn : t = n
    · subst htn
      have h1 := List.all_eq_true.1 hs i (List.mem_range.2 hi)
      obtain ⟨j, hj, hj2⟩ := List.any_eq_true.1 h1
      simp only [Bool.and_eq_true, decide_eq_true_eq] at hj2
      obtain ⟨oj, hoj, e, he, hb, hon⟩ := Region.waitsFor_spec hj2.2
      have hjle : j ≤ t := by have := List.mem_range.1 hj; omega
      by_cases hjt : j = t
      · subst hjt
        have : oj = ot := Option.some.inj (hoj.symm.trans hot)
        subst this
        have h2 := hall e he hb
        rw [hon, getD_both hun] at h2
        cases h2
      · cases hl : listed.getD j false with
        | true =>
          have h2 := inv.closed j oj hoj hl e he hb
          rw [hon, getD_both hun] at h2
          cases h2
        | false =>
          have hjs : j < listed.size := by rw [inv.size]; omega
          exact ih (t - j) (by omega) j rfl (by omega) (getD_in hjs hl) t (Nat.le_refl _) hr
    · have h1 := List.all_eq_true.1 hc t (List.mem_range.2 htlt)
      simp only [Bool.or_eq_true, decide_eq_true_eq] at h1
      rcases h1 with h1 | h1
      · omega
      · obtain ⟨j, hj, hj2⟩ := List.any_eq_true.1 h1
        simp only [Bool.and_eq_true, decide_eq_true_eq] at hj2
        obtain ⟨o', ho', e, he, hb, hon⟩ := Region.waitsFor_spec hj2.2
        have hjt := List.mem_range.1 hj
        have : o' = ot := Option.some.inj (ho'.symm.trans hot)
        subst this
        have h2 := hall e he hb
        rw [hon, getD_both (inv.tail j hj2.1 (by omega))] at h2
        cases h2
theorem wpAnyL_first' {n i : Nat} {oi : Oper} {v : Value} {L : Array Bool → Act → Prop} (hi : ops[i]? = some oi) (hsel : ∀ (j : Nat) (o : Oper) cs b, ops[j]? = some o → o.op ≠ .select cs b)
    (hs : Region.sinkB md ops n = true) (hc : hangB md ops n = true) (hn : n < ops.size) (hin : i < n)
    (hdone : ∀ listed a, L listed a → ∀ j ∈ Region.ready md ops listed, n ≤ j) :
    ∀ (f : Nat) (listed : Array Bool) (a : Act), HeadInv md ops n listed →
      (∀ j oj, ops[j]? = some oj → j ≠ i → listed.getD j true = false → (∀ e ∈ oj.after, Region.binds md e = true → e.on ≠ i) → oi.apart ops oj = true) →
      i ∈ Region.ready md ops listed → YieldsAt P ops w oi v a →
      wpAnyL P md ops w n L f (listed.setIfInBounds i true) (a.put oi.dst v) → wpAnyL P md ops w n L (f + 1) listed a := by
  intro f
  induction f with
  | zero =>
    intro listed a inv _ hr hy H
    have hun := (mem_ready.1 hr).1
    refine ⟨fun h => (by rw [h] at hr; cases hr), fun j hj => ?_⟩
    have hjn : j < n := by
      rcases Nat.lt_or_ge j n with h | h
      · exact h
      · exact absurd hj (hang_waits hs hc hn inv _ i rfl hin hun j h)
    refine ⟨hjn, ?_⟩
    by_cases hji : j = i
    · subst hji; exact hy.stOp hi H
    · have := hdone _ _ H j (ready_mono hj hji)
      omega
  | succ f ih =>
    intro listed a inv hfree hr hy H
    have hun := (mem_ready.1 hr).1
    refine ⟨fun h => (by rw [h] at hr; cases hr), fun j hj => ?_⟩
    have hjn : j < n := by
      rcases Nat.lt_or_ge j n with h | h
      · exact h
      · exact absurd hj (hang_waits hs hc hn inv _ i rfl hin hun j h)
    refine ⟨hjn, ?_⟩
    by_cases hji : j = i
    · subst hji; exact hy.stOp hi H
    · have h1 := (H.2 j (ready_mono hj hji)).2
      obtain ⟨hjun, oj, hoj, hall⟩ := mem_ready.1 hj
      have hnot : ∀ e ∈ oj.after, Region.binds md e = true → e.on ≠ i := fun e he hb heq => by
        have h1 := hall e he hb
        rw [heq, getD_both hun] at h1
        cases h1
      have h2 := stOp_put hoj (hfree j oj hoj hji hjun hnot) (fun cs b => hsel i oi cs b hi) (fun cs b => hsel j oj cs b hoj) hy h1
      have hfree' : ∀ k ok, ops[k]? = some ok → k ≠ i → (listed.setIfInBounds j true).getD k true = false →
          (∀ e ∈ ok.after, Region.binds md e = true → e.on ≠ i) → oi.apart ops ok = true := fun k ok hk hki hun hno => by
        refine hfree k ok hk hki ?_ hno
        by_cases hjk : j = k
        · subst hjk; exact hjun
        · rw [getD_set_ne true hjk] at hun; exact hun
      refine stOp_mono (fun a' h3 => ih (listed.setIfInBounds j true) a' (inv.set hj hjn) hfree' (ready_mono hr (Ne.symm hji)) h3.1 ?_) h2
      rw [Array.setIfInBounds_comm _ _ hji]
      exact h3.2
theorem wpAnyL_lex' {n : Nat} {Lq : Act → Prop} {LL : Array Bool} (hsel : Region.noSelect ops = true) (hs : Region.sinkB md ops n = true) (hc : hangB md ops n = true) (hn : n < ops.size)
    (hend : ∀ j ∈ Region.ready md ops LL, n ≤ j) :
    ∀ (l : List Oper) (k : Nat) (listed : Array Bool) (a : Act), (∀ j, j < l.length → l[j]? = ops[k + j]?) → k + l.length = n → HeadInv md ops n listed → lexTo l.length k listed = LL →
    lexFree md ops l.length k listed = true → wpStill P ops w Lq l a →
    wpAnyL P md ops w n (fun listed' a' => listed' = LL ∧ Lq a') l.length listed a
  | [], k, listed, a, _, hk, _, hLL, hB, h => ⟨hLL, h⟩
  | o :: l, k, listed, a, hl, hk, inv, hLL, hB, h => by
    have h0 : ops[k]? = some o := by simpa using (hl 0 (by simp)).symm
    simp only [List.length_cons, lexFree, Bool.and_eq_true] at hB
    obtain ⟨⟨hr, hf⟩, hB'⟩ := hB
    have hkn : k < n := by simp only [List.length_cons] at hk; omega
    have hr' : k ∈ Region.ready md ops listed := by simpa using hr
    have hst : stOp P ops w k (wpStill P ops w Lq l) a := by unfold stOp; simp only [h0]; exact h
    obtain ⟨v, hy, hK⟩ := yieldsAt_of_stOp h0 hst
    exact wpAnyL_first' h0 (Region.noSelect_spec hsel) hs hc hn hkn (fun listed' a' hL => by rw [hL.1]; exact hend) l.length listed a inv (Region.free_spec h0 hf) hr' hy
      (wpAnyL_lex' hsel hs hc hn hend l (k + 1) _ _ (fun j hj => by have := hl (j + 1) (by simp; omega); simpa [Nat.add_assoc, Nat.add_comm 1 j] using this) (by simp only [List.length_cons] at hk; omega) (inv.set hr' hkn) hLL hB' hK)

/-- The first k of n. -/
def firstK (n k : Nat) : Array Bool := lexTo k 0 (Array.replicate n false)
theorem lexTo_size : ∀ (f k : Nat) (l : Array Bool), (lexTo f k l).size = l.size
  | 0, _, _ => rfl
  | f + 1, k, l => by simp [lexTo, lexTo_size f]
theorem lexTo_get : ∀ (f k : Nat) (l : Array Bool) (j : Nat), (lexTo f k l)[j]? = if k ≤ j ∧ j < k + f ∧ j < l.size then some true else l[j]?
  | 0, k, l, j => by rw [if_neg (by omega)]; rfl
  | f + 1, k, l, j => by
    rw [lexTo, lexTo_get f (k + 1), Array.getElem?_setIfInBounds, Array.size_setIfInBounds]
    by_cases h1 : k + 1 ≤ j ∧ j < k + 1 + f ∧ j < l.size
    · rw [if_pos h1, if_pos (by omega)]
    · rw [if_neg h1]
      by_cases h2 : k = j
      · subst h2
        by_cases h3 : k < l.size
        · rw [if_pos rfl, if_pos h3, if_pos (by omega)]
        · rw [if_pos rfl, if_neg h3, if_neg (by omega), Array.getElem?_eq_none (by omega)]
      · rw [if_neg h2, if_neg (by omega)]
theorem firstK_get (n k j : Nat) : (firstK n k)[j]? = if j < n then some (decide (j < k)) else none := by
  unfold firstK
  rw [lexTo_get, Array.size_replicate]
  by_cases h : j < n
  · by_cases h2 : j < k
    · rw [if_pos (by omega), if_pos h]; simp [h2]
    · rw [if_neg (by omega), if_pos h]; simp [h, h2]
  · rw [if_neg (by omega), if_neg h]; simp; omega
theorem firstK_more (n k m : Nat) : lexTo m k (firstK n k) = firstK n (k + m) := by
  apply Array.ext_getElem?
  intro j
  rw [lexTo_get, firstK_get, firstK_get]
  have : (firstK n k).size = n := by unfold firstK; rw [lexTo_size]; simp
  rw [this]
  by_cases h : j < n
  · rw [if_pos h, if_pos h]
    by_cases h2 : k ≤ j ∧ j < k + m ∧ j < n
    · rw [if_pos h2]; simp; omega
    · rw [if_neg h2]; congr 1; simp; omega
  · rw [if_neg (by omega), if_neg h, if_neg h]
theorem firstK_set (n k : Nat) : (firstK n k).setIfInBounds k true = firstK n (k + 1) := firstK_more n k 1
/-- May the first k be done with? -/
def closedB (md : Region.Mode) (ops : Array Oper) (k : Nat) : Bool :=
  (List.range k).all fun j => match ops[j]? with
    | none => true
    | some o => o.after.all fun e => !Region.binds md e || (decide (e.on < k) && decide (e.on < ops.size))
theorem inv_of {k n : Nat} (hk : k ≤ n) (h : closedB md ops k = true) : HeadInv md ops n (firstK ops.size k) := by
  refine ⟨by unfold firstK; rw [lexTo_size]; simp, fun j oj hj hl e he hb => ?_, fun t ht hts => ?_⟩
  · have hjs := (Array.getElem?_eq_some_iff.1 hj).1
    have hjk : j < k := by
      rw [Array.getD_eq_getD_getElem?, firstK_get, if_pos hjs] at hl
      simpa using hl
    have h1 := List.all_eq_true.1 h j (List.mem_range.2 hjk)
    simp only [hj] at h1
    have h2 := Array.all_eq_true'.1 h1 e he
    simp only [hb, Bool.not_true, Bool.false_or, Bool.and_eq_true, decide_eq_true_eq] at h2
    rw [Array.getD_eq_getD_getElem?, firstK_get, if_pos h2.2]
    simp [h2.1]
  · rw [Array.getD_eq_getD_getElem?, firstK_get, if_pos hts]
    simp; omega

theorem wpStill_mono {L M : Act → Prop} (hLM : ∀ a, L a → M a) : ∀ {l : List Oper} {a : Act}, wpStill P ops w L l a → wpStill P ops w M l a
  | [], _, h => hLM _ h
  | o :: l, a, h => by
    unfold wpStill at *
    split at h
    · rename_i hw
      rw [if_pos hw]
      exact Oper.still_mono (fun a h => wpStill_mono hLM h) h
    · rename_i hw
      rw [if_neg hw]
      exact wpStill_mono hLM h
/-- Stretches: so many that only read, then one alone; at the end one by one. -/
def wpSegs (P : Program) (ops : Array Oper) (Q : Exit → Act → World → Prop) : List Nat → List Oper → Act → World → Prop
  | [], l, a, w => wpList P ops Q l a w
  | n :: r, l, a, w => wpStill P ops w (fun a' => wpList P ops (Exit.then (wpSegs P ops Q r (l.drop (n + 1))) Q) ((l.drop n).take 1) a' w) (l.take n) a
def oneByOne (md : Region.Mode) (ops : Array Oper) : Nat → Nat → Bool
  | 0, k => (Region.ready md ops (firstK ops.size k)).isEmpty
  | f + 1, k => decide (Region.ready md ops (firstK ops.size k) = [k]) && oneByOne md ops f (k + 1)
def segsB (md : Region.Mode) (ops : Array Oper) : List Nat → Nat → Bool
  | [], k => oneByOne md ops (ops.size - k) k
  | n :: r, k => decide (k + n < ops.size) && closedB md ops k && Region.sinkB md ops (k + n) && hangB md ops (k + n) && lexFree md ops n k (firstK ops.size k)
      && decide (Region.ready md ops (firstK ops.size (k + n)) = [k + n]) && segsB md ops r (k + n + 1)
theorem wp_then {o : Oper} {a : Act} {K M : Act → World → Prop} {Q : Exit → Act → World → Prop} (h : o.wp P a w K (Exit.then M Q)) : o.wp P a w K Q := by
  unfold Oper.wp at *
  generalize (execOp a.eval o).run P w = r at *
  cases r with
  | ok n w' =>
    cases n <;> simp only [Oper.upon] at h ⊢
    case enter f args =>
      refine Calls.mono h fun e w'' he => ?_
      cases e <;> exact he
    all_goals exact h
  | halt x w' =>
    cases x <;> simp only [Oper.upon] at h ⊢
    all_goals exact h
theorem wpOp_of_list {i : Nat} {o : Oper} {a : Act} {M : Act → World → Prop} {Q : Exit → Act → World → Prop} (hi : ops[i]? = some o) (h : wpList P ops (Exit.then M Q) [o] a w) : wpOp P ops Q i M a w := by
  unfold wpOp
  simp only [hi]
  unfold wpList at h
  split at h
  · rename_i hw
    rw [if_pos hw]
    rcases h with h | ⟨h1, h2⟩
    · exact .inl (wp_then (Oper.wp_mono (fun a w h => h) h))
    · exact .inr ⟨h1, h2⟩
  · rename_i hw
    rw [if_neg hw]
    exact h
theorem any_solo {k f : Nat} {o : Oper} {a : Act} {Q : Exit → Act → World → Prop} (hi : ops[k]? = some o) (hr : Region.ready md ops (firstK ops.size k) = [k])
    (h : wpOp P ops Q k (wpAny P md ops Q f (firstK ops.size (k + 1))) a w) : wpAny P md ops Q (f + 1) (firstK ops.size k) a w := by
  refine ⟨fun h0 => (by rw [hr] at h0; cases h0), fun i hin => ?_⟩
  rw [hr] at hin
  simp only [List.mem_singleton] at hin
  subst hin
  rw [firstK_set]
  exact h
theorem any_ones {Q : Exit → Act → World → Prop} : ∀ (f k : Nat) (l : List Oper) (a : Act) (w : World), l.length = f → k + f = ops.size → (∀ j, j < f → l[j]? = ops[k + j]?) → oneByOne md ops f k = true → wpList P ops Q l a w → wpAny P md ops Q f (firstK ops.size k) a w
  | 0, k, l, a, w, hl, _, _, hB, h => by
    obtain rfl := List.length_eq_zero_iff.1 hl
    exact ⟨by simpa [oneByOne] using hB, h⟩
  | f + 1, k, [], a, w, hl, _, _, _, _ => by simp at hl
  | f + 1, k, o :: l, a, w, hl, hk, hg, hB, h => by
    simp only [oneByOne, Bool.and_eq_true, decide_eq_true_eq] at hB
    have hi : ops[k]? = some o := by simpa using (hg 0 (by omega)).symm
    refine any_solo hi hB.1 ?_
    have ih : ∀ a w, wpList P ops Q l a w → wpAny P md ops Q f (firstK ops.size (k + 1)) a w := fun a w h => any_ones f (k + 1) l a w (by simpa using hl) (by omega) (fun j hj => by
      have := hg (j + 1) (by omega)
      rw [show k + (j + 1) = k + 1 + j by omega] at this
      simpa using this) hB.2 h
    refine wpOp_mono ih ?_
    unfold wpOp
    simp only [hi]
    unfold wpList at h
    exact h
theorem any_segs {Q : Exit → Act → World → Prop} (hsel : Region.noSelect ops = true) : ∀ (segs : List Nat) (k : Nat) (l : List Oper) (a : Act) (w : World), k + l.length = ops.size → (∀ j, j < l.length → l[j]? = ops[k + j]?) → segsB md ops segs k = true →
    wpSegs P ops Q segs l a w → wpAny P md ops Q l.length (firstK ops.size k) a w
  | [], k, l, a, w, hk, hg, hB, h => any_ones l.length k l a w rfl hk hg (by rw [show l.length = ops.size - k by omega]; exact hB) h
  | n :: r, k, l, a, w, hk, hg, hB, h => by
    simp only [segsB, Bool.and_eq_true, decide_eq_true_eq] at hB
    obtain ⟨⟨⟨⟨⟨⟨hn, hcl⟩, hs⟩, hc⟩, hlex⟩, hend⟩, hrest⟩ := hB
    have hnl : n < l.length := by omega
    have htl : (l.take n).length = n := by simp; omega
    obtain ⟨o, ho⟩ : ∃ o, l[n]? = some o := ⟨_, List.getElem?_eq_getElem hnl⟩
    have ho' : ops[k + n]? = some o := by rw [← hg n hnl]; exact ho
    have hone : (l.drop n).take 1 = [o] := by
      rw [List.drop_eq_getElem_cons hnl, List.take_succ_cons, List.take_zero]
      congr 1
      rw [List.getElem?_eq_getElem hnl] at ho
      exact Option.some.inj ho
    have H := wpAnyL_lex' (P := P) (md := md) (w := w) (LL := firstK ops.size (k + n)) (Lq := fun a' => wpAny P md ops Q (l.length - n) (firstK ops.size (k + n)) a' w) hsel hs hc hn
      (fun j hj => by rw [hend] at hj; simp at hj; omega) (l.take n) k (firstK ops.size k) a (fun j hj => by
        have hj' : j < n := by rw [htl] at hj; exact hj
        rw [← hg j (by omega)]; simp [hj']) (by rw [htl]) (inv_of (by omega) hcl) (by rw [htl]; exact firstK_more _ _ _) (by rw [htl]; exact hlex) (by
        unfold wpSegs at h
        rw [hone] at h
        refine wpStill_mono (fun a' h' => ?_) h
        rw [show l.length - n = (l.length - n - 1) + 1 by omega]
        refine any_solo ho' hend (wpOp_mono (fun a'' w'' h'' => ?_) (wpOp_of_list ho' h'))
        have := any_segs hsel r (k + n + 1) (l.drop (n + 1)) a'' w'' (by simp; omega) (fun j hj => by
          rw [List.getElem?_drop, show k + n + 1 + j = k + (n + 1 + j) by omega]
          simp at hj
          exact hg _ (by omega)) hrest h''
        rw [show (l.drop (n + 1)).length = l.length - n - 1 by simp; omega] at this
        exact this)
    have := wpAny_of_head (Q' := Q) (g := l.length - n) (fun listed a' hL => by
      obtain ⟨rfl, h⟩ := hL
      exact h) _ _ _ H
    rw [htl, show n + (l.length - n) = l.length by omega] at this
    exact this
theorem seg_step {Q : Exit → Act → World → Prop} {n : Nat} {r : List Nat} {l : List Oper} {a : Act} (h : ∀ K : Act → World → Prop, (∀ a w, wpSegs P ops Q r (l.drop (n + 1)) a w → K a w) → wpStill P ops w (fun a' => wpList P ops (Exit.then K Q) ((l.drop n).take 1) a' w) (l.take n) a) : wpSegs P ops Q (n :: r) l a w :=
  h _ (fun _ _ h => h)
theorem seg_done {Q : Exit → Act → World → Prop} {l : List Oper} {a : Act} (h : wpList P ops Q l a w) : wpSegs P ops Q [] l a w := h
/-- THE LAW: a region that draws, in stretches. -/
theorem wp_region_segs {id : Nat} {Q : Exit → Act → World → Prop} {a : Act} {w : World} {l : List Oper} (segs : List Nat) (hm : P.follows .mixedOrders = true) (hB : (Region.noSelect l.toArray && segsB .any l.toArray segs 0) = true)
    (h : wpSegs P l.toArray Q segs l a w.drew) : (Code.region id l.toArray true).wp P Q a w := by
  simp only [Bool.and_eq_true] at hB
  refine wp_region_any hm ?_
  have := any_segs (P := P) (md := .any) (ops := l.toArray) (Q := Q) hB.1 segs 0 l a w.drew (by simp) (fun j hj => by simp) hB.2 h
  rw [show l.toArray.size = l.length by simp]
  exact (by simpa [firstK, lexTo] using this)
end
end Go.Proofs.YtankpckkiikmaaaDoor
