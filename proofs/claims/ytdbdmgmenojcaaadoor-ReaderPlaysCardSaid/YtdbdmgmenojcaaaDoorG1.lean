/- Plain lemmas that the walks of this seat use: endings, what lies below a block, rows of bytes. No program in sight. -/
import Derived.WalkKit
import Derived.WalkLawsBesides
import Derived.WalkSpells
import Derived.LoopTactic
import Derived.Outline
import Derived.Below
import Derived.Lib.Hide
import Derived.Lib.ConvBytes
import Derived.ChangeAgain
import Derived.Maps.AppendAt
import Derived.Laws.OwnMore
import Derived.Laws.IdiomStrings
import Derived.Maps.OwnSet
import Derived.Test.YtdbdmgmenojcaaaDoorProg
import Derived.Deep.QuietTactic
import Derived.BigQuiet
import Derived.Deep.RegionHeld3
import Derived.Laws.CopyOwn
set_option linter.unusedVariables false
set_option linter.unusedSimpArgs false
namespace Go.Proofs.YtdbdmgmenojcaaaDoor
open Go.RowKit

theorem ret_int {k : IntKind} {a b : Int} (h : a = b) : Ending.returned (.int k a) = .returned (.int k b) := by rw [h]
theorem ret_bool {a b : Bool} (h : a = b) : Ending.returned (.bool a) = .returned (.bool b) := by rw [h]
theorem ret_str {a b : ByteArray} (h : a = b) : Ending.returned (.string a) = .returned (.string b) := by rw [h]

theorem data_nil {t : ByteArray} (h : t.size = 0) : t.data.toList = [] := by
  have : t.data.toList.length = 0 := h
  exact List.length_eq_zero_iff.1 this
theorem data_ne {t : ByteArray} (h : t.size ≠ 0) : t.data.toList ≠ [] := by
  intro e; apply h
  have : t.data.toList.length = 0 := by rw [e]; rfl
  exact this
theorem bcell {W w1 : World} (hb : Below W.heap.size W w1) : (∀ b o, b < W.heap.size → w1.cell? ⟨b, o, none⟩ = W.cell? ⟨b, o, none⟩) ∧ (∀ b o, b < W.heap.size → w1.frozen? ⟨b, o, none⟩ = W.frozen? ⟨b, o, none⟩) :=
  ⟨fun b o h => hb.cell (p := ⟨b, o, none⟩) h, fun b o h => hb.frozen (p := ⟨b, o, none⟩) h⟩

theorem Gr.trans {w w1 w2 : World} (h : Below w.heap.size w w1) (k : Below w1.heap.size w1 w2) : Below w.heap.size w w2 := h.trans (k.mono h.size)
theorem shaped_below {P : Program} {w w' : World} (h : w.ShapedOpen P) (hb : Below w.heap.size w w') : w'.ShapedOpen P :=
  h.keptBut (hb.frame (fun _ => False)) (fun _ f => f.elim)

theorem heap_setCell_self {w : World} {a : Addr} {v : Value} {c : Array Value} {e : TypeId} {f : Nat × Nat} (hs : a.spot = none) (h : w.heap[a.block]? = some (.cells c e f)) :
    (w.setCell a v).heap[a.block]? = some (.cells (c.setIfInBounds a.off v) e f) := by
  simp only [World.setCell, Array.getElem?_modify, h, hs]; simp

/-- A row that a conversion of a string has made: its first cells are bytes; the mark lies behind its end. -/
def Bytes (w : World) (g : Nat) (l : List UInt8) : Prop :=
  ∃ cur : Array Value, ∃ e m, w.heap[g]? = some (.cells cur e (m, m + 1)) ∧ cur.size ≤ m ∧ l.length ≤ cur.size ∧ ∀ i (h : i < l.length), cur[i]? = some (.int .u8 (l[i].toNat : Int))
theorem Bytes.cell {w : World} {g : Nat} {l : List UInt8} (h : Bytes w g l) (i : Nat) (hi : i < l.length) : w.cell? ⟨g, i, none⟩ = some (.int .u8 (l[i].toNat : Int)) := by
  obtain ⟨cur, e, m, h1, h2, h3, h4⟩ := h
  simp [World.cell?, h1, h4 i hi]
theorem Bytes.free {w : World} {g : Nat} {l : List UInt8} (h : Bytes w g l) (i : Nat) (hi : i < l.length) : w.frozen? ⟨g, i, none⟩ = false := by
  obtain ⟨cur, e, m, h1, h2, h3, h4⟩ := h
  simp [World.frozen?, h1]; omega
theorem Bytes.set {w : World} {g : Nat} {l : List UInt8} (h : Bytes w g l) (i : Nat) (x : UInt8) : Bytes (w.setCell ⟨g, i, none⟩ (.int .u8 x.toNat)) g (l.set i x) := by
  obtain ⟨cur, e, m, h1, h2, h3, h4⟩ := h
  refine ⟨cur.setIfInBounds i (.int .u8 x.toNat), e, m, heap_setCell_self rfl h1, by simpa using h2, by simpa using h3, ?_⟩
  intro j hj
  simp only [List.length_set] at hj
  by_cases hij : i = j
  · subst hij; simp [Array.getElem?_setIfInBounds]; omega
  · rw [Array.getElem?_setIfInBounds_ne hij, h4 j hj]; simp [List.getElem_set, hij]
theorem Bytes.new (w : World) (e : TypeId) (s : ByteArray) : Bytes (Lib.bytesWorld w e s) w.heap.size s.data.toList := by
  refine ⟨_, _, _, Lib.bytesWorld_at_new w e s, Nat.le_refl _, ?_, ?_⟩
  · simp [Lib.bytesCells]
  · intro i hi
    have h := Lib.bytesWorld_cell w e s i (by simpa using hi)
    simp only [World.cell?, Lib.bytesWorld_at_new] at h
    simp only [List.getD_eq_getElem?_getD, List.getElem?_eq_getElem hi, Option.getD_some] at h
    simpa using h
theorem below_bytesWorld (w : World) (e : TypeId) (s : ByteArray) : Below w.heap.size w (Lib.bytesWorld w e s) :=
  ⟨by rfl, by rfl, by rfl, by simp [Lib.bytesWorld_size], fun k hk => Lib.bytesWorld_at_old w e s k hk⟩
theorem add_off (g i : Nat) : (⟨g, 0, none⟩ : Addr).add i = ⟨g, i, none⟩ := by unfold Addr.add; split <;> simp_all
theorem Bytes.back {P : Program} {w : World} {g : Nat} {l : List UInt8} (h : Bytes w g l) (src dst e : TypeId) (cap n : Nat) (hs : P.underlying src = some (.slice e)) (he : P.underlying e = some (.int .u8)) (hd : P.underlying dst = some .string) (hn : l.length = n) :
    (convert src dst (.slice (some ⟨g, 0, none⟩) n cap)).run P w = .ok (.string ⟨l.toArray⟩) w := by
  subst hn
  exact run_convert_bytes_back w src dst e ⟨g, 0, none⟩ cap l hs he hd (fun j hj => by rw [add_off]; exact h.cell j hj)

/-- Bytes as values. -/
def bvals (l : List UInt8) : List Value := l.map fun b => Value.int .u8 b.toNat
theorem bvals_snoc (l : List UInt8) (b : UInt8) : bvals l ++ [.int .u8 b.toNat] = bvals (l ++ [b]) := by simp [bvals]
theorem bvals_length (l : List UInt8) : (bvals l).length = l.length := by simp [bvals]
/-- 'string(out)' of an owned row of bytes, nil or not. -/
theorem own_back {P : Program} {w : World} {base e' : Nat} {v : Value} {n : Nat} {l : List UInt8} (h : w.ownsRow base e' 1 v n (bvals l)) (src dst e : TypeId) (hs : P.underlying src = some (.slice e)) (he : P.underlying e = some (.int .u8)) (hd : P.underlying dst = some .string) :
    (convert src dst v).run P w = .ok (.string ⟨l.toArray⟩) w := by
  have hl : l.length = n := by have := h.1; simpa [bvals] using this
  rcases h.2 with ⟨rfl, h0⟩ | ⟨g, cap, cur, rfl, hbg, hg, hnc, hcm, hcs, htake⟩
  · have : l = [] := List.length_eq_zero_iff.1 (by omega)
    subst this
    rw [run_convert_bytes_string w src dst e none 0 0 hs he hd]; simp [Conv.bytesToString]; rfl
  · subst hl
    refine run_convert_bytes_back w src dst e ⟨g, 0, none⟩ cap l hs he hd (fun j hj => ?_)
    rw [add_off, h.cellAt j (by omega)]
    simp [bvals, hj]

theorem grown_comp {a b c : World} {row : Option Nat} (h : a.grownBy b none) (k : b.grownBy c row) : a.grownBy c row :=
  ⟨k.os.trans h.os, k.tape.trans h.tape, k.output.trans h.output, Nat.le_trans h.size k.size, fun i hi hr => (k.block i (Nat.lt_of_lt_of_le hi h.size) hr).trans (h.block i hi (by simp))⟩
/-- What a law that ends in 'grownBy' leaves below the base of the row that it has written. -/
theorem below_grown {w w' : World} {base e size n : Nat} {v : Value} {xs : List Value} (h : w.ownsRow base e size v n xs) (hg : w.grownBy w' v.ownBlock) (hb : base ≤ w.heap.size) : Below base w w' :=
  (Below.refl _ _).grown hg hb (fun k hk => (h.lt k hk).1)

/-- The world has turned at blocks of F alone (and at new ones). -/
structure Tur (F : Nat → Prop) (w w' : World) : Prop where
  os : w'.os = w.os
  tape : w'.tape = w.tape
  output : w'.output = w.output
  size : w.heap.size ≤ w'.heap.size
  block : ∀ k, k < w.heap.size → ¬ F k → w'.heap[k]? = w.heap[k]?
theorem Tur.refl (F : Nat → Prop) (w : World) : Tur F w w := ⟨rfl, rfl, rfl, Nat.le_refl _, fun _ _ _ => rfl⟩
theorem Tur.trans {F G : Nat → Prop} {a b c : World} (h : Tur F a b) (k : Tur G b c) (hG : ∀ i, i < a.heap.size → G i → F i) : Tur F a c :=
  ⟨k.os.trans h.os, k.tape.trans h.tape, k.output.trans h.output, Nat.le_trans h.size k.size, fun i hi hF => (k.block i (Nat.lt_of_lt_of_le hi h.size) (fun g => hF (hG i hi g))).trans (h.block i hi hF)⟩
theorem Tur.mono {F G : Nat → Prop} {a b : World} (h : Tur F a b) (hG : ∀ i, i < a.heap.size → F i → G i) : Tur G a b :=
  ⟨h.os, h.tape, h.output, h.size, fun i hi hF => h.block i hi (fun f => hF (hG i hi f))⟩
theorem Tur.of_below {B : Nat} {w w' : World} (h : Below B w w') : Tur (B ≤ ·) w w' := ⟨h.os, h.tape, h.output, h.size, fun k _ hk => h.block k (Nat.lt_of_not_le hk)⟩
theorem Tur.of_gr {F : Nat → Prop} {w w' : World} (h : Below w.heap.size w w') : Tur F w w' := ⟨h.os, h.tape, h.output, h.size, fun k hk _ => h.block k hk⟩
theorem Tur.of_grown {w w' : World} {row : Option Nat} (h : w.grownBy w' row) : Tur (fun k => some k = row) w w' := ⟨h.os, h.tape, h.output, h.size, fun k hk hr => h.block k hk hr⟩
theorem Tur.of_alloc {F : Nat → Prop} (w : World) (o : Obj) : Tur F w (w.alloc o) := ⟨rfl, rfl, rfl, by simp, fun k hk _ => Below.heap_alloc _ _ _ hk⟩
theorem Tur.of_drew {F : Nat → Prop} (w : World) : Tur F w w.drew := ⟨rfl, rfl, rfl, Nat.le_refl _, fun _ _ _ => rfl⟩
theorem Tur.drew {F : Nat → Prop} {w w' : World} (h : Tur F w w') : Tur F w w'.drew := ⟨h.os, h.tape, h.output, h.size, h.block⟩
theorem Tur.of_drewN {F : Nat → Prop} (w : World) (n : Nat) : Tur F w (w.drewN n) := ⟨rfl, rfl, rfl, Nat.le_refl _, fun _ _ _ => rfl⟩
theorem Tur.of_set {w : World} (p : Addr) (u : Value) : Tur (· = p.block) w (w.setCell p u) := ⟨rfl, rfl, rfl, by simp [World.setCell], fun k _ hk => Below.heap_setCell _ _ _ _ hk⟩
theorem Tur.below {F : Nat → Prop} {w w' : World} (h : Tur F w w') (B : Nat) (hB : B ≤ w.heap.size) (hF : ∀ k, k < B → ¬ F k) : Below B w w' := ⟨h.os, h.tape, h.output, h.size, fun k hk => h.block k (Nat.lt_of_lt_of_le hk hB) (hF k hk)⟩
theorem own_of_block {w w' : World} {base e size n : Nat} {v : Value} {xs : List Value} (h : w.ownsRow base e size v n xs) (hb : ∀ g, v.ownBlock = some g → w'.heap[g]? = w.heap[g]?) : w'.ownsRow base e size v n xs := by
  refine ⟨h.1, ?_⟩
  rcases h.2 with h2 | ⟨g, cap, cur, rfl, hg, hh, r⟩
  · exact Or.inl h2
  · exact Or.inr ⟨g, cap, cur, rfl, hg, (hb g rfl).trans hh, r⟩
theorem own_base {w : World} {base base' e size n : Nat} {v : Value} {xs : List Value} (h : w.ownsRow base e size v n xs) (hb : ∀ g, v.ownBlock = some g → base' ≤ g) : w.ownsRow base' e size v n xs := by
  refine ⟨h.1, ?_⟩
  rcases h.2 with h2 | ⟨g, cap, cur, rfl, hg, hh, r⟩
  · exact Or.inl h2
  · exact Or.inr ⟨g, cap, cur, rfl, hb g rfl, hh, r⟩

theorem one_int {k : IntKind} {n : Int} : ∀ u ∈ [Value.int k n], u.oneCell' = true := by intro u hu; simp at hu; subst hu; rfl
theorem one_str {s : ByteArray} : ∀ u ∈ [Value.string s], u.oneCell' = true := by intro u hu; simp at hu; subst hu; rfl

section
variable {P : Program} {w : World}
/-- 'append(out, x)', out a row of the call's own (or nil), x one element of 'size' cells, laid just before in a block of its own. -/
theorem wp_app1 {ops : Array Oper} {rest : List Oper} {o : Oper} {a : Act} {Q : Exit → Act → World → Prop} (hgd : o.guard = none) (s x : Operand) (t : TypeId)
    (ho : o.op = .call { callee := .builtin .append, args := #[s, x], argTypes := #[t, t] })
    (e size bytes : Nat) (z : Value) (ht : P.underlying t = some (.slice e)) (hinf : (P.info? e).map (fun i => (i.zero, i.size, i.bytes)) = some (some z, size, bytes)) (hzs : z.cells.size = size) (hsz : 0 < size)
    (base : Nat) (v : Value) (n : Nat) (xs : List Value) (hs : a.eval s = v) (hown : w.ownsRow base e size v n xs)
    (news : List Value) (hx : a.eval x = .slice (some ⟨w.heap.size, 0, none⟩) 1 1) (hl : news.length = size) (h1 : ∀ u ∈ news, u.oneCell' = true)
    (h63 : n + 1 ≤ maxLen) (hbytes : (n + 1) * bytes ≤ 140737488355328) (hbase : base ≤ w.heap.size)
    (h : ∀ v' w', w'.ownsRow base e size v' (n + 1) (xs ++ news) → w.grownBy w' v.ownBlock → v' ≠ .slice none 0 0 → wpList P ops Q rest (a.put o.dst v') w') : wpList P ops Q (o :: rest) a (w.alloc (.cells news.toArray e)) := by
  obtain ⟨i, hi, hz0, hz1, hz2⟩ := info_parts hinf
  refine wpList_append_own _ hgd s x t ho base e i z size bytes ht hi hz0 hz1 hz2 hzs hsz v n xs hs (hown.alloc _) ⟨w.heap.size, 0, none⟩ 1 1 news hx (by omega) ?_ h1 h63 hbytes (by simp; omega) ?_
  · intro j u hj
    have hj' : j < news.length := (List.getElem?_eq_some_iff.1 hj).1
    rw [add_off, World.cell?_alloc_at _ _ _ _ rfl]
    simpa using hj
  · intro v' w' ho' hg' hn'
    exact h v' w' ho' (grown_comp (World.grownBy_alloc w _ none) hg') (fun e => by have := (hn'.1 e).2; omega)
/-- .. and where the new row lies: 'append(out, x)', out a row of the call's own (or nil), x one element of 'size' cells, laid just before in a block of its own. -/
theorem wp_app1_at {ops : Array Oper} {rest : List Oper} {o : Oper} {a : Act} {Q : Exit → Act → World → Prop} (hgd : o.guard = none) (s x : Operand) (t : TypeId)
    (ho : o.op = .call { callee := .builtin .append, args := #[s, x], argTypes := #[t, t] })
    (e size bytes : Nat) (z : Value) (ht : P.underlying t = some (.slice e)) (hinf : (P.info? e).map (fun i => (i.zero, i.size, i.bytes)) = some (some z, size, bytes)) (hzs : z.cells.size = size) (hsz : 0 < size)
    (base : Nat) (v : Value) (n : Nat) (xs : List Value) (hs : a.eval s = v) (hown : w.ownsRow base e size v n xs)
    (news : List Value) (S : Nat) (hS : w.heap.size = S) (hx : a.eval x = .slice (some ⟨S, 0, none⟩) 1 1) (hl : news.length = size) (h1 : ∀ u ∈ news, u.oneCell' = true)
    (h63 : n + 1 ≤ maxLen) (hbytes : (n + 1) * bytes ≤ 140737488355328) (hbase : base ≤ w.heap.size)
    (h : ∀ g cap w', n + 1 ≤ cap → cap ≤ maxLen → w'.ownsRow base e size (.slice (some ⟨g, 0, none⟩) (n + 1) cap) (n + 1) (xs ++ news) → w.grownBy w' v.ownBlock → (v.ownBlock = some g ∨ w.heap.size ≤ g) → wpList P ops Q rest (a.put o.dst (.slice (some ⟨g, 0, none⟩) (n + 1) cap)) w') : wpList P ops Q (o :: rest) a (w.alloc (.cells news.toArray e)) := by
  subst hS
  obtain ⟨i, hi, hz0, hz1, hz2⟩ := info_parts hinf
  refine wpList_append_own_at _ hgd s x t ho base e i z size bytes ht hi hz0 hz1 hz2 hzs hsz v n xs hs (hown.alloc _) ⟨w.heap.size, 0, none⟩ 1 1 news hx (by omega) ?_ h1 h63 hbytes (by simp; omega) ?_
  · intro j u hj
    have hj' : j < news.length := (List.getElem?_eq_some_iff.1 hj).1
    rw [add_off, World.cell?_alloc_at _ _ _ _ rfl]
    simpa using hj
  · intro v' w' ho' hg' hn' hat
    rcases ho'.2 with ⟨_, h0⟩ | ⟨g, cap, cur, e1, _, _, h4, h5, _⟩
    · omega
    · subst e1
      refine h g cap w' h4 h5 ho' (grown_comp (World.grownBy_alloc w _ none) hg') ?_
      rcases hat with h | h
      · exact Or.inl h.symm
      · right; injection h with hg; simp at hg; omega
/-- 'append(out, x...)', out a row of the call's own (or nil), x a row that is known, nil or not. -/
theorem wp_appn {ops : Array Oper} {rest : List Oper} {o : Oper} {a : Act} {Q : Exit → Act → World → Prop} (hgd : o.guard = none) (s x : Operand) (t : TypeId)
    (ho : o.op = .call { callee := .builtin .append, args := #[s, x], argTypes := #[t, t] })
    (e size bytes : Nat) (z : Value) (ht : P.underlying t = some (.slice e)) (hinf : (P.info? e).map (fun i => (i.zero, i.size, i.bytes)) = some (some z, size, bytes)) (hzs : z.cells.size = size) (hsz : 0 < size)
    (base : Nat) (v : Value) (n : Nat) (xs : List Value) (hs : a.eval s = v) (hown : w.ownsRow base e size v n xs)
    (base2 : Nat) (u : Value) (m : Nat) (news : List Value) (hx : a.eval x = u) (hu : w.ownsRow base2 e size u m news) (h1 : ∀ u ∈ news, u.oneCell' = true)
    (h63 : n + m ≤ maxLen) (hbytes : (n + m) * bytes ≤ 140737488355328) (hbase : base ≤ w.heap.size)
    (h : ∀ A cap w', w'.ownsRow base e size (.slice A (n + m) cap) (n + m) (xs ++ news) → w.grownBy w' v.ownBlock → (∀ g, (.slice A (n + m) cap : Value).ownBlock = some g → v.ownBlock = some g ∨ w.heap.size ≤ g) → wpList P ops Q rest (a.put o.dst (.slice A (n + m) cap)) w') : wpList P ops Q (o :: rest) a w := by
  obtain ⟨i, hi, hz0, hz1, hz2⟩ := info_parts hinf
  rcases hu.2 with ⟨rfl, rfl⟩ | ⟨g2, cap2, cur2, rfl, _, hg2, hnc2, _⟩
  · have hnil : news = [] := List.eq_nil_of_length_eq_zero (by rw [hu.1]; simp)
    subst hnil
    have hv : ∃ A cap, v = .slice A n cap := by
      rcases hown.2 with ⟨h1, h0⟩ | ⟨g, cap, cur, h1, _⟩
      · exact ⟨none, 0, by rw [h1, h0]⟩
      · exact ⟨_, _, h1⟩
    obtain ⟨A, cap, rfl⟩ := hv
    have hr := run_append_owned_none (P := P) w base t o.type e i size ht hi _ n xs hown
    refine wpList_plain hgd fun K hK => ?_
    unfold Oper.wp execOp
    simp only [ho, resolve, invoke, builtin, Sem.run_bind, Sem.run_pure, Result.andThen_ok, List.map_toArray, List.map_cons, List.map_nil, hs, hx, hr]
    exact hK _ _ (h A cap w (by simpa using hown) ⟨rfl, rfl, rfl, Nat.le_refl _, fun _ _ _ => rfl⟩ (fun g hg => .inl hg))
  · refine wpList_append_own_at _ hgd s x t ho base e i z size bytes ht hi hz0 hz1 hz2 hzs hsz v n xs hs hown ⟨g2, 0, none⟩ m cap2 news hx hu.1 (fun j u hj => by rw [add_off]; exact (hu.cells (g := g2) rfl j u hj ▸ by rw [add_off])) h1 h63 hbytes hbase ?_
    intro v' w' ho' hg' hn' hat
    have hv : ∃ A cap, v' = .slice A (n + m) cap := by
      rcases ho'.2 with ⟨h1, h0⟩ | ⟨g, cap, cur, h1, _⟩
      · exact ⟨none, 0, by rw [h1, h0]⟩
      · exact ⟨_, _, h1⟩
    obtain ⟨A, cap, rfl⟩ := hv
    refine h A cap w' ho' hg' (fun g hg => ?_)
    rcases hat with h | h
    · exact .inl (h ▸ hg)
    · right; rw [h] at hg; injection hg with hg; omega
end

/-- Texts as values. -/
def svals (l : List ByteArray) : List Value := l.map Value.string
theorem svals_length (l : List ByteArray) : (svals l).length = l.length := by simp [svals]
theorem svals_one {l : List ByteArray} : ∀ u ∈ svals l, u.oneCell' = true := by
  intro u hu; simp only [svals, List.mem_map] at hu; obtain ⟨s, _, rfl⟩ := hu; rfl
/-- A slice of texts that lies below block B. -/
def Strs (w : World) (B : Nat) (A : Option Addr) (n : Nat) (xs : List ByteArray) : Prop :=
  xs.length = n ∧ (0 < n → ∃ b o, A = some ⟨b, o, none⟩ ∧ b < B ∧ ∀ i, (hi : i < xs.length) → w.cell? ⟨b, o + i, none⟩ = some (.string xs[i]))
theorem Strs.nil (w : World) (B : Nat) : Strs w B none 0 [] := ⟨rfl, fun h => by omega⟩
theorem Strs.below {w w' : World} {B : Nat} {A : Option Addr} {n : Nat} {xs : List ByteArray} (h : Strs w B A n xs) (hb : Below B w w') : Strs w' B A n xs :=
  ⟨h.1, fun hn => by
    obtain ⟨b, o, hA, hB, hc⟩ := h.2 hn
    exact ⟨b, o, hA, hB, fun i hi => (hb.cell (p := ⟨b, o + i, none⟩) hB).trans (hc i hi)⟩⟩
theorem Strs.keep {w w' : World} {B B' : Nat} {A : Option Addr} {n : Nat} {xs : List ByteArray} (h : Strs w B A n xs) (hB' : B ≤ B') (hk : ∀ b o, A = some ⟨b, o, none⟩ → b < B → w'.heap[b]? = w.heap[b]?) : Strs w' B' A n xs :=
  ⟨h.1, fun hn => by
    obtain ⟨b, o, hA, hB, hc⟩ := h.2 hn
    exact ⟨b, o, hA, by omega, fun i hi => (World.cell?_of_block (w := w) (a := ⟨b, o + i, none⟩) (hk b o hA hB)).trans (hc i hi)⟩⟩
theorem Strs.of_own {w : World} {base e cap n : Nat} {A : Option Addr} {xs : List ByteArray} (h : w.ownsRow base e 1 (.slice A n cap) n (svals xs)) : Strs w w.heap.size A n xs := by
  have hl : xs.length = n := by have := h.1; simpa [svals] using this
  refine ⟨hl, fun hn => ?_⟩
  rcases h.2 with ⟨_, h0⟩ | ⟨g, cap', cur, h1, _, hg, _⟩
  · omega
  · injection h1 with h1 _ h3
    subst h1; subst h3
    refine ⟨g, 0, rfl, (Array.getElem?_eq_some_iff.1 hg).1, fun i hi => ?_⟩
    rw [Nat.zero_add, h.cellAt i (by omega)]
    simp [svals, hi]
theorem Strs.lit (w : World) (e : TypeId) (xs : List ByteArray) : Strs (w.alloc (.cells (svals xs).toArray e)) (w.heap.size + 1) (some ⟨w.heap.size, 0, none⟩) xs.length xs :=
  ⟨rfl, fun hn => ⟨w.heap.size, 0, rfl, by omega, fun i hi => by
    rw [World.cell?_alloc_at _ _ _ _ rfl]; simp [svals, hi]⟩⟩
theorem tolist_beq (a b : ByteArray) : (a.toList == b.toList) = decide (a.data.toList = b.data.toList) := by
  rw [ByteArray.toList_eq, ByteArray.toList_eq, Bool.eq_iff_iff]; simp
def sameT (xs ys : List ByteArray) : Bool := decide (xs.map (·.data.toList) = ys.map (·.data.toList))
theorem bytes_ext {a b : ByteArray} (h : a.data.toList = b.data.toList) : a = b := ByteArray.ext (Array.toList_inj.1 h)
theorem sameT_iff (xs ys : List ByteArray) : sameT xs ys = true ↔ xs = ys := by
  simp only [sameT, decide_eq_true_eq]
  constructor
  · intro h
    exact List.map_inj_right (fun a b hab => bytes_ext hab) |>.1 h
  · intro h; rw [h]
end Go.Proofs.YtdbdmgmenojcaaaDoor
namespace Go.Proofs.YtdbdmgmenojcaaaDoor
open Go.RowKit

def Blk (w : World) (g : Nat) (t : TypeId) (cs : Array Value) : Prop := w.heap[g]? = some (.cells cs t (0, 0))
theorem Blk.cell {w : World} {g : Nat} {t : TypeId} {cs : Array Value} (h : Blk w g t cs) (i : Nat) : w.cell? ⟨g, i, none⟩ = cs[i]? := by
  unfold Blk at h; simp [World.cell?, h]
theorem Blk.free {w : World} {g : Nat} {t : TypeId} {cs : Array Value} (h : Blk w g t cs) (i : Nat) : w.frozen? ⟨g, i, none⟩ = false := by
  unfold Blk at h; simp [World.frozen?, h]
theorem Blk.set {w : World} {g : Nat} {t : TypeId} {cs : Array Value} (h : Blk w g t cs) (i : Nat) (u : Value) : Blk (w.setCell ⟨g, i, none⟩ u) g t (cs.setIfInBounds i u) := heap_setCell_self (a := ⟨g, i, none⟩) rfl h
theorem Blk.set3 {w : World} {g : Nat} {t : TypeId} {a b c : Value} (h : Blk w g t #[a, b, c]) (x y z : Value) : Blk (((w.setCell ⟨g, 0, none⟩ x).setCell ⟨g, 1, none⟩ y).setCell ⟨g, 2, none⟩ z) g t #[x, y, z] := by
  have := ((h.set 0 x).set 1 y).set 2 z
  simpa using this
theorem Tur.set3 {w : World} {g i j k : Nat} (x y z : Value) : Tur (· = g) w (((w.setCell ⟨g, i, none⟩ x).setCell ⟨g, j, none⟩ y).setCell ⟨g, k, none⟩ z) :=
  ((Tur.of_set ⟨g, i, none⟩ x).trans (Tur.of_set ⟨g, j, none⟩ y) (fun _ _ h => h)).trans (Tur.of_set ⟨g, k, none⟩ z) (fun _ _ h => h)
theorem Blk.lt {w : World} {g : Nat} {t : TypeId} {cs : Array Value} (h : Blk w g t cs) : g < w.heap.size := (Array.getElem?_eq_some_iff.1 h).1
theorem Blk.new (w : World) (t : TypeId) (cs : Array Value) : Blk (w.alloc (.cells cs t)) w.heap.size t cs := heap_alloc_new w _

theorem below_blk {w w' : World} {B g : Nat} {t : TypeId} {cs : Array Value} (h : Blk w g t cs) (hb : Below B w w') (hg : g < B) : Blk w' g t cs := (hb.block g hg).trans h

theorem Blk.set5 {w : World} {g : Nat} {t : TypeId} {a b c d e : Value} (h : Blk w g t #[a, b, c, d, e]) (v x y z u : Value) : Blk (((((w.setCell ⟨g, 0, none⟩ v).setCell ⟨g, 1, none⟩ x).setCell ⟨g, 2, none⟩ y).setCell ⟨g, 3, none⟩ z).setCell ⟨g, 4, none⟩ u) g t #[v, x, y, z, u] := by
  have := ((((h.set 0 v).set 1 x).set 2 y).set 3 z).set 4 u
  simpa using this
theorem Tur.set5 {w : World} {g i1 i2 i3 i4 i5 : Nat} (x1 x2 x3 x4 x5 : Value) : Tur (· = g) w (((((w.setCell ⟨g, i1, none⟩ x1).setCell ⟨g, i2, none⟩ x2).setCell ⟨g, i3, none⟩ x3).setCell ⟨g, i4, none⟩ x4).setCell ⟨g, i5, none⟩ x5) :=
  (((((Tur.of_set ⟨g, i1, none⟩ x1).trans (Tur.of_set ⟨g, i2, none⟩ x2) (fun i _ h => h)).trans (Tur.of_set ⟨g, i3, none⟩ x3) (fun i _ h => h)).trans (Tur.of_set ⟨g, i4, none⟩ x4) (fun i _ h => h)).trans (Tur.of_set ⟨g, i5, none⟩ x5) (fun i _ h => h))
theorem below_set5 {w : World} {g B : Nat} (hB : B ≤ g) (hg : B ≤ w.heap.size) (v x y z u : Value) : Below B w (((((w.setCell ⟨g, 0, none⟩ v).setCell ⟨g, 1, none⟩ x).setCell ⟨g, 2, none⟩ y).setCell ⟨g, 3, none⟩ z).setCell ⟨g, 4, none⟩ u) :=
  (Tur.set5 (g := g) (i1 := 0) (i2 := 1) (i3 := 2) (i4 := 3) (i5 := 4) v x y z u).below B hg (fun j hj e => by omega)
theorem Tur.set2 {w : World} {g i1 i2 : Nat} (x1 x2 : Value) : Tur (· = g) w ((w.setCell ⟨g, i1, none⟩ x1).setCell ⟨g, i2, none⟩ x2) :=
  (Tur.of_set ⟨g, i1, none⟩ x1).trans (Tur.of_set ⟨g, i2, none⟩ x2) (fun i _ h => h)
theorem below_set2 {w : World} {g B : Nat} (hB : B ≤ g) (hg : B ≤ w.heap.size) (v x : Value) : Below B w ((w.setCell ⟨g, 0, none⟩ v).setCell ⟨g, 1, none⟩ x) :=
  (Tur.set2 (g := g) (i1 := 0) (i2 := 1) v x).below B hg (fun j hj e => by omega)
theorem Blk.set2 {w : World} {g : Nat} {t : TypeId} {a b : Value} (h : Blk w g t #[a, b]) (x y : Value) : Blk ((w.setCell ⟨g, 0, none⟩ x).setCell ⟨g, 1, none⟩ y) g t #[x, y] := by
  have := (h.set 0 x).set 1 y
  simpa using this
theorem Blk.two {w : World} {R : Nat} {t : TypeId} {a b : Value} (h : Blk w R t #[a, b]) : (w.cell? ⟨R, 0, none⟩ = some a ∧ w.cell? ⟨R, 1, none⟩ = some b) ∧ (w.frozen? ⟨R, 0, none⟩ = false ∧ w.frozen? ⟨R, 1, none⟩ = false) :=
  ⟨⟨h.cell 0, h.cell 1⟩, h.free 0, h.free 1⟩
theorem Blk.keep {w w' : World} {F : Nat → Prop} {g : Nat} {t : TypeId} {cs : Array Value} (h : Blk w g t cs) (ht : Tur F w w') (hF : ¬ F g) : Blk w' g t cs := (ht.block g h.lt hF).trans h
theorem Blk.five {w : World} {R : Nat} {t : TypeId} {a b c d e : Value} (h : Blk w R t #[a, b, c, d, e]) : (w.cell? ⟨R, 0, none⟩ = some a ∧ w.cell? ⟨R, 1, none⟩ = some b ∧ w.cell? ⟨R, 2, none⟩ = some c ∧ w.cell? ⟨R, 3, none⟩ = some d ∧ w.cell? ⟨R, 4, none⟩ = some e) ∧
    (w.frozen? ⟨R, 0, none⟩ = false ∧ w.frozen? ⟨R, 1, none⟩ = false ∧ w.frozen? ⟨R, 2, none⟩ = false ∧ w.frozen? ⟨R, 3, none⟩ = false ∧ w.frozen? ⟨R, 4, none⟩ = false) :=
  ⟨⟨h.cell 0, h.cell 1, h.cell 2, h.cell 3, h.cell 4⟩, h.free 0, h.free 1, h.free 2, h.free 3, h.free 4⟩
end Go.Proofs.YtdbdmgmenojcaaaDoor
namespace Go.Proofs.YtdbdmgmenojcaaaDoor
open Go.RowKit
open Go.Maps (Keyed)
open Go.WideMaps Go.WideElems Go.WideAt
open Go.ChangeMaps (setBlock heap_setBlock_same)
open Go.MapKept (Stamped)

theorem plain_inj {P : Program} {e : TypeId} {v v' : Value} {d : DataW Unit} {p p' : List MemPlace} (h : plainElem P e v = some (d, p)) (h' : plainElem P e v' = some (d, p')) : v = v' := by
  unfold plainElem at h h'
  split at h
  · rename_i hu; simp only [hu] at h'
    split at h'
    · simp at h h'; rw [← h.1] at h'; simp at h'; simp [h'.1]
    · simp_all
    · simp_all
    · simp at h'
  · rename_i hu; simp only [hu] at h'
    split at h'
    · simp_all
    · rename_i hu'; simp at hu'; subst hu'
      split at h
      · rename_i c; obtain ⟨c1, c2⟩ := c; subst c1
        split at h'
        · rename_i c; obtain ⟨c1', c2'⟩ := c; subst c1'
          simp at h h'; rw [← h.1] at h'; simp at h'; simp [h'.1]
        · simp at h'
      · simp at h
    · simp_all
    · simp at h'
  · rename_i hu; simp only [hu] at h'
    split at h'
    · simp_all
    · simp_all
    · split at h
      · split at h'
        · simp at h h'; rw [← h.1] at h'; simp at h'
          rw [Value.string.injEq]
          apply ByteArray.ext
          exact h'.1.symm
        · simp at h'
      · simp at h
    · simp at h'
  · simp at h

/-- Block b is a map of m entries that holds, at each text l, what f tells. -/
def MapS (P : Program) (k e : TypeId) (w : World) (b m : Nat) (f : List UInt8 → Option Value) : Prop :=
  ∃ D : DataW Unit, w.ownsMap P k (plainElem P e) b m D ∧ Maps.size D = m ∧ ∀ l : List UInt8,
    (f l = none → Maps.has D (.string l) = false) ∧
    ∀ v, f l = some v → Maps.has D (.string l) = true ∧ ∃ d, plainElem (H := Unit) P e v = some (d, []) ∧ ∀ z, D.atKey (.string l) z = d

section
variable {P : Program} {k e : TypeId} {w : World} {b m : Nat} {f : List UInt8 → Option Value}

theorem MapS.made (P : Program) (k e : TypeId) (w : World) : MapS P k e (w.alloc (.map #[] 0)) w.heap.size 0 (fun _ => none) :=
  ⟨.map [], World.ownsMap_made w P k _, rfl, fun l => ⟨fun _ => rfl, fun v h => by cases h⟩⟩
theorem MapS.lt (h : MapS P k e w b m f) : b < w.heap.size := by obtain ⟨D, h, _⟩ := h; exact h.lt
theorem tight {D : DataW Unit} {n : Nat} (h : w.ownsMap P k (plainElem P e) b n D) : w.ownsMap P k (plainElem P e) b (Maps.size D) D := by
  obtain ⟨es, clock, h1, h2, _, rfl⟩ := h
  exact ⟨es, clock, h1, h2, by simp [Maps.size, length_sorted], rfl⟩
theorem MapS.of_block {w' : World} (h : MapS P k e w b m f) (hb : w'.heap[b]? = w.heap[b]?) : MapS P k e w' b m f := by
  obtain ⟨D, ⟨es, clock, h1, h2⟩, r⟩ := h
  exact ⟨D, ⟨es, clock, hb.trans h1, h2⟩, r⟩
theorem has_of_atKey {D : DataW Unit} {kl : Lit} {d : DataW Unit} (h : ∀ z, D.atKey kl z = d) : Maps.has D kl = true := Maps.has_true_of_atKey h

theorem MapS.some_has (h : MapS P k e w b m f) {l : List UInt8} {v : Value} (hv : f l = some v) : ∃ d, plainElem (H := Unit) P e v = some (d, []) := by
  obtain ⟨D, _, _, h⟩ := h
  obtain ⟨_, d, hd, _⟩ := (h l).2 v hv
  exact ⟨d, hd⟩

theorem run_clear_map {t : TypeId} (ht : P.underlying t = some (.map k e)) (h : MapS P k e w b m f) (ty : TypeId) :
    ∃ w', (Builtin.clear_ #[t] ty #[.map (some b)]).run P w = .ok (.tuple #[]) w' ∧ MapS P k e w' b 0 (fun _ => none) ∧ w.mapTurned w' b := by
  obtain ⟨D, ⟨es, clock, hb, F, hs, hD⟩, _⟩ := h
  refine ⟨_, ?_, ⟨.map [], ⟨#[], clock, heap_setBlock_same hb _, ?_, Nat.le_refl _, rfl⟩, rfl, fun l => ⟨fun _ => rfl, fun v h => by cases h⟩⟩, ⟨es, clock, #[], clock, hb, rfl⟩⟩
  · have hs : ∀ o, (setObj b o).run P w = .ok () (setBlock w b o) := fun o => by simp [setObj, Sem.run, hb, setBlock]
    simp [Builtin.clear_, run_underlying ht, MapKept.run_getObj_map hb, Result.andThen, hs]
  · exact ⟨by simp, by simp [Stamped], fun x hx => by simp at hx⟩

variable {ops : Array Oper} {rest : List Oper} {o : Oper} {a : Act} {Q : Exit → Act → World → Prop}
theorem wp_map_look_ok (hg : o.guard = none) (m' x : Operand) (t : TypeId) (hop : o.op = Op.lookup t m' x true) (K : Keyed P k) (ht : P.underlying t = some (.map k e)) (z : Value) (hz : (zeroValue e).run P w = .ok z w) (hzp : ∃ d, plainElem (H := Unit) P e z = some (d, []))
    (hm : a.eval m' = .map (some b)) (h : MapS P k e w b m f) (key : Value) (l : List UInt8) (hx : a.eval x = key) (hkey : keyOf P k key = some (.string l))
    (hK : wpList P ops Q rest (a.put o.dst (.tuple #[(f l).getD z, .bool (f l).isSome])) w) : wpList P ops Q (o :: rest) a w := by
  obtain ⟨D, hown, _, hf⟩ := h
  obtain ⟨zd, hzd⟩ := hzp
  refine wpList_lookup_own_ok w hg m' x t hop k e K ht _ hz zd [] hzd b m D hm hown key _ hx hkey ?_
  intro v ps hv
  cases hfl : f l with
  | none =>
    have h1 := (hf l).1 hfl
    rw [h1]
    rw [Maps.atKey_of_not_has h1] at hv
    rw [plain_inj hv hzd]
    rw [hfl] at hK; exact hK
  | some u =>
    obtain ⟨h1, d, hd, hat⟩ := (hf l).2 u hfl
    rw [h1]
    rw [hat zd] at hv
    rw [plain_inj hv hd]
    rw [hfl] at hK; exact hK

theorem wp_map_look (hg : o.guard = none) (m' x : Operand) (t : TypeId) (hop : o.op = Op.lookup t m' x false) (K : Keyed P k) (ht : P.underlying t = some (.map k e)) (z : Value) (hz : (zeroValue e).run P w = .ok z w) (hzp : ∃ d, plainElem (H := Unit) P e z = some (d, []))
    (hm : a.eval m' = .map (some b)) (h : MapS P k e w b m f) (key : Value) (l : List UInt8) (hx : a.eval x = key) (hkey : keyOf P k key = some (.string l))
    (hK : wpList P ops Q rest (a.put o.dst ((f l).getD z)) w) : wpList P ops Q (o :: rest) a w := by
  obtain ⟨D, hown, _, hf⟩ := h
  obtain ⟨zd, hzd⟩ := hzp
  refine wpList_plain hg fun K' hK' => ?_
  obtain ⟨v, ps, hrun, hv⟩ := hown.lookup K ht hz hzd hkey
  have e1 : v = (f l).getD z := by
    cases hfl : f l with
    | none =>
      have h1 := (hf l).1 hfl
      rw [Maps.atKey_of_not_has h1] at hv
      exact plain_inj hv hzd
    | some u =>
      obtain ⟨h1, d, hd, hat⟩ := (hf l).2 u hfl
      rw [hat zd] at hv
      exact plain_inj hv hd
  subst e1
  unfold Oper.wp
  simp [execOp, hop, hm, hx, hrun, Result.andThen]
  exact hK' _ _ hK

theorem MapS.run_look (h : MapS P k e w b m f) {t : TypeId} (K : Keyed P k) (ht : P.underlying t = some (.map k e)) {z : Value} (hz : (zeroValue e).run P w = .ok z w) (hzp : ∃ d, plainElem (H := Unit) P e z = some (d, []))
    {key : Value} {l : List UInt8} (hkey : keyOf P k key = some (.string l)) : (Instr.lookup t (.map (some b)) key false).run P w = .ok ((f l).getD z) w := by
  obtain ⟨D, hown, _, hf⟩ := h
  obtain ⟨zd, hzd⟩ := hzp
  obtain ⟨v, ps, hrun, hv⟩ := hown.lookup K ht hz hzd hkey
  have e1 : v = (f l).getD z := by
    cases hfl : f l with
    | none =>
      have h1 := (hf l).1 hfl
      rw [Maps.atKey_of_not_has h1] at hv
      exact plain_inj hv hzd
    | some u =>
      obtain ⟨h1, d, hd, hat⟩ := (hf l).2 u hfl
      rw [hat zd] at hv
      exact plain_inj hv hd
  rw [← e1]; exact hrun

theorem MapS.run_len (h : MapS P k e w b m f) {t : TypeId} (ht : P.underlying t = some (.map k e)) (ty : TypeId) : (Builtin.len_ #[t] ty #[.map (some b)]).run P w = .ok (.int .i64 m) w := by
  obtain ⟨D, hown, rfl, _⟩ := h
  exact hown.len ht ty

/-- What a store leaves of the function. -/
def setAt (f : List UInt8 → Option Value) (l : List UInt8) (v : Option Value) : List UInt8 → Option Value := fun x => if x = l then v else f x

theorem wp_map_put (hg : o.guard = none) (m' x v : Operand) (t : TypeId) (hop : o.op = Op.mapUpdate t m' x v) (K : Keyed P k) (hk : P.underlying k = some .string) (ht : P.underlying t = some (.map k e))
    (hm : a.eval m' = .map (some b)) (h : MapS P k e w b m f) (hn : m < maxLen) (key val : Value) (l : List UInt8) (hx : a.eval x = key) (hv : a.eval v = val) (hkey : keyOf P k key = some (.string l))
    (hval : ∃ d, plainElem (H := Unit) P e val = some (d, []))
    (hK : ∀ w', MapS P k e w' b (if (f l).isSome then m else m + 1) (setAt f l (some val)) → w.mapTurned w' b → wpList P ops Q rest (a.put o.dst undef) w') : wpList P ops Q (o :: rest) a w := by
  obtain ⟨D, hown, hsz, hf⟩ := h
  obtain ⟨d, hd⟩ := hval
  refine wpList_mapUpdate_in w hg m' x v t hop k e K ht _ b m D hm hown hn key val _ hx hv hkey d [] hd ?_
  intro w' hown' ht'
  have hs : Maps.size (D.put (.string l) d) = if (f l).isSome then m else m + 1 := by
    rw [Maps.size_put (hown.tidy K)]
    cases hfl : f l with
    | none => rw [(hf l).1 hfl, hsz]; simp
    | some u => rw [((hf l).2 u hfl).1, hsz]; simp
  refine hK w' ⟨_, by rw [← hs]; exact tight hown', hs, ?_⟩ ht'
  · have hkl : WideAt.IsKeyLit (.string l) := by trivial
    intro x
    by_cases hxl : x = l
    · subst hxl
      refine ⟨fun h => by simp [setAt] at h, fun v hv => ?_⟩
      simp [setAt] at hv
      subst hv
      exact ⟨Maps.has_put_same hown.isMap hkl d, d, hd, fun z => Maps.atKey_put_same hown.isMap hkl d z⟩
    · have hne : (Lit.string x) ≠ (.string l) := fun e => hxl (by injection e)
      rw [show setAt f l (some val) x = f x from by simp [setAt, hxl], Maps.has_put_other hne]
      refine ⟨(hf x).1, fun v hv => ?_⟩
      obtain ⟨h1, d', hd', hat⟩ := (hf x).2 v hv
      exact ⟨h1, d', hd', fun z => by rw [Maps.atKey_put_other hne]; exact hat z⟩

theorem wp_map_del (hg : o.guard = none) (m' x : Operand) (t : TypeId) (hop : o.op = Op.call { callee := Callee.builtin Builtin.delete, args := #[m', x], argTypes := #[t, k] }) (K : Keyed P k) (ht : P.underlying t = some (.map k e))
    (hm : a.eval m' = .map (some b)) (h : MapS P k e w b m f) (key : Value) (l : List UInt8) (hx : a.eval x = key) (hkey : keyOf P k key = some (.string l))
    (hK : ∀ w', MapS P k e w' b (if (f l).isSome then m - 1 else m) (setAt f l none) → w.mapTurned w' b → wpList P ops Q rest (a.put o.dst (.tuple #[])) w') : wpList P ops Q (o :: rest) a w := by
  obtain ⟨D, hown, hsz, hf⟩ := h
  refine wpList_delete_own w hg m' x t k hop e K ht _ b m D hm hown key _ hx hkey ?_
  intro w' hown' ht'
  have hs : Maps.size (D.del (.string l)) = if (f l).isSome then m - 1 else m := by
    have := Maps.size_del (k := .string l) (hown.tidy K)
    cases hfl : f l with
    | none => rw [(hf l).1 hfl] at this; simp at this ⊢; omega
    | some u => rw [((hf l).2 u hfl).1] at this; simp at this ⊢; omega
  refine hK w' ⟨_, by rw [← hs]; exact tight hown', hs, ?_⟩ ht'
  · intro x
    by_cases hxl : x = l
    · subst hxl
      exact ⟨fun _ => Maps.has_del_same, fun v hv => by simp [setAt] at hv⟩
    · have hne : (Lit.string x) ≠ (.string l) := fun e => hxl (by injection e)
      rw [show setAt f l none x = f x from by simp [setAt, hxl], Maps.has_del_other hne]
      refine ⟨(hf x).1, fun v hv => ?_⟩
      obtain ⟨h1, d', hd', hat⟩ := (hf x).2 v hv
      exact ⟨h1, d', hd', fun z => by rw [Maps.atKey_del_other hne]; exact hat z⟩

theorem wp_map_len (hg : o.guard = none) (m' : Operand) (t : TypeId) (hop : o.op = Op.call { callee := Callee.builtin Builtin.len, args := #[m'], argTypes := #[t] }) (ht : P.underlying t = some (.map k e))
    (hm : a.eval m' = .map (some b)) (h : MapS P k e w b m f) (hK : wpList P ops Q rest (a.put o.dst (.int .i64 m)) w) : wpList P ops Q (o :: rest) a w := by
  obtain ⟨D, hown, hsz, hf⟩ := h
  refine wpList_len_own w hg m' t hop k e ht _ b m D hm hown ?_
  rw [hsz]; exact hK

theorem wp_map_clear (hg : o.guard = none) (m' : Operand) (t : TypeId) (hop : o.op = Op.call { callee := Callee.builtin Builtin.clear, args := #[m'], argTypes := #[t] }) (ht : P.underlying t = some (.map k e))
    (hm : a.eval m' = .map (some b)) (h : MapS P k e w b m f)
    (hK : ∀ w', MapS P k e w' b 0 (fun _ => none) → w.mapTurned w' b → wpList P ops Q rest (a.put o.dst (.tuple #[])) w') : wpList P ops Q (o :: rest) a w := by
  refine wpList_plain hg fun K' hK' => ?_
  obtain ⟨w', hrun, r1, r2⟩ := run_clear_map ht h o.type
  unfold Oper.wp
  simp [execOp, hop, resolve, invoke, builtin, hm, hrun, Result.andThen]
  exact hK' _ _ (hK w' r1 r2)
end
end Go.Proofs.YtdbdmgmenojcaaaDoor
namespace Go.Proofs.YtdbdmgmenojcaaaDoor
open Go.RowKit
open Go.WideMaps Go.WideElems Go.WideAt

namespace Wd
/-- A stream that is open. -/
structure Sm where
  k : Int
  name : ByteArray
  left : ByteArray
structure Ev where
  k : Int
  st : Int
  name : ByteArray
  data : ByteArray
  status : Int
structure Rp where
  cmd : ByteArray
  out : ByteArray
  status : Int
structure Fl where
  op : Int
  name : ByteArray
structure St where
  lim : Int
  clock : Int
  files : List UInt8 → Option ByteArray
  stdin : ByteArray
  opn : List Sm
  chance : Int
  trace : List Ev
  replies : List Rp
  fails : List Fl
def Sm.cells (s : Sm) : Array Value := #[.int .u8 s.k, .string s.name, .string s.left]
def Ev.vals (e : Ev) : List Value := [.int .u8 e.k, .int .u8 e.st, .string e.name, .string e.data, .int .i64 e.status]
def Rp.vals (e : Rp) : List Value := [.string e.cmd, .string e.out, .int .i64 e.status]
def Fl.vals (e : Fl) : List Value := [.int .u8 e.op, .string e.name]
def evals (l : List Ev) : List Value := l.flatMap Ev.vals
def rvals (l : List Rp) : List Value := l.flatMap Rp.vals
def fvals (l : List Fl) : List Value := l.flatMap Fl.vals
def ptrs (gs : List Nat) : List Value := gs.map fun g => .pointer (some ⟨g, 0, none⟩)
structure Mem where
  s0 : Value
  s1 : Value
  s2 : Value
  s3 : Value
  s6 : Value
  bm : Nat
  m : Nat
  vo : Value
  gs : List Nat
  vt : Value
  vr : Value
  vf : Value
def wcells (M : Mem) (st : St) : Array Value := #[.bool true, M.s0, M.s1, M.s2, M.s3, .int .i64 st.lim, .int .i64 st.clock, M.s6, .map (some M.bm), .string st.stdin, M.vo, .int .u64 st.chance, M.vt, M.vr, M.vf]
def same (a b : ByteArray) : Bool := decide (a = b)
def hit (k : Int) (name : ByteArray) (s : Sm) : Bool := decide (s.k = k) && decide (s.name = name)
def find (st : St) (k : Int) (name : ByteArray) : Option Nat := st.opn.findIdx? (hit k name)
/-- The first of n things that is so. -/
def First (p : Nat → Bool) (n : Nat) : Option Nat → Prop
  | some i => i < n ∧ p i = true ∧ ∀ j, j < i → p j = false
  | none => ∀ j, j < n → p j = false
def ixV : Option Nat → Int
  | some i => i
  | none => -1
theorem first_find {α : Type} (l : List α) (q : α → Bool) (p : Nat → Bool) (hp : ∀ i, (h : i < l.length) → p i = q l[i]) : First p l.length (l.findIdx? q) := by
  cases h : l.findIdx? q with
  | some i =>
    obtain ⟨hi, h1, h2⟩ := List.findIdx?_eq_some_iff_getElem.1 h
    exact ⟨hi, by rw [hp i hi]; exact h1, fun j hj => by rw [hp j (by omega)]; simpa using h2 j hj⟩
  | none =>
    intro j hj
    rw [hp j hj]
    rw [List.findIdx?_eq_none_iff] at h
    exact h _ (List.getElem_mem _)
theorem flat_get {α : Type} (f : α → List Value) (n : Nat) (hf : ∀ a, (f a).length = n) : ∀ (l : List α) (i j : Nat) (h : i < l.length), j < n → (l.flatMap f)[i * n + j]? = (f l[i])[j]? := by
  intro l
  induction l with
  | nil => intro i j h; simp at h
  | cons a l ih =>
    intro i j h hj
    cases i with
    | zero => simp only [Nat.zero_mul, Nat.zero_add, List.flatMap_cons, List.getElem_cons_zero]; rw [List.getElem?_append_left (by rw [hf]; omega)]
    | succ i =>
      simp only [List.flatMap_cons, List.getElem_cons_succ]
      rw [List.getElem?_append_right (by rw [hf, Nat.succ_mul]; omega), hf, show (i + 1) * n + j - n = i * n + j by rw [Nat.succ_mul]; omega]
      exact ih i j (by simpa using h) hj
end Wd
open Wd
/-- Where a world stands. -/
structure WAt (w : World) (F : Nat → Prop) (pb : Nat) (M : Mem) (st : St) : Prop where
  flt : ∀ k, F k → k < w.heap.size
  fp : F pb
  fm : F M.bm
  fo : ∀ g, M.vo.ownBlock = some g → F g
  ft : ∀ g, M.vt.ownBlock = some g → F g
  fr : ∀ g, M.vr.ownBlock = some g → F g
  ff : ∀ g, M.vf.ownBlock = some g → F g
  fg : ∀ g ∈ M.gs, F g
  head : Blk w pb 93 (wcells M st)
  map : MapS Tryd.prog 9 9 w M.bm M.m (fun l => (st.files l).map Value.string)
  rowO : w.ownsRow 0 99 1 M.vo st.opn.length (ptrs M.gs)
  strm : ∀ i, (h : i < st.opn.length) → ∃ g, M.gs[i]? = some g ∧ Blk w g 109 st.opn[i].cells
  nd : M.gs.Nodup
  rowT : w.ownsRow 0 106 5 M.vt st.trace.length (evals st.trace)
  rowR : w.ownsRow 0 87 3 M.vr st.replies.length (rvals st.replies)
  rowF : w.ownsRow 0 85 2 M.vf st.fails.length (fvals st.fails)
theorem own_lt {w : World} {base e sz n : Nat} {v : Value} {cs : List Value} (h : w.ownsRow base e sz v n cs) {g : Nat} (hg : v.ownBlock = some g) : ∃ cur, w.heap[g]? = some (.cells cur e (0, 0)) ∧ g < w.heap.size := by
  rcases h.2 with ⟨h1, -⟩ | ⟨g', cap, cur, h1, _, hh, _⟩
  · rw [h1] at hg; cases hg
  · rw [h1] at hg; injection hg with hg; change g' = g at hg; subst hg; exact ⟨cur, hh, (Array.getElem?_eq_some_iff.1 hh).1⟩
theorem own_form {w : World} {base e size n : Nat} {v : Value} {xs : List Value} (h : w.ownsRow base e size v n xs) : ∃ A cap, v = .slice A n cap ∧ n ≤ cap ∧ cap ≤ maxLen := by
  rcases h.2 with ⟨h1, h0⟩ | ⟨g, cap, cur, h1, _, _, h4, h5, _⟩
  · exact ⟨none, 0, by rw [h1, h0], by omega, Nat.zero_le _⟩
  · exact ⟨_, cap, h1, h4, h5⟩
section
variable {w w' : World} {F : Nat → Prop} {pb : Nat} {M : Mem} {st : St}
theorem WAt.gl (h : WAt w F pb M st) : M.gs.length = st.opn.length := by
  have := h.rowO.1
  simpa [ptrs] using this
theorem WAt.keep (h : WAt w F pb M st) (hs : w.heap.size ≤ w'.heap.size) (hb : ∀ k, k < w.heap.size → F k → w'.heap[k]? = w.heap[k]?) : WAt w' F pb M st where
  flt := fun k hk => Nat.lt_of_lt_of_le (h.flt k hk) hs
  fp := h.fp
  fm := h.fm
  fo := h.fo
  ft := h.ft
  fr := h.fr
  ff := h.ff
  fg := h.fg
  head := (hb pb h.head.lt h.fp).trans h.head
  map := h.map.of_block (hb M.bm h.map.lt h.fm)
  rowO := own_of_block h.rowO fun g hg => hb g (h.flt g (h.fo g hg)) (h.fo g hg)
  strm := fun i hi => by
    obtain ⟨g, hg, hB⟩ := h.strm i hi
    have hF := h.fg g (List.mem_of_getElem? hg)
    exact ⟨g, hg, (hb g (h.flt g hF) hF).trans hB⟩
  nd := h.nd
  rowT := own_of_block h.rowT fun g hg => hb g (h.flt g (h.ft g hg)) (h.ft g hg)
  rowR := own_of_block h.rowR fun g hg => hb g (h.flt g (h.fr g hg)) (h.fr g hg)
  rowF := own_of_block h.rowF fun g hg => hb g (h.flt g (h.ff g hg)) (h.ff g hg)
theorem WAt.tur {G : Nat → Prop} (h : WAt w F pb M st) (ht : Tur G w w') (hd : ∀ k, F k → ¬ G k) : WAt w' F pb M st := h.keep ht.size (fun k hk hF => ht.block k hk (hd k hF))
theorem WAt.pure (h : WAt w F pb M st) (hb : Below w.heap.size w w') : WAt w' F pb M st := h.keep hb.size (fun k hk _ => hb.block k hk)
theorem WAt.drewN (h : WAt w F pb M st) (n : Nat) : WAt (w.drewN n) F pb M st := h.keep (Nat.le_refl _) (fun _ _ _ => rfl)
theorem WAt.drew (h : WAt w F pb M st) : WAt w.drew F pb M st := h.keep (Nat.le_refl _) (fun _ _ _ => rfl)
/-- The world's own cells. -/
theorem WAt.cell (h : WAt w F pb M st) (i : Nat) : w.cell? ⟨pb, i, none⟩ = (wcells M st)[i]? := h.head.cell i
theorem WAt.free (h : WAt w F pb M st) (i : Nat) : w.frozen? ⟨pb, i, none⟩ = false := h.head.free i
end
/-- Is it none? -/
theorem wo_none {w : World} {F : Nat → Prop} {pb : Nat} {M : Mem} {st : St} (h : WAt w F pb M st) :
    Calls Tryd.prog 37 #[.pointer (some ⟨pb, 0, none⟩)] w fun e w' => e = .returned (.bool false) ∧ w = w' := by
  have c0 : w.cell? ⟨pb, 0, none⟩ = some (.bool true) := h.cell 0
  go_enter Tryd.func37, Tryd.ntmps37
  go_wp2_with fail
  go_ret
  exact ⟨rfl, rfl⟩


end Go.Proofs.YtdbdmgmenojcaaaDoor
namespace Go.Proofs.YtdbdmgmenojcaaaDoor
open Go.RowKit Wd
open Go.WideMaps Go.WideElems Go.WideAt

set_option maxRecDepth 100000 in
theorem enters_find : ∀ (args : Array Value) (w : World), (callFunc 69 args).run Tryd.prog w = .ok (.enter 69 args) w := fun _ _ => rfl
theorem str_eq {a b : ByteArray} : (a.toList == b.toList) = decide (a = b) := by
  rw [tolist_beq, Bool.eq_iff_iff, decide_eq_true_eq, decide_eq_true_eq]
  exact ⟨bytes_ext, fun e => by rw [e]⟩
theorem ownBlock_form {w : World} {base e size n : Nat} {v : Value} {xs : List Value} (h : w.ownsRow base e size v n xs) (hn : 0 < n) : ∃ g cap, v = .slice (some ⟨g, 0, none⟩) n cap ∧ n ≤ cap ∧ cap ≤ maxLen := by
  rcases h.2 with ⟨_, h0⟩ | ⟨g, cap, cur, h1, _, _, h4, h5, _⟩
  · omega
  · exact ⟨g, cap, h1, h4, h5⟩
/-- The look of find at one stream. -/
theorem wo_find1 {w : World} {g a b : Nat} {s : Sm} {k : Int} {name : ByteArray} (hs : Blk w g 109 s.cells) (ha : w.cell? ⟨a, 0, none⟩ = some (.int .u8 k)) (hb : w.cell? ⟨b, 0, none⟩ = some (.string name)) :
    Calls Tryd.prog 69 #[.pointer (some ⟨g, 0, none⟩), .pointer (some ⟨a, 0, none⟩), .pointer (some ⟨b, 0, none⟩)] w fun e w' => e = .returned (.bool (hit k name s)) ∧ ∃ n, w' = w.drewN n := by
  have c0 : w.cell? ⟨g, 0, none⟩ = some (.int .u8 s.k) := hs.cell 0
  have c1 : w.cell? ⟨g, 1, none⟩ = some (.string s.name) := hs.cell 1
  obtain ⟨sk, hk⟩ : ∃ x, x = s.k := ⟨_, rfl⟩
  obtain ⟨sn, hn⟩ : ∃ x, x = s.name := ⟨_, rfl⟩
  rw [← hk] at c0
  rw [← hn] at c1
  have HH : Hid (hit k name s = (decide (sk = k) && decide (sn = name))) := by unfold Hid hit; rw [hk, hn]
  rw [HH.out]
  clear hk hn hs HH
  by_cases h1 : sk = k
  · by_cases h2 : sn = name
    · have e2 : (sn.toList == name.toList) = true := by rw [str_eq]; exact decide_eq_true h2
      have e1 : (sk == k) = true := by simp [h1]
      have HR : Hid ((decide (sk = k) && decide (sn = name)) = true) := by unfold Hid; simp [h1, h2]
      rw [HR.out]
      clear h1 h2 HR
      go_enter Tryd.func69, Tryd.ntmps69
      go_wp2_with fail
      go_quiet (fail)
      go_wp2_with fail
      go_ret
      exact ⟨rfl, nq, rfl⟩
    · have e2 : (sn.toList == name.toList) = false := by rw [str_eq]; exact decide_eq_false h2
      have e1 : (sk == k) = true := by simp [h1]
      have HR : Hid ((decide (sk = k) && decide (sn = name)) = false) := by unfold Hid; simp [h2]
      rw [HR.out]
      clear h1 h2 HR
      go_enter Tryd.func69, Tryd.ntmps69
      go_wp2_with fail
      go_quiet (fail)
      go_wp2_with fail
      go_ret
      exact ⟨rfl, nq, rfl⟩
  · have e1 : (sk == k) = false := by simp [h1]
    have HR : Hid ((decide (sk = k) && decide (sn = name)) = false) := by unfold Hid; simp [h1]
    rw [HR.out]
    clear h1 HR
    go_enter Tryd.func69, Tryd.ntmps69
    go_wp2_with fail
    go_quiet (fail)
    go_wp2_with fail
    go_ret
    exact ⟨rfl, nq, rfl⟩
theorem below_drew (w : World) (n : Nat) : Below w.heap.size w (w.drewN n) := ⟨rfl, rfl, rfl, Nat.le_refl _, fun _ _ => rfl⟩
theorem First.some_of {p : Nat → Bool} {n k : Nat} {r : Option Nat} (h : First p n r) (hk : k < n) (hp : p k = true) (hno : ∀ j, j < k → p j = false) : r = some k := by
  cases r with
  | none => have := h k hk; rw [hp] at this; cases this
  | some i =>
    obtain ⟨h1, h2, h3⟩ := h
    rcases Nat.lt_trichotomy i k with hlt | rfl | hgt
    · rw [hno i hlt] at h2; cases h2
    · rfl
    · rw [h3 k hgt] at hp; cases hp
theorem First.none_of {p : Nat → Bool} {n : Nat} {r : Option Nat} (h : First p n r) (hno : ∀ j, j < n → p j = false) : r = none := by
  cases r with
  | none => rfl
  | some i => obtain ⟨h1, h2, -⟩ := h; rw [hno i h1] at h2; cases h2
/-- slices.IndexFunc over streams. -/
theorem wo_indexS {w : World} {v : Value} {n : Nat} {gs : List Nat} (f : Nat) (caps : Array Value) (p : Nat → Bool) (r : Option Nat) (hrow : w.ownsRow 0 99 1 v n (ptrs gs)) (hc : ∀ (args : Array Value) (w : World), (callFunc f args).run Tryd.prog w = .ok (.enter f args) w)
    (hg : ∀ i, (h : i < gs.length) → ∀ wr, Below w.heap.size w wr → Calls Tryd.prog f (#[.pointer (some ⟨gs[i], 0, none⟩)] ++ caps) wr fun e w' => e = .returned (.bool (p i)) ∧ Below wr.heap.size wr w') (hr : First p gs.length r) (hn : n ≤ 1000000000) :
    Calls Tryd.prog 68 #[v, .func (.func f) #[] caps] w fun e w' => e = .returned (.int .i64 (ixV r)) ∧ Below w.heap.size w w' := by
  have hgn : gs.length = n := by have := hrow.1; simpa [ptrs] using this
  obtain ⟨A, cap, rfl, hc1, hc2⟩ := own_form hrow
  have HROW := Lib.hid hrow
  have HG := Lib.hid hg
  have HGN := Lib.hid hgn
  have HR := Lib.hid hr
  clear hrow hg hgn hr
  go_enter Tryd.func68, Tryd.ntmps68
  go_wp2_with fail
  go_loopw [8] (fun i wr => ∃ k : Nat, k ≤ n ∧ i = .int .i64 k ∧ (∀ j, j < k → p j = false) ∧ Below w.heap.size w wr) (fun i _ => n - (intOf i).toNat)
  case atStart => exact ⟨0, Nat.zero_le _, rfl, fun j h => by omega, Below.refl _ _⟩
  case round =>
    obtain ⟨k, hk, rfl, hno, hbr⟩ := hrel
    have HNO := Lib.hid hno
    have HBR := Lib.hid hbr
    clear hno
    by_cases hlt : k < n
    · have hkg : k < gs.length := by have := HGN.out; omega
      obtain ⟨g, cap', hv, -, -⟩ := ownBlock_form HROW.out (by omega)
      obtain ⟨rfl, -, -⟩ := Value.slice.inj hv
      have hcell : wr.cell? ⟨g, k, none⟩ = some (.pointer (some ⟨gs[k], 0, none⟩)) := by
        have := HROW.out.cellAt k (by omega)
        rw [hbr.cell (p := ⟨g, k, none⟩) (own_lt HROW.out rfl).choose_spec.2, this]
        simp [ptrs, hkg]
      have HGK := Lib.hid (HG.out k hkg wr hbr)
      have HFS := Lib.hid (fun h => First.some_of (p := p) HR.out hkg h HNO.out)
      clear hv hbr
      go_wp2_with fail
      refine (HGK.out).mono ?_
      rintro e w2 ⟨rfl, hb2⟩
      have HB2 := Lib.hid (HBR.out.trans (hb2.mono HBR.out.size))
      clear hb2 HGK hcell
      cases hp : p k
      · have HP := Lib.hid hp
        clear hp
        go_wp2_with fail
        go_roundw
        case rel => exact ⟨k + 1, by omega, by go_num, (fun j hj => by
          rcases Nat.lt_or_ge j k with h | h
          · exact HNO.out j h
          · obtain rfl : j = k := by omega
            exact HP.out), HB2.out⟩
        case measure => simp [intOf]; omega
      · have HK := Lib.hid (HFS.out hp)
        clear hp
        go_wp2_with fail
        go_ret
        exact ⟨ret_int (by rw [HK.out]; rfl), HB2.out⟩
    · have hkn : k = n := by omega
      have HK := Lib.hid (First.none_of (p := p) HR.out (fun j hj => HNO.out j (by have := HGN.out; omega)))
      clear hkn hbr
      go_wp2_with fail
      go_ret
      exact ⟨ret_int (by rw [HK.out]; rfl), HBR.out⟩
def findV (M : Mem) (st : St) (k : Int) (name : ByteArray) : Value := match find st k name with
  | some i => .pointer (some ⟨M.gs.getD i 0, 0, none⟩)
  | none => .pointer none
theorem wo_find {w : World} {F : Nat → Prop} {pb : Nat} {M : Mem} {st : St} (h : WAt w F pb M st) (k : Int) (name : ByteArray) (hn : st.opn.length ≤ 1000000000) :
    Calls Tryd.prog 38 #[.pointer (some ⟨pb, 0, none⟩), .int .u8 k, .string name] w fun e w' => e = .returned (findV M st k name) ∧ Below w.heap.size w w' := by
  have hF : First (fun i => hit k name (st.opn.getD i ⟨0, ⟨#[]⟩, ⟨#[]⟩⟩)) st.opn.length (find st k name) := first_find st.opn (hit k name) _ (fun i h => by simp [List.getD, h])
  have hlt := h.head.lt
  have H := Lib.hid h
  have HF := Lib.hid hF
  have HGL := Lib.hid h.gl
  have HB0 := Lib.hid ((((Below.refl w.heap.size w).alloc (Nat.le_refl _) (.cells #[.int .u8 k] 24))).alloc (by simp) (.cells #[.string name] 9))
  have HH := Lib.hid (h.pure HB0.out)
  have ca : ((w.alloc (.cells #[.int .u8 k] 24)).alloc (.cells #[.string name] 9)).cell? ⟨w.heap.size, 0, none⟩ = some (.int .u8 k) := (below_blk (Blk.new w 24 #[.int .u8 k]) ((Below.refl _ _).alloc (Nat.le_refl _) _) (by simp)).cell 0
  have cb : ((w.alloc (.cells #[.int .u8 k] 24)).alloc (.cells #[.string name] 9)).cell? ⟨w.heap.size + 1, 0, none⟩ = some (.string name) := by
    have := (Blk.new (w.alloc (.cells #[.int .u8 k] 24)) 9 #[.string name]).cell 0
    rw [show (w.alloc (.cells #[.int .u8 k] 24)).heap.size = w.heap.size + 1 by simp] at this
    exact this
  have CAB := Lib.hid (And.intro ca cb)
  have hsz : ((w.alloc (.cells #[.int .u8 k] 24)).alloc (.cells #[.string name] 9)).heap.size = w.heap.size + 2 := by simp
  have HSZ := Lib.hid hsz
  have c10 := HH.out.cell 10
  rw [show (wcells M st)[10]? = some M.vo from rfl] at c10
  clear h hF ca cb hsz
  go_enter Tryd.func38, Tryd.ntmps38
  go_wp2_with fail
  generalize (w.alloc (.cells #[.int .u8 k] 24)).alloc (.cells #[.string name] 9) = w1 at *
  refine (wo_indexS 69 _ (fun i => hit k name (st.opn.getD i ⟨0, ⟨#[]⟩, ⟨#[]⟩⟩)) (find st k name) HH.out.rowO enters_find (fun i hi wr hb => ?_) (by rw [HGL.out]; exact HF.out) hn).mono ?_
  · obtain ⟨g, hg, hB⟩ := HH.out.strm i (by rw [← HGL.out]; exact hi)
    obtain rfl : M.gs[i] = g := by rw [List.getElem?_eq_getElem hi] at hg; injection hg
    have hF := HH.out.flt _ (HH.out.fg _ (List.getElem_mem hi))
    have hi' : i < st.opn.length := by rw [← HGL.out]; exact hi
    refine (wo_find1 (s := st.opn[i]) (below_blk hB hb hF) ((hb.cell (p := ⟨_, 0, none⟩) (by have := HSZ.out; show w.heap.size < _; omega)).trans CAB.out.1) ((hb.cell (p := ⟨_, 0, none⟩) (by have := HSZ.out; show w.heap.size + 1 < _; omega)).trans CAB.out.2)).mono ?_
    rintro e w' ⟨rfl, n, rfl⟩
    exact ⟨by simp [List.getD, hi'], below_drew _ _⟩
  rintro e w2 ⟨rfl, hb2⟩
  have HH2 := Lib.hid (HH.out.pure hb2)
  have HB2 := Lib.hid (HB0.out.trans (hb2.mono HB0.out.size))
  have c11 := HH2.out.cell 10
  rw [show (wcells M st)[10]? = some M.vo from rfl] at c11
  clear c10 hb2
  cases hfi : find st k name with
  | none =>
    have HV : Hid (findV M st k name = .pointer none) := by unfold Hid findV; rw [hfi]
    clear hfi
    rw [show ixV none = -1 from rfl]
    go_wp2_with fail
    go_ret
    exact ⟨by rw [HV.out]; rfl, HB2.out⟩
  | some i =>
    have HV : Hid (findV M st k name = .pointer (some ⟨M.gs.getD i 0, 0, none⟩)) := by unfold Hid findV; rw [hfi]
    have hF := HF.out
    rw [hfi] at hF
    have hi : i < st.opn.length := hF.1
    clear hfi hF
    rw [show ixV (some i) = (i : Int) from rfl]
    obtain ⟨g, cap, hv, hc1, hc2⟩ := ownBlock_form HH2.out.rowO (by omega)
    rw [hv] at c11
    have hig : i < M.gs.length := by rw [HGL.out]; exact hi
    have hcell : w2.cell? ⟨g, i, none⟩ = some (.pointer (some ⟨M.gs.getD i 0, 0, none⟩)) := by
      have h := HH2.out.rowO
      rw [hv] at h
      rw [h.cellAt i (by omega)]
      simp [ptrs, hig, List.getD]
    have HIL := Lib.hid hi
    obtain ⟨N, hN⟩ : ∃ N, N = st.opn.length := ⟨_, rfl⟩
    rw [← hN] at c11 hi hn hc1
    clear hv hig hN
    go_wp2_with fail
    go_ret
    exact ⟨by rw [HV.out]; rfl, HB2.out⟩
end Go.Proofs.YtdbdmgmenojcaaaDoor
