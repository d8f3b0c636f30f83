/- A world: a script of calls that came in; the plain law of WorldLimits. -/
import Derived.Test.YtodjjnklelfgfaaG3
import Derived.Test.YtodjjnklelfgfaaG4
import Derived.Deep.Slices
import Derived.Test.YtodjjnklelfgfaaWld19
namespace Go.Proofs.Ytodjjnklelfgfaa
open Go.RowKit Go.ChangeShapes Go.WideShapes Go.Deep Wd

theorem add_offX (b o i : Nat) : (⟨b, o, none⟩ : Addr).add i = ⟨b, o + i, none⟩ := by unfold Addr.add; split <;> simp_all
structure Wd.OpV where
  kind : Int
  k : Int
  name : ByteArray
  data : ByteArray
  n : Int
def Ops (w : World) (B : Nat) (A : Option Addr) (n : Nat) (ops : List OpV) : Prop :=
  ops.length = n ∧ (∀ x ∈ ops, (Lit.int .i64 x.kind).wf = true ∧ (Lit.int .u8 x.k).wf = true ∧ x.name.size ≤ maxLen ∧ x.data.size ≤ maxLen ∧ (Lit.int .i64 x.n).wf = true) ∧ (0 < n → ∃ b o, A = some ⟨b, o, none⟩ ∧ b < B ∧ ∀ i, (hi : i < ops.length) → w.cell? ⟨b, o + i * 5, none⟩ = some (.int .i64 ops[i].kind) ∧ w.cell? ⟨b, o + i * 5 + 1, none⟩ = some (.int .u8 ops[i].k) ∧
    w.cell? ⟨b, o + i * 5 + 2, none⟩ = some (.string ops[i].name) ∧ w.cell? ⟨b, o + i * 5 + 3, none⟩ = some (.string ops[i].data) ∧ w.cell? ⟨b, o + i * 5 + 4, none⟩ = some (.int .i64 ops[i].n))
set_option maxRecDepth 100000 in
theorem op_open {H : Type} {enc : TypeId × Value → H} {w : World} {base : Nat} {spare : Nat → Bool} {held : Bool} {fuel : Nat} {cs : List Value} {x : DataW H × List MemPlace}
    (h : DataW.trod enc Try.prog w base spare held fuel 55 cs = some x) : ∃ op : OpV, ((Lit.int .i64 op.kind).wf = true ∧ (Lit.int .u8 op.k).wf = true ∧ op.name.size ≤ maxLen ∧ op.data.size ≤ maxLen ∧ (Lit.int .i64 op.n).wf = true) ∧ cs = [.int .i64 op.kind, .int .u8 op.k, .string op.name, .string op.data, .int .i64 op.n] := by
  obtain ⟨ys, n, hn, hy, hlen, hyl, hf⟩ := DataW.trod_struct Try.underlying55 h
  have hc5 : Try.prog.cellsOf 55 = 5 := by kernel_rfl
  rw [hc5] at hlen
  have k0 : Try.prog.cellsOf 3 = 1 := by kernel_rfl
  have k1 : Try.prog.cellsOf 9 = 1 := by kernel_rfl
  have k3 : Try.prog.cellsOf 28 = 1 := by kernel_rfl
  match cs, hlen, ys, hyl with
  | [v0, v1, v2, v3, v4], _, [y0, y1, y2, y3, y4], _ =>
    have e0 : DataW.trod enc Try.prog w base spare held n 3 (([v0, v1, v2, v3, v4].drop 0).take (Try.prog.cellsOf 3)) = some y0 := hf 0 _ rfl
    have e1 : DataW.trod enc Try.prog w base spare held n 28 (([v0, v1, v2, v3, v4].drop 1).take (Try.prog.cellsOf 28)) = some y1 := hf 1 _ rfl
    have e2 : DataW.trod enc Try.prog w base spare held n 9 (([v0, v1, v2, v3, v4].drop 2).take (Try.prog.cellsOf 9)) = some y2 := hf 2 _ rfl
    have e3 : DataW.trod enc Try.prog w base spare held n 9 (([v0, v1, v2, v3, v4].drop 3).take (Try.prog.cellsOf 9)) = some y3 := hf 3 _ rfl
    have e4 : DataW.trod enc Try.prog w base spare held n 3 (([v0, v1, v2, v3, v4].drop 4).take (Try.prog.cellsOf 3)) = some y4 := hf 4 _ rfl
    rw [k0] at e0 e4
    rw [k3] at e1
    rw [k1] at e2 e3
    obtain ⟨m0, a0, -, h0⟩ := DataW.trod_int Try.underlying3 e0
    obtain ⟨m1, a1, -, h1⟩ := DataW.trod_int Try.underlying28 e1
    obtain ⟨m2, a2, -, h2⟩ := DataW.trod_string Try.underlying9 e2
    obtain ⟨m3, a3, -, h3⟩ := DataW.trod_string Try.underlying9 e3
    obtain ⟨m4, a4, -, h4⟩ := DataW.trod_int Try.underlying3 e4
    simp at a0 a1 a2 a3 a4
    subst a0 a1 a2 a3 a4
    exact ⟨⟨m0, m1, m2, m3, m4⟩, ⟨h0, h1, h2, h3, h4⟩, rfl⟩
set_option maxRecDepth 100000 in
theorem ops_open {H : Type} {enc : TypeId × Value → H} {w : World} {base : Nat} {v : Value} {d : DataW H} {p : List MemPlace} {spare : Nat → Bool} {held : Bool} {r}
    (hval : Value.okWide Try.prog w r base 43 v) (k : DataW.Trod enc Try.prog w 0 spare held 43 v d p) :
    ∃ A n cap xs, v = .slice A n cap ∧ Ops w w.heap.size A n xs ∧ n ≤ cap ∧ cap ≤ maxLen := by
  obtain ⟨a0, len0, cap0, rfl⟩ := okWide_slice Try.underlying43 hval
  obtain ⟨fuel, hf⟩ := k
  have hc5 : Try.prog.cellsOf 55 = 5 := by kernel_rfl
  rcases open_slice Try.underlying43 (by simpa [Value.cells] using hf) with ⟨hcs, _⟩ | ⟨a, len, cap, m, n, D, Pl, hcs, hb, hl, hm, hmm, hx, hi⟩
  · simp at hcs
    obtain ⟨rfl, rfl, rfl⟩ := hcs
    exact ⟨_, _, _, [], rfl, ⟨rfl, by simp, fun h => by omega⟩, Nat.le_refl _, by unfold maxLen; omega⟩
  · simp at hcs
    obtain ⟨rfl, rfl, rfl⟩ := hcs
    have hlen : len0 ≤ m := by rw [hmm]; split <;> omega
    rw [hc5] at hi
    have each : ∀ i, i < len0 → ∃ op : OpV, ((Lit.int .i64 op.kind).wf = true ∧ (Lit.int .u8 op.k).wf = true ∧ op.name.size ≤ maxLen ∧ op.data.size ≤ maxLen ∧ (Lit.int .i64 op.n).wf = true) ∧ w.cells? 0 (a.add (i * 5)) 5 = some [.int .i64 op.kind, .int .u8 op.k, .string op.name, .string op.data, .int .i64 op.n] := fun i h => by
      obtain ⟨cs', h1, h2⟩ := hi i (by omega)
      obtain ⟨op, h3, rfl⟩ := op_open h2
      exact ⟨op, h3, h1⟩
    refine ⟨_, _, _, (List.range len0).attach.map (fun i => (each i.1 (List.mem_range.1 i.2)).choose), rfl, ⟨by simp, fun x hx => ?_, fun hn => ?_⟩, hl, hm⟩
    · simp only [List.mem_map] at hx
      obtain ⟨i, -, rfl⟩ := hx
      exact (each i.1 (List.mem_range.1 i.2)).choose_spec.1
    obtain ⟨b, o, s⟩ := a
    obtain ⟨op0, -, h0⟩ := each 0 hn
    have h0' := (World.cells?_some h0).2.2 0 (by omega)
    have hs : s = none := by simpa [Addr.add] using World.cell?_spot (h0'.trans rfl)
    subst hs
    have hlt : b < w.heap.size := by
      simp only [Nat.zero_mul, add_offX, Nat.add_zero] at h0'
      by_cases h : b < w.heap.size
      · exact h
      · simp [World.cell?, Array.getElem?_eq_none (Nat.le_of_not_lt h)] at h0'
    refine ⟨b, o, rfl, hlt, fun i hi' => ?_⟩
    have hi2 : i < len0 := by simpa using hi'
    have hg : ((List.range len0).attach.map (fun i => (each i.1 (List.mem_range.1 i.2)).choose))[i]'hi' = (each i hi2).choose := by simp
    rw [hg]
    have h1 := (each i hi2).choose_spec.2
    generalize (each i hi2).choose = op at h1 ⊢
    obtain ⟨-, -, h2⟩ := World.cells?_some h1
    have q0 := h2 0 (by omega)
    have q1 := h2 1 (by omega)
    have q2 := h2 2 (by omega)
    have q3 := h2 3 (by omega)
    have q4 := h2 4 (by omega)
    simp only [add_offX, Nat.add_zero] at q0 q1 q2 q3 q4
    exact ⟨q0.trans rfl, q1.trans rfl, q2.trans rfl, q3.trans rfl, q4.trans rfl⟩

namespace Wd
def opens (l : List Ev) : Nat := l.countP (fun e => e.k == 1)
def closes (l : List Ev) : Nat := l.countP (fun e => e.k == 3)
structure Fine (L : Int) (st : St) : Prop where
  lim : st.lim = L
  len : (st.opn.length : Int) ≤ L
  kind : ∀ m ∈ st.opn, 1 ≤ m.k ∧ m.k ≤ 5
  apart : st.opn.Pairwise (fun a b => ¬ (a.k = b.k ∧ a.name = b.name))
  bal : opens st.trace = closes st.trace + st.opn.length
theorem find_any (st : St) (k : Int) (name : ByteArray) : (find st k name).isSome = st.opn.any (hit k name) := by
  unfold find
  rw [List.findIdx?_isSome]
def cntL (l : List Sm) (name : ByteArray) : Nat → Nat
  | 0 => 0
  | n + 1 => (if l.any (hit ((n + 1 : Nat) : Int) name) then 1 else 0) + cntL l name n
theorem cnt_filter (name : ByteArray) : ∀ (l : List Sm), (∀ m ∈ l, 1 ≤ m.k ∧ m.k ≤ 5) → l.Pairwise (fun a b => ¬ (a.k = b.k ∧ a.name = b.name)) → cntL l name 5 = (l.filter (fun m => decide (m.name = name))).length := by
  intro l
  induction l with
  | nil => intro _ _; simp [cntL]
  | cons m l ih =>
    intro hk hp
    obtain ⟨hp1, hp2⟩ := List.pairwise_cons.1 hp
    have h0 := ih (fun x hx => hk x (List.mem_cons_of_mem _ hx)) hp2
    have hmk := hk m (List.mem_cons_self)
    by_cases hm : m.name = name
    · have hno : l.any (hit m.k name) = false := by
        rw [List.any_eq_false]
        intro x hx hh
        simp only [hit, Bool.and_eq_true, decide_eq_true_eq] at hh
        exact hp1 x hx ⟨hh.1.symm, by rw [hm, hh.2]⟩
      have step : ∀ n, cntL (m :: l) name n = cntL l name n + if 1 ≤ m.k ∧ m.k ≤ n then 1 else 0 := by
        intro n
        induction n with
        | zero => rw [if_neg (by omega)]; rfl
        | succ n ihn =>
          show (if (m :: l).any (hit ((n + 1 : Nat) : Int) name) then 1 else 0) + cntL (m :: l) name n = (if l.any (hit ((n + 1 : Nat) : Int) name) then 1 else 0) + cntL l name n + _
          rw [ihn, List.any_cons]
          by_cases e : m.k = ((n + 1 : Nat) : Int)
          · have e1 : hit ((n + 1 : Nat) : Int) name m = true := by simp [hit, e, hm]
            have hno' : l.any (hit ((n + 1 : Nat) : Int) name) = false := by rw [← e]; exact hno
            rw [e1, hno', Bool.true_or, if_pos rfl, if_neg (by decide : ¬ (false = true)), if_neg (show ¬ (1 ≤ m.k ∧ m.k ≤ (n : Int)) by omega), if_pos (show 1 ≤ m.k ∧ m.k ≤ ((n + 1 : Nat) : Int) by omega)]
            omega
          · have e1 : hit ((n + 1 : Nat) : Int) name m = false := by simp only [hit, decide_eq_false e, Bool.false_and]
            rw [e1, Bool.false_or]
            by_cases c : 1 ≤ m.k ∧ m.k ≤ (n : Int)
            · rw [if_pos c, if_pos (show 1 ≤ m.k ∧ m.k ≤ ((n + 1 : Nat) : Int) by omega)]
              omega
            · rw [if_neg c, if_neg (show ¬ (1 ≤ m.k ∧ m.k ≤ ((n + 1 : Nat) : Int)) by omega)]
              omega
      rw [step 5, h0, if_pos (show 1 ≤ m.k ∧ m.k ≤ ((5 : Nat) : Int) by omega), List.filter_cons, if_pos (by simp [hm])]
      rfl
    · have step : ∀ n, cntL (m :: l) name n = cntL l name n := by
        intro n
        induction n with
        | zero => rfl
        | succ n ihn =>
          show (if (m :: l).any _ then 1 else 0) + cntL (m :: l) name n = (if l.any _ then 1 else 0) + cntL l name n
          rw [ihn, List.any_cons, show hit ((n + 1 : Nat) : Int) name m = false by simp [hit, hm], Bool.false_or]
      rw [step 5, h0, List.filter_cons, if_neg (by simp [hm])]
theorem filter_two (l : List Sm) (q : Sm → Bool) : l.length = (l.filter q).length + (l.filter (fun m => !q m)).length := by
  induction l with
  | nil => rfl
  | cons m l ih => rw [List.filter_cons, List.filter_cons, List.length_cons, ih]; cases q m <;> simp <;> omega
theorem closeK_cnt (st : St) (name : ByteArray) (n : Nat) : opens (closeK st name n).1.trace = opens st.trace ∧ closes (closeK st name n).1.trace = closes st.trace + cntL st.opn name n ∧ ((closeK st name n).2.2 = decide (0 < cntL st.opn name n)) := by
  induction n with
  | zero => exact ⟨rfl, rfl, rfl⟩
  | succ n ih =>
    obtain ⟨h1, h2, h3⟩ := ih
    have hc : cntL st.opn name (n + 1) = (if st.opn.any (hit ((n + 1 : Nat) : Int) name) then 1 else 0) + cntL st.opn name n := rfl
    unfold closeK
    rw [find_any, hc]
    by_cases ha : st.opn.any (hit ((n + 1 : Nat) : Int) name) = true
    · rw [if_pos ha, if_pos ha]
      refine ⟨?_, ?_, ?_⟩
      · show opens ((closeK st name n).1.trace ++ [_]) = _
        unfold opens at *
        rw [List.countP_append, h1]; rfl
      · show closes ((closeK st name n).1.trace ++ [_]) = _
        unfold closes at *
        rw [List.countP_append, h2]
        show _ + 1 = _
        omega
      · show true = _
        exact (decide_eq_true (by omega)).symm
    · rw [if_neg ha, if_neg ha, Nat.zero_add]
      exact ⟨h1, h2, h3⟩
theorem fine_close {lim : Int} {st : St} (h : Fine lim st) (name : ByteArray) : Fine lim (closeL st name).1 ∧ (closeL st name).2.2 = decide ((closeL st name).1.opn.length < st.opn.length) := by
  obtain ⟨c1, c2, c3⟩ := closeK_cnt st name 5
  have c4 := cnt_filter name st.opn h.kind h.apart
  have c5 := filter_two st.opn (fun m => decide (m.name = name))
  have c6 : (closeL st name).1.opn = st.opn.filter (fun m => !decide (m.name = name)) := rfl
  refine ⟨⟨?_, ?_, ?_, ?_, ?_⟩, ?_⟩
  · show (closeK st name 5).1.lim = lim
    rw [(closeK_same st name 5).1]; exact h.lim
  · rw [c6]; have := h.len; have := List.length_filter_le (fun m : Sm => !decide (m.name = name)) st.opn; omega
  · rw [c6]; intro m hm; exact h.kind m (List.mem_filter.1 hm).1
  · rw [c6]; exact h.apart.filter _
  · rw [c6]
    show opens (closeK st name 5).1.trace = closes (closeK st name 5).1.trace + _
    rw [c1, c2, h.bal, c4]; omega
  · rw [c6]
    show (closeK st name 5).2.2 = _
    rw [c3, c4]
    congr 1
    exact propext (by omega)
theorem fine_closed {lim : Int} {st st' : St} (h : Fine lim st) (hc : ClosedTo st st') : Fine lim st' := by
  induction hc with
  | refl => exact h
  | step _ _ ih => exact (fine_close ih _).1
theorem find_kind {lim : Int} {st : St} (h : Fine lim st) {k : Int} {name : ByteArray} (hk : k < 1 ∨ 5 < k) : (find st k name).isSome = false := by
  rw [find_any, List.any_eq_false]
  intro m hm hh
  simp only [hit, Bool.and_eq_true, decide_eq_true_eq] at hh
  have := h.kind m hm
  omega
theorem fine_open {lim : Int} {st : St} (h : Fine lim st) (k : Int) (name : ByteArray) :
    Fine lim (openL st k name).1 ∧ (k ≠ 6 → (find (openL st k name).1 k name).isSome = decide ((openL st k name).2 = 0)) ∧
      (decide ((openL st k name).1.opn.length = st.opn.length + 1) = (decide ((openL st k name).2 = 0) && !(decide (k = 6) || (find st k name).isSome))) := by
  unfold openL
  by_cases hA : k < 1 ∨ 5 < k
  · rw [if_pos hA]
    exact ⟨h, fun _ => by rw [find_kind h hA]; rfl, by simp⟩
  · rw [if_neg hA]
    by_cases hf : (find st k name).isSome = true
    · rw [if_pos hf]
      exact ⟨h, fun _ => by rw [hf]; rfl, by simp [hf]⟩
    · rw [if_neg hf]
      have hf' : (find st k name).isSome = false := by simpa using hf
      by_cases hL : st.lim ≤ st.opn.length
      · rw [if_pos hL]
        exact ⟨h, fun _ => by rw [hf']; rfl, by simp⟩
      · rw [if_neg hL]
        by_cases hE : failB st 1 name = true ∨ (k = 1 ∧ name ≠ minus ∧ (st.files name.data.toList).isSome = false)
        · rw [if_pos hE]
          exact ⟨h, fun _ => by rw [hf']; rfl, by simp⟩
        · rw [if_neg hE]
          have hno : st.opn.any (hit k name) = false := by rw [← find_any]; exact hf'
          refine ⟨⟨h.lim, ?_, ?_, ?_, ?_⟩, fun _ => ?_, ?_⟩
          · show (((st.opn ++ [_]).length : Nat) : Int) ≤ lim
            rw [List.length_append]
            have := h.lim
            show ((st.opn.length + 1 : Nat) : Int) ≤ lim
            omega
          · intro m hm
            rcases List.mem_append.1 (show m ∈ st.opn ++ [_] from hm) with hm | hm
            · exact h.kind m hm
            · rw [List.mem_singleton.1 hm]; show 1 ≤ k ∧ k ≤ 5; omega
          · show (st.opn ++ [_]).Pairwise _
            rw [List.pairwise_append]
            refine ⟨h.apart, List.pairwise_singleton _ _, fun a ha b hb => ?_⟩
            rw [List.mem_singleton.1 hb]
            rintro ⟨e1, e2⟩
            rw [List.any_eq_false] at hno
            exact hno a ha (by simp [hit, show a.k = k from e1, show a.name = name from e2])
          · show opens (st.trace ++ [_]) = closes (st.trace ++ [_]) + (st.opn ++ [_]).length
            have hb := h.bal
            unfold opens closes at *
            rw [List.countP_append, List.countP_append, List.length_append, hb]
            show _ + 1 = _ + 0 + (_ + 1)
            omega
          · rw [find_any]
            show (st.opn ++ [_]).any (hit k name) = true
            rw [List.any_append]
            simp [hit]
          · show decide ((st.opn ++ [_]).length = st.opn.length + 1) = _
            rw [hf', List.length_append]
            have : ¬ k = 6 := by omega
            simp [this]
theorem openL_trace (st : St) (k : Int) (name : ByteArray) : (openL st k name).1.trace.length ≤ st.trace.length + 1 ∧ (openL st k name).1.replies = st.replies ∧ (openL st k name).1.fails = st.fails := by
  unfold openL
  by_cases h1 : k < 1 ∨ 5 < k
  · rw [if_pos h1]; exact ⟨Nat.le_succ _, rfl, rfl⟩
  · rw [if_neg h1]
    by_cases h2 : (find st k name).isSome = true
    · rw [if_pos h2]; exact ⟨Nat.le_succ _, rfl, rfl⟩
    · rw [if_neg h2]
      by_cases h3 : st.lim ≤ st.opn.length
      · rw [if_pos h3]; exact ⟨Nat.le_succ _, rfl, rfl⟩
      · rw [if_neg h3]
        by_cases h4 : failB st 1 name = true ∨ (k = 1 ∧ name ≠ minus ∧ (st.files name.data.toList).isSome = false)
        · rw [if_pos h4]; exact ⟨Nat.le_succ _, rfl, rfl⟩
        · rw [if_neg h4]
          refine ⟨?_, rfl, rfl⟩
          show (st.trace ++ [_]).length ≤ _
          rw [List.length_append]
          exact Nat.le_refl _
theorem closeL_fails (st : St) (name : ByteArray) : (closeL st name).1.fails = st.fails := by show (closeK st name 5).1.fails = _; rw [(closeK_same st name 5).1]
end Wd
end Go.Proofs.Ytodjjnklelfgfaa
namespace Go.Proofs.Ytodjjnklelfgfaa
open Go.RowKit Wd
open Go.WideMaps Go.WideElems Go.WideAt
/-- A world made since w. -/
def PW (w w' : World) (pb m : Nat) (st : St) : Prop := ∃ M F, WAt w' F pb M st ∧ Below w.heap.size w w' ∧ (∀ g, F g → w.heap.size ≤ g) ∧ M.m ≤ m
theorem open_ok {st : St} {k : Int} {name : ByteArray} (h1 : 1 ≤ k ∧ k ≤ 5) (h2 : find st k name = none) (h3 : ¬ st.lim ≤ st.opn.length) (h4 : failB st 1 name = false) (h5 : k = 1 → name ≠ minus → (st.files name.data.toList).isSome = true) : openL st k name = (okSt st k name, 0) := by
  unfold openL
  rw [if_neg (by omega), h2, if_neg (by simp), if_neg h3, if_neg (by
    rintro (h | ⟨h, h', h''⟩)
    · rw [h4] at h; cases h
    · rw [h5 h h'] at h''; cases h'')]
  rfl
theorem plain_open {w w1 : World} {pb m : Nat} {st : St} (h : PW w w1 pb m st) (k : Int) (name : ByteArray) (hk : name.size ≤ maxLen) (ho : openL st k name = (okSt st k name, 0)) (hb : st.opn.length ≤ 9 ∧ st.trace.length ≤ 9 ∧ st.replies.length ≤ 9 ∧ st.fails.length ≤ 9 ∧ m ≤ 100) :
    Calls Try.prog 19 #[.pointer (some ⟨pb, 0, none⟩), .int .u8 k, .string name] w1 fun e w' => e = .returned (.int .i64 0) ∧ PW w w' pb (m + 1) (okSt st k name) := by
  obtain ⟨M, F, hW, hB, hF, hm⟩ := h
  refine (wo_open hW k name hk (by omega) (by omega) (by omega) (by omega) (by omega)).mono ?_
  rintro e w2 ⟨M', F', rfl, hW', ht, hF', hm'⟩
  rw [ho] at hW'
  rw [ho]
  refine ⟨rfl, M', F', hW', hB.trans (ht.below w.heap.size hB.size (fun k hk hf => by have := hF k hf; omega)), fun g hg => ?_, by omega⟩
  rcases hF' g hg with h | h
  · exact hF g h
  · have := hB.size; omega
def Wd.plain0 (file stdin reply : ByteArray) : St := ⟨9, 0, filesOf [(⟨#[102]⟩, file)], stdin, [], 0, [], [⟨⟨#[99]⟩, reply, 0⟩], []⟩
def Wd.plain1 (file stdin reply : ByteArray) : St := okSt (plain0 file stdin reply) 1 ⟨#[102]⟩
def Wd.plain2 (file stdin reply : ByteArray) : St := okSt (plain1 file stdin reply) 1 ⟨#[45]⟩
def Wd.plain3 (file stdin reply : ByteArray) : St := okSt (plain2 file stdin reply) 2 ⟨#[99]⟩
def Wd.plain4 (file stdin reply : ByteArray) : St := okSt (plain3 file stdin reply) 3 ⟨#[111]⟩
def Wd.plain5 (file stdin reply : ByteArray) : St := okSt (plain4 file stdin reply) 4 ⟨#[102]⟩
def Wd.plain6 (file stdin reply : ByteArray) : St := okSt (plain5 file stdin reply) 5 ⟨#[112]⟩
theorem plain_o1 (a b c : ByteArray) : openL (plain0 a b c) 1 ⟨#[102]⟩ = (plain1 a b c, 0) := open_ok (by omega) rfl (by show ¬ (9 : Int) ≤ 0; omega) rfl (fun _ _ => rfl)
theorem plain_o2 (a b c : ByteArray) : openL (plain1 a b c) 1 ⟨#[45]⟩ = (plain2 a b c, 0) := open_ok (by omega) rfl (by show ¬ (9 : Int) ≤ 1; omega) rfl (fun _ h => absurd rfl h)
theorem plain_o3 (a b c : ByteArray) : openL (plain2 a b c) 2 ⟨#[99]⟩ = (plain3 a b c, 0) := open_ok (by omega) rfl (by show ¬ (9 : Int) ≤ 2; omega) rfl (fun h => by omega)
theorem plain_o4 (a b c : ByteArray) : openL (plain3 a b c) 3 ⟨#[111]⟩ = (plain4 a b c, 0) := open_ok (by omega) rfl (by show ¬ (9 : Int) ≤ 3; omega) rfl (fun h => by omega)
theorem plain_o5 (a b c : ByteArray) : openL (plain4 a b c) 4 ⟨#[102]⟩ = (plain5 a b c, 0) := open_ok (by omega) rfl (by show ¬ (9 : Int) ≤ 4; omega) rfl (fun h => by omega)
theorem plain_o6 (a b c : ByteArray) : openL (plain5 a b c) 5 ⟨#[112]⟩ = (plain6 a b c, 0) := open_ok (by omega) rfl (by show ¬ (9 : Int) ≤ 5; omega) rfl (fun h => by omega)
set_option maxRecDepth 100000 in
set_option maxHeartbeats 8000000 in
theorem wo_plain (w : World) (file stdin reply : ByteArray) (h1 : file.size ≤ 300) :
    Calls Try.prog 9 #[.string file, .string stdin, .string reply] w fun e w' => ∃ pb, e = .returned (.pointer (some ⟨pb, 0, none⟩)) ∧ PW w w' pb 7 (plain6 file stdin reply) := by
  have HB1 := Lib.hid ((Below.refl w.heap.size w).alloc (Nat.le_refl _) (.cells #[.string ⟨#[102]⟩, .string file] 47))
  have hb2 := (Below.refl (w.alloc (.cells #[.string ⟨#[102]⟩, .string file] 47)).heap.size (w.alloc (.cells #[.string ⟨#[102]⟩, .string file] 47))).alloc (Nat.le_refl _) (.cells #[.string ⟨#[99]⟩, .string reply, .int .i64 0] 63)
  have HB2 := Lib.hid (HB1.out.trans (hb2.mono HB1.out.size))
  have HC := Lib.hid (below_blk (Blk.new w 47 #[.string ⟨#[102]⟩, .string file]) hb2 (by simp))
  have hR := Blk.new (w.alloc (.cells #[.string ⟨#[102]⟩, .string file] 47)) 63 #[.string ⟨#[99]⟩, .string reply, .int .i64 0]
  rw [show (w.alloc (.cells #[.string ⟨#[102]⟩, .string file] 47)).heap.size = w.heap.size + 1 by simp] at hR
  have HR := Lib.hid hR
  have HF := Lib.hid h1
  clear hR hb2 h1
  go_enter Try.func9, Try.ntmps9
  go_wp2_with fail
  generalize (w.alloc (.cells #[.string ⟨#[102]⟩, .string file] 47)).alloc (.cells #[.string ⟨#[99]⟩, .string reply, .int .i64 0] 63) = w1 at *
  refine (wo_newR (w := w1) (g := w.heap.size) (cap := 1) (vs := .slice (some ⟨w.heap.size + 1, 0, none⟩) 1 1) [(⟨#[102]⟩, file)] [⟨⟨#[99]⟩, reply, 0⟩] stdin 9 0 0 HC.out.lt ?_ (Nat.le_refl _) (Nat.le_of_ble_eq_true rfl) ?_ ?_ (by omega) ?_ (Nat.le_of_ble_eq_true rfl) ?_).mono ?_
  · intro i hi
    obtain rfl : i = 0 := by have : i < 1 := hi; omega
    exact ⟨HC.out.cell 0, HC.out.cell 1⟩
  · intro p hp
    simp at hp
    subst hp
    have := HF.out
    exact ⟨by show (1 : Nat) ≤ _; decide, by show file.size ≤ _; unfold maxLen; omega⟩
  · intro k hk
    obtain rfl : k = 0 := by have : k < 1 := hk; omega
    rfl
  · exact ⟨rfl, .inr ⟨_, 1, _, rfl, Nat.zero_le _, HR.out, Nat.le_refl _, by decide, rfl, rfl⟩⟩
  · intro k hk
    obtain rfl : k = 0 := by have : k < 1 := hk; omega
    rfl
  rintro e w2 ⟨pb, M, F, rfl, h2, hb2, hF2, hm2⟩
  have HP0 : Hid (PW w w2 pb 1 (plain0 file stdin reply)) := ⟨M, F, h2, HB2.out.trans (hb2.mono HB2.out.size), fun g hg => Nat.le_trans HB2.out.size (hF2 g hg), hm2⟩
  clear h2 hb2 hF2 hm2
  go_wp2_with fail
  refine (plain_open HP0.out 1 ⟨#[102]⟩ (by decide) (plain_o1 _ _ _) (by refine ⟨?_, ?_, ?_, ?_, ?_⟩ <;> exact Nat.le_of_ble_eq_true rfl)).mono ?_
  rintro e w3 ⟨rfl, hp⟩
  have HP1 := Lib.hid hp
  clear hp
  go_wp2_with fail
  refine (plain_open HP1.out 1 ⟨#[45]⟩ (by decide) (plain_o2 _ _ _) (by refine ⟨?_, ?_, ?_, ?_, ?_⟩ <;> exact Nat.le_of_ble_eq_true rfl)).mono ?_
  rintro e w4 ⟨rfl, hp⟩
  have HP2 := Lib.hid hp
  clear hp
  go_wp2_with fail
  refine (plain_open HP2.out 2 ⟨#[99]⟩ (by decide) (plain_o3 _ _ _) (by refine ⟨?_, ?_, ?_, ?_, ?_⟩ <;> exact Nat.le_of_ble_eq_true rfl)).mono ?_
  rintro e w5 ⟨rfl, hp⟩
  have HP3 := Lib.hid hp
  clear hp
  go_wp2_with fail
  refine (plain_open HP3.out 3 ⟨#[111]⟩ (by decide) (plain_o4 _ _ _) (by refine ⟨?_, ?_, ?_, ?_, ?_⟩ <;> exact Nat.le_of_ble_eq_true rfl)).mono ?_
  rintro e w6 ⟨rfl, hp⟩
  have HP4 := Lib.hid hp
  clear hp
  go_wp2_with fail
  refine (plain_open HP4.out 4 ⟨#[102]⟩ (by decide) (plain_o5 _ _ _) (by refine ⟨?_, ?_, ?_, ?_, ?_⟩ <;> exact Nat.le_of_ble_eq_true rfl)).mono ?_
  rintro e w7 ⟨rfl, hp⟩
  have HP5 := Lib.hid hp
  clear hp
  go_wp2_with fail
  refine (plain_open HP5.out 5 ⟨#[112]⟩ (by decide) (plain_o6 _ _ _) (by refine ⟨?_, ?_, ?_, ?_, ?_⟩ <;> exact Nat.le_of_ble_eq_true rfl)).mono ?_
  rintro e w8 ⟨rfl, hp⟩
  have HP6 := Lib.hid hp
  clear hp
  go_wp2_with fail
  go_ret
  exact ⟨pb, rfl, HP6.out⟩
end Go.Proofs.Ytodjjnklelfgfaa
namespace Go.Proofs.Ytodjjnklelfgfaa
open Go.RowKit Wd
open Go.WideMaps Go.WideElems Go.WideAt

def Wd.setAtL (l : List Sm) (i : Nat) (left : ByteArray) : List Sm := l.set i { l.getD i smZero with left := left }
/-- What Read gives, and the world then. -/
def Wd.cutN (n : Int) (s : ByteArray) : Nat := min n.toNat s.size
def Wd.readL (st : St) (k : Int) (name : ByteArray) (n : Int) : St × ByteArray × Int :=
  if ¬ (k = 1 ∨ k = 2) then (st, ⟨#[]⟩, 16)
  else match find st k name with
  | none => (st, ⟨#[]⟩, 16)
  | some i =>
    if n < 1 then (st, ⟨#[]⟩, 2)
    else if failB st 2 name then (st, ⟨#[]⟩, 13)
    else if k = 1 ∧ name = minus then ({ st with stdin := st.stdin.extract (cutN n st.stdin) st.stdin.size }, st.stdin.extract 0 (cutN n st.stdin), 0)
    else ({ st with opn := setAtL st.opn i ((st.opn.getD i smZero).left.extract (cutN n (st.opn.getD i smZero).left) (st.opn.getD i smZero).left.size) }, (st.opn.getD i smZero).left.extract 0 (cutN n (st.opn.getD i smZero).left), 0)
/-- One cell of the world's own, set. -/
theorem WAt.setHead {w : World} {F : Nat → Prop} {pb : Nat} {M : Mem} {st st' : St} (h : WAt w F pb M st) (i : Nat) (v : Value) (hc : (wcells M st).setIfInBounds i v = wcells M st') (h1 : st'.files = st.files) (h2 : st'.opn = st.opn) (h3 : st'.trace = st.trace) (h4 : st'.replies = st.replies) (h5 : st'.fails = st.fails) :
    WAt (w.setCell ⟨pb, i, none⟩ v) F pb M st' ∧ Tur F w (w.setCell ⟨pb, i, none⟩ v) := by
  have ht : Tur (· = pb) w (w.setCell ⟨pb, i, none⟩ v) := Tur.of_set ⟨pb, i, none⟩ v
  have hrow : ∀ (u : Value) (t : TypeId) (sz n : Nat) (cs : List Value), w.ownsRow 0 t sz u n cs → t ≠ 84 → ∀ k, u.ownBlock = some k → ¬ k = pb := by
    intro u t sz n cs hr ht2 k hk e
    obtain ⟨cur, hc, -⟩ := own_lt hr hk
    exact cells_ne hc h.head ht2 e
  refine ⟨?_, ht.mono (fun k _ e => by rw [e]; exact h.fp)⟩
  exact {
    flt := fun k hk => Nat.lt_of_lt_of_le (h.flt k hk) ht.size
    fp := h.fp
    fm := h.fm
    fo := h.fo
    ft := h.ft
    fr := h.fr
    ff := h.ff
    fg := h.fg
    head := by have := h.head.set i v; rw [hc] at this; exact this
    map := by rw [h1]; exact h.map' ht (fun e => map_ne h.head h.map e.symm)
    rowO := by rw [h2]; exact h.rowO' ht (hrow _ _ _ _ _ h.rowO (by decide))
    strm := by rw [h2]; exact h.strm' ht (fun k hk => by obtain ⟨cs, hc⟩ := h.gsAt hk; exact fun e => cells_ne hc h.head (by decide) e)
    nd := h.nd
    rowT := by rw [h3]; exact h.rowT' ht (hrow _ _ _ _ _ h.rowT (by decide))
    rowR := by rw [h4]; exact h.rowR' ht (hrow _ _ _ _ _ h.rowR (by decide))
    rowF := by rw [h5]; exact h.rowF' ht (hrow _ _ _ _ _ h.rowF (by decide)) }
/-- What a stream still gives, set. -/
theorem WAt.setLeft {w : World} {F : Nat → Prop} {pb : Nat} {M : Mem} {st : St} (h : WAt w F pb M st) (i : Nat) (hi : i < st.opn.length) (left : ByteArray) :
    WAt (w.setCell ⟨M.gs.getD i 0, 2, none⟩ (.string left)) F pb M { st with opn := setAtL st.opn i left } ∧ Tur F w (w.setCell ⟨M.gs.getD i 0, 2, none⟩ (.string left)) := by
  have hig : i < M.gs.length := by rw [h.gl]; exact hi
  obtain ⟨g, hg, hB⟩ := h.strm i hi
  have hgd : M.gs.getD i 0 = g := by simp [List.getD, hg]
  rw [hgd]
  have hgm : g ∈ M.gs := List.mem_of_getElem? hg
  have ht : Tur (· = g) w (w.setCell ⟨g, 2, none⟩ (.string left)) := Tur.of_set ⟨g, 2, none⟩ _
  have hrow : ∀ (u : Value) (t : TypeId) (sz n : Nat) (cs : List Value), w.ownsRow 0 t sz u n cs → t ≠ 93 → ∀ k, u.ownBlock = some k → ¬ k = g := by
    intro u t sz n cs hr ht2 k hk e
    obtain ⟨cur, hc, -⟩ := own_lt hr hk
    exact cells_ne hc hB ht2 e
  refine ⟨?_, ht.mono (fun k _ e => by rw [e]; exact h.fg g hgm)⟩
  exact {
    flt := fun k hk => Nat.lt_of_lt_of_le (h.flt k hk) ht.size
    fp := h.fp
    fm := h.fm
    fo := h.fo
    ft := h.ft
    fr := h.fr
    ff := h.ff
    fg := h.fg
    head := h.head' ht (fun e => cells_ne h.head hB (by decide) e)
    map := h.map' ht (fun e => map_ne hB h.map e.symm)
    rowO := by
      show World.ownsRow _ 0 88 1 M.vo (setAtL st.opn i left).length _
      rw [show (setAtL st.opn i left).length = st.opn.length by simp [setAtL]]
      exact h.rowO' ht (hrow _ _ _ _ _ h.rowO (by decide))
    strm := fun j hj => by
      have hj' : j < st.opn.length := by simpa [setAtL] using hj
      obtain ⟨gj, hgj, hBj⟩ := h.strm j hj'
      refine ⟨gj, hgj, ?_⟩
      show Blk _ gj _ ((setAtL st.opn i left)[j]'hj).cells
      by_cases e : j = i
      · subst e
        rw [hg] at hgj
        injection hgj with hgj
        subst hgj
        have hs := hB.set 2 (.string left)
        simp only [setAtL, List.getElem_set_self]
        have e2 : st.opn.getD j smZero = st.opn[j] := by simp [List.getD, hj']
        rw [e2]
        exact hs
      · have hne : gj ≠ g := by
          intro e2
          have h1 : M.gs[j]? = M.gs[i]? := by rw [hgj, hg, e2]
          exact e ((List.getElem?_inj (by rw [h.gl]; exact hj') h.nd).1 h1)
        simp only [setAtL, List.getElem_set_ne (Ne.symm e)]
        exact hBj.keep ht hne
    nd := h.nd
    rowT := h.rowT' ht (hrow _ _ _ _ _ h.rowT (by decide))
    rowR := h.rowR' ht (hrow _ _ _ _ _ h.rowR (by decide))
    rowF := h.rowF' ht (hrow _ _ _ _ _ h.rowF (by decide)) }
end Go.Proofs.Ytodjjnklelfgfaa
namespace Go.Proofs.Ytodjjnklelfgfaa
open Go.RowKit Wd
open Go.WideMaps Go.WideElems Go.WideAt
set_option maxRecDepth 20000 in
set_option maxHeartbeats 4000000 in
theorem wo_read_in {w : World} {F : Nat → Prop} {pb : Nat} {M : Mem} {st : St} (h : WAt w F pb M st) (q : Nat) (hno : st.opn.length ≤ 1000000000) (hnf : st.fails.length ≤ 1000000000) (hn : q ≤ 1000000000) (hq1 : ¬ (q : Int) < 1)
    (hs1 : st.stdin.size ≤ 4294967296) (i : Nat) (hf : find st 1 minus = some i) (hfl : failB st 2 minus = false) :
    Calls Try.prog 11 #[.pointer (some ⟨pb, 0, none⟩), .int .u8 1, .string minus, .int .i64 q] w fun e w' => e = .returned (.tuple #[.string (st.stdin.extract 0 (cutN q st.stdin)), .int .i64 0]) ∧ WAt w' F pb M { st with stdin := st.stdin.extract (cutN q st.stdin) st.stdin.size } ∧ Tur F w w' := by
  have H := Lib.hid h
  clear h
  have hi : i < st.opn.length := (List.findIdx?_eq_some_iff_getElem.1 hf).1
  have HFV : Hid (findV M st 1 minus = .pointer (some ⟨M.gs.getD i 0, 0, none⟩)) := by unfold Hid findV; rw [hf]
  have HFB := Lib.hid hfl
  obtain ⟨g, hgd⟩ : ∃ g, M.gs.getD i 0 = g := ⟨_, rfl⟩
  rw [hgd] at HFV
  obtain ⟨s, hs⟩ : ∃ s, s = st.stdin := ⟨_, rfl⟩
  have HSS := Lib.hid hs
  rw [← hs] at hs1 ⊢
  obtain ⟨c, hc⟩ : ∃ c, c = cutN q s := ⟨_, rfl⟩
  have hmin : ((q : Int) ≤ (s.size : Int) ∧ c = q) ∨ ((s.size : Int) < (q : Int) ∧ c = s.size) := by
    rw [hc]
    unfold cutN
    rcases Nat.lt_or_ge s.size q with h | h
    · right; exact ⟨by omega, by simp; omega⟩
    · left; exact ⟨by omega, by simp; omega⟩
  rw [← hc]
  have hnb : (minus.toList == [45]) = true := by rw [minus_list]; simp
  obtain ⟨nm, hnm⟩ : ∃ nm, nm = minus := ⟨_, rfl⟩
  rw [← hnm] at HFV HFB hnb ⊢
  have hcs : c ≤ s.size := by rcases hmin with h | h <;> omega
  clear hs hf hfl hgd hc hnm
  go_enter Try.func11, Try.ntmps11
  go_wp2_with fail
  refine (wo_none H.out).mono ?_
  rintro e w2 ⟨rfl, rfl⟩
  go_wp2_with fail
  refine (wo_find H.out _ nm hno).mono ?_
  rintro e w1 ⟨rfl, hb1⟩
  rw [HFV.out]
  have H1 := Lib.hid (H.out.pure hb1)
  have HT1 := Lib.hid (Tur.of_gr (F := F) hb1)
  clear hb1
  go_wp2_with fail
  refine (wo_fail H1.out 2 nm hnf).mono ?_
  rintro e w3 ⟨rfl, hb3⟩
  rw [HFB.out]
  have H3 := Lib.hid (H1.out.pure hb3)
  have HT3 := Lib.hid (HT1.out.trans (Tur.of_gr (F := F) hb3) (fun _ _ e => e))
  clear hb3
  have c9 : w3.cell? ⟨pb, 9, none⟩ = some (.string s) := HSS.out ▸ H3.out.cell 9
  have f9 := H3.out.free 9
  have hcs2 : (c : Int) ≤ (s.size : Int) := by omega
  have hc0 : (0 : Int) ≤ (c : Int) := by omega
  have HST := Lib.hid (H3.out.setHead (st' := { st with stdin := s.extract c s.size }) 9 (.string (s.extract c s.size)) (by rfl) rfl rfl rfl rfl rfl)
  have hmin2 : (c = q ∧ (q : Int) ≤ (s.size : Int)) ∨ (c = s.size ∧ ¬ (q : Int) ≤ (s.size : Int)) := by omega
  clear hmin
  rcases hmin2 with ⟨rfl, hm⟩ | ⟨rfl, hm⟩
  all_goals
    go_wp2_with fail
    go_ret2
    first
      | exact ⟨rfl, HST.out.1, HT3.out.trans HST.out.2 (fun _ _ e => e)⟩
      | (have he : s.extract s.size s.size = ByteArray.empty := by simp
         have h2 := HST.out
         rw [he] at h2 ⊢
         exact ⟨by first | rfl | (rw [show s.extract 0 s.size = s by simp]; rfl), h2.1, HT3.out.trans h2.2 (fun _ _ e => e)⟩)
set_option maxRecDepth 20000 in
set_option maxHeartbeats 4000000 in
theorem wo_read_st {w : World} {F : Nat → Prop} {pb : Nat} {M : Mem} {st : St} (h : WAt w F pb M st) (k : Int) (nm : ByteArray) (q : Nat) (hk : k = 1 ∨ k = 2) (hin : ¬ (k = 1 ∧ nm = minus)) (hno : st.opn.length ≤ 1000000000) (hnf : st.fails.length ≤ 1000000000) (hn : q ≤ 1000000000) (hq1 : ¬ (q : Int) < 1)
    (i : Nat) (hf : find st k nm = some i) (hfl : failB st 2 nm = false) (s : ByteArray) (hs : s = (st.opn.getD i smZero).left) (hs1 : s.size ≤ 4294967296) :
    Calls Try.prog 11 #[.pointer (some ⟨pb, 0, none⟩), .int .u8 k, .string nm, .int .i64 q] w fun e w' => e = .returned (.tuple #[.string (s.extract 0 (cutN q s)), .int .i64 0]) ∧ WAt w' F pb M { st with opn := setAtL st.opn i (s.extract (cutN q s) s.size) } ∧ Tur F w w' := by
  have H := Lib.hid h
  clear h
  have hi : i < st.opn.length := (List.findIdx?_eq_some_iff_getElem.1 hf).1
  have HFV : Hid (findV M st k nm = .pointer (some ⟨M.gs.getD i 0, 0, none⟩)) := by unfold Hid findV; rw [hf]
  have HFB := Lib.hid hfl
  obtain ⟨g, hgd⟩ : ∃ g, M.gs.getD i 0 = g := ⟨_, rfl⟩
  rw [hgd] at HFV
  have HGD := Lib.hid hgd
  have HSE := Lib.hid hs
  have HII := Lib.hid hi
  obtain ⟨c, hc⟩ : ∃ c, c = cutN q s := ⟨_, rfl⟩
  have hmin : ((q : Int) ≤ (s.size : Int) ∧ c = q) ∨ ((s.size : Int) < (q : Int) ∧ c = s.size) := by
    rw [hc]
    unfold cutN
    rcases Nat.lt_or_ge s.size q with h | h
    · right; exact ⟨by omega, by simp; omega⟩
    · left; exact ⟨by omega, by simp; omega⟩
  rw [← hc]
  have hcs : c ≤ s.size := by rcases hmin with h | h <;> omega
  have hnb9 : k = 1 → (nm.toList == [45]) = false ∧ ¬ nm.toList = [45] := fun h => by
    have h2 : ¬ nm = minus := fun e => hin ⟨h, e⟩
    have h3 : (nm.toList == minus.toList) = false := by rw [str_eq]; exact decide_eq_false h2
    rw [minus_list] at h3
    exact ⟨h3, beq_eq_false_iff_ne.1 h3⟩
  have hk9 : (k = 1 ∧ (nm.toList == [45]) = false ∧ ¬ nm.toList = [45]) ∨ (k = 2 ∧ True ∧ True) := by
    rcases hk with h | h
    · exact .inl ⟨h, hnb9 h⟩
    · exact .inr ⟨h, trivial, trivial⟩
  clear hs hf hfl hgd hc hk hin hi hnb9
  rcases hk9 with ⟨rfl, hnb, hnb2⟩ | ⟨rfl, -, -⟩
  all_goals
    go_enter Try.func11, Try.ntmps11
    go_wp2_with fail
    refine (wo_none H.out).mono ?_
    rintro e w2 ⟨rfl, rfl⟩
    go_wp2_with fail
    refine (wo_find H.out _ nm hno).mono ?_
    rintro e w1 ⟨rfl, hb1⟩
    rw [HFV.out]
    have H1 := Lib.hid (H.out.pure hb1)
    have HT1 := Lib.hid (Tur.of_gr (F := F) hb1)
    clear hb1
    go_wp2_with fail
    refine (wo_fail H1.out 2 nm hnf).mono ?_
    rintro e w3 ⟨rfl, hb3⟩
    rw [HFB.out]
    have H3 := Lib.hid (H1.out.pure hb3)
    have HT3 := Lib.hid (HT1.out.trans (Tur.of_gr (F := F) hb3) (fun _ _ e => e))
    clear hb3
    have hst := H3.out.strm i HII.out
    have hst2 : Blk w3 g 93 (Sm.cells ⟨(st.opn.getD i smZero).k, (st.opn.getD i smZero).name, s⟩) := by
      obtain ⟨g', hg', hB⟩ := hst
      have e1 : g' = g := by rw [← HGD.out]; simp [List.getD, hg']
      have e2 : st.opn.getD i smZero = st.opn[i]'HII.out := by have := HII.out; simp [List.getD, this]
      rw [HSE.out, e2, ← e1]
      exact hB
    have c9 : w3.cell? ⟨g, 2, none⟩ = some (.string s) := hst2.cell 2
    have f9 := hst2.free 2
    have hcs2 : (c : Int) ≤ (s.size : Int) := by omega
    have hc0 : (0 : Int) ≤ (c : Int) := by omega
    have hsl := H3.out.setLeft i HII.out (s.extract c s.size)
    rw [HGD.out] at hsl
    have HST := Lib.hid hsl
    have hmin2 : (c = q ∧ (q : Int) ≤ (s.size : Int)) ∨ (c = s.size ∧ ¬ (q : Int) ≤ (s.size : Int)) := by omega
    clear hmin hst hst2 hsl
    rcases hmin2 with ⟨rfl, hm⟩ | ⟨rfl, hm⟩
    all_goals
      go_wp2_with fail
      go_ret2
      first
        | exact ⟨rfl, HST.out.1, HT3.out.trans HST.out.2 (fun _ _ e => e)⟩
        | (have he : s.extract s.size s.size = ByteArray.empty := by simp
           have h2 := HST.out
           rw [he] at h2 ⊢
           exact ⟨by first | rfl | (rw [show s.extract 0 s.size = s by simp]; rfl), h2.1, HT3.out.trans h2.2 (fun _ _ e => e)⟩)
end Go.Proofs.Ytodjjnklelfgfaa
namespace Go.Proofs.Ytodjjnklelfgfaa
open Go.RowKit Wd
open Go.WideMaps Go.WideElems Go.WideAt
set_option maxRecDepth 20000 in
set_option maxHeartbeats 4000000 in
theorem wo_write_none {w : World} {F : Nat → Prop} {pb : Nat} {M : Mem} {st : St} (h : WAt w F pb M st) (k : Int) (nm data : ByteArray) (hno : st.opn.length ≤ 1000000000) (hnf : st.fails.length ≤ 1000000000) (hnt : st.trace.length ≤ 1000000000)
    (i : Nat) (hf : find st k nm = some i) (hfl : failB st 3 nm = false) (hk : k = 3 ∨ k = 4 ∨ k = 5) (hd : data.size = 0) :
    Calls Try.prog 12 #[.pointer (some ⟨pb, 0, none⟩), .int .u8 k, .string nm, .string data] w fun e w' => e = .returned (.int .i64 0) ∧ WAt w' F pb M st ∧ Tur F w w' := by
  have H := Lib.hid h
  clear h
  have HFV : Hid (findV M st k nm = .pointer (some ⟨M.gs.getD i 0, 0, none⟩)) := by unfold Hid findV; rw [hf]
  have HFB := Lib.hid hfl
  generalize M.gs.getD i 0 = g at *
  clear hf hfl
  have hde : data = ⟨#[]⟩ := bytes_ext (data_nil hd)
  subst hde
  clear hd
  rcases hk with rfl | rfl | rfl
  all_goals
    go_enter Try.func12, Try.ntmps12
    go_wp2_with fail
    refine (wo_none H.out).mono ?_
    rintro e w2 ⟨rfl, rfl⟩
    go_wp2_with fail
    refine (wo_find H.out _ nm hno).mono ?_
    rintro e w1 ⟨rfl, hb1⟩
    rw [HFV.out]
    have H1 := Lib.hid (H.out.pure hb1)
    have HT1 := Lib.hid (Tur.of_gr (F := F) hb1)
    clear hb1
    go_wp2_with fail
    refine (wo_fail H1.out 3 nm hnf).mono ?_
    rintro e w3 ⟨rfl, hb3⟩
    rw [HFB.out]
    have H3 := Lib.hid (H1.out.pure hb3)
    have HT3 := Lib.hid (HT1.out.trans (Tur.of_gr (F := F) hb3) (fun _ _ e => e))
    clear hb3
    go_wp2_with fail
    go_ret
    exact ⟨rfl, H3.out, HT3.out⟩
set_option maxRecDepth 20000 in
set_option maxHeartbeats 4000000 in
theorem wo_write_pipe {w : World} {F : Nat → Prop} {pb : Nat} {M : Mem} {st : St} (h : WAt w F pb M st) (k : Int) (nm data : ByteArray) (hno : st.opn.length ≤ 1000000000) (hnf : st.fails.length ≤ 1000000000) (hnt : st.trace.length ≤ 1000000000)
    (i : Nat) (hf : find st k nm = some i) (hfl : failB st 3 nm = false) (hk : k = 5) (hd : data.size ≠ 0) :
    Calls Try.prog 12 #[.pointer (some ⟨pb, 0, none⟩), .int .u8 k, .string nm, .string data] w fun e w' => ∃ M' F', e = .returned (.int .i64 0) ∧ WAt w' F' pb M' (st.traced ⟨2, 5, nm, data, 0⟩) ∧ Tur F w w' ∧ (∀ g, F' g → F g ∨ w.heap.size ≤ g) ∧ M'.m = M.m := by
  have H := Lib.hid h
  clear h
  have HFV : Hid (findV M st k nm = .pointer (some ⟨M.gs.getD i 0, 0, none⟩)) := by unfold Hid findV; rw [hf]
  have HFB := Lib.hid hfl
  generalize M.gs.getD i 0 = g at *
  clear hf hfl
  have hde1 : (data.toList == []) = false := by
    have h := data_ne hd
    rw [ByteArray.toList_eq]
    exact beq_eq_false_iff_ne.2 h
  have hde2 : ¬ data.toList = [] := beq_eq_false_iff_ne.1 hde1
  subst hk
  go_enter Try.func12, Try.ntmps12
  go_wp2_with fail
  refine (wo_none H.out).mono ?_
  rintro e w2 ⟨rfl, rfl⟩
  go_wp2_with fail
  refine (wo_find H.out _ nm hno).mono ?_
  rintro e w1 ⟨rfl, hb1⟩
  rw [HFV.out]
  have H1 := Lib.hid (H.out.pure hb1)
  have HT1 := Lib.hid (Tur.of_gr (F := F) hb1)
  clear hb1
  go_wp2_with fail
  refine (wo_fail H1.out 3 nm hnf).mono ?_
  rintro e w3 ⟨rfl, hb3⟩
  rw [HFB.out]
  have H3 := Lib.hid (H1.out.pure hb3)
  have HT3 := Lib.hid (HT1.out.trans (Tur.of_gr (F := F) hb3) (fun _ _ e => e))
  clear hb3
  go_wp2_with fail
  refine (wo_event H3.out ⟨2, 5, nm, data, 0⟩ hnt).mono ?_
  rintro e w4 ⟨M4, F4, rfl, h4, t4, f4, m4, -⟩
  go_wp2_with fail
  go_ret
  exact ⟨M4, F4, rfl, h4, HT3.out.trans t4 (fun _ _ e => e), fun g e => (f4 g e).imp id (fun h => Nat.le_trans HT3.out.size h), m4⟩
set_option maxRecDepth 20000 in
set_option maxHeartbeats 4000000 in
theorem wo_write_file {w : World} {F : Nat → Prop} {pb : Nat} {M : Mem} {st : St} (h : WAt w F pb M st) (k : Int) (nm data : ByteArray) (hno : st.opn.length ≤ 1000000000) (hnf : st.fails.length ≤ 1000000000) (hnt : st.trace.length ≤ 1000000000)
    (i : Nat) (hf : find st k nm = some i) (hfl : failB st 3 nm = false) (hk : k = 3 ∨ k = 4) (hd : data.size ≠ 0) (hnm : nm.size ≤ maxLen) (hcat : ((st.files nm.data.toList).getD ⟨#[]⟩).size + data.size ≤ 4294967296) (hmm : M.m ≤ 1000000000) :
    Calls Try.prog 12 #[.pointer (some ⟨pb, 0, none⟩), .int .u8 k, .string nm, .string data] w fun e w' => ∃ M' F', e = .returned (.int .i64 0) ∧ WAt w' F' pb M' (({ st with files := setF st.files nm.data.toList ((st.files nm.data.toList).getD ⟨#[]⟩ ++ data) } : St).traced ⟨2, k, nm, data, 0⟩) ∧ Tur F w w' ∧ (∀ g, F' g → F g ∨ w.heap.size ≤ g) ∧ M'.m ≤ M.m + 1 := by
  have H := Lib.hid h
  clear h
  have HFV : Hid (findV M st k nm = .pointer (some ⟨M.gs.getD i 0, 0, none⟩)) := by unfold Hid findV; rw [hf]
  have HFB := Lib.hid hfl
  generalize M.gs.getD i 0 = g at *
  clear hf hfl
  have hde1 : (data.toList == []) = false := by
    have h := data_ne hd
    rw [ByteArray.toList_eq]
    exact beq_eq_false_iff_ne.2 h
  have hde2 : ¬ data.toList = [] := beq_eq_false_iff_ne.1 hde1
  have hmx : M.m < maxLen := by unfold maxLen; omega
  obtain ⟨old, hold⟩ : ∃ old, old = (st.files nm.data.toList).getD ⟨#[]⟩ := ⟨_, rfl⟩
  rw [← hold] at hcat ⊢
  have hsz : (old ++ data).size ≤ maxLen := by rw [ByteArray.size_append]; unfold maxLen; omega
  have HLK : Hid (((fun l => (st.files l).map Value.string) nm.data.toList).getD (.string ⟨#[]⟩) = .string old) := by
    unfold Hid
    show ((st.files nm.data.toList).map Value.string).getD _ = _
    rw [hold]
    cases st.files nm.data.toList <;> rfl
  have HMM := Lib.hid (show (if ((fun l => (st.files l).map Value.string) nm.data.toList).isSome then M.m else M.m + 1) ≤ M.m + 1 by split <;> omega)
  clear hold
  rcases hk with rfl | rfl
  all_goals
    go_enter Try.func12, Try.ntmps12
    go_wp2_with fail
    refine (wo_none H.out).mono ?_
    rintro e w2 ⟨rfl, rfl⟩
    go_wp2_with fail
    refine (wo_find H.out _ nm hno).mono ?_
    rintro e w1 ⟨rfl, hb1⟩
    rw [HFV.out]
    have H1 := Lib.hid (H.out.pure hb1)
    have HT1 := Lib.hid (Tur.of_gr (F := F) hb1)
    clear hb1
    go_wp2_with fail
    refine (wo_fail H1.out 3 nm hnf).mono ?_
    rintro e w3 ⟨rfl, hb3⟩
    rw [HFB.out]
    have H3 := Lib.hid (H1.out.pure hb3)
    have HT3 := Lib.hid (HT1.out.trans (Tur.of_gr (F := F) hb3) (fun _ _ e => e))
    clear hb3
    have c8 : w3.cell? ⟨pb, 8, none⟩ = some (.map (some M.bm)) := H3.out.cell 8
    go_wp2_with (first | (at_lookup; refine wp_map_look rfl _ _ _ rfl klaw Try.underlying81 (.string ⟨#[]⟩) (zero_string _) plain_zero_string rfl H3.out.map _ _ rfl (keyOf_string_mk Try.underlying9 hnm) ?_; rw [HLK.out]) | (at_mapUpdate; refine wp_map_put rfl _ _ _ _ rfl klaw Try.underlying9 Try.underlying81 rfl H3.out.map hmx _ (.string (old ++ data)) _ rfl rfl (keyOf_string_mk Try.underlying9 hnm) ⟨_, plainElem_string Try.underlying9 hsz⟩ ?_; intro w5 hmap5 hturn5; obtain ⟨h5, t5⟩ := H3.out.put nm.data.toList (old ++ data) hmap5 hturn5; have H5 := Lib.hid h5; have HT5 := Lib.hid (HT3.out.trans t5 (fun _ _ e => e)); clear h5 t5 hmap5 hturn5))
    refine (wo_event H5.out ⟨2, _, nm, data, 0⟩ hnt).mono ?_
    rintro e w6 ⟨M6, F6, rfl, h6, t6, f6, m6, -⟩
    go_wp2_with fail
    go_ret
    exact ⟨M6, F6, rfl, h6, HT5.out.trans t6 (fun _ _ e => e), fun g e => (f6 g e).imp id (fun h => Nat.le_trans HT5.out.size h), by rw [m6]; exact HMM.out⟩
end Go.Proofs.Ytodjjnklelfgfaa
namespace Go.Proofs.Ytodjjnklelfgfaa
open Go.RowKit Wd
open Go.WideMaps Go.WideElems Go.WideAt
/-- A world made since w, apart from the blocks X. -/
def PX (X : Nat → Prop) (w w' : World) (pb m : Nat) (st : St) : Prop :=
  ∃ M F, WAt w' F pb M st ∧ Below w.heap.size w w' ∧ (∀ g, F g → w.heap.size ≤ g) ∧ (∀ g, F g → ¬ X g) ∧ (∀ g, X g → w.heap.size ≤ g ∧ g < w'.heap.size) ∧ M.m ≤ m
theorem PW.px {X : Nat → Prop} {w w1 w2 : World} {pb m : Nat} {st : St} (h : PW w w1 pb m st) (hb : Below w1.heap.size w1 w2) (hX : ∀ g, X g → w1.heap.size ≤ g ∧ g < w2.heap.size) : PX X w w2 pb m st := by
  obtain ⟨M, F, hW, hB, hF, hm⟩ := h
  exact ⟨M, F, hW.pure hb, hB.trans (hb.mono hB.size), hF, fun g hg hx => by have := hW.flt g hg; have := hX g hx; omega, fun g hx => by have := hX g hx; have := hB.size; omega, hm⟩
theorem PX.step {X : Nat → Prop} {w w1 w2 : World} {pb m' : Nat} {M' : Mem} {F F' : Nat → Prop} {st' : St} (hB : Below w.heap.size w w1) (hF : ∀ g, F g → w.heap.size ≤ g) (hX : ∀ g, F g → ¬ X g) (hXl : ∀ g, X g → w.heap.size ≤ g ∧ g < w1.heap.size) (hW' : WAt w2 F' pb M' st') (ht : Tur F w1 w2) (hF' : ∀ g, F' g → F g ∨ w1.heap.size ≤ g) (hm : M'.m ≤ m') : PX X w w2 pb m' st' ∧ Tur (fun g => ¬ X g) w1 w2 := by
  refine ⟨⟨M', F', hW', hB.trans (ht.below w.heap.size hB.size (fun k hk hf => by have := hF k hf; omega)), fun g hg => ?_, fun g hg hx => ?_, fun g hx => ?_, hm⟩, ht.mono (fun i _ hi => hX i hi)⟩
  · rcases hF' g hg with h | h
    · exact hF g h
    · have := hB.size; omega
  · rcases hF' g hg with h | h
    · exact hX g h hx
    · have := hXl g hx; omega
  · have := hXl g hx; have := ht.size; omega
theorem PX.set {X : Nat → Prop} {w w1 : World} {pb m : Nat} {st : St} (h : PX X w w1 pb m st) (g i : Nat) (u : Value) (hg : X g) : PX X w (w1.setCell ⟨g, i, none⟩ u) pb m st := by
  obtain ⟨M, F, hW, hB, hF, hX, hXl, hm⟩ := h
  have hs : (w1.setCell ⟨g, i, none⟩ u).heap.size = w1.heap.size := by simp [World.setCell]
  refine ⟨M, F, hW.tur (Tur.of_set ⟨g, i, none⟩ u) (fun k hk e => hX k hk (by rw [show k = g from e]; exact hg)), hB.trans ((Tur.of_set ⟨g, i, none⟩ u).below _ hB.size (fun k hk e => by have := (hXl g hg).1; have e : k = g := e; omega)), hF, hX, fun k hk => by rw [hs]; exact hXl k hk, hm⟩
theorem PX.pure {X : Nat → Prop} {w w1 w2 : World} {pb m : Nat} {st : St} (h : PX X w w1 pb m st) (hb : Below w1.heap.size w1 w2) : PX X w w2 pb m st := by
  obtain ⟨M, F, hW, hB, hF, hX, hXl, hm⟩ := h
  exact ⟨M, F, hW.pure hb, hB.trans (hb.mono hB.size), hF, hX, fun k hk => by have := hXl k hk; have := hb.size; omega, hm⟩
/-- The plain world while WorldWhole runs: what is left of the file, of the input and of the reply; what stands in o and in f. -/
def Wd.RunIs (st : St) (lf ls lr fo ff : ByteArray) : Prop :=
  st.stdin = ls ∧ st.opn = [⟨1, ⟨#[102]⟩, lf⟩, ⟨1, ⟨#[45]⟩, ⟨#[]⟩⟩, ⟨2, ⟨#[99]⟩, lr⟩, ⟨3, ⟨#[111]⟩, ⟨#[]⟩⟩, ⟨4, ⟨#[102]⟩, ⟨#[]⟩⟩, ⟨5, ⟨#[112]⟩, ⟨#[]⟩⟩] ∧ st.fails = [] ∧ st.files [111] = some fo ∧ st.files [102] = some ff
theorem run_plain6 (a b c : ByteArray) : RunIs (plain6 a b c) a b c ⟨#[]⟩ a := ⟨rfl, rfl, rfl, rfl, rfl⟩
theorem run_fail {st : St} {lf ls lr fo ff : ByteArray} (h : RunIs st lf ls lr fo ff) (op : Int) (nm : ByteArray) : failB st op nm = false := by
  unfold failB failIx; rw [h.2.2.1]; rfl
theorem run_find {st : St} {lf ls lr fo ff : ByteArray} (h : RunIs st lf ls lr fo ff) : find st 1 ⟨#[102]⟩ = some 0 ∧ find st 1 minus = some 1 ∧ find st 2 ⟨#[99]⟩ = some 2 ∧ find st 3 ⟨#[111]⟩ = some 3 ∧ find st 4 ⟨#[102]⟩ = some 4 ∧ find st 5 ⟨#[112]⟩ = some 5 := by
  unfold find; rw [h.2.1]
  exact ⟨rfl, rfl, rfl, rfl, rfl, rfl⟩
theorem wh_read0 {X : Nat → Prop} {w w1 : World} {pb m : Nat} {st : St} {lf ls lr fo ff : ByteArray} (h : PX X w w1 pb m st) (hr : RunIs st lf ls lr fo ff) (q : Nat) (hq : 1 ≤ q ∧ q ≤ 1000) (hs : lf.size ≤ 300) :
    Calls Try.prog 11 #[.pointer (some ⟨pb, 0, none⟩), .int .u8 1, .string ⟨#[102]⟩, .int .i64 q] w1 fun e w' => e = .returned (.tuple #[.string (lf.extract 0 (cutN q lf)), .int .i64 0]) ∧ ∃ st', (PX X w w' pb m st' ∧ Tur (fun g => ¬ X g) w1 w') ∧ RunIs st' (lf.extract (cutN q lf) lf.size) ls lr fo ff ∧ st'.trace = st.trace := by
  obtain ⟨M, F, hW, hB, hF, hX, hXl, hm⟩ := h
  have ho := hr.2.1
  refine (wo_read_st hW 1 ⟨#[102]⟩ q (.inl rfl) (fun h => absurd (congrArg ByteArray.data h.2) (by decide)) (by rw [ho]; exact Nat.le_of_ble_eq_true rfl) (by rw [hr.2.2.1]; exact Nat.zero_le _) (by omega) (by omega) 0 (run_find hr).1 (run_fail hr _ _) lf (by rw [ho]; rfl) (by omega)).mono ?_
  rintro e w2 ⟨rfl, hW', ht⟩
  exact ⟨rfl, _, PX.step hB hF hX hXl hW' ht (fun _ h => .inl h) hm, ⟨hr.1, by show setAtL st.opn 0 _ = _; rw [ho]; rfl, hr.2.2⟩, rfl⟩
theorem wh_read2 {X : Nat → Prop} {w w1 : World} {pb m : Nat} {st : St} {lf ls lr fo ff : ByteArray} (h : PX X w w1 pb m st) (hr : RunIs st lf ls lr fo ff) (q : Nat) (hq : 1 ≤ q ∧ q ≤ 1000) (hs : lr.size ≤ 300) :
    Calls Try.prog 11 #[.pointer (some ⟨pb, 0, none⟩), .int .u8 2, .string ⟨#[99]⟩, .int .i64 q] w1 fun e w' => e = .returned (.tuple #[.string (lr.extract 0 (cutN q lr)), .int .i64 0]) ∧ ∃ st', (PX X w w' pb m st' ∧ Tur (fun g => ¬ X g) w1 w') ∧ RunIs st' lf ls (lr.extract (cutN q lr) lr.size) fo ff ∧ st'.trace = st.trace := by
  obtain ⟨M, F, hW, hB, hF, hX, hXl, hm⟩ := h
  have ho := hr.2.1
  refine (wo_read_st hW 2 ⟨#[99]⟩ q (.inr rfl) (fun h => absurd h.1 (by decide)) (by rw [ho]; exact Nat.le_of_ble_eq_true rfl) (by rw [hr.2.2.1]; exact Nat.zero_le _) (by omega) (by omega) 2 (run_find hr).2.2.1 (run_fail hr _ _) lr (by rw [ho]; rfl) (by omega)).mono ?_
  rintro e w2 ⟨rfl, hW', ht⟩
  exact ⟨rfl, _, PX.step hB hF hX hXl hW' ht (fun _ h => .inl h) hm, ⟨hr.1, by show setAtL st.opn 2 _ = _; rw [ho]; rfl, hr.2.2⟩, rfl⟩
theorem wh_read1 {X : Nat → Prop} {w w1 : World} {pb m : Nat} {st : St} {lf ls lr fo ff : ByteArray} (h : PX X w w1 pb m st) (hr : RunIs st lf ls lr fo ff) (q : Nat) (hq : 1 ≤ q ∧ q ≤ 1000) (hs : ls.size ≤ 300) :
    Calls Try.prog 11 #[.pointer (some ⟨pb, 0, none⟩), .int .u8 1, .string minus, .int .i64 q] w1 fun e w' => e = .returned (.tuple #[.string (ls.extract 0 (cutN q ls)), .int .i64 0]) ∧ ∃ st', (PX X w w' pb m st' ∧ Tur (fun g => ¬ X g) w1 w') ∧ RunIs st' lf (ls.extract (cutN q ls) ls.size) lr fo ff ∧ st'.trace = st.trace := by
  obtain ⟨M, F, hW, hB, hF, hX, hXl, hm⟩ := h
  have ho := hr.2.1
  have h1 := hr.1
  subst h1
  refine (wo_read_in hW q (by rw [ho]; exact Nat.le_of_ble_eq_true rfl) (by rw [hr.2.2.1]; exact Nat.zero_le _) (by omega) (by omega) (by omega) 1 (run_find hr).2.1 (run_fail hr _ _)).mono ?_
  rintro e w2 ⟨rfl, hW', ht⟩
  exact ⟨rfl, _, PX.step hB hF hX hXl hW' ht (fun _ h => .inl h) hm, ⟨rfl, hr.2⟩, rfl⟩
theorem cat_none (a d : ByteArray) (h : d.size = 0) : a ++ d = a := by
  obtain rfl : d = ⟨#[]⟩ := ByteArray.ext (Array.eq_empty_of_size_eq_zero h)
  apply ByteArray.ext
  simp [ByteArray.data_append]
def Wd.wrEv (k : Int) (nm data : ByteArray) : List Ev := if data.size = 0 then [] else [⟨2, k, nm, data, 0⟩]
theorem wh_write3 {X : Nat → Prop} {w w1 : World} {pb m : Nat} {st : St} {lf ls lr fo ff : ByteArray} (h : PX X w w1 pb m st) (hr : RunIs st lf ls lr fo ff) (data : ByteArray) (hd : data.size ≤ 100) (hs : fo.size ≤ 10000) (ht : st.trace.length ≤ 1000) (hmm : m ≤ 1000) :
    Calls Try.prog 12 #[.pointer (some ⟨pb, 0, none⟩), .int .u8 3, .string ⟨#[111]⟩, .string data] w1 fun e w' => e = .returned (.int .i64 0) ∧ ∃ st', (PX X w w' pb (m + 1) st' ∧ Tur (fun g => ¬ X g) w1 w') ∧ RunIs st' lf ls lr (fo ++ data) ff ∧ st'.trace = st.trace ++ wrEv 3 ⟨#[111]⟩ data := by
  obtain ⟨M, F, hW, hB, hF, hX, hXl, hm⟩ := h
  have ho := hr.2.1
  have h4 := hr.2.2.2.1
  have h5 := hr.2.2.2.2
  by_cases h0 : data.size = 0
  · refine (wo_write_none hW 3 ⟨#[111]⟩ data (by rw [ho]; exact Nat.le_of_ble_eq_true rfl) (by rw [hr.2.2.1]; exact Nat.zero_le _) (by omega) 3 (run_find hr).2.2.2.1 (run_fail hr _ _) (.inl rfl) h0).mono ?_
    rintro e w2 ⟨rfl, hW', ht⟩
    exact ⟨rfl, st, PX.step hB hF hX hXl hW' ht (fun _ h => .inl h) (by omega), by rw [cat_none _ _ h0]; exact hr, by unfold wrEv; rw [if_pos h0, List.append_nil]⟩
  · refine (wo_write_file hW 3 ⟨#[111]⟩ data (by rw [ho]; exact Nat.le_of_ble_eq_true rfl) (by rw [hr.2.2.1]; exact Nat.zero_le _) (by omega) 3 (run_find hr).2.2.2.1 (run_fail hr _ _) (.inl rfl) h0 (by decide) (by show ((st.files [111]).getD ⟨#[]⟩).size + _ ≤ _; rw [h4]; show fo.size + _ ≤ _; omega) (by omega)).mono ?_
    rintro e w2 ⟨M', F', rfl, hW', ht, hF', hm'⟩
    refine ⟨rfl, _, PX.step hB hF hX hXl hW' ht hF' (by omega), ⟨hr.1, ho, hr.2.2.1, ?_, ?_⟩, by unfold wrEv; rw [if_neg h0]; rfl⟩
    · show setF st.files [111] ((st.files [111]).getD ⟨#[]⟩ ++ data) [111] = _
      rw [h4]
      simp [setF]
    · show setF st.files [111] ((st.files [111]).getD ⟨#[]⟩ ++ data) [102] = _
      rw [← h5]
      simp [setF]
theorem wh_write4 {X : Nat → Prop} {w w1 : World} {pb m : Nat} {st : St} {lf ls lr fo ff : ByteArray} (h : PX X w w1 pb m st) (hr : RunIs st lf ls lr fo ff) (data : ByteArray) (hd : data.size ≤ 100) (hs : ff.size ≤ 10000) (ht : st.trace.length ≤ 1000) (hmm : m ≤ 1000) :
    Calls Try.prog 12 #[.pointer (some ⟨pb, 0, none⟩), .int .u8 4, .string ⟨#[102]⟩, .string data] w1 fun e w' => e = .returned (.int .i64 0) ∧ ∃ st', (PX X w w' pb (m + 1) st' ∧ Tur (fun g => ¬ X g) w1 w') ∧ RunIs st' lf ls lr fo (ff ++ data) ∧ st'.trace = st.trace ++ wrEv 4 ⟨#[102]⟩ data := by
  obtain ⟨M, F, hW, hB, hF, hX, hXl, hm⟩ := h
  have ho := hr.2.1
  have h4 := hr.2.2.2.1
  have h5 := hr.2.2.2.2
  by_cases h0 : data.size = 0
  · refine (wo_write_none hW 4 ⟨#[102]⟩ data (by rw [ho]; exact Nat.le_of_ble_eq_true rfl) (by rw [hr.2.2.1]; exact Nat.zero_le _) (by omega) 4 (run_find hr).2.2.2.2.1 (run_fail hr _ _) (.inr (.inl rfl)) h0).mono ?_
    rintro e w2 ⟨rfl, hW', ht⟩
    exact ⟨rfl, st, PX.step hB hF hX hXl hW' ht (fun _ h => .inl h) (by omega), by rw [cat_none _ _ h0]; exact hr, by unfold wrEv; rw [if_pos h0, List.append_nil]⟩
  · refine (wo_write_file hW 4 ⟨#[102]⟩ data (by rw [ho]; exact Nat.le_of_ble_eq_true rfl) (by rw [hr.2.2.1]; exact Nat.zero_le _) (by omega) 4 (run_find hr).2.2.2.2.1 (run_fail hr _ _) (.inr rfl) h0 (by decide) (by show ((st.files [102]).getD ⟨#[]⟩).size + _ ≤ _; rw [h5]; show ff.size + _ ≤ _; omega) (by omega)).mono ?_
    rintro e w2 ⟨M', F', rfl, hW', ht, hF', hm'⟩
    refine ⟨rfl, _, PX.step hB hF hX hXl hW' ht hF' (by omega), ⟨hr.1, ho, hr.2.2.1, ?_, ?_⟩, by unfold wrEv; rw [if_neg h0]; rfl⟩
    · show setF st.files [102] ((st.files [102]).getD ⟨#[]⟩ ++ data) [111] = _
      rw [← h4]
      simp [setF]
    · show setF st.files [102] ((st.files [102]).getD ⟨#[]⟩ ++ data) [102] = _
      rw [h5]
      simp [setF]
theorem wh_write5 {X : Nat → Prop} {w w1 : World} {pb m : Nat} {st : St} {lf ls lr fo ff : ByteArray} (h : PX X w w1 pb m st) (hr : RunIs st lf ls lr fo ff) (data : ByteArray) (ht : st.trace.length ≤ 1000) :
    Calls Try.prog 12 #[.pointer (some ⟨pb, 0, none⟩), .int .u8 5, .string ⟨#[112]⟩, .string data] w1 fun e w' => e = .returned (.int .i64 0) ∧ ∃ st', (PX X w w' pb (m + 1) st' ∧ Tur (fun g => ¬ X g) w1 w') ∧ RunIs st' lf ls lr fo ff ∧ st'.trace = st.trace ++ wrEv 5 ⟨#[112]⟩ data := by
  obtain ⟨M, F, hW, hB, hF, hX, hXl, hm⟩ := h
  have ho := hr.2.1
  by_cases h0 : data.size = 0
  · refine (wo_write_none hW 5 ⟨#[112]⟩ data (by rw [ho]; exact Nat.le_of_ble_eq_true rfl) (by rw [hr.2.2.1]; exact Nat.zero_le _) (by omega) 5 (run_find hr).2.2.2.2.2 (run_fail hr _ _) (.inr (.inr rfl)) h0).mono ?_
    rintro e w2 ⟨rfl, hW', ht⟩
    exact ⟨rfl, st, PX.step hB hF hX hXl hW' ht (fun _ h => .inl h) (by omega), hr, by unfold wrEv; rw [if_pos h0, List.append_nil]⟩
  · refine (wo_write_pipe hW 5 ⟨#[112]⟩ data (by rw [ho]; exact Nat.le_of_ble_eq_true rfl) (by rw [hr.2.2.1]; exact Nat.zero_le _) (by omega) 5 (run_find hr).2.2.2.2.2 (run_fail hr _ _) rfl h0).mono ?_
    rintro e w2 ⟨M', F', rfl, hW', ht, hF', hm'⟩
    exact ⟨rfl, _, PX.step hB hF hX hXl hW' ht hF' (by omega), hr, by unfold wrEv; rw [if_neg h0]; rfl⟩
end Go.Proofs.Ytodjjnklelfgfaa
namespace Go.Proofs.Ytodjjnklelfgfaa
open Go.RowKit Wd
theorem cut_le (q : Int) (s : ByteArray) : cutN q s ≤ s.size := Nat.min_le_right _ _
theorem cut_join (q : Int) (s : ByteArray) : s.extract 0 (cutN q s) ++ s.extract (cutN q s) s.size = s := by
  have h := cut_le q s
  generalize cutN q s = k at *
  apply ByteArray.ext
  apply Array.ext'
  simp [ByteArray.data_append, ByteArray.data_extract]
theorem cut_all {s : ByteArray} (h : s.size ≤ 300) : s.extract 0 (cutN 1000 s) = s ∧ s.extract (cutN 1000 s) s.size = ⟨#[]⟩ := by
  have hc : cutN 1000 s = s.size := by unfold cutN; omega
  rw [hc]
  have := cut_join s.size s
  constructor
  · apply ByteArray.ext
    apply Array.ext'
    simp [ByteArray.data_extract]
  · apply ByteArray.ext
    apply Array.ext'
    simp [ByteArray.data_extract]
theorem got_step {g s src : ByteArray} (q : Int) (h : g ++ s = src) : (g ++ s.extract 0 (cutN q s)) ++ s.extract (cutN q s) s.size = src := by
  rw [ByteArray.append_assoc, cut_join, h]
end Go.Proofs.Ytodjjnklelfgfaa
