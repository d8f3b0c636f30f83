/- A world: a script of calls that came in; the plain law of WorldLimits. -/
import Derived.Test.YtodjjnklelfgfaaWld12
import Derived.Test.YtodjjnklelfgfaaWld8
import Derived.Deep.Slices
namespace Go.Proofs.Ytodjjnklelfgfaa
open Go.RowKit Go.ChangeShapes Go.WideShapes Go.Deep Wd

theorem add_offX (b o i : Nat) : (⟨b, o, none⟩ : Addr).add i = ⟨b, o + i, none⟩ := by unfold Addr.add; split <;> simp_all
structure Wd.OpV where
  kind : Int
  k : Int
  name : ByteArray
  data : ByteArray
  n : Int
def Ops (w : World) (B : Nat) (A : Option Addr) (n : Nat) (ops : List OpV) : Prop :=
  ops.length = n ∧ (∀ x ∈ ops, (Lit.int .i64 x.kind).wf = true ∧ (Lit.int .u8 x.k).wf = true ∧ x.name.size ≤ maxLen ∧ x.data.size ≤ maxLen ∧ (Lit.int .i64 x.n).wf = true) ∧ (0 < n → ∃ b o, A = some ⟨b, o, none⟩ ∧ b < B ∧ ∀ i, (hi : i < ops.length) → w.cell? ⟨b, o + i * 5, none⟩ = some (.int .i64 ops[i].kind) ∧ w.cell? ⟨b, o + i * 5 + 1, none⟩ = some (.int .u8 ops[i].k) ∧
    w.cell? ⟨b, o + i * 5 + 2, none⟩ = some (.string ops[i].name) ∧ w.cell? ⟨b, o + i * 5 + 3, none⟩ = some (.string ops[i].data) ∧ w.cell? ⟨b, o + i * 5 + 4, none⟩ = some (.int .i64 ops[i].n))
set_option maxRecDepth 100000 in
theorem op_open {H : Type} {enc : TypeId × Value → H} {w : World} {base : Nat} {spare : Nat → Bool} {held : Bool} {fuel : Nat} {cs : List Value} {x : DataW H × List MemPlace}
    (h : DataW.trod enc Try.prog w base spare held fuel 55 cs = some x) : ∃ op : OpV, ((Lit.int .i64 op.kind).wf = true ∧ (Lit.int .u8 op.k).wf = true ∧ op.name.size ≤ maxLen ∧ op.data.size ≤ maxLen ∧ (Lit.int .i64 op.n).wf = true) ∧ cs = [.int .i64 op.kind, .int .u8 op.k, .string op.name, .string op.data, .int .i64 op.n] := by
  obtain ⟨ys, n, hn, hy, hlen, hyl, hf⟩ := DataW.trod_struct Try.underlying55 h
  have hc5 : Try.prog.cellsOf 55 = 5 := by kernel_rfl
  rw [hc5] at hlen
  have k0 : Try.prog.cellsOf 3 = 1 := by kernel_rfl
  have k1 : Try.prog.cellsOf 9 = 1 := by kernel_rfl
  have k3 : Try.prog.cellsOf 28 = 1 := by kernel_rfl
  match cs, hlen, ys, hyl with
  | [v0, v1, v2, v3, v4], _, [y0, y1, y2, y3, y4], _ =>
    have e0 : DataW.trod enc Try.prog w base spare held n 3 (([v0, v1, v2, v3, v4].drop 0).take (Try.prog.cellsOf 3)) = some y0 := hf 0 _ rfl
    have e1 : DataW.trod enc Try.prog w base spare held n 28 (([v0, v1, v2, v3, v4].drop 1).take (Try.prog.cellsOf 28)) = some y1 := hf 1 _ rfl
    have e2 : DataW.trod enc Try.prog w base spare held n 9 (([v0, v1, v2, v3, v4].drop 2).take (Try.prog.cellsOf 9)) = some y2 := hf 2 _ rfl
    have e3 : DataW.trod enc Try.prog w base spare held n 9 (([v0, v1, v2, v3, v4].drop 3).take (Try.prog.cellsOf 9)) = some y3 := hf 3 _ rfl
    have e4 : DataW.trod enc Try.prog w base spare held n 3 (([v0, v1, v2, v3, v4].drop 4).take (Try.prog.cellsOf 3)) = some y4 := hf 4 _ rfl
    rw [k0] at e0 e4
    rw [k3] at e1
    rw [k1] at e2 e3
    obtain ⟨m0, a0, -, h0⟩ := DataW.trod_int Try.underlying3 e0
    obtain ⟨m1, a1, -, h1⟩ := DataW.trod_int Try.underlying28 e1
    obtain ⟨m2, a2, -, h2⟩ := DataW.trod_string Try.underlying9 e2
    obtain ⟨m3, a3, -, h3⟩ := DataW.trod_string Try.underlying9 e3
    obtain ⟨m4, a4, -, h4⟩ := DataW.trod_int Try.underlying3 e4
    simp at a0 a1 a2 a3 a4
    subst a0 a1 a2 a3 a4
    exact ⟨⟨m0, m1, m2, m3, m4⟩, ⟨h0, h1, h2, h3, h4⟩, rfl⟩
set_option maxRecDepth 100000 in
theorem ops_open {H : Type} {enc : TypeId × Value → H} {w : World} {base : Nat} {v : Value} {d : DataW H} {p : List MemPlace} {spare : Nat → Bool} {held : Bool} {r}
    (hval : Value.okWide Try.prog w r base 43 v) (k : DataW.Trod enc Try.prog w 0 spare held 43 v d p) :
    ∃ A n cap xs, v = .slice A n cap ∧ Ops w w.heap.size A n xs ∧ n ≤ cap ∧ cap ≤ maxLen := by
  obtain ⟨a0, len0, cap0, rfl⟩ := okWide_slice Try.underlying43 hval
  obtain ⟨fuel, hf⟩ := k
  have hc5 : Try.prog.cellsOf 55 = 5 := by kernel_rfl
  rcases open_slice Try.underlying43 (by simpa [Value.cells] using hf) with ⟨hcs, _⟩ | ⟨a, len, cap, m, n, D, Pl, hcs, hb, hl, hm, hmm, hx, hi⟩
  · simp at hcs
    obtain ⟨rfl, rfl, rfl⟩ := hcs
    exact ⟨_, _, _, [], rfl, ⟨rfl, by simp, fun h => by omega⟩, Nat.le_refl _, by unfold maxLen; omega⟩
  · simp at hcs
    obtain ⟨rfl, rfl, rfl⟩ := hcs
    have hlen : len0 ≤ m := by rw [hmm]; split <;> omega
    rw [hc5] at hi
    have each : ∀ i, i < len0 → ∃ op : OpV, ((Lit.int .i64 op.kind).wf = true ∧ (Lit.int .u8 op.k).wf = true ∧ op.name.size ≤ maxLen ∧ op.data.size ≤ maxLen ∧ (Lit.int .i64 op.n).wf = true) ∧ w.cells? 0 (a.add (i * 5)) 5 = some [.int .i64 op.kind, .int .u8 op.k, .string op.name, .string op.data, .int .i64 op.n] := fun i h => by
      obtain ⟨cs', h1, h2⟩ := hi i (by omega)
      obtain ⟨op, h3, rfl⟩ := op_open h2
      exact ⟨op, h3, h1⟩
    refine ⟨_, _, _, (List.range len0).attach.map (fun i => (each i.1 (List.mem_range.1 i.2)).choose), rfl, ⟨by simp, fun x hx => ?_, fun hn => ?_⟩, hl, hm⟩
    · simp only [List.mem_map] at hx
      obtain ⟨i, -, rfl⟩ := hx
      exact (each i.1 (List.mem_range.1 i.2)).choose_spec.1
    obtain ⟨b, o, s⟩ := a
    obtain ⟨op0, -, h0⟩ := each 0 hn
    have h0' := (World.cells?_some h0).2.2 0 (by omega)
    have hs : s = none := by simpa [Addr.add] using World.cell?_spot (h0'.trans rfl)
    subst hs
    have hlt : b < w.heap.size := by
      simp only [Nat.zero_mul, add_offX, Nat.add_zero] at h0'
      by_cases h : b < w.heap.size
      · exact h
      · simp [World.cell?, Array.getElem?_eq_none (Nat.le_of_not_lt h)] at h0'
    refine ⟨b, o, rfl, hlt, fun i hi' => ?_⟩
    have hi2 : i < len0 := by simpa using hi'
    have hg : ((List.range len0).attach.map (fun i => (each i.1 (List.mem_range.1 i.2)).choose))[i]'hi' = (each i hi2).choose := by simp
    rw [hg]
    have h1 := (each i hi2).choose_spec.2
    generalize (each i hi2).choose = op at h1 ⊢
    obtain ⟨-, -, h2⟩ := World.cells?_some h1
    have q0 := h2 0 (by omega)
    have q1 := h2 1 (by omega)
    have q2 := h2 2 (by omega)
    have q3 := h2 3 (by omega)
    have q4 := h2 4 (by omega)
    simp only [add_offX, Nat.add_zero] at q0 q1 q2 q3 q4
    exact ⟨q0.trans rfl, q1.trans rfl, q2.trans rfl, q3.trans rfl, q4.trans rfl⟩

namespace Wd
def opens (l : List Ev) : Nat := l.countP (fun e => e.k == 1)
def closes (l : List Ev) : Nat := l.countP (fun e => e.k == 3)
structure Fine (L : Int) (st : St) : Prop where
  lim : st.lim = L
  len : (st.opn.length : Int) ≤ L
  kind : ∀ m ∈ st.opn, 1 ≤ m.k ∧ m.k ≤ 5
  apart : st.opn.Pairwise (fun a b => ¬ (a.k = b.k ∧ a.name = b.name))
  bal : opens st.trace = closes st.trace + st.opn.length
theorem find_any (st : St) (k : Int) (name : ByteArray) : (find st k name).isSome = st.opn.any (hit k name) := by
  unfold find
  rw [List.findIdx?_isSome]
def cntL (l : List Sm) (name : ByteArray) : Nat → Nat
  | 0 => 0
  | n + 1 => (if l.any (hit ((n + 1 : Nat) : Int) name) then 1 else 0) + cntL l name n
theorem cnt_filter (name : ByteArray) : ∀ (l : List Sm), (∀ m ∈ l, 1 ≤ m.k ∧ m.k ≤ 5) → l.Pairwise (fun a b => ¬ (a.k = b.k ∧ a.name = b.name)) → cntL l name 5 = (l.filter (fun m => decide (m.name = name))).length := by
  intro l
  induction l with
  | nil => intro _ _; simp [cntL]
  | cons m l ih =>
    intro hk hp
    obtain ⟨hp1, hp2⟩ := List.pairwise_cons.1 hp
    have h0 := ih (fun x hx => hk x (List.mem_cons_of_mem _ hx)) hp2
    have hmk := hk m (List.mem_cons_self)
    by_cases hm : m.name = name
    · have hno : l.any (hit m.k name) = false := by
        rw [List.any_eq_false]
        intro x hx hh
        simp only [hit, Bool.and_eq_true, decide_eq_true_eq] at hh
        exact hp1 x hx ⟨hh.1.symm, by rw [hm, hh.2]⟩
      have step : ∀ n, cntL (m :: l) name n = cntL l name n + if 1 ≤ m.k ∧ m.k ≤ n then 1 else 0 := by
        intro n
        induction n with
        | zero => rw [if_neg (by omega)]; rfl
        | succ n ihn =>
          show (if (m :: l).any (hit ((n + 1 : Nat) : Int) name) then 1 else 0) + cntL (m :: l) name n = (if l.any (hit ((n + 1 : Nat) : Int) name) then 1 else 0) + cntL l name n + _
          rw [ihn, List.any_cons]
          by_cases e : m.k = ((n + 1 : Nat) : Int)
          · have e1 : hit ((n + 1 : Nat) : Int) name m = true := by simp [hit, e, hm]
            have hno' : l.any (hit ((n + 1 : Nat) : Int) name) = false := by rw [← e]; exact hno
            rw [e1, hno', Bool.true_or, if_pos rfl, if_neg (by decide : ¬ (false = true)), if_neg (show ¬ (1 ≤ m.k ∧ m.k ≤ (n : Int)) by omega), if_pos (show 1 ≤ m.k ∧ m.k ≤ ((n + 1 : Nat) : Int) by omega)]
            omega
          · have e1 : hit ((n + 1 : Nat) : Int) name m = false := by simp only [hit, decide_eq_false e, Bool.false_and]
            rw [e1, Bool.false_or]
            by_cases c : 1 ≤ m.k ∧ m.k ≤ (n : Int)
            · rw [if_pos c, if_pos (show 1 ≤ m.k ∧ m.k ≤ ((n + 1 : Nat) : Int) by omega)]
              omega
            · rw [if_neg c, if_neg (show ¬ (1 ≤ m.k ∧ m.k ≤ ((n + 1 : Nat) : Int)) by omega)]
              omega
      rw [step 5, h0, if_pos (show 1 ≤ m.k ∧ m.k ≤ ((5 : Nat) : Int) by omega), List.filter_cons, if_pos (by simp [hm])]
      rfl
    · have step : ∀ n, cntL (m :: l) name n = cntL l name n := by
        intro n
        induction n with
        | zero => rfl
        | succ n ihn =>
          show (if (m :: l).any _ then 1 else 0) + cntL (m :: l) name n = (if l.any _ then 1 else 0) + cntL l name n
          rw [ihn, List.any_cons, show hit ((n + 1 : Nat) : Int) name m = false by simp [hit, hm], Bool.false_or]
      rw [step 5, h0, List.filter_cons, if_neg (by simp [hm])]
theorem filter_two (l : List Sm) (q : Sm → Bool) : l.length = (l.filter q).length + (l.filter (fun m => !q m)).length := by
  induction l with
  | nil => rfl
  | cons m l ih => rw [List.filter_cons, List.filter_cons, List.length_cons, ih]; cases q m <;> simp <;> omega
theorem closeK_cnt (st : St) (name : ByteArray) (n : Nat) : opens (closeK st name n).1.trace = opens st.trace ∧ closes (closeK st name n).1.trace = closes st.trace + cntL st.opn name n ∧ ((closeK st name n).2.2 = decide (0 < cntL st.opn name n)) := by
  induction n with
  | zero => exact ⟨rfl, rfl, rfl⟩
  | succ n ih =>
    obtain ⟨h1, h2, h3⟩ := ih
    have hc : cntL st.opn name (n + 1) = (if st.opn.any (hit ((n + 1 : Nat) : Int) name) then 1 else 0) + cntL st.opn name n := rfl
    unfold closeK
    rw [find_any, hc]
    by_cases ha : st.opn.any (hit ((n + 1 : Nat) : Int) name) = true
    · rw [if_pos ha, if_pos ha]
      refine ⟨?_, ?_, ?_⟩
      · show opens ((closeK st name n).1.trace ++ [_]) = _
        unfold opens at *
        rw [List.countP_append, h1]; rfl
      · show closes ((closeK st name n).1.trace ++ [_]) = _
        unfold closes at *
        rw [List.countP_append, h2]
        show _ + 1 = _
        omega
      · show true = _
        exact (decide_eq_true (by omega)).symm
    · rw [if_neg ha, if_neg ha, Nat.zero_add]
      exact ⟨h1, h2, h3⟩
theorem fine_close {lim : Int} {st : St} (h : Fine lim st) (name : ByteArray) : Fine lim (closeL st name).1 ∧ (closeL st name).2.2 = decide ((closeL st name).1.opn.length < st.opn.length) := by
  obtain ⟨c1, c2, c3⟩ := closeK_cnt st name 5
  have c4 := cnt_filter name st.opn h.kind h.apart
  have c5 := filter_two st.opn (fun m => decide (m.name = name))
  have c6 : (closeL st name).1.opn = st.opn.filter (fun m => !decide (m.name = name)) := rfl
  refine ⟨⟨?_, ?_, ?_, ?_, ?_⟩, ?_⟩
  · show (closeK st name 5).1.lim = lim
    rw [(closeK_same st name 5).1]; exact h.lim
  · rw [c6]; have := h.len; have := List.length_filter_le (fun m : Sm => !decide (m.name = name)) st.opn; omega
  · rw [c6]; intro m hm; exact h.kind m (List.mem_filter.1 hm).1
  · rw [c6]; exact h.apart.filter _
  · rw [c6]
    show opens (closeK st name 5).1.trace = closes (closeK st name 5).1.trace + _
    rw [c1, c2, h.bal, c4]; omega
  · rw [c6]
    show (closeK st name 5).2.2 = _
    rw [c3, c4]
    congr 1
    exact propext (by omega)
theorem fine_closed {lim : Int} {st st' : St} (h : Fine lim st) (hc : ClosedTo st st') : Fine lim st' := by
  induction hc with
  | refl => exact h
  | step _ _ ih => exact (fine_close ih _).1
theorem find_kind {lim : Int} {st : St} (h : Fine lim st) {k : Int} {name : ByteArray} (hk : k < 1 ∨ 5 < k) : (find st k name).isSome = false := by
  rw [find_any, List.any_eq_false]
  intro m hm hh
  simp only [hit, Bool.and_eq_true, decide_eq_true_eq] at hh
  have := h.kind m hm
  omega
theorem fine_open {lim : Int} {st : St} (h : Fine lim st) (k : Int) (name : ByteArray) :
    Fine lim (openL st k name).1 ∧ (k ≠ 6 → (find (openL st k name).1 k name).isSome = decide ((openL st k name).2 = 0)) ∧
      (decide ((openL st k name).1.opn.length = st.opn.length + 1) = (decide ((openL st k name).2 = 0) && !(decide (k = 6) || (find st k name).isSome))) := by
  unfold openL
  by_cases hA : k < 1 ∨ 5 < k
  · rw [if_pos hA]
    exact ⟨h, fun _ => by rw [find_kind h hA]; rfl, by simp⟩
  · rw [if_neg hA]
    by_cases hf : (find st k name).isSome = true
    · rw [if_pos hf]
      exact ⟨h, fun _ => by rw [hf]; rfl, by simp [hf]⟩
    · rw [if_neg hf]
      have hf' : (find st k name).isSome = false := by simpa using hf
      by_cases hL : st.lim ≤ st.opn.length
      · rw [if_pos hL]
        exact ⟨h, fun _ => by rw [hf']; rfl, by simp⟩
      · rw [if_neg hL]
        by_cases hE : failB st 1 name = true ∨ (k = 1 ∧ name ≠ minus ∧ (st.files name.data.toList).isSome = false)
        · rw [if_pos hE]
          exact ⟨h, fun _ => by rw [hf']; rfl, by simp⟩
        · rw [if_neg hE]
          have hno : st.opn.any (hit k name) = false := by rw [← find_any]; exact hf'
          refine ⟨⟨h.lim, ?_, ?_, ?_, ?_⟩, fun _ => ?_, ?_⟩
          · show (((st.opn ++ [_]).length : Nat) : Int) ≤ lim
            rw [List.length_append]
            have := h.lim
            show ((st.opn.length + 1 : Nat) : Int) ≤ lim
            omega
          · intro m hm
            rcases List.mem_append.1 (show m ∈ st.opn ++ [_] from hm) with hm | hm
            · exact h.kind m hm
            · rw [List.mem_singleton.1 hm]; show 1 ≤ k ∧ k ≤ 5; omega
          · show (st.opn ++ [_]).Pairwise _
            rw [List.pairwise_append]
            refine ⟨h.apart, List.pairwise_singleton _ _, fun a ha b hb => ?_⟩
            rw [List.mem_singleton.1 hb]
            rintro ⟨e1, e2⟩
            rw [List.any_eq_false] at hno
            exact hno a ha (by simp [hit, show a.k = k from e1, show a.name = name from e2])
          · show opens (st.trace ++ [_]) = closes (st.trace ++ [_]) + (st.opn ++ [_]).length
            have hb := h.bal
            unfold opens closes at *
            rw [List.countP_append, List.countP_append, List.length_append, hb]
            show _ + 1 = _ + 0 + (_ + 1)
            omega
          · rw [find_any]
            show (st.opn ++ [_]).any (hit k name) = true
            rw [List.any_append]
            simp [hit]
          · show decide ((st.opn ++ [_]).length = st.opn.length + 1) = _
            rw [hf', List.length_append]
            have : ¬ k = 6 := by omega
            simp [this]
theorem openL_trace (st : St) (k : Int) (name : ByteArray) : (openL st k name).1.trace.length ≤ st.trace.length + 1 ∧ (openL st k name).1.replies = st.replies ∧ (openL st k name).1.fails = st.fails := by
  unfold openL
  by_cases h1 : k < 1 ∨ 5 < k
  · rw [if_pos h1]; exact ⟨Nat.le_succ _, rfl, rfl⟩
  · rw [if_neg h1]
    by_cases h2 : (find st k name).isSome = true
    · rw [if_pos h2]; exact ⟨Nat.le_succ _, rfl, rfl⟩
    · rw [if_neg h2]
      by_cases h3 : st.lim ≤ st.opn.length
      · rw [if_pos h3]; exact ⟨Nat.le_succ _, rfl, rfl⟩
      · rw [if_neg h3]
        by_cases h4 : failB st 1 name = true ∨ (k = 1 ∧ name ≠ minus ∧ (st.files name.data.toList).isSome = false)
        · rw [if_pos h4]; exact ⟨Nat.le_succ _, rfl, rfl⟩
        · rw [if_neg h4]
          refine ⟨?_, rfl, rfl⟩
          show (st.trace ++ [_]).length ≤ _
          rw [List.length_append]
          exact Nat.le_refl _
theorem closeL_fails (st : St) (name : ByteArray) : (closeL st name).1.fails = st.fails := by show (closeK st name 5).1.fails = _; rw [(closeK_same st name 5).1]
end Wd
end Go.Proofs.Ytodjjnklelfgfaa
