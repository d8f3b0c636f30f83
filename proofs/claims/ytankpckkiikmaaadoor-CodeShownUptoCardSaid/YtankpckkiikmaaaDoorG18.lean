/- A region that draws its order, each of whose operations leaves a value known ahead in every world that meets S, and keeps S (calls of Go functions, loads, allocations alike): ONE walk, in the order of the text. No program in sight. -/
import Derived.StillTail
import Derived.RegionTactic
import Derived.StillTailTactics
import Derived.WalkKit
import Derived.OrdersHeld
import Derived.Test.YtankpckkiikmaaaDoorG15
import Derived.Test.YtankpckkiikmaaaDoorG17
import Derived.Handy
import Derived.Lib.AppendIntMem
import Derived.Test.YtankpckkiikmaaaDoorG4
import Derived.Deep.Slices
import Derived.OpenShut
import Derived.SliceStrings
import Derived.WideShapes
set_option linter.unusedVariables false
set_option linter.unusedSimpArgs false
namespace Go.Proofs.YtankpckkiikmaaaDoor
open Go
section
variable {P : Program} {ops : Array Oper} {md : Region.Mode} {S : World → Prop} {Q : Exit → Act → World → Prop}
/-- In every world that meets S the operation leaves v, and S holds behind it. -/
def Gives (P : Program) (ops : Array Oper) (S : World → Prop) (o : Oper) (a : Act) (v : Value) : Prop :=
  ∀ w, S w → wpList P ops (Exit.then (fun a' w' => a' = a.put o.dst v ∧ S w') (fun _ _ _ => False)) [o] a w
def wpDet (P : Program) (ops : Array Oper) (S : World → Prop) (K : Act → Prop) : List Oper → Act → Prop
  | [], a => K a
  | o :: l, a => ∃ v, Gives P ops S o a v ∧ wpDet P ops S K l (a.put o.dst v)
theorem put_size (a : Act) (d : Option Tmp) (v : Value) : (a.put d v).tmps.size = a.tmps.size := by
  cases d <;> simp [Act.put]
theorem put_eq_of {a a' : Act} {d : Option Tmp} {u v : Value} (hs : a.tmps.size = a'.tmps.size) (h : a.put d u = a.put d v) : a'.put d u = a'.put d v := by
  cases d with
  | none => rfl
  | some d =>
    have h1 := congrArg Act.tmps h
    simp only [Act.put] at h1 ⊢
    by_cases hd : d < a.tmps.size
    · have h2 := congrArg (·[d]?) h1
      simp [hd] at h2
      rw [h2]
    · have hsz : a'.tmps.size ≤ d := by rw [← hs]; exact Nat.le_of_not_lt hd
      rw [Array.setIfInBounds_eq_of_size_le hsz, Array.setIfInBounds_eq_of_size_le hsz]
theorem put_defers_ne {a : Act} {x : Option Tmp} {d : Deferred} {u v : Value} (h : ({ a with defers := d :: a.defers } : Act).put x u = a.put x v) : False := by
  have h1 := congrArg Act.defers h
  cases x <;> simp [Act.put] at h1
theorem lets_no {K : Act → World → Prop} (h : LetsOut (Exit.then K (fun _ _ _ => False))) : False := by
  obtain ⟨_, _, h⟩ := h; exact h
/-- A state that differs only in what the operation does not look at. -/
theorem Gives.same {o : Oper} {a a' : Act} {v : Value} (h : Gives P ops S o a v) (he : execOp a'.eval o = execOp a.eval o)
    (hw : Region.wanted o (yielded ops a'.tmps) = Region.wanted o (yielded ops a.tmps)) (hs : a.tmps.size = a'.tmps.size) : Gives P ops S o a' v := by
  intro w hS
  have h1 := h w hS
  unfold wpList at *
  rw [hw]
  split
  · rename_i hw
    simp only [hw, if_true] at h1
    refine .inl ?_
    rcases h1 with h1 | ⟨-, h1⟩
    case inr => exact (lets_no h1).elim
    unfold Oper.wp at *
    rw [he]
    generalize (execOp a.eval o).run P w = r at *
    cases r with
    | ok n w' =>
      cases n <;> simp only [Oper.upon] at h1 ⊢
      case value u => exact ⟨put_eq_of hs h1.1, h1.2⟩
      case skip => exact ⟨put_eq_of hs h1.1, h1.2⟩
      case defer d => exact (put_defers_ne h1.1).elim
      case enter f args =>
        refine Calls.mono h1 fun e w'' he => ?_
        cases e with
        | returned u => exact ⟨put_eq_of hs he.1, he.2⟩
        | panicked c => exact he
        | outgrown => exact (lets_no he).elim
      case row row args => exact Rows.mono h1 fun u w'' he => ⟨put_eq_of hs he.1, he.2⟩
    | halt x w' =>
      cases x <;> simp only [Oper.upon] at h1 ⊢
      case panic u => exact h1
  · rename_i hw
    simp only [hw] at h1
    exact ⟨put_eq_of hs h1.1, h1.2⟩
def detAct (ops : Array Oper) (vs : Nat → Value) (a0 : Act) (l : List Nat) : Act := l.foldl (fun a j => a.put ((ops[j]?).bind (·.dst)) (vs j)) a0
theorem detAct_append (vs : Nat → Value) (a0 : Act) (x y : List Nat) : detAct ops vs a0 (x ++ y) = detAct ops vs (detAct ops vs a0 x) y := by
  unfold detAct; rw [List.foldl_append]
theorem detAct_size (vs : Nat → Value) : ∀ (l : List Nat) (a0 : Act), (detAct ops vs a0 l).tmps.size = a0.tmps.size
  | [], _ => rfl
  | j :: l, a0 => by
    show (detAct ops vs (a0.put _ _) l).tmps.size = _
    rw [detAct_size vs l, put_size]
theorem detAct_vs (vs vs' : Nat → Value) : ∀ (l : List Nat) (a0 : Act), (∀ j ∈ l, vs j = vs' j) → detAct ops vs a0 l = detAct ops vs' a0 l
  | [], _, _ => rfl
  | j :: l, a0, h => by
    show detAct ops vs (a0.put _ (vs j)) l = detAct ops vs' (a0.put _ (vs' j)) l
    rw [h j List.mem_cons_self]
    exact detAct_vs vs vs' l _ (fun k hk => h k (List.mem_cons_of_mem _ hk))
/-- Each operation waits for earlier ones alone, and for all whose values it looks at; no two leave their values in one place. -/
def looksB (ops : Array Oper) (o : Oper) (j : Nat) : Bool := match (ops[j]?).bind (·.dst) with
  | some d => (o.looksAt ops).contains d
  | none => false
def detB (md : Region.Mode) (ops : Array Oper) : Bool :=
  Region.noSelect ops && (List.range ops.size).all fun i => match ops[i]? with
    | none => true
    | some o => (o.after.all fun e => !Region.binds md e || decide (e.on < i)) &&
        (List.range ops.size).all fun j => j == i || ((!looksB ops o j || o.after.any fun e => Region.binds md e && e.on == j) &&
          (match (ops[j]?).bind (·.dst) with
           | some d => o.dst != some d
           | none => true))
structure DetOk (md : Region.Mode) (ops : Array Oper) : Prop where
  sel : ∀ (j : Nat) (o : Oper) cs b, ops[j]? = some o → o.op ≠ .select cs b
  before : ∀ (i : Nat) (o : Oper), ops[i]? = some o → ∀ e ∈ o.after, Region.binds md e = true → e.on < i
  deps : ∀ (i : Nat) (o : Oper), ops[i]? = some o → ∀ j, j < ops.size → j ≠ i → looksB ops o j = true → ∃ e ∈ o.after, Region.binds md e = true ∧ e.on = j
  apart : ∀ (i j : Nat) (oi oj : Oper), ops[i]? = some oi → ops[j]? = some oj → i ≠ j → ∀ d, oi.dst = some d → oj.dst ≠ some d
theorem detOk (h : detB md ops = true) : DetOk md ops := by
  unfold detB at h
  simp only [Bool.and_eq_true, List.all_eq_true, List.mem_range] at h
  obtain ⟨hs, h⟩ := h
  refine ⟨fun j o cs b => Region.noSelect_spec hs j o cs b, fun i o ho e he hb => ?_, fun i o ho j hj hne hl => ?_, fun i j oi oj hoi hoj hne d hd hd2 => ?_⟩
  · have h1 := h i (Array.getElem?_eq_some_iff.1 ho).1
    rw [ho] at h1
    simp only [Bool.and_eq_true] at h1
    have h2 := Array.all_eq_true'.1 h1.1 e he
    simpa [hb] using h2
  · have h1 := h i (Array.getElem?_eq_some_iff.1 ho).1
    rw [ho] at h1
    simp only [Bool.and_eq_true, List.all_eq_true, List.mem_range] at h1
    have h2 := h1.2 j hj
    simp only [Bool.or_eq_true, beq_iff_eq, hne, false_or, Bool.and_eq_true, Bool.not_eq_true', hl, Bool.true_eq_false] at h2
    obtain ⟨e, he, hb⟩ := Array.any_eq_true'.1 h2.1
    simp only [Bool.and_eq_true, beq_iff_eq] at hb
    exact ⟨e, he, hb.1, hb.2⟩
  · have h1 := h i (Array.getElem?_eq_some_iff.1 hoi).1
    rw [hoi] at h1
    simp only [Bool.and_eq_true, List.all_eq_true, List.mem_range] at h1
    have h2 := h1.2 j (Array.getElem?_eq_some_iff.1 hoj).1
    simp only [Bool.or_eq_true, beq_iff_eq, Ne.symm hne, false_or, Bool.and_eq_true, hoj, Option.bind_some, hd2, hd] at h2
    simp at h2
theorem detAct_perm (hB : DetOk md ops) (vs : Nat → Value) {x y : List Nat} (a0 : Act) (h : x.Perm y) : detAct ops vs a0 x = detAct ops vs a0 y := by
  unfold detAct
  refine h.foldl_eq' (fun i _ j _ a => ?_) a0
  by_cases hij : i = j
  · subst hij; rfl
  · refine Act.put_comm a _ _ (fun d hd hd2 => ?_)
    cases hi : ops[i]? with
    | none => rw [hi] at hd; cases hd
    | some oi =>
      cases hj : ops[j]? with
      | none => rw [hj] at hd2; cases hd2
      | some oj =>
        rw [hi] at hd; rw [hj] at hd2
        exact hB.apart i j oi oj hi hj hij d hd hd2
theorem detAct_skip (hB : DetOk md ops) (vs : Nat → Value) {i : Nat} {o : Oper} (ho : ops[i]? = some o) : ∀ (l : List Nat) (a : Act), (∀ j ∈ l, looksB ops o j = false) →
    execOp (detAct ops vs a l).eval o = execOp a.eval o ∧ Region.wanted o (yielded ops (detAct ops vs a l).tmps) = Region.wanted o (yielded ops a.tmps)
  | [], _, _ => ⟨rfl, rfl⟩
  | j :: l, a, h => by
    have ih := detAct_skip hB vs ho l (a.put ((ops[j]?).bind (·.dst)) (vs j)) (fun k hk => h k (List.mem_cons_of_mem _ hk))
    have hj := h j List.mem_cons_self
    have hd : ∀ d, (ops[j]?).bind (·.dst) = some d → d ∉ o.looksAt ops := fun d hd hm => by
      unfold looksB at hj
      rw [hd] at hj
      simp only [List.contains_eq_mem, decide_eq_false_iff_not] at hj
      exact hj hm
    exact ⟨ih.1.trans (execOp_put o (hB.sel i o · · ho) a _ _ hd), ih.2.trans (wanted_put o a _ _ hd)⟩
theorem detAct_see (hB : DetOk md ops) (vs : Nat → Value) {i : Nat} {o : Oper} (ho : ops[i]? = some o) (a0 : Act) (l : List Nat) :
    execOp (detAct ops vs a0 l).eval o = execOp (detAct ops vs a0 (l.filter (looksB ops o))).eval o ∧
    Region.wanted o (yielded ops (detAct ops vs a0 l).tmps) = Region.wanted o (yielded ops (detAct ops vs a0 (l.filter (looksB ops o))).tmps) := by
  have hp := (List.filter_append_perm (looksB ops o) l).symm
  rw [detAct_perm hB vs a0 hp, detAct_append]
  exact detAct_skip hB vs ho _ _ (fun j hj => by
    have := (List.mem_filter.1 hj).2
    simpa using this)
theorem wpDet_vs {K : Act → Prop} : ∀ (l : List Oper) (k : Nat) (vs0 : Nat → Value) (a0 : Act), (∀ j, l[j]? = ops[k + j]?) → wpDet P ops S K l (detAct ops vs0 a0 (List.range k)) →
    ∃ vs : Nat → Value, (∀ j, j < k → vs j = vs0 j) ∧ (∀ i o, k ≤ i → ops[i]? = some o → Gives P ops S o (detAct ops vs a0 (List.range i)) (vs i)) ∧ K (detAct ops vs a0 (List.range (k + l.length)))
  | [], k, vs0, a0, hl, h => ⟨vs0, fun _ _ => rfl, fun i o hi ho => by
      have := hl (i - k)
      rw [show k + (i - k) = i by omega, ho] at this
      simp at this, by simpa [wpDet] using h⟩
  | o :: l, k, vs0, a0, hl, h => by
    obtain ⟨v, hg, h⟩ := h
    have h0 : ops[k]? = some o := by simpa using (hl 0).symm
    let vs1 : Nat → Value := fun j => if j = k then v else vs0 j
    have e1 : detAct ops vs1 a0 (List.range k) = detAct ops vs0 a0 (List.range k) := detAct_vs _ _ _ _ (fun j hj => by
      have := List.mem_range.1 hj
      show (if j = k then v else vs0 j) = _
      rw [if_neg (by omega)])
    have e2 : detAct ops vs1 a0 (List.range (k + 1)) = (detAct ops vs0 a0 (List.range k)).put o.dst v := by
      rw [List.range_succ, detAct_append, e1]
      show Act.put _ ((ops[k]?).bind (·.dst)) (if k = k then v else vs0 k) = _
      rw [h0, if_pos rfl]; rfl
    rw [← e2] at h
    obtain ⟨vs, hv, hG, hK⟩ := wpDet_vs l (k + 1) vs1 a0 (fun j => by
      have := hl (j + 1)
      rw [show k + (j + 1) = k + 1 + j by omega] at this
      simpa using this) h
    refine ⟨vs, fun j hj => (hv j (by omega)).trans (by show (if j = k then v else vs0 j) = _; rw [if_neg (by omega)]), fun i o' hi ho' => ?_, by rw [show k + (o :: l).length = k + 1 + l.length by simp; omega]; exact hK⟩
    rcases Nat.lt_or_ge k i with h1 | h1
    · exact hG i o' h1 ho'
    · obtain rfl : i = k := by omega
      obtain rfl : o = o' := Option.some.inj (h0.symm.trans ho')
      have e3 : detAct ops vs a0 (List.range i) = detAct ops vs0 a0 (List.range i) := (detAct_vs _ _ _ _ (fun j hj => hv j (by have := List.mem_range.1 hj; omega))).trans e1
      have e4 : vs i = v := (hv i (by omega)).trans (by show (if i = i then v else vs0 i) = _; rw [if_pos rfl])
      rw [e3, e4]; exact hg
theorem wpOp_gives {i : Nat} {o : Oper} {a : Act} {v : Value} {w : World} {K : Act → World → Prop} (ho : ops[i]? = some o) (h : Gives P ops S o a v) (hS : S w) (hK : ∀ w', S w' → K (a.put o.dst v) w') : wpOp P ops Q i K a w := by
  have h1 := h w hS
  unfold wpOp
  simp only [ho]
  unfold wpList at h1
  split
  · rename_i hw
    simp only [hw, if_true] at h1
    refine .inl ?_
    rcases h1 with h1 | ⟨-, h1⟩
    case inr => exact (lets_no h1).elim
    unfold Oper.wp at *
    generalize (execOp a.eval o).run P w = r at *
    cases r with
    | ok n w' =>
      cases n <;> simp only [Oper.upon] at h1 ⊢
      case value u => obtain ⟨e, h1⟩ := h1; rw [e]; exact hK _ h1
      case skip => obtain ⟨e, h1⟩ := h1; rw [e]; exact hK _ h1
      case defer d => exact (put_defers_ne h1.1).elim
      case enter f args =>
        refine Calls.mono h1 fun e w'' he => ?_
        cases e with
        | returned u => obtain ⟨e, h1⟩ := he; show K (a.put o.dst u) w''; rw [e]; exact hK _ h1
        | panicked c => exact he.elim
        | outgrown => exact (lets_no he).elim
      case row row args => exact Rows.mono h1 fun u w'' he => by obtain ⟨e, h1⟩ := he; show K (a.put o.dst u) w''; rw [e]; exact hK _ h1
    | halt x w' =>
      cases x <;> simp only [Oper.upon] at h1 ⊢
      case panic u => exact h1.elim
  · rename_i hw
    simp only [hw] at h1
    obtain ⟨e, h1⟩ := h1
    rw [show a.put o.dst undef = a.put o.dst v from e]; exact hK _ h1
def listedOf (n : Nat) (l : List Nat) : Array Bool := ((List.range n).map fun j => decide (j ∈ l)).toArray
theorem listedOf_get (n : Nat) (l : List Nat) (j : Nat) : (listedOf n l)[j]? = if j < n then some (decide (j ∈ l)) else none := by
  unfold listedOf
  rw [List.getElem?_toArray, List.getElem?_map]
  by_cases h : j < n
  · rw [if_pos h, List.getElem?_range h]; rfl
  · rw [if_neg h, List.getElem?_eq_none (by simp; omega)]; rfl
theorem listedOf_set {n : Nat} {l : List Nat} {i : Nat} (h : i < n) : (listedOf n l).setIfInBounds i true = listedOf n (l ++ [i]) := by
  apply Array.ext_getElem?
  intro j
  rw [Array.getElem?_setIfInBounds, listedOf_get, listedOf_get]
  have hsz : (listedOf n l).size = n := by simp [listedOf]
  by_cases hij : i = j
  · subst hij
    rw [if_pos rfl, hsz, if_pos h, if_pos h]; simp
  · rw [if_neg hij]
    by_cases hj : j < n
    · rw [if_pos hj, if_pos hj]
      congr 1
      simp [Ne.symm hij]
    · rw [if_neg hj, if_neg hj]
theorem any_det (hB : DetOk md ops) (vs : Nat → Value) (a0 : Act) (hG : ∀ i o, ops[i]? = some o → Gives P ops S o (detAct ops vs a0 (List.range i)) (vs i))
    (hE : ∀ w, S w → Q .normal (detAct ops vs a0 (List.range ops.size)) w) :
    ∀ (fuel : Nat) (l : List Nat) (w : World), l.Nodup → (∀ i ∈ l, i < ops.size) → ops.size ≤ fuel + l.length → S w → wpAny P md ops Q fuel (listedOf ops.size l) (detAct ops vs a0 l) w := by
  have hend : ∀ (l : List Nat) (w : World), l.Nodup → (∀ i ∈ l, i < ops.size) → (∀ i, i < ops.size → i ∈ l) → S w → Q .normal (detAct ops vs a0 l) w := fun l w hn hl hall hS => by
    have hp : l.Perm (List.range ops.size) := by
      rw [List.perm_ext_iff_of_nodup hn List.nodup_range]
      intro j
      exact ⟨fun h => List.mem_range.2 (hl j h), fun h => hall j (List.mem_range.1 h)⟩
    rw [detAct_perm hB vs a0 hp]; exact hE w hS
  have hready : ∀ (l : List Nat), Region.ready md ops (listedOf ops.size l) = [] → ∀ i, i < ops.size → i ∈ l := fun l hr => by
    intro i
    induction i using Nat.strongRecOn with
    | _ i ih =>
      intro hi
      by_cases hm : i ∈ l
      · exact hm
      have : i ∈ Region.ready md ops (listedOf ops.size l) := by
        rw [mem_ready]
        refine ⟨?_, ops[i], Array.getElem?_eq_getElem hi, fun e he hb => ?_⟩
        · rw [Array.getD_eq_getD_getElem?, listedOf_get, if_pos hi]; simp [hm]
        · have h1 := hB.before i _ (Array.getElem?_eq_getElem hi) e he hb
          have h2 := ih e.on h1 (by omega)
          rw [Array.getD_eq_getD_getElem?, listedOf_get, if_pos (by omega)]; simp [h2]
      rw [hr] at this
      cases this
  intro fuel
  induction fuel with
  | zero =>
    intro l w hn hl hlen hS
    have hall : ∀ i, i < ops.size → i ∈ l := by
      intro i hi
      by_cases hm : i ∈ l
      · exact hm
      have hn2 : (i :: l).Nodup := List.nodup_cons.2 ⟨hm, hn⟩
      have hsub : (i :: l) ⊆ List.range ops.size := fun j hj => by
        rcases List.mem_cons.1 hj with rfl | h
        · exact List.mem_range.2 hi
        · exact List.mem_range.2 (hl j h)
      have := List.Nodup.length_le_of_subset hn2 hsub
      simp at this
      omega
    refine ⟨?_, hend l w hn hl hall hS⟩
    cases hr : Region.ready md ops (listedOf ops.size l) with
    | nil => rfl
    | cons i r =>
      have h1 : i ∈ Region.ready md ops (listedOf ops.size l) := by rw [hr]; exact List.mem_cons_self
      obtain ⟨h2, o, ho, -⟩ := mem_ready.1 h1
      have hi := (Array.getElem?_eq_some_iff.1 ho).1
      rw [Array.getD_eq_getD_getElem?, listedOf_get, if_pos hi] at h2
      simp [hall i hi] at h2
  | succ fuel ih =>
    intro l w hn hl hlen hS
    refine ⟨fun hr => hend l w hn hl (hready l hr) hS, fun i hi => ?_⟩
    obtain ⟨h2, o, ho, haf⟩ := mem_ready.1 hi
    have hin := (Array.getElem?_eq_some_iff.1 ho).1
    have hil : i ∉ l := by
      rw [Array.getD_eq_getD_getElem?, listedOf_get, if_pos hin] at h2
      simpa using h2
    have hset := listedOf_set (l := l) hin
    rw [hset]
    have hsame : Gives P ops S o (detAct ops vs a0 l) (vs i) := by
      have e1 := detAct_see hB vs ho a0 l
      have e2 := detAct_see hB vs ho a0 (List.range i)
      have hp : (l.filter (looksB ops o)).Perm ((List.range i).filter (looksB ops o)) := by
        rw [List.perm_ext_iff_of_nodup (hn.filter _) (List.nodup_range.filter _)]
        intro j
        rw [List.mem_filter, List.mem_filter, List.mem_range]
        constructor
        · rintro ⟨hj, hlk⟩
          obtain ⟨e, he, hb, rfl⟩ := hB.deps i o ho j (hl j hj) (fun h => hil (h ▸ hj)) hlk
          exact ⟨hB.before i o ho e he hb, hlk⟩
        · rintro ⟨hj, hlk⟩
          obtain ⟨e, he, hb, rfl⟩ := hB.deps i o ho j (by omega) (by omega) hlk
          have h3 := haf e he hb
          rw [Array.getD_eq_getD_getElem?, listedOf_get, if_pos (by omega)] at h3
          exact ⟨by simpa using h3, hlk⟩
      have e3 := detAct_perm hB vs a0 hp
      refine (hG i o ho).same (e1.1.trans (by rw [e3]; exact e2.1.symm)) (e1.2.trans (by rw [e3]; exact e2.2.symm)) ?_
      rw [detAct_size, detAct_size]
    refine wpOp_gives ho hsame hS (fun w' hS' => ?_)
    have e4 : (detAct ops vs a0 l).put o.dst (vs i) = detAct ops vs a0 (l ++ [i]) := by
      rw [detAct_append]
      show _ = Act.put _ ((ops[i]?).bind (·.dst)) (vs i)
      rw [ho]; rfl
    rw [e4]
    refine ih (l ++ [i]) w' ?_ ?_ (by simp; omega) hS'
    · rw [List.nodup_append]
      exact ⟨hn, by simp, fun a ha b hb => by simp at hb; subst hb; exact fun h => hil (h ▸ ha)⟩
    · intro j hj
      rcases List.mem_append.1 hj with h | h
      · exact hl j h
      · simp at h; omega
/-- THE LAW. -/
theorem wp_region_det {id : Nat} {a : Act} {w : World} {l : List Oper} (S : World → Prop) (hm : P.follows .mixedOrders = true) (hB : detB .any l.toArray = true) (hS : S w.drew)
    (h : wpDet P l.toArray S (fun a' => ∀ w', S w' → Q .normal a' w') l a) : (Code.region id l.toArray true).wp P Q a w := by
  refine wp_region_any hm ?_
  obtain ⟨vs, -, hG, hK⟩ := wpDet_vs (P := P) (S := S) (ops := l.toArray) l 0 (fun _ => undef) a (fun j => by simp) (by simpa [detAct] using h)
  have h0 : listedOf l.toArray.size [] = Array.replicate l.toArray.size false := by
    apply Array.ext_getElem?
    intro j
    rw [listedOf_get, Array.getElem?_replicate]
    by_cases hj : j < l.toArray.size <;> simp [hj]
  have := any_det (P := P) (S := S) (md := .any) (Q := Q) (detOk hB) vs a (fun i o ho => hG i o (Nat.zero_le _) ho) (by simpa using hK) l.toArray.size [] w.drew (by simp) (by simp) (by simp) hS
  rw [h0] at this
  exact this
def valOf (d : Option Tmp) (a : Act) : Value := match d with
  | some d => a.tmps.getD d undef
  | none => undef
/-- One operation: run alone in a world of which S is known. -/
theorem det_step {K : Act → Prop} {o : Oper} {l : List Oper} {a : Act} (a2 : Act)
    (h : ∀ w, S w → ∀ M : Act → World → Prop, (∀ w', S w' → M a2 w') → wpList P ops (Exit.then M (fun _ _ _ => False)) [o] a w) (he : a.put o.dst (valOf o.dst a2) = a2) (h2 : wpDet P ops S K l a2) : wpDet P ops S K (o :: l) a :=
  ⟨valOf o.dst a2, fun w hS => h w hS _ (fun _ hS' => ⟨he.symm, hS'⟩), by rw [he]; exact h2⟩
end
end Go.Proofs.YtankpckkiikmaaaDoor
namespace Go.Proofs.YtankpckkiikmaaaDoor
open Go.RowKit Cod
theorem tab_up {B B' : Nat} {w : World} {name : String} {k : IntKind} {zs : List Int} (h : Lib.TabBelow Tryd.prog B w name k zs) (hB : B ≤ B') : Lib.TabBelow Tryd.prog B' w name k zs := fun w' hb => h w' (hb.mono hB)
theorem tab_on {w w1 : World} {name : String} {k : IntKind} {zs : List Int} (h : Lib.TabBelow Tryd.prog w.heap.size w name k zs) (hb : Below w.heap.size w w1) : Lib.TabBelow Tryd.prog w1.heap.size w1 name k zs := tab_up (h.on hb) hb.size
/-- Code of one part. -/
def Cod.plainC (g : Nat) (regs : Int) : CV :=
  { A0 := none, n0 := 0, c0 := 0, A1 := none, n1 := 0, c1 := 0, A2 := some ⟨g + 2, 0, none⟩, n2 := 1, c2 := 1, A3 := none, n3 := 0, c3 := 0, A4 := none, n4 := 0, c4 := 0, A5 := none, n5 := 0, c5 := 0, A6 := none, n6 := 0, c6 := 0,
    globals := [], fns := [], parts := [{ regs := regs, A := none, n := 0, c := 0, loops := 0, A' := some ⟨g + 1, 0, none⟩, n' := 1, c' := 1, arrays := [] }] }
def plainV (g : Nat) : Value := .agg #[.slice none 0 0, .slice none 0 0, .slice (some ⟨g + 2, 0, none⟩) 1 1, .slice none 0 0, .slice none 0 0, .slice none 0 0, .slice none 0 0]
set_option maxRecDepth 20000 in
set_option maxHeartbeats 2000000 in
theorem l_plain (regs : Int) (hr : (Lit.int .i64 regs).wf = true) (w : World) :
    Calls Tryd.prog 15 #[.int .i64 regs] w fun e w' => e = .returned (plainV w.heap.size) ∧ CodeAt w' w'.heap.size (plainC w.heap.size regs) ∧ Below w.heap.size w w' := by
  have HR := Lib.hid hr
  go_enter Tryd.func15, Tryd.ntmps15
  go_wp2_with fail
  go_returns
  have m0 : (0 : Nat) ≤ maxLen := Nat.zero_le _
  have m1 : (1 : Nat) ≤ maxLen := by unfold maxLen; omega
  have z0 : (Lit.int .i64 0).wf = true := by decide
  refine ⟨rfl, ⟨⟨rfl, m0, fun h => absurd h (Nat.lt_irrefl 0)⟩, ⟨rfl, m0, by simp [plainC], fun h => absurd h (Nat.lt_irrefl 0)⟩, rfl, fun _ => ⟨w.heap.size + 2, 0, rfl, by simp, fun j hj => ?_⟩, fun q hq => ?_, Nat.le_refl _, m0, m1, m0⟩, ((((Below.refl _ _).alloc (Nat.le_refl _) _).alloc (by simp) _).alloc (by simp; omega) _)⟩
  · obtain rfl : j = 0 := by simp [plainC] at hj; omega
    generalize hX : ((w.alloc _).alloc _) = X
    have hs : w.heap.size + 2 = X.heap.size := by rw [← hX]; simp
    rw [hs]
    simp [plainC]
  · simp only [plainC, List.mem_singleton] at hq
    subst hq
    exact ⟨⟨rfl, m0, fun h => absurd h (Nat.lt_irrefl 0)⟩, HR.out, z0, m1⟩
def plainW (g : Nat) : Value := .agg #[.slice none 0 0, .slice none 0 0, .slice (some ⟨g + 1 + 1, 0, none⟩) 1 1, .slice none 0 0, .slice none 0 0, .slice none 0 0, .slice none 0 0]
theorem wf3 : (Lit.int .i64 3).wf = true := by decide
theorem wf2 : (Lit.int .i64 2).wf = true := by decide
theorem wf0 : (Lit.int .i64 0).wf = true := by decide
theorem plain_ins {w : World} {B g : Nat} {regs : Int} (h : CodeAt w B (plainC g regs)) (i : IV) (hi : IOk i) (hl : Ints w B i.A i.n i.args) {x : Bool} (hx : insB (plainC g regs) 0 i = x) :
    Calls Tryd.prog 7 #[plainV g, .int .i64 0, .agg #[.int .u8 i.op, .int .i64 i.a, .int .i64 i.b, .int .i64 i.c, .string i.s, .slice i.A i.n i.cap]] w fun e w' => e = .returned (.bool x) ∧ Below w.heap.size w w' := by
  have := p_ins h 0 (by decide) i hi hl
  rw [hx] at this
  exact this
theorem ints_none (w : World) (B : Nat) : Ints w B none 0 [] := ⟨rfl, Nat.zero_le _, by simp, fun h => absurd h (Nat.lt_irrefl 0)⟩
theorem aw1 {w : World} {B g : Nat} (h : CodeAt w B (plainC g 3)) : Calls Tryd.prog 7 #[plainV g, .int .i64 0, .agg #[.int .u8 16, .int .i64 0, .int .i64 1, .int .i64 2, .string ⟨#[43]⟩, .slice none 0 0]] w fun e w' => e = .returned (.bool true) ∧ Below w.heap.size w w' :=
  plain_ins h ⟨16, 0, 1, 2, ⟨#[43]⟩, none, 0, 0, []⟩ ⟨by decide, by decide, by decide⟩ (ints_none _ _) (by rfl)
theorem aw2 {w : World} {B g : Nat} (h : CodeAt w B (plainC g 2)) : Calls Tryd.prog 7 #[plainV g, .int .i64 0, .agg #[.int .u8 16, .int .i64 0, .int .i64 1, .int .i64 2, .string ⟨#[43]⟩, .slice none 0 0]] w fun e w' => e = .returned (.bool false) ∧ Below w.heap.size w w' :=
  plain_ins h ⟨16, 0, 1, 2, ⟨#[43]⟩, none, 0, 0, []⟩ ⟨by decide, by decide, by decide⟩ (ints_none _ _) (by rfl)
theorem aw3 {w : World} {B g : Nat} (h : CodeAt w B (plainC g 0)) : Calls Tryd.prog 7 #[plainV g, .int .i64 0, .agg #[.int .u8 22, .int .i64 0, .int .i64 0, .int .i64 0, .string ⟨#[]⟩, .slice none 0 0]] w fun e w' => e = .returned (.bool true) ∧ Below w.heap.size w w' :=
  plain_ins h ⟨22, 0, 0, 0, ⟨#[]⟩, none, 0, 0, []⟩ ⟨by decide, by decide, by decide⟩ (ints_none _ _) (by rfl)
theorem show4 : showB ⟨25, 0, 1, 0, ⟨#[]⟩, none, 2, 2, [2, -1]⟩ = ⟨#[99, 97, 108, 108, 32, 48, 32, 49, 32, 48, 32, 91, 50, 32, 45, 49, 93]⟩ := by kernel_rfl
theorem show5 : showB ⟨17, 3, 1, 2, ⟨#[60]⟩, none, 0, 0, []⟩ = ⟨#[99, 109, 112, 32, 51, 32, 49, 32, 50, 32, 60]⟩ := by kernel_rfl
theorem aw4 {w : World} {b : Nat} (ht : Lib.TabBelow Tryd.prog w.heap.size w "internal/strconv.uint64pow10" .u64 Lib.pow10Tab) (hb : b < w.heap.size) (h0 : w.cell? ⟨b, 0, none⟩ = some (.int .i64 2)) (h1 : w.cell? ⟨b, 1, none⟩ = some (.int .i64 (-1))) :
    Calls Tryd.prog 8 #[.agg #[.int .u8 25, .int .i64 0, .int .i64 1, .int .i64 0, .string ⟨#[]⟩, .slice (some ⟨b, 0, none⟩) 2 2]] w fun e w' => e = .returned (.string ⟨#[99, 97, 108, 108, 32, 48, 32, 49, 32, 48, 32, 91, 50, 32, 45, 49, 93]⟩) ∧ Below w.heap.size w w' := by
  have := p_show (B := w.heap.size) ⟨25, 0, 1, 0, ⟨#[]⟩, some ⟨b, 0, none⟩, 2, 2, [2, -1]⟩ ⟨rfl, rfl, rfl⟩ rfl ht ⟨rfl, by show 2 ≤ maxLen; unfold maxLen; omega, (show ∀ x ∈ ([2, -1] : List Int), (Lit.int .i64 x).wf = true by decide), fun _ => ⟨b, 0, rfl, hb, fun j hj => by
    match j, hj with
    | 0, _ => exact h0
    | 1, _ => exact h1⟩⟩ (Nat.le_refl _) (by show 2 ≤ 1000; omega) (by show 0 ≤ 1000; omega) rfl
  rw [show showB ⟨25, 0, 1, 0, ⟨#[]⟩, some ⟨b, 0, none⟩, 2, 2, [2, -1]⟩ = _ from show4] at this
  exact this
theorem aw5 {w : World} (ht : Lib.TabBelow Tryd.prog w.heap.size w "internal/strconv.uint64pow10" .u64 Lib.pow10Tab) :
    Calls Tryd.prog 8 #[.agg #[.int .u8 17, .int .i64 3, .int .i64 1, .int .i64 2, .string ⟨#[60]⟩, .slice none 0 0]] w fun e w' => e = .returned (.string ⟨#[99, 109, 112, 32, 51, 32, 49, 32, 50, 32, 60]⟩) ∧ Below w.heap.size w w' := by
  have := p_show (B := w.heap.size) ⟨17, 3, 1, 2, ⟨#[60]⟩, none, 0, 0, []⟩ ⟨by decide, by decide, by decide⟩ (by decide) ht (ints_none _ _) (Nat.le_refl _) (by show 0 ≤ 1000; omega) (by show 1 ≤ 1000; omega) (by decide)
  rw [show5] at this
  exact this
structure AwS (w0 w1 : World) : Prop where
  below : Below w0.heap.size w0 w1
  blk : w1.heap[w0.heap.size]? = some (.cells #[.int .u8 16, .int .i64 0, .int .i64 1, .int .i64 2, .string ⟨#[43]⟩, .slice none 0 0] 31 (0, 0))
theorem AwS.keep {w0 w1 w2 : World} (h : AwS w0 w1) (hb : Below w1.heap.size w1 w2) : AwS w0 w2 :=
  ⟨Gr.trans h.below hb, (hb.block w0.heap.size (Array.getElem?_eq_some_iff.1 h.blk).1).trans h.blk⟩
theorem AwS.tab {w0 w1 : World} (h : AwS w0 w1) (ht : Lib.TabBelow Tryd.prog w0.heap.size w0 "internal/strconv.uint64pow10" .u64 Lib.pow10Tab) : Lib.TabBelow Tryd.prog w1.heap.size w1 "internal/strconv.uint64pow10" .u64 Lib.pow10Tab := tab_on ht h.below
theorem AwS.cells {w w' : World} (h : AwS w w') : w'.cell? ⟨w.heap.size, 0, none⟩ = some (.int .u8 16) ∧ w'.cell? ⟨w.heap.size, 1, none⟩ = some (.int .i64 0) ∧ w'.cell? ⟨w.heap.size, 2, none⟩ = some (.int .i64 1) ∧ w'.cell? ⟨w.heap.size, 3, none⟩ = some (.int .i64 2) ∧ w'.cell? ⟨w.heap.size, 4, none⟩ = some (.string ⟨#[43]⟩) ∧ w'.cell? ⟨w.heap.size, 5, none⟩ = some (.slice none 0 0) := by
  have := h.blk
  simp [World.cell?, this]
theorem AwS.alloc {w w' : World} (h : AwS w w') (ob : Obj) : AwS w (w'.alloc ob) := h.keep ((Below.refl _ _).alloc (Nat.le_refl _) _)
theorem aw4' {w w1 : World} (h : AwS w w1) (ht : Lib.TabBelow Tryd.prog w.heap.size w "internal/strconv.uint64pow10" .u64 Lib.pow10Tab) :
    Calls Tryd.prog 8 #[.agg #[.int .u8 25, .int .i64 0, .int .i64 1, .int .i64 0, .string ⟨#[]⟩, .slice (some ⟨w1.heap.size, 0, none⟩) 2 2]] (w1.alloc (.cells #[.int .i64 2, .int .i64 (-1)] 3)) fun e w' => e = .returned (.string ⟨#[99, 97, 108, 108, 32, 48, 32, 49, 32, 48, 32, 91, 50, 32, 45, 49, 93]⟩) ∧ Below (w1.alloc (.cells #[.int .i64 2, .int .i64 (-1)] 3)).heap.size (w1.alloc (.cells #[.int .i64 2, .int .i64 (-1)] 3)) w' :=
  aw4 ((h.alloc _).tab ht) (by simp) (by simp) (by simp)
set_option maxRecDepth 20000 in
set_option maxHeartbeats 8000000 in
theorem l_awake (w : World) (ht : Lib.TabBelow Tryd.prog w.heap.size w "internal/strconv.uint64pow10" .u64 Lib.pow10Tab) : Calls Tryd.prog 6 #[] w fun e w' => e = .returned (.bool true) ∧ Below w.heap.size w w' := by
  have HT := Lib.hid ht
  clear ht
  go_enter Tryd.func6, Tryd.ntmps6
  go_wp2_with fail
  have hX : AwS w (w.alloc (.cells #[.int .u8 16, .int .i64 0, .int .i64 1, .int .i64 2, .string ⟨#[43]⟩, .slice none 0 0] 31)) := ⟨(Below.refl _ _).alloc (Nat.le_refl _) _, (MapKept.heap_alloc w _).1⟩
  generalize (w.alloc (.cells #[.int .u8 16, .int .i64 0, .int .i64 1, .int .i64 2, .string ⟨#[43]⟩, .slice none 0 0] 31)) = W at hX ⊢
  have HX := Lib.hid hX
  have HX1 := Lib.hid (hX.keep (Below.refl _ _).drew)
  clear hX
  have hc := HX.out.cells
  go_region_held3 (fun w' => w'.cell? ⟨w.heap.size, 0, none⟩ = some (.int .u8 16) ∧ w'.cell? ⟨w.heap.size, 1, none⟩ = some (.int .i64 0) ∧ w'.cell? ⟨w.heap.size, 2, none⟩ = some (.int .i64 1) ∧ w'.cell? ⟨w.heap.size, 3, none⟩ = some (.int .i64 2) ∧ w'.cell? ⟨w.heap.size, 4, none⟩ = some (.string ⟨#[43]⟩) ∧ w'.cell? ⟨w.heap.size, 5, none⟩ = some (.slice none 0 0)) (first | exact hc | exact hc2 | exact hc3 | exact hc4 | exact hc5 | exact hc6 | exact hc7 | exact (HX7.out.alloc _).cells | exact hc8 | exact hc9 | exact HX1.out.cells | go_keep) (first
    | ((with_reducible refine (l_plain 3 wf3 _).mono ?_); rintro e w2 ⟨rfl, hC2, hb2⟩; have HC2 : Hid (CodeAt w2 w2.heap.size (plainC W.heap.size 3)) := hC2; have HX2 := Lib.hid (HX1.out.keep hb2); have hc2 := HX2.out.cells; clear hC2 hb2)
    | ((with_reducible refine (aw1 HC2.out).mono ?_); rintro e w3 ⟨rfl, hb3⟩; have HX3 := Lib.hid (HX2.out.keep hb3); have hc3 := HX3.out.cells; clear hb3)
    | ((with_reducible refine (l_plain 2 wf2 _).mono ?_); rintro e w4 ⟨rfl, hC4, hb4⟩; have HC4 := Lib.hid hC4; have HX4 := Lib.hid (HX3.out.keep hb4); have hc4 := HX4.out.cells; clear hC4 hb4)
    | ((with_reducible refine (aw2 HC4.out).mono ?_); rintro e w5 ⟨rfl, hb5⟩; have HX5 := Lib.hid (HX4.out.keep hb5); have hc5 := HX5.out.cells; clear hb5)
    | ((with_reducible refine (l_plain 0 wf0 _).mono ?_); rintro e w6 ⟨rfl, hC6, hb6⟩; have HC6 := Lib.hid hC6; have HX6 := Lib.hid (HX5.out.keep hb6); have hc6 := HX6.out.cells; clear hC6 hb6)
    | ((with_reducible refine (aw3 HC6.out).mono ?_); rintro e w7 ⟨rfl, hb7⟩; have HX7 := Lib.hid (HX6.out.keep hb7); have hc7 := HX7.out.cells; clear hb7)
    | ((with_reducible refine (aw4' HX7.out HT.out).mono ?_); rintro e w8 ⟨rfl, hb8⟩; have HX8 := Lib.hid ((HX7.out.alloc _).keep hb8); have hc8 := HX8.out.cells; clear hb8)
    | ((with_reducible refine (aw5 (HX8.out.tab HT.out)).mono ?_); rintro e w9 ⟨rfl, hb9⟩; have HX9 := Lib.hid (HX8.out.keep hb9); have hc9 := HX9.out.cells; clear hb9) | fail)
  go_wp2_with fail
  go_ret
  exact ⟨rfl, HX9.out.below⟩
end Go.Proofs.YtankpckkiikmaaaDoor
namespace Go.Proofs.YtankpckkiikmaaaDoor
open Go.RowKit Go.ChangeShapes Go.WideShapes Go.Deep Cod
set_option maxRecDepth 100000
theorem add_offC (b o i : Nat) : (⟨b, o, none⟩ : Addr).add i = ⟨b, o + i, none⟩ := by unfold Addr.add; split <;> simp_all
section
variable {H : Type} {enc : TypeId × Value → H} {w : World} {spare : Nat → Bool} {held : Bool} {fuel : Nat} {cs : List Value} {x : DataW H × List MemPlace}
theorem lt_of_cell {b o : Nat} {v : Value} (h : w.cell? ⟨b, o, none⟩ = some v) : b < w.heap.size := by
  by_cases hb : b < w.heap.size
  · exact hb
  · simp [World.cell?, Array.getElem?_eq_none (Nat.le_of_not_lt hb)] at h
theorem t_any {t e : TypeId} (ht : Tryd.prog.underlying t = some (.slice e)) (h : DataW.trod enc Tryd.prog w 0 spare held fuel t cs = some x) : ∃ A n cap, cs = [.slice A n cap] ∧ n ≤ cap ∧ cap ≤ maxLen := by
  rcases open_slice ht h with ⟨hcs, _⟩ | ⟨a, len, cap, m, n, D, Pl, hcs, hb, hl, hm, hmm, hx, hi⟩
  · exact ⟨_, _, _, hcs, Nat.le_refl _, Nat.zero_le _⟩
  · exact ⟨_, _, _, hcs, hl, hm⟩
theorem t_bools (h : DataW.trod enc Tryd.prog w 0 spare held fuel 23 cs = some x) : ∃ A n cap xs, cs = [.slice A n cap] ∧ Bools w w.heap.size A n xs ∧ n ≤ cap ∧ cap ≤ maxLen := by
  rcases open_slice1 Tryd.underlying23 (by kernel_rfl) h with ⟨hcs, _⟩ | ⟨a, len, cap, m, n, V, D, Pl, hcs, hb, hl, hm, hmm, hx, hi⟩
  · exact ⟨_, _, _, [], hcs, ⟨rfl, Nat.zero_le _, fun h => absurd h (Nat.lt_irrefl 0)⟩, Nat.le_refl _, Nat.zero_le _⟩
  · have hlen : len ≤ m := by rw [hmm]; split <;> omega
    have each : ∀ i, i < len → ∃ b : Bool, w.cell? (a.add i) = some (.bool b) := fun i hi' => by
      obtain ⟨h1, h2⟩ := hi i (by omega)
      obtain ⟨b, hb, -⟩ := DataW.trod_bool Tryd.underlying4 h2
      simp at hb
      exact ⟨b, by rw [h1, hb]⟩
    refine ⟨_, _, _, (List.range len).attach.map (fun i => (each i.1 (List.mem_range.1 i.2)).choose), hcs, ⟨by simp, by omega, fun hn => ?_⟩, hl, hm⟩
    obtain ⟨b, o, s⟩ := a
    obtain ⟨b0, h0⟩ := each 0 hn
    have hs : s = none := by simpa [Addr.add] using World.cell?_spot h0
    subst hs
    have hlt : b < w.heap.size := by rw [add_offC] at h0; exact lt_of_cell h0
    refine ⟨b, o, rfl, hlt, fun i hi' => ?_⟩
    have hi2 : i < len := by simpa using hi'
    have hg : ((List.range len).attach.map (fun i => (each i.1 (List.mem_range.1 i.2)).choose))[i]'hi' = (each i hi2).choose := by simp
    rw [hg]
    have h1 := (each i hi2).choose_spec
    generalize (each i hi2).choose = z at h1 ⊢
    rw [add_offC] at h1
    exact h1
theorem t_ints (h : DataW.trod enc Tryd.prog w 0 spare held fuel 25 cs = some x) : ∃ A n cap xs, cs = [.slice A n cap] ∧ Ints w w.heap.size A n xs ∧ n ≤ cap ∧ cap ≤ maxLen := by
  rcases open_ints Tryd.underlying25 Tryd.underlying3 (by kernel_rfl) h with ⟨hcs, _⟩ | ⟨a, len, cap, ss, hcs, _, hl, hm, hz, _, hcell, hws⟩
  · exact ⟨_, _, _, [], hcs, ⟨rfl, Nat.zero_le _, by simp, fun h => absurd h (Nat.lt_irrefl 0)⟩, Nat.le_refl _, Nat.zero_le _⟩
  · have hlen : len ≤ ss.length := by rw [hz]; split <;> omega
    refine ⟨_, _, _, ss.take len, hcs, ⟨by simp; omega, by omega, fun x hx => hws x (List.mem_of_mem_take hx), fun hn => ?_⟩, hl, hm⟩
    obtain ⟨b, o, s⟩ := a
    have h0 := hcell 0 (by omega)
    have hs : s = none := by simpa [Addr.add] using World.cell?_spot h0
    subst hs
    have hlt : b < w.heap.size := by rw [add_offC] at h0; exact lt_of_cell h0
    refine ⟨b, o, rfl, hlt, fun i hi => ?_⟩
    have hi' : i < ss.length := by simp at hi; omega
    have := hcell i hi'
    rw [add_offC] at this
    rw [this]
    simp [List.getD_eq_getElem?_getD, hi']
def partOk (w : World) (q : PV) : Prop := Bools w w.heap.size q.A q.n q.arrays ∧ (Lit.int .i64 q.regs).wf = true ∧ (Lit.int .i64 q.loops).wf = true ∧ q.n' ≤ maxLen
set_option maxRecDepth 100000 in
theorem t_part (h : DataW.trod enc Tryd.prog w 0 spare held fuel 39 cs = some x) : ∃ q : PV, partOk w q ∧ cs = [.int .i64 q.regs, .slice q.A q.n q.c, .int .i64 q.loops, .slice q.A' q.n' q.c'] := by
  obtain ⟨ys, n, hn, hy, hlen, hyl, hf⟩ := DataW.trod_struct Tryd.underlying39 h
  have hc5 : Tryd.prog.cellsOf 39 = 4 := by kernel_rfl
  rw [hc5] at hlen
  have k0 : Tryd.prog.cellsOf 3 = 1 := by kernel_rfl
  have k1 : Tryd.prog.cellsOf 23 = 1 := by kernel_rfl
  have k3 : Tryd.prog.cellsOf 37 = 1 := by kernel_rfl
  match cs, hlen, ys, hyl with
  | [v0, v1, v2, v3], _, [y0, y1, y2, y3], _ =>
    have e0 : DataW.trod enc Tryd.prog w 0 spare held n 3 (([v0, v1, v2, v3].drop 0).take (Tryd.prog.cellsOf 3)) = some y0 := hf 0 _ rfl
    have e1 : DataW.trod enc Tryd.prog w 0 spare held n 23 (([v0, v1, v2, v3].drop 1).take (Tryd.prog.cellsOf 23)) = some y1 := hf 1 _ rfl
    have e2 : DataW.trod enc Tryd.prog w 0 spare held n 3 (([v0, v1, v2, v3].drop 2).take (Tryd.prog.cellsOf 3)) = some y2 := hf 2 _ rfl
    have e3 : DataW.trod enc Tryd.prog w 0 spare held n 37 (([v0, v1, v2, v3].drop 3).take (Tryd.prog.cellsOf 37)) = some y3 := hf 3 _ rfl
    rw [k0] at e0 e2
    rw [k1] at e1
    rw [k3] at e3
    obtain ⟨m0, a0, -, h0⟩ := DataW.trod_int Tryd.underlying3 e0
    obtain ⟨A1, n1, c1, x1, a1, h1, -, -⟩ := t_bools e1
    obtain ⟨m2, a2, -, h2⟩ := DataW.trod_int Tryd.underlying3 e2
    obtain ⟨A3, n3, c3, a3, h3, h3'⟩ := t_any Tryd.underlying37 e3
    simp at a0 a1 a2 a3
    subst a0 a1 a2 a3
    exact ⟨⟨m0, A1, n1, c1, m2, A3, n3, c3, x1⟩, ⟨h1, h0, h2, by show n3 ≤ maxLen; omega⟩, rfl⟩
set_option maxRecDepth 100000 in
theorem t_parts (h : DataW.trod enc Tryd.prog w 0 spare held fuel 24 cs = some x) : ∃ A n cap, ∃ qs : List PV, cs = [.slice A n cap] ∧ qs.length = n ∧ (∀ q ∈ qs, partOk w q) ∧ n ≤ cap ∧ cap ≤ maxLen ∧
    (0 < n → ∃ b o, A = some ⟨b, o, none⟩ ∧ b < w.heap.size ∧ ∀ j, (hj : j < qs.length) → w.cell? ⟨b, o + j * 4, none⟩ = some (.int .i64 qs[j].regs) ∧ w.cell? ⟨b, o + j * 4 + 1, none⟩ = some (.slice qs[j].A qs[j].n qs[j].c) ∧ w.cell? ⟨b, o + j * 4 + 2, none⟩ = some (.int .i64 qs[j].loops) ∧ w.cell? ⟨b, o + j * 4 + 3, none⟩ = some (.slice qs[j].A' qs[j].n' qs[j].c')) := by
  have hc4 : Tryd.prog.cellsOf 39 = 4 := by kernel_rfl
  rcases open_slice Tryd.underlying24 h with ⟨hcs, _⟩ | ⟨a, len, cap, m, n, D, Pl, hcs, hb, hl, hm, hmm, hx, hi⟩
  · exact ⟨_, _, _, [], hcs, rfl, by simp, Nat.le_refl _, Nat.zero_le _, fun h => absurd h (Nat.lt_irrefl 0)⟩
  · have hlen : len ≤ m := by rw [hmm]; split <;> omega
    rw [hc4] at hi
    have each : ∀ i, i < len → ∃ q : PV, partOk w q ∧ w.cells? 0 (a.add (i * 4)) 4 = some [.int .i64 q.regs, .slice q.A q.n q.c, .int .i64 q.loops, .slice q.A' q.n' q.c'] := fun i h => by
      obtain ⟨cs', h1, h2⟩ := hi i (by omega)
      obtain ⟨op, h3, rfl⟩ := t_part h2
      exact ⟨op, h3, h1⟩
    refine ⟨_, _, _, (List.range len).attach.map (fun i => (each i.1 (List.mem_range.1 i.2)).choose), hcs, by simp, fun x hx => ?_, hl, hm, fun hn => ?_⟩
    · simp only [List.mem_map] at hx
      obtain ⟨i, -, rfl⟩ := hx
      exact (each i.1 (List.mem_range.1 i.2)).choose_spec.1
    obtain ⟨b, o, s⟩ := a
    obtain ⟨op0, -, h0⟩ := each 0 hn
    have h0' := (World.cells?_some h0).2.2 0 (by omega)
    have hs : s = none := by simpa [Addr.add] using World.cell?_spot (h0'.trans rfl)
    subst hs
    have hlt : b < w.heap.size := by
      simp only [Nat.zero_mul, add_offC, Nat.add_zero] at h0'
      exact lt_of_cell (h0'.trans rfl)
    refine ⟨b, o, rfl, hlt, fun i hi' => ?_⟩
    have hi2 : i < len := by simpa using hi'
    have hg : ((List.range len).attach.map (fun i => (each i.1 (List.mem_range.1 i.2)).choose))[i]'hi' = (each i hi2).choose := by simp
    rw [hg]
    have h1 := (each i hi2).choose_spec.2
    generalize (each i hi2).choose = op at h1 ⊢
    obtain ⟨-, -, h2⟩ := World.cells?_some h1
    have q0 := h2 0 (by omega)
    have q1 := h2 1 (by omega)
    have q2 := h2 2 (by omega)
    have q3 := h2 3 (by omega)
    simp only [add_offC, Nat.add_zero] at q0 q1 q2 q3
    exact ⟨q0.trans rfl, q1.trans rfl, q2.trans rfl, q3.trans rfl⟩
end
theorem agg_open {w : World} {base : Nat} {r : Reach} {t : TypeId} {fs : Array Field} {v : Value} {H : Type} {enc : TypeId × Value → H} {d : DataW H} {p : List MemPlace} {spare : Nat → Bool} {held : Bool} (hu : Tryd.prog.underlying t = some (.struct fs))
    (hval : Value.okWide Tryd.prog w r base t v) (k : DataW.Trod enc Tryd.prog w 0 spare held t v d p) : ∃ cs fuel, v = .agg cs ∧ DataW.trod enc Tryd.prog w 0 spare held fuel t cs.toList = some (d, p) := by
  unfold Value.okWide at hval
  rw [hu] at hval
  obtain ⟨cs, rfl, -⟩ := hval
  obtain ⟨fuel, hf⟩ := k
  exact ⟨cs, fuel, rfl, by simpa [Value.cells] using hf⟩
set_option maxRecDepth 100000 in
theorem code_open {H : Type} {enc : TypeId × Value → H} {w : World} {base : Nat} {v : Value} {d : DataW H} {p : List MemPlace} {spare : Nat → Bool} {held : Bool} {r}
    (hval : Value.okWide Tryd.prog w r base 28 v) (k : DataW.Trod enc Tryd.prog w 0 spare held 28 v d p) : ∃ C : CV, v = .agg #[.slice C.A0 C.n0 C.c0, .slice C.A1 C.n1 C.c1, .slice C.A2 C.n2 C.c2, .slice C.A3 C.n3 C.c3, .slice C.A4 C.n4 C.c4, .slice C.A5 C.n5 C.c5, .slice C.A6 C.n6 C.c6] ∧ CodeAt w w.heap.size C := by
  obtain ⟨vs, fuel, rfl, h⟩ := agg_open Tryd.underlying28 hval k
  obtain ⟨cs⟩ := vs
  obtain ⟨ys, n, hn, hy, hlen, hyl, hf⟩ := DataW.trod_struct Tryd.underlying28 h
  have hc5 : Tryd.prog.cellsOf 28 = 7 := by kernel_rfl
  rw [hc5] at hlen
  have k0 : Tryd.prog.cellsOf 22 = 1 := by kernel_rfl
  have k1 : Tryd.prog.cellsOf 23 = 1 := by kernel_rfl
  have k2 : Tryd.prog.cellsOf 24 = 1 := by kernel_rfl
  have k3 : Tryd.prog.cellsOf 25 = 1 := by kernel_rfl
  have k5 : Tryd.prog.cellsOf 26 = 1 := by kernel_rfl
  match cs, hlen, ys, hyl with
  | [v0, v1, v2, v3, v4, v5, v6], _, [y0, y1, y2, y3, y4, y5, y6], _ =>
    have e0 : DataW.trod enc Tryd.prog w 0 spare held n 22 (([v0, v1, v2, v3, v4, v5, v6].drop 0).take (Tryd.prog.cellsOf 22)) = some y0 := hf 0 _ rfl
    have e1 : DataW.trod enc Tryd.prog w 0 spare held n 23 (([v0, v1, v2, v3, v4, v5, v6].drop 1).take (Tryd.prog.cellsOf 23)) = some y1 := hf 1 _ rfl
    have e2 : DataW.trod enc Tryd.prog w 0 spare held n 24 (([v0, v1, v2, v3, v4, v5, v6].drop 2).take (Tryd.prog.cellsOf 24)) = some y2 := hf 2 _ rfl
    have e3 : DataW.trod enc Tryd.prog w 0 spare held n 25 (([v0, v1, v2, v3, v4, v5, v6].drop 3).take (Tryd.prog.cellsOf 25)) = some y3 := hf 3 _ rfl
    have e4 : DataW.trod enc Tryd.prog w 0 spare held n 25 (([v0, v1, v2, v3, v4, v5, v6].drop 4).take (Tryd.prog.cellsOf 25)) = some y4 := hf 4 _ rfl
    have e5 : DataW.trod enc Tryd.prog w 0 spare held n 26 (([v0, v1, v2, v3, v4, v5, v6].drop 5).take (Tryd.prog.cellsOf 26)) = some y5 := hf 5 _ rfl
    have e6 : DataW.trod enc Tryd.prog w 0 spare held n 25 (([v0, v1, v2, v3, v4, v5, v6].drop 6).take (Tryd.prog.cellsOf 25)) = some y6 := hf 6 _ rfl
    rw [k0] at e0
    rw [k1] at e1
    rw [k2] at e2
    rw [k3] at e3 e4 e6
    rw [k5] at e5
    obtain ⟨A0, n0, c0, a0, h0, h0'⟩ := t_any Tryd.underlying22 e0
    obtain ⟨A1, n1, c1, x1, a1, h1, -, -⟩ := t_bools e1
    obtain ⟨A2, n2, c2, x2, a2, h2, h2', h2c, h2m, h2r⟩ := t_parts e2
    obtain ⟨A3, n3, c3, x3, a3, h3, -, -⟩ := t_ints e3
    obtain ⟨A4, n4, c4, a4, h4, h4'⟩ := t_any Tryd.underlying25 e4
    obtain ⟨A5, n5, c5, a5, h5, h5'⟩ := t_any Tryd.underlying26 e5
    obtain ⟨A6, n6, c6, a6, h6, h6'⟩ := t_any Tryd.underlying25 e6
    simp at a0 a1 a2 a3 a4 a5 a6
    subst a0 a1 a2 a3 a4 a5 a6
    exact ⟨⟨A0, n0, c0, A1, n1, c1, A2, n2, c2, A3, n3, c3, A4, n4, c4, A5, n5, c5, A6, n6, c6, x1, x2, x3⟩, rfl, h1, h3, h2, h2r, h2', Nat.le_refl _, Nat.le_trans h0 h0', Nat.le_trans h2c h2m, h3.2.1⟩
set_option maxRecDepth 100000 in
theorem ins_open {H : Type} {enc : TypeId × Value → H} {w : World} {base : Nat} {v : Value} {d : DataW H} {p : List MemPlace} {spare : Nat → Bool} {held : Bool} {r}
    (hval : Value.okWide Tryd.prog w r base 31 v) (k : DataW.Trod enc Tryd.prog w 0 spare held 31 v d p) : ∃ i : IV, v = .agg #[.int .u8 i.op, .int .i64 i.a, .int .i64 i.b, .int .i64 i.c, .string i.s, .slice i.A i.n i.cap] ∧ IOk i ∧ (Lit.int .u8 i.op).wf = true ∧ i.s.size ≤ maxLen ∧ Ints w w.heap.size i.A i.n i.args := by
  obtain ⟨vs, fuel, rfl, h⟩ := agg_open Tryd.underlying31 hval k
  obtain ⟨cs⟩ := vs
  obtain ⟨ys, n, hn, hy, hlen, hyl, hf⟩ := DataW.trod_struct Tryd.underlying31 h
  have hc5 : Tryd.prog.cellsOf 31 = 6 := by kernel_rfl
  rw [hc5] at hlen
  have k0 : Tryd.prog.cellsOf 29 = 1 := by kernel_rfl
  have k1 : Tryd.prog.cellsOf 3 = 1 := by kernel_rfl
  have k4 : Tryd.prog.cellsOf 9 = 1 := by kernel_rfl
  have k5 : Tryd.prog.cellsOf 25 = 1 := by kernel_rfl
  match cs, hlen, ys, hyl with
  | [v0, v1, v2, v3, v4, v5], _, [y0, y1, y2, y3, y4, y5], _ =>
    have e0 : DataW.trod enc Tryd.prog w 0 spare held n 29 (([v0, v1, v2, v3, v4, v5].drop 0).take (Tryd.prog.cellsOf 29)) = some y0 := hf 0 _ rfl
    have e1 : DataW.trod enc Tryd.prog w 0 spare held n 3 (([v0, v1, v2, v3, v4, v5].drop 1).take (Tryd.prog.cellsOf 3)) = some y1 := hf 1 _ rfl
    have e2 : DataW.trod enc Tryd.prog w 0 spare held n 3 (([v0, v1, v2, v3, v4, v5].drop 2).take (Tryd.prog.cellsOf 3)) = some y2 := hf 2 _ rfl
    have e3 : DataW.trod enc Tryd.prog w 0 spare held n 3 (([v0, v1, v2, v3, v4, v5].drop 3).take (Tryd.prog.cellsOf 3)) = some y3 := hf 3 _ rfl
    have e4 : DataW.trod enc Tryd.prog w 0 spare held n 9 (([v0, v1, v2, v3, v4, v5].drop 4).take (Tryd.prog.cellsOf 9)) = some y4 := hf 4 _ rfl
    have e5 : DataW.trod enc Tryd.prog w 0 spare held n 25 (([v0, v1, v2, v3, v4, v5].drop 5).take (Tryd.prog.cellsOf 25)) = some y5 := hf 5 _ rfl
    rw [k0] at e0
    rw [k1] at e1 e2 e3
    rw [k4] at e4
    rw [k5] at e5
    obtain ⟨m0, a0, -, h0⟩ := DataW.trod_int Tryd.underlying29 e0
    obtain ⟨m1, a1, -, h1⟩ := DataW.trod_int Tryd.underlying3 e1
    obtain ⟨m2, a2, -, h2⟩ := DataW.trod_int Tryd.underlying3 e2
    obtain ⟨m3, a3, -, h3⟩ := DataW.trod_int Tryd.underlying3 e3
    obtain ⟨m4, a4, -, h4⟩ := DataW.trod_string Tryd.underlying9 e4
    obtain ⟨A5, n5, c5, x5, a5, h5, -, -⟩ := t_ints e5
    simp at a0 a1 a2 a3 a4 a5
    subst a0 a1 a2 a3 a4 a5
    exact ⟨⟨m0, m1, m2, m3, m4, A5, n5, c5, x5⟩, rfl, ⟨h1, h2, h3⟩, h0, h4, h5⟩
end Go.Proofs.YtankpckkiikmaaaDoor
