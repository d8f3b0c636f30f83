/- Plans that are made and looked through by computing. -/
import Derived.Test.YtodjjnklelfgfaaVm24
namespace Go.Proofs.Ytodjjnklelfgfaa
namespace Vm
set_option linter.unusedSimpArgs false
set_option linter.unusedVariables false
open Go.RowKit

/-- What may turn memory, or look at more of it than one cell. -/
def effOf (P : Program) (o : Oper) : Bool := match o.op with
  | .move _ | .pick .. | .build .. | .nilCheck _ | .binOp .. | .unOp .. | .makeInterface .. | .makeFunc .. | .fieldAddr .. | .field .. | .indexAddr .. | .index .. | .extract .. | .load .. | .slice .. | .alloc _ | .box .. | .buildSlice .. | .makeMap _ none => false
  | .convert s d _ => match P.underlying s, P.underlying d with
    | some (.int _), some (.int _) => false
    | some (.slice _), some .string => false
    | _, _ => true
  | .call c => match c.callee with
    | .builtin .len => match c.argTypes with
      | ⟨[t]⟩ => match P.underlying t with
        | some (.map _ _) => true
        | _ => false
      | _ => false
    | _ => true
  | _ => true
def maskStep (m : List Nat) (acc : Nat) (e : Edge) : Nat := bif Region.binds .any e then acc ||| (1 <<< e.on) ||| m.getD e.on 0 else acc
def maskOf (m : List Nat) (o : Oper) : Nat := o.after.toList.foldl (maskStep m) 0
def masksOf (ops : Array Oper) (pl : List Nat) : List Nat :=
  pl.foldl (fun m i => match ops[i]? with
    | some o => m.set i (maskOf m o)
    | none => m) (List.replicate ops.size 0)
def preOf (m : List Nat) (j i : Nat) : Bool := (m.getD i 0).testBit j
def readyIn (ops : Array Oper) (dn : List Nat) (i : Nat) : Bool := match ops[i]? with
  | some o => !dn.contains i && o.after.toList.all fun e => !Region.binds .any e || dn.contains e.on
  | none => false
def effAt (P : Program) (ops : Array Oper) (i : Nat) : Bool := match ops[i]? with
  | some o => effOf P o
  | none => true
def asap (P : Program) (ops : Array Oper) : Nat → List Nat → List Nat
  | 0, dn => dn.reverse
  | n + 1, dn => match (List.range ops.size).find? fun i => !effAt P ops i && readyIn ops dn i with
    | some i => asap P ops n (i :: dn)
    | none => match (List.range ops.size).find? fun i => readyIn ops dn i with
      | some i => asap P ops n (i :: dn)
      | none => dn.reverse
def nodupB : List Nat → Bool
  | [] => true
  | i :: l => !l.contains i && nodupB l
def edgesB (ops : Array Oper) : List Nat → List Nat → Bool
  | _, [] => true
  | dn, i :: rest => (match ops[i]? with
    | some o => o.after.toList.all fun e => !Region.binds .any e || dn.contains e.on
    | none => true) && edgesB ops (i :: dn) rest
def orderB (eff : Nat → Bool) (pre : Nat → Nat → Bool) : List Nat → Bool
  | [] => true
  | c :: rest => (!eff c || rest.all (pre c)) && orderB eff pre rest
def planOk (ops : Array Oper) (pl : List Nat) (m : List Nat) (eff : Nat → Bool) : Bool :=
  (List.range ops.size).all (fun i => pl.contains i) && pl.all (fun i => decide (i < ops.size)) && nodupB pl && edgesB ops [] pl &&
  (List.range ops.size).all (fun i => match ops[i]? with
    | some o => m.getD i 0 == maskOf m o
    | none => true) &&
  (List.range ops.size).all (fun i => match ops[i]? with
    | some oi => (List.range ops.size).all fun j => match ops[j]? with
      | some oj => match oj.dst with
        | some d => (oi.dst != some d || i == j) && (!(oi.looksAt ops).contains d || (preOf m j i || (preOf m i j && eff j)))
        | none => true
      | none => true
    | none => true) &&
  orderB eff (preOf m) pl

theorem nodupB_ok : ∀ {l : List Nat}, nodupB l = true → l.Nodup
  | [], _ => List.nodup_nil
  | i :: l, h => by
    simp only [nodupB, Bool.and_eq_true, Bool.not_eq_true', List.contains_eq_mem, decide_eq_false_iff_not] at h
    exact List.nodup_cons.2 ⟨h.1, nodupB_ok h.2⟩
theorem edgesB_ok {ops : Array Oper} : ∀ (l d0 : List Nat), edgesB ops d0 l = true → ∀ dn i rest o, l = dn ++ i :: rest → ops[i]? = some o → ∀ e ∈ o.after, Region.binds .any e = true → e.on ∈ dn ∨ e.on ∈ d0 := by
  intro l
  induction l with
  | nil => intro d0 _ dn i rest o hl; simp at hl
  | cons x l ih =>
    intro d0 h dn i rest o hl ho e he hb
    simp only [edgesB, Bool.and_eq_true] at h
    cases dn with
    | nil =>
      simp only [List.nil_append, List.cons.injEq] at hl
      obtain ⟨rfl, rfl⟩ := hl
      rw [ho] at h
      have := List.all_eq_true.1 h.1 e (by simpa using he)
      rw [hb] at this
      right
      simpa using this
    | cons y dn =>
      simp only [List.cons_append, List.cons.injEq] at hl
      obtain ⟨rfl, hl⟩ := hl
      rcases ih _ h.2 dn i rest o hl ho e he hb with h | h
      · left; simp [h]
      · rcases List.mem_cons.1 h with h | h
        · left; simp [h]
        · exact .inr h
theorem orderB_ok {eff : Nat → Bool} {pre : Nat → Nat → Bool} : ∀ (l : List Nat), orderB eff pre l = true → ∀ dn c rest, l = dn ++ c :: rest → eff c = true → ∀ a ∈ rest, pre c a = true := by
  intro l
  induction l with
  | nil => intro _ dn c rest hl; simp at hl
  | cons x l ih =>
    intro h dn c rest hl he a ha
    simp only [orderB, Bool.and_eq_true] at h
    cases dn with
    | nil =>
      simp only [List.nil_append, List.cons.injEq] at hl
      obtain ⟨rfl, rfl⟩ := hl
      rw [he] at h
      exact List.all_eq_true.1 h.1 a ha
    | cons y dn =>
      simp only [List.cons_append, List.cons.injEq] at hl
      exact ih h.2 dn c rest hl.2 he a ha
theorem mask_bit {m : List Nat} : ∀ (l : List Edge) (acc j : Nat), (l.foldl (maskStep m) acc).testBit j = true → acc.testBit j = true ∨ ∃ e ∈ l, Region.binds .any e = true ∧ (e.on = j ∨ (m.getD e.on 0).testBit j = true) := by
  intro l
  induction l with
  | nil => intro acc j h; exact .inl h
  | cons e l ih =>
    intro acc j h
    rcases ih _ j h with h | ⟨e', h1, h2⟩
    · unfold maskStep at h
      cases hb : Region.binds .any e with
      | false => rw [hb] at h; exact .inl h
      | true =>
        rw [hb] at h
        simp only [cond_true, Nat.testBit_or, Bool.or_eq_true] at h
        rcases h with (h | h) | h
        · exact .inl h
        · refine .inr ⟨e, by simp, hb, .inl ?_⟩
          rw [Nat.one_shiftLeft, Nat.testBit_two_pow] at h
          simpa using h
        · exact .inr ⟨e, by simp, hb, .inr h⟩
    · exact .inr ⟨e', by simp [h1], h2⟩
theorem planOk_ok {ops : Array Oper} {pl m : List Nat} {eff : Nat → Bool} (h : planOk ops pl m eff = true) : Plan ops pl (preOf m) eff := by
  simp only [planOk, Bool.and_eq_true] at h
  obtain ⟨⟨⟨⟨⟨⟨h1, h2⟩, h3⟩, h4⟩, h5⟩, h6⟩, h7⟩ := h
  have hin : ∀ {i : Nat} {o : Oper}, ops[i]? = some o → i ∈ List.range ops.size := fun ho => List.mem_range.2 (Array.getElem?_eq_some_iff.1 ho).1
  have hpair : ∀ (i j : Nat) (oi oj : Oper) d, ops[i]? = some oi → ops[j]? = some oj → oj.dst = some d → (oi.dst = some d → i = j) ∧ (d ∈ oi.looksAt ops → preOf m j i = true ∨ (preOf m i j = true ∧ eff j = true)) := by
    intro i j oi oj d hi hj hd
    have := List.all_eq_true.1 h6 i (hin hi)
    rw [hi] at this
    simp only at this
    have := List.all_eq_true.1 this j (hin hj)
    rw [hj] at this
    simp only [hd, Bool.and_eq_true, Bool.or_eq_true, bne_iff_ne, ne_eq, beq_iff_eq, Bool.not_eq_true', List.contains_eq_mem, decide_eq_false_iff_not] at this
    exact ⟨fun e => this.1.resolve_left (fun n => n e), fun e => this.2.resolve_left (fun n => n e)⟩
  refine ⟨fun i hi => ?_, fun i hi => ?_, nodupB_ok h3, fun dn i rest o hp ho e he hb => ?_, fun i o ho j hj => ?_, fun i j oi oj d hi hj hdi hdj => (hpair i j oi oj d hi hj hdj).1 hdi, fun i j oi oj d hi hj hd hl => (hpair i j oi oj d hi hj hd).2 hl, orderB_ok pl h7⟩
  · simpa using List.all_eq_true.1 h1 i (List.mem_range.2 hi)
  · simpa using List.all_eq_true.1 h2 i hi
  · rcases edgesB_ok pl [] h4 dn i rest o hp ho e he hb with h | h
    · exact h
    · simp at h
  · have := List.all_eq_true.1 h5 i (hin ho)
    rw [ho] at this
    simp only [beq_iff_eq] at this
    unfold preOf at hj ⊢
    rw [this] at hj
    unfold maskOf at hj
    rcases mask_bit _ 0 j hj with h | ⟨e, he, hb, hc⟩
    · simp at h
    · exact ⟨e, by simpa using he, hb, hc⟩
end Vm
end Go.Proofs.Ytodjjnklelfgfaa
