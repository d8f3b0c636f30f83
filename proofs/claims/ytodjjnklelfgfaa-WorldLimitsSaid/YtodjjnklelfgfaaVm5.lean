/- Instructions that obey the relation: indexes, slices, aggregates, literals, make, iterators. -/
import Derived.Test.YtodjjnklelfgfaaVm4
namespace Go.Proofs.Ytodjjnklelfgfaa
namespace Vm
set_option linter.unusedSimpArgs false
set_option linter.unusedVariables false
open Go.RowKit

section
variable {P : Program} {w0 : World} {B0 : Base} {ρ : Rho}
theorem SR.index {v v' x x' : Value} (h : VRel ρ v v') (hx : VRel ρ x x') (t : TypeId) : SR P w0 B0 ρ VRel (Instr.index t v x) (Instr.index t v' x') := by
  unfold Instr.index
  refine SR.bind (SR.asIntOf hx) fun ρ1 x y hle hx => ?_
  cases hx
  obtain ⟨k, i⟩ := x
  refine SR.bind (SR.underlying t) fun ρ2 x y hle2 hx => ?_
  cases hx
  replace h := (h.mono hle).mono hle2
  cases h with
  | agg h1 h2 =>
    cases x with
    | array len elem =>
      dsimp only
      split
      · refine SR.bind (SR.sizeOf elem) fun ρ3 x y hle3 hx => ?_
        cases hx
        exact SR.part (ARel.mono hle3 ⟨h1, h2⟩) _ _
      · exact SR.bounds
    | _ => exact SR.stuck
  | string s =>
    cases x with
    | string =>
      dsimp only
      cases (if 0 ≤ i then s[i.toNat]? else Option.none : Option UInt8) with
      | none => exact SR.bounds
      | some b => exact SR.pure fun _ _ => .int _ _
    | _ => exact SR.stuck
  | _ => cases x <;> exact SR.stuck
def idxTail (t : TypeId) (k : IntKind) (i : Int) (base : Option Addr) (len : Nat) (elem : TypeId) : Sem Value := do
  let tiny := len ≤ 1 && (match ← underlying t with | .array .. => true | _ => false)
  match base with
  | some a =>
    if 0 ≤ i ∧ i < len then pure (.pointer (some (a.add (i.toNat * (← sizeOf elem)))))
    else if tiny then unsupported (.noEntry "op/indexAddr.an index out of range at an array of length 0 or 1 (ledger 616)")
    else boundsPanic k i len .index
  | none => boundsPanic k i 0 .index
theorem SR.idxTail {t : TypeId} {k : IntKind} {i : Int} {a a' : Addr} {len : Nat} {elem : TypeId} (h : PRel ρ a a' ∨ len = 0) :
    SR P w0 B0 ρ VRel (idxTail t k i (some a) len elem) (idxTail t k i (some a') len elem) := by
  unfold Vm.idxTail
  refine SR.bind (SR.underlying t) fun ρ1 x y hle hx => ?_
  cases hx
  dsimp only
  split
  · rename_i hi
    refine SR.bind (SR.sizeOf elem) fun ρ3 x y hle3 hx => ?_
    cases hx
    rcases h with h | h
    · exact SR.pure fun _ hle4 => (((h.mono hle).mono hle3).mono hle4 |>.add _).vrel
    · subst h; omega
  · repeat' split
    all_goals first | exact SR.unsupported | exact SR.bounds
theorem SR.idxNone {t : TypeId} {k : IntKind} {i : Int} {len : Nat} {elem : TypeId} {A : Rho → Value → Value → Prop} {s : Sem Value} : SR P w0 B0 ρ A (Vm.idxTail t k i Option.none len elem) s := by
  unfold Vm.idxTail
  exact SR.then_none fun d σ => by
    dsimp only
    unfold boundsPanic; dsimp only; repeat' split
    all_goals exact vrun_none fun _ _ => vrun_panics
theorem SR.indexAt {v v' x x' : Value} (h : VRel ρ v v') (hx : VRel ρ x x') (t : TypeId) : SR P w0 B0 ρ VRel (Instr.indexAt t v x) (Instr.indexAt t v' x') := by
  unfold Instr.indexAt
  refine SR.bind (SR.asIntOf hx) fun ρ1 x y hle hx => ?_
  cases hx
  obtain ⟨k, i⟩ := x
  refine SR.bind (SR.underlying t) fun ρ2 x y hle2 hx => ?_
  cases hx
  replace h := (h.mono hle).mono hle2
  cases x with
  | array len elem => exact SR.bind (k := fun a => Vm.idxTail t k i (some a) len elem) (k' := fun a => Vm.idxTail t k i (some a) len elem) (SR.sureAddr h) fun ρ3 x y hle3 hx => SR.idxTail (.inl hx)
  | slice elem =>
    cases h with
    | sliceNil n c => exact SR.idxNone (len := n) (elem := elem)
    | slice hi hc => exact SR.idxTail (.inl ⟨_, hi, rfl, rfl⟩)
    | sliceOff id off a c' => exact SR.idxTail (.inr rfl)
    | _ => exact SR.none fun _ => rfl
  | _ => exact SR.none fun _ => rfl

inductive All2 {α β : Type} (R : α → β → Prop) : List α → List β → Prop where
  | nil : All2 R [] []
  | cons {a b l m} : R a b → All2 R l m → All2 R (a :: l) (b :: m)
/-- Parts of a literal, one by one. -/
def PartsRel (ρ : Rho) (ps qs : List (Nat × Value)) : Prop := All2 (fun p q => p.1 = q.1 ∧ VRel ρ p.2 q.2) ps qs
theorem PartsRel.mono {ρ ρ' : Rho} (hle : ρ.le ρ') {ps qs : List (Nat × Value)} (h : PartsRel ρ ps qs) : PartsRel ρ' ps qs := by
  induction h with
  | nil => exact .nil
  | cons h _ ih => exact .cons ⟨h.1, h.2.mono hle⟩ ih
theorem fold_put {ρ : Rho} (off : Nat) : ∀ (us vs : List (Value × Nat)) (cs ds : Array Value), All2 (fun p q => p.2 = q.2 ∧ VRel ρ p.1 q.1) us vs → ARel ρ cs ds →
    ARel ρ (us.foldl (fun cs (c, j) => cs.setIfInBounds (off + j) c) cs) (vs.foldl (fun cs (c, j) => cs.setIfInBounds (off + j) c) ds) := by
  intro us vs cs ds h
  induction h generalizing cs ds with
  | nil => exact fun h => h
  | @cons p q _ _ h _ ih =>
    intro ha
    obtain ⟨c, j⟩ := p
    obtain ⟨d, j'⟩ := q
    obtain ⟨e, hv⟩ := h
    simp only at e hv
    subst e
    exact ih _ _ (ha.set _ hv)
theorem zipIdx_rel {ρ : Rho} : ∀ (us vs : List Value) (k : Nat), ARel ρ us.toArray vs.toArray → All2 (fun (p q : Value × Nat) => p.2 = q.2 ∧ VRel ρ p.1 q.1) (us.zipIdx k) (vs.zipIdx k) := by
  intro us
  induction us with
  | nil =>
    intro vs k h
    obtain rfl : vs = [] := by have := h.1; simpa using this.symm
    exact .nil
  | cons u us ih =>
    intro vs k h
    cases vs with
    | nil => have := h.1; simp at this
    | cons v vs =>
      refine .cons ⟨rfl, by simpa using h.2 0 (by simp) (by simp)⟩ (ih vs (k + 1) ?_)
      refine ⟨by simpa using h.1, fun i hi hi' => ?_⟩
      have := h.2 (i + 1) (by simpa using hi) (by simpa using hi')
      simp only [List.getElem_toArray, List.getElem_cons_succ] at this ⊢
      exact this
theorem fill_rel {ρ : Rho} (place : Nat → Option (Nat × Nat)) : ∀ (ps qs : List (Nat × Value)) (cs ds : Array Value), PartsRel ρ ps qs → ARel ρ cs ds →
    ∀ out, Instr.fill place cs ps = some out → ∃ out', Instr.fill place ds qs = some out' ∧ ARel ρ out out' := by
  intro ps qs cs ds h
  induction h generalizing cs ds with
  | nil => intro ha out ho; cases ho; exact ⟨ds, rfl, ha⟩
  | @cons p q _ _ h _ ih =>
    intro ha out ho
    obtain ⟨i, v⟩ := p
    obtain ⟨i', v'⟩ := q
    obtain ⟨e, hv⟩ := h
    simp only at e hv
    subst e
    unfold Instr.fill at ho ⊢
    cases hp : place i with
    | none => simp [hp] at ho
    | some os =>
      obtain ⟨off, size⟩ := os
      simp only [hp] at ho ⊢
      have e1 := hv.cells.1
      have e2 := ha.1
      rw [← e1, ← e2]
      split at ho
      · cases ho
      · rename_i hc
        rw [if_neg hc]
        rw [← Array.foldl_toList, Array.toList_zipIdx] at ho ⊢
        exact ih _ _ (fold_put off _ _ _ _ (zipIdx_rel v.cells.toList v'.cells.toList 0 hv.cells.toList) ha) out ho
theorem mapM_fields (fields : Array Field) : SR P w0 B0 ρ EqR (fields.mapM fun f => do Pure.pure (f.offset, ← Go.sizeOf f.type) : Sem (Array (Nat × Nat))) (fields.mapM fun f => do Pure.pure (f.offset, ← Go.sizeOf f.type)) := by
  rw [Array.mapM_eq_mapM_toList]
  have key : ∀ (l : List Field) (ρ1 : Rho), SR P w0 B0 ρ1 EqR (l.mapM fun f => do Pure.pure (f.offset, ← Go.sizeOf f.type) : Sem (List (Nat × Nat))) (l.mapM fun f => do Pure.pure (f.offset, ← Go.sizeOf f.type)) := by
    intro l
    induction l with
    | nil => intro ρ1; exact SR.pure fun _ _ => rfl
    | cons f l ih =>
      intro ρ1
      rw [List.mapM_cons]
      refine SR.bind (A := EqR) (SR.bind (SR.sizeOf _) fun ρ2 x y _ hx => ?_) fun ρ2 x y _ hx => ?_
      · cases hx; exact SR.pure fun _ _ => rfl
      · cases hx
        exact SR.bind (ih ρ2) fun ρ3 x y _ hx => by cases hx; exact SR.pure fun _ _ => rfl
  exact SR.bind (key _ _) fun ρ2 x y _ hx => by cases hx; exact SR.pure fun _ _ => rfl
theorem SR.build {t : TypeId} {ps qs : Array (Nat × Value)} (hz : zeroOk P t = true) (h : PartsRel ρ ps.toList qs.toList) : SR P w0 B0 ρ VRel (Instr.build t ps) (Instr.build t qs) := by
  unfold Instr.build
  refine SR.bind (SR.zeroValue hz) fun ρ1 x y hle hx => ?_
  obtain ⟨rfl, hx⟩ := hx
  refine SR.bind (SR.underlying t) fun ρ2 d y hle2 hy => ?_
  cases hy
  have h2 := (h.mono hle).mono hle2
  cases d with
  | struct fields =>
    refine SR.bind (mapM_fields fields) fun ρ3 places y hle3 hy => ?_
    cases hy
    cases ho : Instr.fill (fun x => places[x]?) x.cells ps.toList with
    | none => exact SR.stuck
    | some out =>
      obtain ⟨out', h3, h4⟩ := fill_rel _ _ _ _ _ (h2.mono hle3) (hx ρ3).cells out ho
      rw [h3]
      exact SR.pure fun _ hle4 => .agg (h4.mono hle4).1 (h4.mono hle4).2
  | array n elem =>
    refine SR.bind (SR.sizeOf elem) fun ρ3 size y hle3 hy => ?_
    cases hy
    cases ho : Instr.fill (fun i => some (i * size, size)) x.cells ps.toList with
    | none => exact SR.stuck
    | some out =>
      obtain ⟨out', h3, h4⟩ := fill_rel _ _ _ _ _ (h2.mono hle3) (hx ρ3).cells out ho
      rw [h3]
      exact SR.pure fun _ hle4 => .agg (h4.mono hle4).1 (h4.mono hle4).2
  | _ => exact SR.stuck
end
end Vm
end Go.Proofs.Ytodjjnklelfgfaa
