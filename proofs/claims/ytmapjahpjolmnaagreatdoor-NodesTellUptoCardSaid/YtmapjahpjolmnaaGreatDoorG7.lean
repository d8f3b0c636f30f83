/- More instructions that obey the relation: parts, places, slices, zero values, new things. -/
import Derived.Test.YtmapjahpjolmnaaGreatDoorG6
set_option linter.unusedVariables false
set_option linter.unusedSimpArgs false
namespace Go.Proofs.YtmapjahpjolmnaaGreatDoor
namespace Vm
set_option linter.unusedSimpArgs false
set_option linter.unusedVariables false
open Go.RowKit

def clean : Value → Bool
  | .agg cs => cs.all cleanC
  | .tuple cs => cs.all cleanC
  | .iface _ v => (match v with | .agg cs => cs.all cleanC | v => cleanC v)
  | .func _ ⟨[]⟩ ⟨[]⟩ => true
  | v => cleanC v
theorem cleanC_rel {v : Value} (h : cleanC v = true) (ρ : Rho) : VRel ρ v v := by
  cases v with
  | pointer a => cases a with
    | none => exact .ptrNil
    | some a => simp [cleanC] at h
  | slice a n c => cases a with
    | none => exact .sliceNil _ _
    | some a => simp [cleanC] at h
  | map a => cases a with
    | none => exact .mapNil
    | some a => simp [cleanC] at h
  | bool b => exact .bool b
  | int k n => exact .int k n
  | float k n => exact .float k n
  | complex k a b => exact .complex k a b
  | string s => exact .string s
  | nilFunc => exact .nilFunc
  | nilIface => exact .nilIface
  | _ => simp [cleanC] at h
theorem cleanA_rel {cs : Array Value} (h : cs.all cleanC = true) (ρ : Rho) : ARel ρ cs cs :=
  ⟨rfl, fun k hk _ => cleanC_rel (Array.all_eq_true.1 h k hk) ρ⟩
theorem clean_rel {v : Value} (h : clean v = true) (ρ : Rho) : VRel ρ v v := by
  cases v with
  | agg cs => exact .agg rfl (cleanA_rel h ρ).2
  | tuple cs => exact .tuple rfl (cleanA_rel h ρ).2
  | iface t v =>
    refine .iface t ?_
    cases v with
    | agg cs => exact .agg rfl (cleanA_rel h ρ).2
    | _ => exact cleanC_rel (by simpa [clean] using h) ρ
  | func fn xs ys =>
    unfold clean at h
    split at h
    · rename_i heq; cases heq
    · rename_i heq; cases heq
    · rename_i heq; cases heq
    · rename_i heq; cases heq; exact .func fn rfl (fun k hk => by simp at hk) rfl (fun k hk => by simp at hk)
    · simp [cleanC] at h
  | _ => exact cleanC_rel (by simpa [clean] using h) ρ
/-- What is clean has but one other side. -/
theorem cleanC_eq {ρ : Rho} {v v' : Value} (h : cleanC v = true) (hr : VRel ρ v v') : v' = v := by
  cases hr <;> first | rfl | (simp [cleanC] at h)
theorem cleanA_eq {ρ : Rho} {xs ys : Array Value} (h : xs.all cleanC = true) (hr : ARel ρ xs ys) : ys = xs := by
  refine Array.ext hr.1.symm fun k h1 h2 => ?_
  exact cleanC_eq (Array.all_eq_true.1 h k h2) (hr.2 k h2 h1)
theorem clean_eq {ρ : Rho} {v v' : Value} (h : clean v = true) (hr : VRel ρ v v') : v' = v := by
  cases hr with
  | agg h1 h2 => rw [cleanA_eq h ⟨h1, h2⟩]
  | tuple h1 h2 => rw [cleanA_eq h ⟨h1, h2⟩]
  | iface t hr =>
    cases hr with
    | agg h1 h2 => rw [cleanA_eq h ⟨h1, h2⟩]
    | _ => first | rfl | (simp [clean, cleanC] at h)
  | @func fn xs ys us vs h1 h2 g1 g2 =>
    unfold clean at h
    split at h
    · rename_i heq; cases heq
    · rename_i heq; cases heq
    · rename_i heq; cases heq
    · rename_i heq
      cases heq
      obtain rfl : ys = #[] := Array.eq_empty_of_size_eq_zero (by rw [← h1]; rfl)
      obtain rfl : vs = #[] := Array.eq_empty_of_size_eq_zero (by rw [← g1]; rfl)
      rfl
    · simp [cleanC] at h
  | _ => first | rfl | (simp [clean, cleanC] at h)

def zeroOk (P : Program) (t : TypeId) : Bool :=
  match (P.info? t).map (·.zero) with
  | some (some z) => clean z
  | _ => true
def elemZeroOk (P : Program) (t : TypeId) : Bool :=
  match P.underlying t with
  | some (.slice e) => zeroOk P e
  | some (.map _ e) => zeroOk P e
  | _ => true

section
variable {P : Program} {w0 : World} {B0 : Base} {ρ : Rho}
theorem SR.zeroValue {t : TypeId} (hz : zeroOk P t = true) : SR P w0 B0 ρ (fun ρ x y => x = y ∧ ∀ ρ', VRel ρ' x x) (zeroValue t) (zeroValue t) := by
  intro ρ1 σ w x σ' hle hw hr
  unfold Go.zeroValue at hr ⊢
  unfold Go.typeInfo at hr ⊢
  rw [show ((_ : Sem TypeInfo) >>= _ : Sem Value) = Sem.bind _ _ from rfl, vrun_bind, show ((_ : Sem Program) >>= _ : Sem TypeInfo) = Sem.bind _ _ from rfl, vrun_bind] at hr
  simp only [program, vrun, andThen] at hr
  cases hd : P.info? t with
  | none => rw [hd] at hr; cases hr
  | some d =>
    simp only [hd] at hr
    cases hz' : d.zero with
    | none => simp only [hz', Pure.pure, vrun, unsupported] at hr; cases hr
    | some z =>
      simp only [hz', Pure.pure, vrun, Option.some.injEq, Prod.mk.injEq] at hr
      obtain ⟨rfl, rfl⟩ := hr
      exact ⟨ρ1, z, w, Rho.le_refl _, by simp [hd, hz'], ⟨rfl, fun ρ' => clean_rel (by simpa [zeroOk, hd, hz'] using hz) ρ'⟩, hw⟩
theorem SR.part {cs cs' : Array Value} (h : ARel ρ cs cs') (t : TypeId) (off : Nat) : SR P w0 B0 ρ VRel (part t cs off) (part t cs' off) := by
  unfold Go.part
  refine SR.bind (SR.isAgg t) fun ρ1 x y hle hx => ?_
  cases hx
  split
  · refine SR.bind (SR.sizeOf t) fun ρ2 x y hle2 hx => ?_
    cases hx
    exact SR.pure fun _ hle3 => .agg (((h.mono hle).mono hle2).mono hle3 |>.extract _ _).1 (((h.mono hle).mono hle2).mono hle3 |>.extract _ _).2
  · cases hc : cs[off]? with
    | none => exact SR.stuck
    | some v =>
      obtain ⟨v', h1, h2⟩ := h.get? hc
      rw [h1]
      exact SR.pure fun _ hle2 => (h2.mono hle).mono hle2
theorem SR.asAgg {v v' : Value} (h : VRel ρ v v') : SR P w0 B0 ρ ARel (asAgg v) (asAgg v') := by
  cases h <;> unfold Go.asAgg <;> first | exact SR.stuck | skip
  case agg h1 h2 => exact SR.pure fun _ hle => ARel.mono hle ⟨h1, h2⟩
theorem SR.field {v v' : Value} (h : VRel ρ v v') (t : TypeId) (f : Nat) : SR P w0 B0 ρ VRel (Instr.field t v f) (Instr.field t v' f) := by
  unfold Instr.field
  refine SR.bind (SR.underlying t) fun ρ1 x y hle hx => ?_
  cases hx
  split
  · rename_i fields
    cases fields[f]? with
    | none => exact SR.stuck
    | some fl => exact SR.bind (SR.asAgg (h.mono hle)) fun ρ2 _ _ hle2 hx => SR.part hx _ _
  · exact SR.stuck
theorem SR.fieldPlace {a a' : Addr} (h : PRel ρ a a') (f : Field) : SR P w0 B0 ρ PRel (fieldPlace a f) (fieldPlace a' f) := by
  unfold Go.fieldPlace
  refine SR.bind (SR.sizeOf _) fun ρ1 x y hle hx => ?_
  cases hx
  split
  · obtain ⟨i, h1, h2, h3⟩ := h
    obtain ⟨b, o, sp⟩ := a
    simp only at h2
    subst h2
    exact SR.none fun σ => rfl
  · exact SR.pure fun _ hle2 => ((h.mono hle).mono hle2).add _
theorem SR.fieldAt {v v' : Value} (h : VRel ρ v v') (t : TypeId) (f : Nat) : SR P w0 B0 ρ VRel (Instr.fieldAt t v f) (Instr.fieldAt t v' f) := by
  unfold Instr.fieldAt
  refine SR.bind (SR.underlying t) fun ρ1 x y hle hx => ?_
  cases hx
  split
  · rename_i fields
    cases fields[f]? with
    | none => exact SR.stuck
    | some fl =>
      exact SR.bind (SR.sureAddr (h.mono hle)) fun ρ2 _ _ hle2 hx => SR.bind (SR.fieldPlace hx _) fun ρ3 _ _ hle3 hx => SR.pure fun _ hle4 => (hx.mono hle4).vrel
  · exact SR.stuck
theorem SR.extract {v v' : Value} (h : VRel ρ v v') (i : Nat) : SR P w0 B0 ρ VRel (Instr.extract v i) (Instr.extract v' i) := by
  cases h <;> unfold Instr.extract <;> first | exact SR.stuck | skip
  case tuple xs ys h1 h2 =>
    have ha : ARel ρ xs ys := ⟨h1, h2⟩
    cases hc : xs[i]? with
    | none => simp only [hc]; exact SR.stuck
    | some v =>
      obtain ⟨v', h1, h2⟩ := ha.get? hc
      simp only [hc, h1]
      exact SR.pure fun _ hle => h2.mono hle
theorem SR.makeInterface {v v' : Value} (h : VRel ρ v v') (t : TypeId) : SR P w0 B0 ρ VRel (Instr.makeInterface t v) (Instr.makeInterface t v') := by
  unfold Instr.makeInterface
  refine SR.bind (SR.underlying t) fun ρ1 x y hle hx => ?_
  cases hx
  split
  · exact SR.stuck
  · exact SR.pure fun _ hle2 => .iface _ ((h.mono hle).mono hle2)
theorem SR.alloc {t : TypeId} (hz : zeroOk P t = true) : SR P w0 B0 ρ VRel (Instr.alloc t true (.tuple #[])) (Instr.alloc t true (.tuple #[])) := by
  unfold Instr.alloc
  refine SR.bind (SR.zeroValue hz) fun ρ1 x y hle hx => ?_
  obtain ⟨rfl, hx⟩ := hx
  exact SR.bind (SR.newVar (hx ρ1) t) fun ρ2 _ _ hle2 hx => SR.pure fun _ hle3 => (hx.mono hle3).vrel
theorem SR.newMap : SR P w0 B0 ρ VRel (newObj (.map #[] 0) >>= fun r => Pure.pure (Value.map (some r))) (newObj (.map #[] 0) >>= fun r => Pure.pure (Value.map (some r))) := by
  intro ρ1 σ w x σ' hle hw hr
  rw [show ((_ : Sem Nat) >>= _ : Sem Value) = Sem.bind _ _ from rfl, vrun_bind] at hr
  simp only [newObj, vrun, andThen] at hr
  cases hr
  exact ⟨_, .map (some w.heap.size), _, Rho.le_more (hw.dom _ (Nat.le_refl _)) _, by simp, VRel.map (i := ⟨w.heap.size, 0, 0, 0, .ex⟩) (Rho.more_self _ _ _), hw.newMap⟩
theorem SR.makeMap (t : TypeId) {r r' : Option Value} (h : match r, r' with | Option.none, Option.none => True | some v, some v' => VRel ρ v v' | _, _ => False) : SR P w0 B0 ρ VRel (Instr.makeMap t r) (Instr.makeMap t r') := by
  unfold Instr.makeMap
  cases r with
  | none =>
    cases r' with
    | none => exact SR.newMap
    | some v => exact h.elim
  | some v =>
    cases r' with
    | none => exact h.elim
    | some v' =>
      dsimp only at h ⊢
      refine SR.bind (SR.underlying t) fun ρ1 x y hle hx => ?_
      cases hx
      split
      · exact SR.bind (SR.asInt (h.mono hle)) fun _ _ _ _ _ => SR.newMap
      · exact SR.none fun _ => rfl
end
end Vm
end Go.Proofs.YtmapjahpjolmnaaGreatDoor
namespace Go.Proofs.YtmapjahpjolmnaaGreatDoor
namespace Vm
set_option linter.unusedSimpArgs false
set_option linter.unusedVariables false
open Go.RowKit

section
variable {P : Program} {w0 : World} {B0 : Base} {ρ : Rho}
theorem SR.index {v v' x x' : Value} (h : VRel ρ v v') (hx : VRel ρ x x') (t : TypeId) : SR P w0 B0 ρ VRel (Instr.index t v x) (Instr.index t v' x') := by
  unfold Instr.index
  refine SR.bind (SR.asIntOf hx) fun ρ1 x y hle hx => ?_
  cases hx
  obtain ⟨k, i⟩ := x
  refine SR.bind (SR.underlying t) fun ρ2 x y hle2 hx => ?_
  cases hx
  replace h := (h.mono hle).mono hle2
  cases h with
  | agg h1 h2 =>
    cases x with
    | array len elem =>
      dsimp only
      split
      · refine SR.bind (SR.sizeOf elem) fun ρ3 x y hle3 hx => ?_
        cases hx
        exact SR.part (ARel.mono hle3 ⟨h1, h2⟩) _ _
      · exact SR.bounds
    | _ => exact SR.stuck
  | string s =>
    cases x with
    | string =>
      dsimp only
      cases (if 0 ≤ i then s[i.toNat]? else Option.none : Option UInt8) with
      | none => exact SR.bounds
      | some b => exact SR.pure fun _ _ => .int _ _
    | _ => exact SR.stuck
  | _ => cases x <;> exact SR.stuck
def idxTail (t : TypeId) (k : IntKind) (i : Int) (base : Option Addr) (len : Nat) (elem : TypeId) : Sem Value := do
  let tiny := len ≤ 1 && (match ← underlying t with | .array .. => true | _ => false)
  match base with
  | some a =>
    if 0 ≤ i ∧ i < len then pure (.pointer (some (a.add (i.toNat * (← sizeOf elem)))))
    else if tiny then unsupported (.noEntry "op/indexAddr.an index out of range at an array of length 0 or 1 (ledger 616)")
    else boundsPanic k i len .index
  | none => boundsPanic k i 0 .index
theorem SR.idxTail {t : TypeId} {k : IntKind} {i : Int} {a a' : Addr} {len : Nat} {elem : TypeId} (h : PRel ρ a a' ∨ len = 0) :
    SR P w0 B0 ρ VRel (idxTail t k i (some a) len elem) (idxTail t k i (some a') len elem) := by
  unfold Vm.idxTail
  refine SR.bind (SR.underlying t) fun ρ1 x y hle hx => ?_
  cases hx
  dsimp only
  split
  · rename_i hi
    refine SR.bind (SR.sizeOf elem) fun ρ3 x y hle3 hx => ?_
    cases hx
    rcases h with h | h
    · exact SR.pure fun _ hle4 => (((h.mono hle).mono hle3).mono hle4 |>.add _).vrel
    · subst h; omega
  · repeat' split
    all_goals first | exact SR.unsupported | exact SR.bounds
theorem SR.idxNone {t : TypeId} {k : IntKind} {i : Int} {len : Nat} {elem : TypeId} {A : Rho → Value → Value → Prop} {s : Sem Value} : SR P w0 B0 ρ A (Vm.idxTail t k i Option.none len elem) s := by
  unfold Vm.idxTail
  exact SR.then_none fun d σ => by
    dsimp only
    unfold boundsPanic; dsimp only; repeat' split
    all_goals exact vrun_none fun _ _ => vrun_panics
theorem SR.indexAt {v v' x x' : Value} (h : VRel ρ v v') (hx : VRel ρ x x') (t : TypeId) : SR P w0 B0 ρ VRel (Instr.indexAt t v x) (Instr.indexAt t v' x') := by
  unfold Instr.indexAt
  refine SR.bind (SR.asIntOf hx) fun ρ1 x y hle hx => ?_
  cases hx
  obtain ⟨k, i⟩ := x
  refine SR.bind (SR.underlying t) fun ρ2 x y hle2 hx => ?_
  cases hx
  replace h := (h.mono hle).mono hle2
  cases x with
  | array len elem => exact SR.bind (k := fun a => Vm.idxTail t k i (some a) len elem) (k' := fun a => Vm.idxTail t k i (some a) len elem) (SR.sureAddr h) fun ρ3 x y hle3 hx => SR.idxTail (.inl hx)
  | slice elem =>
    cases h with
    | sliceNil n c => exact SR.idxNone (len := n) (elem := elem)
    | slice hi hc => exact SR.idxTail (.inl ⟨_, hi, rfl, rfl⟩)
    | sliceOff id off a c' => exact SR.idxTail (.inr rfl)
    | _ => exact SR.none fun _ => rfl
  | _ => exact SR.none fun _ => rfl

inductive All2 {α β : Type} (R : α → β → Prop) : List α → List β → Prop where
  | nil : All2 R [] []
  | cons {a b l m} : R a b → All2 R l m → All2 R (a :: l) (b :: m)
/-- Parts of a literal, one by one. -/
def PartsRel (ρ : Rho) (ps qs : List (Nat × Value)) : Prop := All2 (fun p q => p.1 = q.1 ∧ VRel ρ p.2 q.2) ps qs
theorem PartsRel.mono {ρ ρ' : Rho} (hle : ρ.le ρ') {ps qs : List (Nat × Value)} (h : PartsRel ρ ps qs) : PartsRel ρ' ps qs := by
  induction h with
  | nil => exact .nil
  | cons h _ ih => exact .cons ⟨h.1, h.2.mono hle⟩ ih
theorem fold_put {ρ : Rho} (off : Nat) : ∀ (us vs : List (Value × Nat)) (cs ds : Array Value), All2 (fun p q => p.2 = q.2 ∧ VRel ρ p.1 q.1) us vs → ARel ρ cs ds →
    ARel ρ (us.foldl (fun cs (c, j) => cs.setIfInBounds (off + j) c) cs) (vs.foldl (fun cs (c, j) => cs.setIfInBounds (off + j) c) ds) := by
  intro us vs cs ds h
  induction h generalizing cs ds with
  | nil => exact fun h => h
  | @cons p q _ _ h _ ih =>
    intro ha
    obtain ⟨c, j⟩ := p
    obtain ⟨d, j'⟩ := q
    obtain ⟨e, hv⟩ := h
    simp only at e hv
    subst e
    exact ih _ _ (ha.set _ hv)
theorem zipIdx_rel {ρ : Rho} : ∀ (us vs : List Value) (k : Nat), ARel ρ us.toArray vs.toArray → All2 (fun (p q : Value × Nat) => p.2 = q.2 ∧ VRel ρ p.1 q.1) (us.zipIdx k) (vs.zipIdx k) := by
  intro us
  induction us with
  | nil =>
    intro vs k h
    obtain rfl : vs = [] := by have := h.1; simpa using this.symm
    exact .nil
  | cons u us ih =>
    intro vs k h
    cases vs with
    | nil => have := h.1; simp at this
    | cons v vs =>
      refine .cons ⟨rfl, by simpa using h.2 0 (by simp) (by simp)⟩ (ih vs (k + 1) ?_)
      refine ⟨by simpa using h.1, fun i hi hi' => ?_⟩
      have := h.2 (i + 1) (by simpa using hi) (by simpa using hi')
      simp only [List.getElem_toArray, List.getElem_cons_succ] at this ⊢
      exact this
theorem fill_rel {ρ : Rho} (place : Nat → Option (Nat × Nat)) : ∀ (ps qs : List (Nat × Value)) (cs ds : Array Value), PartsRel ρ ps qs → ARel ρ cs ds →
    ∀ out, Instr.fill place cs ps = some out → ∃ out', Instr.fill place ds qs = some out' ∧ ARel ρ out out' := by
  intro ps qs cs ds h
  induction h generalizing cs ds with
  | nil => intro ha out ho; cases ho; exact ⟨ds, rfl, ha⟩
  | @cons p q _ _ h _ ih =>
    intro ha out ho
    obtain ⟨i, v⟩ := p
    obtain ⟨i', v'⟩ := q
    obtain ⟨e, hv⟩ := h
    simp only at e hv
    subst e
    unfold Instr.fill at ho ⊢
    cases hp : place i with
    | none => simp [hp] at ho
    | some os =>
      obtain ⟨off, size⟩ := os
      simp only [hp] at ho ⊢
      have e1 := hv.cells.1
      have e2 := ha.1
      rw [← e1, ← e2]
      split at ho
      · cases ho
      · rename_i hc
        rw [if_neg hc]
        rw [← Array.foldl_toList, Array.toList_zipIdx] at ho ⊢
        exact ih _ _ (fold_put off _ _ _ _ (zipIdx_rel v.cells.toList v'.cells.toList 0 hv.cells.toList) ha) out ho
theorem mapM_fields (fields : Array Field) : SR P w0 B0 ρ EqR (fields.mapM fun f => do Pure.pure (f.offset, ← Go.sizeOf f.type) : Sem (Array (Nat × Nat))) (fields.mapM fun f => do Pure.pure (f.offset, ← Go.sizeOf f.type)) := by
  rw [Array.mapM_eq_mapM_toList]
  have key : ∀ (l : List Field) (ρ1 : Rho), SR P w0 B0 ρ1 EqR (l.mapM fun f => do Pure.pure (f.offset, ← Go.sizeOf f.type) : Sem (List (Nat × Nat))) (l.mapM fun f => do Pure.pure (f.offset, ← Go.sizeOf f.type)) := by
    intro l
    induction l with
    | nil => intro ρ1; exact SR.pure fun _ _ => rfl
    | cons f l ih =>
      intro ρ1
      rw [List.mapM_cons]
      refine SR.bind (A := EqR) (SR.bind (SR.sizeOf _) fun ρ2 x y _ hx => ?_) fun ρ2 x y _ hx => ?_
      · cases hx; exact SR.pure fun _ _ => rfl
      · cases hx
        exact SR.bind (ih ρ2) fun ρ3 x y _ hx => by cases hx; exact SR.pure fun _ _ => rfl
  exact SR.bind (key _ _) fun ρ2 x y _ hx => by cases hx; exact SR.pure fun _ _ => rfl
theorem SR.build {t : TypeId} {ps qs : Array (Nat × Value)} (hz : zeroOk P t = true) (h : PartsRel ρ ps.toList qs.toList) : SR P w0 B0 ρ VRel (Instr.build t ps) (Instr.build t qs) := by
  unfold Instr.build
  refine SR.bind (SR.zeroValue hz) fun ρ1 x y hle hx => ?_
  obtain ⟨rfl, hx⟩ := hx
  refine SR.bind (SR.underlying t) fun ρ2 d y hle2 hy => ?_
  cases hy
  have h2 := (h.mono hle).mono hle2
  cases d with
  | struct fields =>
    refine SR.bind (mapM_fields fields) fun ρ3 places y hle3 hy => ?_
    cases hy
    cases ho : Instr.fill (fun x => places[x]?) x.cells ps.toList with
    | none => exact SR.stuck
    | some out =>
      obtain ⟨out', h3, h4⟩ := fill_rel _ _ _ _ _ (h2.mono hle3) (hx ρ3).cells out ho
      rw [h3]
      exact SR.pure fun _ hle4 => .agg (h4.mono hle4).1 (h4.mono hle4).2
  | array n elem =>
    refine SR.bind (SR.sizeOf elem) fun ρ3 size y hle3 hy => ?_
    cases hy
    cases ho : Instr.fill (fun i => some (i * size, size)) x.cells ps.toList with
    | none => exact SR.stuck
    | some out =>
      obtain ⟨out', h3, h4⟩ := fill_rel _ _ _ _ _ (h2.mono hle3) (hx ρ3).cells out ho
      rw [h3]
      exact SR.pure fun _ hle4 => .agg (h4.mono hle4).1 (h4.mono hle4).2
  | _ => exact SR.stuck
end
end Vm
end Go.Proofs.YtmapjahpjolmnaaGreatDoor
namespace Go.Proofs.YtmapjahpjolmnaaGreatDoor
namespace Vm
set_option linter.unusedSimpArgs false
set_option linter.unusedVariables false
open Go.RowKit

section
variable {P : Program} {w0 : World} {B0 : Base} {ρ : Rho}
def PExRel (ρ : Rho) (a a' : Addr) : Prop := ∃ i, ρ a.block = some i ∧ a.spot = none ∧ a' = ⟨i.b, i.o + a.off, none⟩ ∧ i.kind = .ex
theorem PExRel.slice {a a' : Addr} (h : PExRel ρ a a') (n c : Nat) : VRel ρ (.slice (some a) n c) (.slice (some a') n c) := by
  obtain ⟨i, h1, h2, rfl, h4⟩ := h
  obtain ⟨b, o, sp⟩ := a
  simp only at h1 h2
  subst h2
  exact .slice h1 (by simp [CapOk, h4])
theorem PExRel.mono {ρ ρ' : Rho} (hle : ρ.le ρ') {a a' : Addr} (h : PExRel ρ a a') : PExRel ρ' a a' := by
  obtain ⟨i, h1, h2, h3, h4⟩ := h; exact ⟨i, hle _ _ h1, h2, h3, h4⟩
theorem SR.newRowEx {cs cs' : Array Value} (h : ARel ρ cs cs') (t : TypeId) : SR P w0 B0 ρ PExRel (Go.newRow t cs) (Go.newRow t cs') := by
  intro ρ1 σ w x σ' hle hw hr
  unfold Go.newRow at hr ⊢
  rw [show (newObj (.cells cs t) >>= _ : Sem Addr) = Sem.bind (newObj _) _ from rfl, vrun_bind] at hr
  simp only [newObj, vrun, andThen] at hr
  cases hr
  have hn := hw.newCells t (h.mono hle)
  refine ⟨_, ⟨w.heap.size, 0, Option.none⟩, _, Rho.le_more (hw.dom _ (Nat.le_refl _)) _, by simp, ⟨_, Rho.more_self _ _ _, rfl, by simp, rfl⟩, hn⟩
theorem range_map_rel {xs ys : Array Value} (n : Nat) (h : ARel ρ xs ys) : ARel ρ ((Array.range n).map (xs[· % xs.size]!)) ((Array.range n).map (ys[· % ys.size]!)) := by
  refine ⟨by simp, fun k hk hk' => ?_⟩
  simp only [Array.getElem_map, Array.getElem_range]
  rw [← h.1]
  by_cases h0 : k % xs.size < xs.size
  · rw [getElem!_pos xs _ h0, getElem!_pos ys _ (h.1 ▸ h0)]; exact h.2 _ _ _
  · rw [getElem!_neg xs _ h0, getElem!_neg ys _ (h.1 ▸ h0)]; exact .bool _
theorem SR.buildSlice {t : TypeId} {n : Nat} {ps qs : Array (Nat × Value)} (hz : elemZeroOk P t = true) (h : PartsRel ρ ps.toList qs.toList) :
    SR P w0 B0 ρ VRel (Instr.buildSlice t n ps) (Instr.buildSlice t n qs) := by
  unfold Instr.buildSlice
  refine SR.bind (A := fun ρ x y => x = y ∧ P.underlying t = some x) ?_ fun ρ1 d y hle hy => ?_
  · intro ρ1 σ w x σ' hle hw hr
    obtain ⟨ρ2, y, w', h1, h2, h3, h4⟩ := SR.underlying (P := P) (w0 := w0) (B0 := B0) (ρ := ρ) t ρ1 σ w x σ' hle hw hr
    refine ⟨ρ2, y, w', h1, h2, ⟨h3, ?_⟩, h4⟩
    unfold Go.underlying at hr
    rw [show (program >>= _ : Sem TypeDesc) = Sem.bind program _ from rfl, vrun_bind] at hr
    simp only [program, vrun, andThen] at hr
    cases hd : P.underlying t with
    | none => rw [hd] at hr; cases hr
    | some d => rw [hd] at hr; cases hr; rfl
  · obtain ⟨rfl, hu⟩ := hy
    cases d with
    | slice elem =>
      have hz' : zeroOk P elem = true := by simpa [elemZeroOk, hu] using hz
      refine SR.bind (SR.sizeOf elem) fun ρ2 size y hle2 hy => ?_
      cases hy
      dsimp only
      split
      · exact SR.none fun _ => rfl
      · have tail : ∀ (ρ3 : Rho) (zero : Array Value), ρ.le ρ3 → (∀ ρ', ARel ρ' zero zero) →
            SR P w0 B0 ρ3 VRel (match Instr.fill (fun i => some (i * size, size)) ((Array.range (n * size)).map (zero[· % zero.size]!)) ps.toList with | some cells => do Pure.pure (Value.slice (some (← Go.newRow elem cells)) n n) | _ => Go.stuck "buildSlice: a part of the wrong size")
              (match Instr.fill (fun i => some (i * size, size)) ((Array.range (n * size)).map (zero[· % zero.size]!)) qs.toList with | some cells => do Pure.pure (Value.slice (some (← Go.newRow elem cells)) n n) | _ => Go.stuck "buildSlice: a part of the wrong size") := by
          intro ρ3 zero hle3 hzero
          cases ho : Instr.fill (fun i => some (i * size, size)) ((Array.range (n * size)).map (zero[· % zero.size]!)) ps.toList with
          | none => exact SR.stuck
          | some out =>
            obtain ⟨out', h3, h4⟩ := fill_rel _ _ _ _ _ (h.mono hle3) (range_map_rel _ (hzero ρ3)) out ho
            rw [h3]
            exact SR.bind (SR.newRowEx h4 elem) fun ρ4 _ _ hle4 hx => SR.pure fun _ hle5 => (hx.mono hle5).slice _ _
        split
        · exact tail ρ2 #[] (Rho.le_trans hle hle2) (fun _ => ARel.nil _)
        · exact SR.bind (SR.zeroValue hz') fun ρ3 z y hle3 hz => by
            obtain ⟨rfl, hz⟩ := hz
            exact tail ρ3 z.cells (Rho.le_trans (Rho.le_trans hle hle2) hle3) (fun ρ' => (hz ρ').cells)
    | _ => exact SR.stuck
theorem SR.range {v v' : Value} (h : VRel ρ v v') (hs : ∃ s, v = .string s) (t : TypeId) : SR P w0 B0 ρ VRel (Instr.range t v) (Instr.range t v') := by
  obtain ⟨s, rfl⟩ := hs
  cases h
  unfold Instr.range
  refine SR.bind (SR.underlying t) fun ρ1 x y hle hx => ?_
  cases hx
  cases x with
  | string =>
    intro ρ2 σ w x σ' hle hw hr
    cases hr
    exact ⟨_, .pointer (some ⟨w.heap.size, 0, Option.none⟩), _, Rho.le_more (hw.dom _ (Nat.le_refl _)) _, by simp, PRel.vrel ⟨_, Rho.more_self _ _ _, rfl, rfl⟩, hw.newIter s 0⟩
  | _ => exact SR.none fun _ => rfl
theorem SR.len {v v' : Value} (h : VRel ρ v v') (ts : Array TypeId) (t : TypeId) (hc : ∀ r, v ≠ .chan r) : SR P w0 B0 ρ VRel (Builtin.len_ ts t #[v]) (Builtin.len_ ts t #[v']) := by
  unfold Builtin.len_
  simp only [List.getElem?_toArray, List.getElem?_cons_zero]
  cases ts[0]? with
  | none => exact SR.stuck
  | some t0 =>
    refine SR.bind (SR.underlying t0) fun ρ1 x y hle hx => ?_
    cases hx
    replace h := h.mono hle
    cases x with
    | array n e => exact SR.pure fun _ _ => .int _ _
    | pointer arr =>
      refine SR.bind (SR.underlying arr) fun ρ2 x y hle hx => ?_
      cases hx
      cases x with
      | array n e => exact SR.pure fun _ _ => .int _ _
      | _ => exact SR.stuck
    | string => cases h <;> first | exact SR.stuck | exact SR.pure fun _ _ => .int _ _
    | slice e => cases h <;> first | exact SR.stuck | exact SR.pure fun _ _ => .int _ _
    | map k e =>
      cases h <;> first | exact SR.stuck | exact SR.pure fun _ _ => .int _ _ | skip
      case map id i hi =>
        intro ρ2 σ w x σ' hle hw hr
        dsimp only at hr ⊢
        rw [show ((getObj id : Sem Obj) >>= _ : Sem Value) = Sem.bind _ _ from rfl, vrun_bind] at hr
        simp only [getObj, vrun, andThen] at hr
        cases hg : σ[id]? with
        | none => simp [hg] at hr
        | some o =>
          cases o with
          | cells b => simp [hg] at hr
          | iter s p => simp only [hg, vrun, stuck] at hr; cases hr
          | rmap es c =>
            simp only [hg, vrun] at hr
            cases hr
            obtain ⟨i', fs, h1, h2, h3, h4, h5⟩ := hw.rmap id es c hg
            obtain rfl : i = i' := by rw [hle _ _ hi] at h1; exact Option.some.inj h1
            refine ⟨ρ2, _, w, Rho.le_refl _, ?_, (by rw [h5.1]; exact .int _ _ : VRel ρ2 (goInt es.size) (goInt fs.size)), hw⟩
            simp only [getObj]
            rw [show ((Sem.getObj i.b Sem.pure : Sem Obj) >>= _ : Sem Value) = Sem.bind _ _ from rfl]
            simp only [Sem.bind, Sem.run, h4]
            rfl
          | map es c =>
            simp only [hg, vrun] at hr
            cases hr
            obtain ⟨i', fs, h1, h2, h3, h4, h5⟩ := hw.map id es c hg
            obtain rfl : i = i' := by rw [hle _ _ hi] at h1; exact Option.some.inj h1
            refine ⟨ρ2, _, w, Rho.le_refl _, ?_, (by rw [h5.1]; exact .int _ _ : VRel ρ2 (goInt es.size) (goInt fs.size)), hw⟩
            simp only [getObj]
            rw [show ((Sem.getObj i.b Sem.pure : Sem Obj) >>= _ : Sem Value) = Sem.bind _ _ from rfl]
            simp only [Sem.bind, Sem.run, h4]
            rfl
    | _ => cases h <;> first | exact SR.stuck | exact absurd rfl (hc _)
end
end Vm
end Go.Proofs.YtmapjahpjolmnaaGreatDoor
namespace Go.Proofs.YtmapjahpjolmnaaGreatDoor
namespace Vm
set_option linter.unusedSimpArgs false
set_option linter.unusedVariables false
open Go.RowKit

section
variable {P : Program} {w0 w : World} {B0 : Base} {ρ : Rho} {σ : VHeap}
theorem heap_set (w : World) (b : Nat) (o : Obj) (k : Nat) : ({ w with heap := w.heap.setIfInBounds b o } : World).heap[k]? = if b = k then (if b < w.heap.size then some o else none) else w.heap[k]? := by
  show (w.heap.setIfInBounds b o)[k]? = _
  rw [Array.getElem?_setIfInBounds]
theorem WRel.setOther (h : WRel ρ σ w0 w B0) {id : Nat} {i : Info} {o : VObj} {r : Obj} (hρ : ρ id = some i)
    (ho : (∃ es c, σ[id]? = some (.map es c)) ∨ (∃ s p, σ[id]? = some (.iter s p)))
    (hm : ∀ es c, o = .map es c → ∃ fs, r = .map fs c ∧ ERel ρ es fs) (hi : ∀ s p, o = .iter s p → r = .stringIter s p) (hc : ∀ b, o ≠ .cells b) (hr0 : ∀ es c, o ≠ .rmap es c) :
    WRel ρ (σ.setIfInBounds id o) w0 { w with heap := w.heap.setIfInBounds i.b r } B0 := by
  have hreal : i.o = 0 ∧ ¬ B0.U i.b ∧ ((∃ fs c, w.heap[i.b]? = some (.map fs c)) ∨ ∃ s p, w.heap[i.b]? = some (.stringIter s p)) := by
    rcases ho with ⟨es, c, ho⟩ | ⟨s, p, ho⟩
    · obtain ⟨i', fs, h1, h2, h3, h4, h5⟩ := h.map id es c ho
      obtain rfl : i = i' := by rw [hρ] at h1; exact Option.some.inj h1
      exact ⟨h2, h3, .inl ⟨fs, c, h4⟩⟩
    · obtain ⟨i', h1, h2, h3, h4⟩ := h.iter id s p ho
      obtain rfl : i = i' := by rw [hρ] at h1; exact Option.some.inj h1
      exact ⟨h2, h3, .inr ⟨s, p, h4⟩⟩
  obtain ⟨hio, hB, hreal⟩ := hreal
  have hlt : i.b < w.heap.size := by
    rcases hreal with ⟨fs, c, e⟩ | ⟨s, p, e⟩ <;> exact (Array.getElem?_eq_some_iff.1 e).1
  have hidlt : id < σ.size := by
    rcases ho with ⟨es, c, e⟩ | ⟨s, p, e⟩ <;> exact (Array.getElem?_eq_some_iff.1 e).1
  have hself : ({ w with heap := w.heap.setIfInBounds i.b r } : World).heap[i.b]? = some r := by rw [heap_set]; simp [hlt]
  have hother : ∀ k, k ≠ i.b → ({ w with heap := w.heap.setIfInBounds i.b r } : World).heap[k]? = w.heap[k]? := fun k hk => by rw [heap_set, if_neg (Ne.symm hk)]
  have hget : ∀ id', id' ≠ id → (σ.setIfInBounds id o)[id']? = σ[id']? := fun id' hne => Array.getElem?_setIfInBounds_ne (Ne.symm hne)
  have hget0 : (σ.setIfInBounds id o)[id]? = some o := by rw [Array.getElem?_setIfInBounds]; simp [hidlt]
  obtain ⟨o0, ho0, how⟩ : ∃ o0, σ[id]? = some o0 ∧ (∀ b, o0 ≠ .cells b) := by
    rcases ho with ⟨es, c, e⟩ | ⟨s, p, e⟩ <;> exact ⟨_, e, fun _ h => by cases h⟩
  have hown0 : o0.own = true := by
    rcases ho with ⟨es, c, e⟩ | ⟨s, p, e⟩ <;> (rw [e] at ho0; cases ho0; rfl)
  have hfar : ∀ id' o' i', id' ≠ id → σ[id']? = some o' → o'.own = true → (∀ b, o' ≠ .cells b) → ρ id' = some i' → i'.b ≠ i.b := by
    intro id' o' i' hid ho' hown' hc' hi' he
    have := h.sep id' id o' o0 i' i hid ho' ho0 hown' hown0 hi' hρ he
    cases o0 with
    | cells b => exact how b rfl
    | _ => cases o' <;> exact this
  constructor
  · intro id' hid; exact h.dom id' (by simpa using hid)
  · intro id' b hb hd
    have hid : id' ≠ id := by rintro rfl; rw [hget0] at hb; exact hc b (Option.some.inj hb)
    rw [hget id' hid] at hb
    obtain ⟨i', cs, fz, hi', hr⟩ := h.blk id' b hb hd
    refine ⟨i', cs, fz, hi', hr.keep (Rho.le_refl _) (hother _ ?_)⟩
    intro e
    have := hr.at_
    rw [e] at this
    rcases hreal with ⟨fs, c, e2⟩ | ⟨s, p, e2⟩ <;> rw [e2] at this <;> cases this
  · intro id' es c hg
    by_cases hid : id' = id
    · subst hid
      rw [hget0] at hg
      obtain rfl := Option.some.inj hg
      obtain ⟨fs, rfl, h5⟩ := hm es c rfl
      exact ⟨i, fs, hρ, hio, hB, hself, h5⟩
    · rw [hget id' hid] at hg
      obtain ⟨i', fs, h1, h2, h3, h4, h5⟩ := h.map id' es c hg
      exact ⟨i', fs, h1, h2, h3, (hother _ (hfar id' _ i' hid hg rfl (by simp) h1)).trans h4, h5⟩
  · intro id' es c hg
    by_cases hid : id' = id
    · subst hid
      rw [hget0] at hg
      exact absurd (Option.some.inj hg) (hr0 es c)
    · rw [hget id' hid] at hg
      obtain ⟨i', fs, h1, h2, h3, h4, h5⟩ := h.rmap id' es c hg
      exact ⟨i', fs, h1, h2, h3, (hother _ (fun e => hB (e ▸ h3.1))).trans h4, h5⟩
  · intro id' s p hg
    by_cases hid : id' = id
    · subst hid
      rw [hget0] at hg
      obtain rfl := Option.some.inj hg
      obtain rfl := hi s p rfl
      exact ⟨i, hρ, hio, hB, hself⟩
    · rw [hget id' hid] at hg
      obtain ⟨i', h1, h2, h3, h4⟩ := h.iter id' s p hg
      exact ⟨i', h1, h2, h3, (hother _ (hfar id' _ i' hid hg rfl (by simp) h1)).trans h4⟩
  · intro id1 id2 o1 o2 i1 i2 h12 g1 g2 w1 w2 r1 r2 hb12
    by_cases e1 : id1 = id
    · subst e1
      rw [hget id2 (Ne.symm h12)] at g2
      have hk := h.sep id1 id2 o0 o2 i1 i2 h12 ho0 g2 hown0 w2 r1 r2 hb12
      cases o0 with
      | cells b => exact absurd rfl (how b)
      | _ => exact hk.elim
    · rw [hget id1 e1] at g1
      by_cases e2 : id2 = id
      · subst e2
        have hk := h.sep id1 id2 o1 o0 i1 i2 h12 g1 ho0 w1 hown0 r1 r2 hb12
        cases o0 with
        | cells b => exact absurd rfl (how b)
        | _ => cases o1 <;> exact hk.elim
      · rw [hget id2 e2] at g2
        exact h.sep id1 id2 o1 o2 i1 i2 h12 g1 g2 w1 w2 r1 r2 hb12
  · simpa using h.base
  · refine h.below.trans ⟨rfl, rfl, rfl, by simp, fun k hk => hother k (fun e => hB (e ▸ hk))⟩
  · intro k hk; have := h.hole k hk; exact ⟨this.1, by simpa using this.2⟩

theorem SR.getMap {α β : Type} {A : Rho → α → β → Prop} {id : Nat} {i : Info} (hi : ρ id = some i) {k : Obj → Sem α} {k' : Obj → Sem β}
    (hk : ∀ ρ1 es fs c, ρ.le ρ1 → ERel ρ1 es fs → SR P w0 B0 ρ1 A (k (.map es c)) (k' (.map fs c))) (hs : ∀ s p σ, vrun P (k (.stringIter s p)) σ = Option.none) :
    SR P w0 B0 ρ A (getObj id >>= k) (getObj i.b >>= k') := by
  intro ρ1 σ w x σ' hle hw hr
  rw [show ((getObj id : Sem Obj) >>= k : Sem α) = Sem.bind _ _ from rfl, vrun_bind] at hr
  simp only [getObj, vrun, andThen] at hr
  cases hg : σ[id]? with
  | none => simp [hg] at hr
  | some o =>
    cases o with
    | cells b => simp [hg] at hr
    | iter s p => simp only [hg, vrun, hs] at hr; cases hr
    | rmap es c =>
      simp only [hg, vrun] at hr
      obtain ⟨i', fs, h1, h2, h3, h4, h5⟩ := hw.rmap id es c hg
      obtain rfl : i = i' := by rw [hle _ _ hi] at h1; exact Option.some.inj h1
      obtain ⟨ρ2, y, w', g1, g2, g3, g4⟩ := hk ρ1 es fs c hle h5 ρ1 σ w x σ' (Rho.le_refl _) hw hr
      refine ⟨ρ2, y, w', g1, ?_, g3, g4⟩
      simp only [getObj]
      rw [show ((Sem.getObj i.b Sem.pure : Sem Obj) >>= k' : Sem β) = Sem.bind _ _ from rfl]
      simp only [Sem.bind, Sem.run, h4, g2]
    | map es c =>
      simp only [hg, vrun] at hr
      obtain ⟨i', fs, h1, h2, h3, h4, h5⟩ := hw.map id es c hg
      obtain rfl : i = i' := by rw [hle _ _ hi] at h1; exact Option.some.inj h1
      obtain ⟨ρ2, y, w', g1, g2, g3, g4⟩ := hk ρ1 es fs c hle h5 ρ1 σ w x σ' (Rho.le_refl _) hw hr
      refine ⟨ρ2, y, w', g1, ?_, g3, g4⟩
      simp only [getObj]
      rw [show ((Sem.getObj i.b Sem.pure : Sem Obj) >>= k' : Sem β) = Sem.bind _ _ from rfl]
      simp only [Sem.bind, Sem.run, h4, g2]
theorem run_setObj {w : World} {b : Nat} {o o' : Obj} (h : w.heap[b]? = some o) (hc : ∀ c e f, o ≠ .cells c e f) : (setObj b o').run P w = .ok () { w with heap := w.heap.setIfInBounds b o' } := by
  simp only [setObj, Sem.run, h]
theorem SR.setMap {id : Nat} {i : Info} (hi : ρ id = some i) {es fs : Array MapEntry} {c : Nat} (he : ERel ρ es fs) : SR P w0 B0 ρ TrueR (setObj id (.map es c)) (setObj i.b (.map fs c)) := by
  intro ρ1 σ w x σ' hle hw hr
  simp only [setObj, vrun] at hr
  cases hg : σ[id]? with
  | none => simp [hg] at hr
  | some o =>
    cases o with
    | cells b => simp [hg] at hr
    | iter s p => simp [hg] at hr
    | rmap es c => simp [hg] at hr
    | map es0 c0 =>
      simp only [hg, vrun] at hr
      cases hr
      obtain ⟨i', fs0, h1, h2, h3, h4, h5⟩ := hw.map id es0 c0 hg
      obtain rfl : i = i' := by rw [hle _ _ hi] at h1; exact Option.some.inj h1
      refine ⟨ρ1, (), _, Rho.le_refl _, run_setObj h4 (by simp), trivial, ?_⟩
      exact hw.setOther (hle _ _ hi) (.inl ⟨_, _, hg⟩) (fun es' c' e => by cases e; exact ⟨fs, rfl, he.mono hle⟩) (fun _ _ e => by cases e) (fun _ e => by cases e) (fun _ _ e => by cases e)
theorem SR.next {v v' : Value} (h : VRel ρ v v') (t : TypeId) : SR P w0 B0 ρ VRel (Instr.next v true t) (Instr.next v' true t) := by
  cases h <;> first | exact SR.none fun _ => rfl | skip
  case ptr id off i hi =>
    cases off with
    | succ n => exact SR.none fun _ => rfl
    | zero =>
      intro ρ1 σ w x σ' hle hw hr
      change vrun P (Sem.bind (getObj id) _) σ = _ at hr
      rw [vrun_bind] at hr
      simp only [getObj, vrun, andThen] at hr
      cases hg : σ[id]? with
      | none => simp [hg] at hr
      | some o =>
        cases o with
        | cells b => simp [hg] at hr
        | map es c => simp only [hg, vrun] at hr; cases hr
        | rmap es c => simp only [hg, vrun] at hr; cases hr
        | iter s p =>
          simp only [hg, vrun] at hr
          obtain ⟨i', h1, h2, h3, h4⟩ := hw.iter id s p hg
          obtain rfl : i = i' := by rw [hle _ _ hi] at h1; exact Option.some.inj h1
          rw [show i.o + 0 = 0 by omega]
          by_cases hp : p < s.size
          · rw [if_pos hp] at hr
            generalize hd : Utf8.decode s p = cw at hr
            obtain ⟨c, wd⟩ := cw
            change vrun P (Sem.bind (setObj id (.stringIter s (p + wd))) _) σ = _ at hr
            rw [vrun_bind] at hr
            simp only [setObj, vrun, hg, andThen] at hr
            cases hr
            refine ⟨ρ1, .tuple #[.bool true, goInt p, .int .i32 c], _, Rho.le_refl _, ?_, ?_, hw.setOther (r := .stringIter s (p + wd)) (hle _ _ hi) (.inr ⟨_, _, hg⟩) (fun _ _ e => by cases e) (fun _ _ e => by cases e; rfl) (fun _ e => by cases e) (fun _ _ e => by cases e)⟩
            · change Sem.run P (Sem.bind (Sem.getObj i.b Sem.pure) _) w = _
              simp only [Sem.bind, Sem.run, h4]
              rw [if_pos hp, hd]
              dsimp only
              rw [Sem.run_bind, run_setObj h4 (by simp)]
              rfl
            · refine .tuple rfl fun k hk hk' => ?_
              match k, hk with
              | 0, _ => exact .bool _
              | 1, _ => exact .int _ _
              | 2, _ => exact .int _ _
          · rw [if_neg hp] at hr
            cases hr
            refine ⟨ρ1, .tuple #[.bool false], w, Rho.le_refl _, ?_, ?_, hw⟩
            · change Sem.run P (Sem.bind (Sem.getObj i.b Sem.pure) _) w = _
              simp only [Sem.bind, Sem.run, h4]
              rw [if_neg hp]
              rfl
            · refine .tuple rfl fun k hk hk' => ?_
              match k, hk with
              | 0, _ => exact .bool _
end
end Vm
end Go.Proofs.YtmapjahpjolmnaaGreatDoor
namespace Go.Proofs.YtmapjahpjolmnaaGreatDoor
namespace Vm
set_option linter.unusedSimpArgs false
set_option linter.unusedVariables false
open Go.RowKit

def basicT : TypeDesc → Bool
  | .int _ | .string | .bool => true
  | _ => false
def basicKey (P : Program) (t : TypeId) : Bool :=
  match P.underlying t with
  | some (.map k _) => (P.underlying k).any basicT
  | _ => false
section
variable {P : Program} {w0 w : World} {B0 : Base} {ρ : Rho} {σ : VHeap}
theorem SR.underlyingK (t : TypeId) : SR P w0 B0 ρ (fun _ x y => x = y ∧ P.underlying t = some x) (Go.underlying t) (Go.underlying t) := by
  intro ρ1 σ w x σ' hle hw hr
  obtain ⟨ρ2, y, w', h1, h2, h3, h4⟩ := SR.underlying (P := P) (w0 := w0) (B0 := B0) (ρ := ρ) t ρ1 σ w x σ' hle hw hr
  refine ⟨ρ2, y, w', h1, h2, ⟨h3, ?_⟩, h4⟩
  unfold Go.underlying at hr
  rw [show (program >>= _ : Sem TypeDesc) = Sem.bind program _ from rfl, vrun_bind] at hr
  simp only [program, vrun, andThen] at hr
  cases hd : P.underlying t with
  | none => rw [hd] at hr; cases hr
  | some d => rw [hd] at hr; cases hr; rfl
theorem SR.checkKey {k : TypeId} {d : TypeDesc} (hd : P.underlying k = some d) (hb : basicT d = true) (b b' : Bool) (n : Nat) (v v' : Value) : SR P w0 B0 ρ TrueR (Instr.checkKey b (n + 1) k v) (Instr.checkKey b' (n + 1) k v') := by
  unfold Instr.checkKey
  refine SR.bind (SR.underlyingK k) fun ρ1 x y hle hx => ?_
  obtain ⟨rfl, hx⟩ := hx
  obtain rfl : d = x := by rw [hd] at hx; exact Option.some.inj hx
  cases d <;> first | (simp [basicT] at hb; done) | exact SR.pure fun _ _ => trivial
def EnRel (ρ : Rho) (e f : MapEntry) : Prop := e.key = f.key ∧ cleanC e.key = true ∧ VRel ρ e.val f.val ∧ e.born = f.born
theorem ERel.list {es fs : Array MapEntry} (h : ERel ρ es fs) : All2 (EnRel ρ) es.toList fs.toList := by
  obtain ⟨es⟩ := es
  obtain ⟨fs⟩ := fs
  induction es generalizing fs with
  | nil =>
    obtain rfl : fs = [] := by have := h.1; simpa using this.symm
    exact .nil
  | cons e es ih =>
    cases fs with
    | nil => have := h.1; simp at this
    | cons f fs =>
      refine .cons (by simpa [EnRel] using h.2 0 (by simp) (by simp)) (ih fs ⟨by simpa using h.1, fun i hi hi' => ?_⟩)
      have := h.2 (i + 1) (by simpa using hi) (by simpa using hi')
      simp only [List.getElem_toArray, List.getElem_cons_succ] at this ⊢
      exact this
def FRel (ρ : Rho) (x y : Option (Nat × Value)) : Prop :=
  match x, y with
  | none, none => True
  | some (i, v), some (j, u) => i = j ∧ VRel ρ v u
  | _, _ => False
theorem findNow_rel {d : TypeDesc} {k : Value} : ∀ (es fs : List MapEntry) (i : Nat), All2 (EnRel ρ) es fs → ∀ r, Instr.findNow d k es i = some r → ∃ r', Instr.findNow d k fs i = some r' ∧ FRel ρ r r' := by
  intro es fs i h
  induction h generalizing i with
  | nil => intro r hr; cases hr; exact ⟨none, rfl, trivial⟩
  | @cons e f es fs he _ ih =>
    intro r hr
    unfold Instr.findNow at hr ⊢
    rw [← he.1]
    cases hs : Instr.sameNow d k e.key with
    | none => simp [hs] at hr
    | some b =>
      cases b with
      | true => simp only [hs] at hr; cases hr; exact ⟨_, rfl, rfl, he.2.2.1⟩
      | false => simp only [hs] at hr; exact ih _ r hr
theorem equal_basic {t : TypeId} {d : TypeDesc} {k u : Value} (hd : P.underlying t = some d) (hb : basicT d = true) (hk : cleanC k = true) (hu : cleanC u = true) (σ : VHeap) :
    vrun P (Op.equal t k u) σ = (Instr.sameNow d k u).map fun b => (b, σ) := by
  unfold Op.equal Op.maxDepth
  rw [show (10000 : Nat) = 9999 + 1 from rfl]
  unfold Op.equalIn
  rw [show (underlying t >>= _ : Sem Bool) = Sem.bind (underlying t) _ from rfl, vrun_bind]
  have hu' : vrun P (underlying t) σ = some (d, σ) := by
    unfold Go.underlying
    rw [show (program >>= _ : Sem TypeDesc) = Sem.bind program _ from rfl, vrun_bind]
    simp only [program, vrun, andThen, hd]
    rfl
  rw [hu']
  simp only [andThen]
  cases d <;> first | (simp [basicT] at hb; done) | skip
  case bool =>
    cases k <;> first | (simp [cleanC] at hk; done) | skip
    all_goals cases u <;> first | (simp [cleanC] at hu; done) | rfl
  case int kk =>
    cases k with
    | int k1 n1 =>
      cases u with
      | int k2 n2 =>
        simp only [Instr.sameNow]
        split <;> rfl
      | pointer a => cases a with
        | none => cases n1 <;> first | rfl | (rename_i m; cases m <;> rfl)
        | some a => simp [cleanC] at hu
      | _ => first | rfl | (simp [cleanC] at hu)
    | pointer a => cases a with
      | none => cases u <;> first | rfl | (simp [cleanC] at hu; done) | (rename_i a; cases a <;> first | rfl | (simp [cleanC] at hu; done))
      | some a => simp [cleanC] at hk
    | _ =>
      first
      | (simp [cleanC] at hk; done)
      | (cases u <;> first | rfl | (simp [cleanC] at hu; done) | (rename_i a; cases a <;> first | rfl | (simp [cleanC] at hu; done)))
  case string =>
    cases k with
    | string s =>
      cases u with
      | string s' =>
        rfl
      | _ => first | rfl | (simp [cleanC] at hu)
    | _ => first | (simp [cleanC] at hk; done) | (cases u <;> first | rfl | (simp [cleanC] at hu; done))

theorem findAsking_none {t : TypeId} {d : TypeDesc} {k : Value} (hd : P.underlying t = some d) (hb : basicT d = true) (hk : cleanC k = true) :
    ∀ (es : List MapEntry) (i : Nat), (∀ e ∈ es, cleanC e.key = true) → Instr.findNow d k es i = none → ∀ σ, vrun P (Instr.findAsking t k es i) σ = none := by
  intro es
  induction es with
  | nil => intro i _ h; cases h
  | cons e es ih =>
    intro i hc h σ
    unfold Instr.findNow at h
    unfold Instr.findAsking
    rw [show (Op.equal t k e.key >>= _ : Sem (Option (Nat × Value))) = Sem.bind (Op.equal t k e.key) _ from rfl, vrun_bind, equal_basic hd hb hk (hc e (by simp))]
    cases hs : Instr.sameNow d k e.key with
    | none => rfl
    | some b =>
      cases b with
      | true => simp [hs] at h
      | false =>
        simp only [hs] at h
        simp only [Option.map_some, andThen, Bool.false_eq_true, if_false]
        exact ih (i + 1) (fun e he => hc e (by simp [he])) h σ
theorem SR.findKey {t : TypeId} {d : TypeDesc} {k : Value} (hd : P.underlying t = some d) (hb : basicT d = true) (hk : cleanC k = true) {es fs : Array MapEntry} (he : ERel ρ es fs) :
    SR P w0 B0 ρ FRel (Instr.findKey t k es.toList) (Instr.findKey t k fs.toList) := by
  unfold Instr.findKey
  refine SR.bind (SR.underlyingK t) fun ρ1 x y hle hx => ?_
  obtain ⟨rfl, hx⟩ := hx
  obtain rfl : d = x := by rw [hd] at hx; exact Option.some.inj hx
  cases hf : Instr.findNow d k es.toList 0 with
  | none =>
    refine SR.none fun σ => ?_
    refine findAsking_none hd hb hk es.toList 0 (fun e hm => ?_) hf σ
    obtain ⟨i, hi, rfl⟩ := List.getElem_of_mem hm
    have := he.2 i (by simpa using hi) (by rw [← he.1]; simpa using hi)
    simpa using this.2.1
  | some r =>
    obtain ⟨r', h1, h2⟩ := findNow_rel es.toList fs.toList 0 he.list r hf
    rw [h1]
    refine SR.pure fun ρ2 hle2 => ?_
    cases r with
    | none => cases r' with
      | none => trivial
      | some q => exact h2
    | some p => cases r' with
      | none => exact h2
      | some q => exact ⟨h2.1, (h2.2.mono hle).mono hle2⟩
theorem SR.lookup {t : TypeId} {m m' k : Value} (hb : basicKey P t = true) (hz : elemZeroOk P t = true) (hk : cleanC k = true) (h : VRel ρ m m') (ok : Bool) :
    SR P w0 B0 ρ VRel (Instr.lookup t m k ok) (Instr.lookup t m' k ok) := by
  unfold Instr.lookup
  refine SR.bind (SR.underlyingK t) fun ρ1 x y hle hx => ?_
  obtain ⟨rfl, hu⟩ := hx
  cases x <;> first | exact SR.stuck | skip
  case map key elem =>
    obtain ⟨d, hd, hbd⟩ : ∃ d, P.underlying key = some d ∧ basicT d = true := by
      simp only [basicKey, hu] at hb
      cases hd : P.underlying key with
      | none => simp [hd] at hb
      | some d => exact ⟨d, rfl, by simpa [hd] using hb⟩
    have hz' : zeroOk P elem = true := by simpa [elemZeroOk, hu] using hz
    have tail : ∀ (ρ2 : Rho) (es fs : Array MapEntry), ERel ρ2 es fs → SR P w0 B0 ρ2 VRel
        (do Instr.checkKey es.isEmpty 10000 key k
            let (v, ok') ← match ← Instr.findKey key k es.toList with
              | some (_, v) => Pure.pure (v, true)
              | Option.none => Pure.pure (← Go.zeroValue elem, false)
            Pure.pure (if ok then .tuple #[v, .bool ok'] else v))
        (do Instr.checkKey fs.isEmpty 10000 key k
            let (v, ok') ← match ← Instr.findKey key k fs.toList with
              | some (_, v) => Pure.pure (v, true)
              | Option.none => Pure.pure (← Go.zeroValue elem, false)
            Pure.pure (if ok then .tuple #[v, .bool ok'] else v)) := by
      intro ρ2 es fs he
      refine SR.bind (SR.checkKey hd hbd _ _ 9999 k k) fun ρ3 _ _ hle3 _ => SR.bind (SR.findKey hd hbd hk (he.mono hle3)) fun ρ4 x y hle4 hf => ?_
      have fin : ∀ (ρ5 : Rho) (v v' : Value) (b : Bool), VRel ρ5 v v' → VRel ρ5 (if ok then .tuple #[v, .bool b] else v) (if ok then .tuple #[v', .bool b] else v') := by
        intro ρ5 v v' b hv
        cases ok with
        | false => exact hv
        | true =>
          refine .tuple rfl fun i hi hi' => ?_
          match i, hi with
          | 0, _ => exact hv
          | 1, _ => exact .bool _
      cases x with
      | none => cases y with
        | none => exact SR.bind (SR.zeroValue hz') fun ρ5 z z' _ hz => by obtain ⟨rfl, hz⟩ := hz; exact SR.pure fun ρ6 _ => fin ρ6 _ _ _ (hz ρ6)
        | some q => exact hf.elim
      | some p => cases y with
        | none => exact hf.elim
        | some q =>
          obtain ⟨i, v⟩ := p
          obtain ⟨j, u⟩ := q
          exact SR.pure fun ρ6 hle6 => fin ρ6 _ _ _ (hf.2.mono hle6)
    replace h := h.mono hle
    cases h with
    | mapNil => exact tail ρ1 #[] #[] ⟨rfl, fun k h => by simp at h⟩
    | map hi => exact SR.getMap hi (fun ρ2 es fs c _ he => tail ρ2 es fs he) (fun _ _ _ => rfl)
    | _ => exact SR.stuck
theorem ERel.push {es fs : Array MapEntry} (h : ERel ρ es fs) {k v v' : Value} (hk : cleanC k = true) (hv : VRel ρ v v') (b : Nat) : ERel ρ (es.push ⟨k, v, b⟩) (fs.push ⟨k, v', b⟩) := by
  refine ⟨by simp [h.1], fun i hi hi' => ?_⟩
  simp only [Array.getElem_push]
  by_cases hlt : i < es.size
  · rw [dif_pos hlt, dif_pos (h.1 ▸ hlt)]; exact h.2 i hlt _
  · rw [dif_neg hlt, dif_neg (h.1 ▸ hlt)]; exact ⟨rfl, hk, hv, rfl⟩
theorem ERel.modify {es fs : Array MapEntry} (h : ERel ρ es fs) (i : Nat) (f g : MapEntry → MapEntry) (hfg : ∀ e e', EnRel ρ e e' → EnRel ρ (f e) (g e')) : ERel ρ (es.modify i f) (fs.modify i g) := by
  refine ⟨by simp [h.1], fun k hk hk' => ?_⟩
  have a : k < es.size := by simpa using hk
  have b : k < fs.size := by simpa using hk'
  rw [Array.getElem_modify, Array.getElem_modify]
  by_cases e : i = k
  · rw [if_pos e, if_pos e]; exact hfg _ _ (h.2 k a b)
  · rw [if_neg e, if_neg e]; exact h.2 k a b
theorem SR.keyStays {old new : Value} : SR P w0 B0 ρ (fun _ x y => x = y ∧ x = new) (Instr.keyThatStays old new) (Instr.keyThatStays old new) := by
  unfold Instr.keyThatStays
  split
  · exact SR.pure fun _ _ => ⟨rfl, rfl⟩
  · exact SR.none fun _ => rfl
theorem ERel.key {es fs : Array MapEntry} (h : ERel ρ es fs) (i : Nat) : (es[i]?).map (·.key) = (fs[i]?).map (·.key) := by
  by_cases hi : i < es.size
  · rw [Array.getElem?_eq_getElem hi, Array.getElem?_eq_getElem (h.1 ▸ hi)]
    simp [(h.2 i hi (h.1 ▸ hi)).1]
  · rw [Array.getElem?_eq_none (by omega), Array.getElem?_eq_none (by rw [← h.1]; omega)]
theorem ERel.born {es fs : Array MapEntry} (h : ERel ρ es fs) (i : Nat) : (es[i]?).map (·.born) = (fs[i]?).map (·.born) := by
  by_cases hi : i < es.size
  · rw [Array.getElem?_eq_getElem hi, Array.getElem?_eq_getElem (h.1 ▸ hi)]
    simp [(h.2 i hi (h.1 ▸ hi)).2.2.2]
  · rw [Array.getElem?_eq_none (by omega), Array.getElem?_eq_none (by rw [← h.1]; omega)]
theorem SR.mapUpdate {t : TypeId} {m m' k v v' : Value} (hb : basicKey P t = true) (hk : cleanC k = true) (h : VRel ρ m m') (hv : VRel ρ v v') :
    SR P w0 B0 ρ TrueR (Instr.mapUpdate t m k v) (Instr.mapUpdate t m' k v') := by
  unfold Instr.mapUpdate
  refine SR.bind (SR.underlyingK t) fun ρ1 x y hle hx => ?_
  obtain ⟨rfl, hu⟩ := hx
  cases x <;> first | exact SR.stuck | skip
  case map key elem =>
    obtain ⟨d, hd, hbd⟩ : ∃ d, P.underlying key = some d ∧ basicT d = true := by
      simp only [basicKey, hu] at hb
      cases hd : P.underlying key with
      | none => simp [hd] at hb
      | some d => exact ⟨d, rfl, by simpa [hd] using hb⟩
    replace h := h.mono hle
    cases h with
    | mapNil => exact SR.panics
    | map hi =>
      refine SR.getMap hi (fun ρ2 es fs c hle2 he => ?_) (fun _ _ _ => rfl)
      refine SR.bind (SR.checkKey hd hbd _ _ 9999 k k) fun ρ3 _ _ hle3 _ => SR.bind (SR.findKey hd hbd hk (he.mono hle3)) fun ρ4 x y hle4 hf => ?_
      replace he := (he.mono hle3).mono hle4
      have hle' := Rho.le_trans (Rho.le_trans (Rho.le_trans hle hle2) hle3) hle4
      have hi' := (Rho.le_trans (Rho.le_trans hle2 hle3) hle4) _ _ hi
      cases x with
      | none => cases y with
        | none => exact SR.setMap hi' (he.push hk (hv.mono hle') c)
        | some q => exact hf.elim
      | some p => cases y with
        | none => exact hf.elim
        | some q =>
          obtain ⟨i, u⟩ := p
          obtain ⟨j, u'⟩ := q
          obtain ⟨rfl, _⟩ := hf
          dsimp only
          rw [he.key i]
          refine SR.bind SR.keyStays fun ρ5 x y hle5 hx => ?_
          obtain ⟨rfl, rfl⟩ := hx
          exact SR.setMap (hle5 _ _ hi') ((he.mono hle5).modify i _ _ fun e e' hee => ⟨rfl, hk, (hv.mono hle').mono hle5, hee.2.2.2⟩)
    | _ => exact SR.stuck
end
end Vm
end Go.Proofs.YtmapjahpjolmnaaGreatDoor
