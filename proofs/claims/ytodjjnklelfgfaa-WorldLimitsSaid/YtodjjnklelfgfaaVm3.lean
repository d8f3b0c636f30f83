/- The relation of two runs of the machine's code, virtual and real: its rules, and the instructions that obey it. -/
import Derived.Test.YtodjjnklelfgfaaVm2
namespace Go.Proofs.Ytodjjnklelfgfaa
namespace Vm
set_option linter.unusedSimpArgs false
set_option linter.unusedVariables false
open Go.RowKit

section
variable (P : Program) (w0 : World) (B0 : Base)
/-- Wherever the virtual run comes to an end, the real one does, and their ends are related. -/
def SR {α β : Type} (ρ : Rho) (A : Rho → α → β → Prop) (s : Sem α) (t : Sem β) : Prop :=
  ∀ ρ1 σ w x σ', ρ.le ρ1 → WRel ρ1 σ w0 w B0 → vrun P s σ = some (x, σ') →
    ∃ ρ2 y w', ρ1.le ρ2 ∧ t.run P w = .ok y w' ∧ A ρ2 x y ∧ WRel ρ2 σ' w0 w' B0
end
section
variable {P : Program} {w0 : World} {B0 : Base} {α β γ δ : Type} {ρ : Rho}
theorem SR.pure {A : Rho → α → β → Prop} {x : α} {y : β} (h : ∀ ρ1, ρ.le ρ1 → A ρ1 x y) : SR P w0 B0 ρ A (Pure.pure x) (Pure.pure y) := by
  intro ρ1 σ w x' σ' hle hw hr
  cases hr
  exact ⟨ρ1, y, w, Rho.le_refl _, rfl, h _ hle, hw⟩
theorem SR.bind {A : Rho → α → β → Prop} {B : Rho → γ → δ → Prop} {s : Sem α} {t : Sem β} {k : α → Sem γ} {k' : β → Sem δ} (hs : SR P w0 B0 ρ A s t)
    (hk : ∀ ρ1 x y, ρ.le ρ1 → A ρ1 x y → SR P w0 B0 ρ1 B (k x) (k' y)) : SR P w0 B0 ρ B (s >>= k) (t >>= k') := by
  intro ρ1 σ w x σ' hle hw hr
  rw [show s >>= k = s.bind k from rfl, vrun_bind] at hr
  cases hv : vrun P s σ with
  | none => simp [hv, andThen] at hr
  | some r =>
    obtain ⟨a, σ1⟩ := r
    simp only [hv, andThen] at hr
    obtain ⟨ρ2, y, w', hle2, hrun, hA, hw2⟩ := hs ρ1 σ w a σ1 hle hw hv
    obtain ⟨ρ3, z, w3, hle3, hrun3, hB, hw3⟩ := hk ρ2 a y (Rho.le_trans hle hle2) hA ρ2 σ1 w' x σ' (Rho.le_refl _) hw2 hr
    exact ⟨ρ3, z, w3, Rho.le_trans hle2 hle3, by rw [Sem.run_bind, hrun, Result.andThen_ok, hrun3], hB, hw3⟩
theorem SR.up {A : Rho → α → β → Prop} {s : Sem α} {t : Sem β} {ρ' : Rho} (h : SR P w0 B0 ρ A s t) (hle : ρ.le ρ') : SR P w0 B0 ρ' A s t :=
  fun ρ1 σ w x σ' hle' => h ρ1 σ w x σ' (Rho.le_trans hle hle')
theorem SR.weaken {A B : Rho → α → β → Prop} {s : Sem α} {t : Sem β} (h : SR P w0 B0 ρ A s t) (hAB : ∀ ρ x y, A ρ x y → B ρ x y) : SR P w0 B0 ρ B s t := by
  intro ρ1 σ w x σ' hle hw hr
  obtain ⟨ρ2, y, w', h1, h2, h3, h4⟩ := h ρ1 σ w x σ' hle hw hr
  exact ⟨ρ2, y, w', h1, h2, hAB _ _ _ h3, h4⟩
theorem SR.halt {A : Rho → α → β → Prop} {h : Halt} {t : Sem β} : SR P w0 B0 ρ A (.halt h) t := by
  intro ρ1 σ w x σ' _ _ hr
  cases hr
theorem SR.stuck {A : Rho → α → β → Prop} {s : String} {t : Sem β} : SR P w0 B0 ρ A (stuck s) t := SR.halt
theorem SR.unsupported {A : Rho → α → β → Prop} {s : Unsupported} {t : Sem β} : SR P w0 B0 ρ A (unsupported s) t := SR.halt
theorem SR.choose {A : Rho → α → β → Prop} {q : Question} {k : Nat → Sem α} {t : Sem β} : SR P w0 B0 ρ A (Go.choose q >>= k) t := by
  intro ρ1 σ w x σ' _ _ hr
  cases hr
theorem vrun_none {s : Sem α} {k : α → Sem β} {σ : VHeap} (h : ∀ a σ', vrun P (k a) σ' = none) : vrun P (s >>= k) σ = none := by
  rw [show s >>= k = s.bind k from rfl, vrun_bind]
  cases vrun P s σ with
  | none => rfl
  | some r => exact h _ _
theorem vrun_panics {e : RuntimeError} {σ : VHeap} : vrun P (runtimePanic e : Sem α) σ = none := by
  unfold runtimePanic
  refine vrun_none fun p σ => ?_
  cases e with
  | typeAssertion i c a m => exact vrun_none fun _ _ => vrun_none fun _ _ => rfl
  | panicNil => exact vrun_none fun _ _ => vrun_none fun _ _ => rfl
  | _ => rfl
theorem SR.none {A : Rho → α → β → Prop} {s : Sem α} {t : Sem β} (h : ∀ σ, vrun P s σ = none) : SR P w0 B0 ρ A s t := by
  intro ρ1 σ w x σ' _ _ hr
  rw [h] at hr; cases hr
theorem SR.panics {A : Rho → α → β → Prop} {e : RuntimeError} {t : Sem β} : SR P w0 B0 ρ A (runtimePanic e) t := SR.none fun _ => vrun_panics
theorem SR.bounds {A : Rho → α → β → Prop} {k : IntKind} {x y : Int} {c : BoundsCode} {t : Sem β} : SR P w0 B0 ρ A (boundsPanic k x y c) t :=
  SR.none fun _ => by unfold boundsPanic; dsimp only; split <;> exact vrun_none fun _ _ => vrun_panics
theorem SR.goPanic {A : Rho → α → β → Prop} {v : Value} {t : Sem β} : SR P w0 B0 ρ A (goPanic v) t := SR.halt
theorem SR.then_none {A : Rho → γ → β → Prop} {s : Sem α} {k : α → Sem γ} {t : Sem β} (h : ∀ a σ', vrun P (k a) σ' = Option.none) : SR P w0 B0 ρ A (s >>= k) t := SR.none fun _ => vrun_none h

/-- Equal things. -/
def EqR {α : Type} (_ : Rho) (x y : α) : Prop := x = y
theorem SR.det {s : Sem α} (hd : ∀ σ x σ', vrun P s σ = some (x, σ') → σ' = σ ∧ ∀ w, s.run P w = .ok x w) : SR P w0 B0 ρ EqR s s := by
  intro ρ1 σ w x σ' _ hw hr
  obtain ⟨rfl, h⟩ := hd σ x σ' hr
  exact ⟨ρ1, x, w, Rho.le_refl _, h w, rfl, hw⟩
theorem SR.underlying (t : TypeId) : SR P w0 B0 ρ EqR (underlying t) (underlying t) := by
  refine SR.det fun σ x σ' h => ?_
  unfold Go.underlying at h ⊢
  rw [show (program >>= _ : Sem TypeDesc) = Sem.bind program _ from rfl, vrun_bind] at h
  simp only [program, vrun, andThen] at h
  cases hd : P.underlying t with
  | none => rw [hd] at h; cases h
  | some d =>
    rw [hd] at h
    cases h
    refine ⟨rfl, fun w => ?_⟩
    simp [hd]
theorem SR.typeInfo (t : TypeId) : SR P w0 B0 ρ EqR (typeInfo t) (typeInfo t) := by
  refine SR.det fun σ x σ' h => ?_
  unfold Go.typeInfo at h ⊢
  rw [show (program >>= _ : Sem TypeInfo) = Sem.bind program _ from rfl, vrun_bind] at h
  simp only [program, vrun, andThen] at h
  cases hd : P.info? t with
  | none => rw [hd] at h; cases h
  | some d =>
    rw [hd] at h
    cases h
    refine ⟨rfl, fun w => ?_⟩
    simp [hd]
theorem SR.sizeOf (t : TypeId) : SR P w0 B0 ρ EqR (sizeOf t) (sizeOf t) := by
  unfold Go.sizeOf
  exact SR.bind (SR.typeInfo t) fun ρ1 x y _ h => by cases h; exact SR.pure fun _ _ => rfl
theorem SR.isAgg (t : TypeId) : SR P w0 B0 ρ EqR (isAgg t) (isAgg t) := by
  unfold Go.isAgg
  refine SR.bind (SR.underlying t) fun ρ1 x y _ h => ?_
  cases h
  split <;> exact SR.pure fun _ _ => rfl
theorem SR.asIntOf {v v' : Value} (h : VRel ρ v v') : SR P w0 B0 ρ EqR (asIntOf v) (asIntOf v') := by
  cases h <;> unfold Go.asIntOf <;> first | exact SR.pure fun _ _ => rfl | exact SR.stuck | exact SR.unsupported
theorem SR.asInt {v v' : Value} (h : VRel ρ v v') : SR P w0 B0 ρ EqR (asInt v) (asInt v') := by
  unfold Go.asInt
  exact SR.bind (SR.asIntOf h) fun ρ1 x y _ h => by cases h; exact SR.pure fun _ _ => rfl

/-- Addresses. -/
def PRel (ρ : Rho) (a a' : Addr) : Prop := ∃ i, ρ a.block = some i ∧ a.spot = Option.none ∧ a' = ⟨i.b, i.o + a.off, Option.none⟩
theorem PRel.mono {ρ ρ' : Rho} (hle : ρ.le ρ') {a a' : Addr} (h : PRel ρ a a') : PRel ρ' a a' := by
  obtain ⟨i, h1, h2, h3⟩ := h; exact ⟨i, hle _ _ h1, h2, h3⟩
theorem add_none (b o i : Nat) : (⟨b, o, none⟩ : Addr).add i = ⟨b, o + i, none⟩ := by unfold Addr.add; split <;> simp_all
theorem PRel.add {ρ : Rho} {a a' : Addr} (h : PRel ρ a a') (n : Nat) : PRel ρ (a.add n) (a'.add n) := by
  obtain ⟨i, h1, h2, rfl⟩ := h
  obtain ⟨b, o, sp⟩ := a
  simp only at h1 h2
  subst h2
  rw [add_none, add_none]
  exact ⟨i, h1, rfl, by simp [Nat.add_assoc]⟩
theorem PRel.vrel {ρ : Rho} {a a' : Addr} (h : PRel ρ a a') : VRel ρ (.pointer (some a)) (.pointer (some a')) := by
  obtain ⟨i, h1, h2, rfl⟩ := h
  obtain ⟨b, o, sp⟩ := a
  simp only at h1 h2
  subst h2
  exact .ptr h1
theorem SR.sureAddr {v v' : Value} (h : VRel ρ v v') : SR P w0 B0 ρ PRel (Instr.sureAddr v) (Instr.sureAddr v') := by
  cases h <;> unfold Instr.sureAddr <;> first | exact SR.stuck | skip
  case ptr id off i h => exact SR.pure fun ρ1 hle => ⟨i, hle _ _ h, rfl, rfl⟩
theorem SR.load {a a' : Addr} (h : PRel ρ a a') : SR P w0 B0 ρ VRel (load a) (load a') := by
  intro ρ1 σ w x σ' hle hw hr
  obtain ⟨i, h1, h2, rfl⟩ := h.mono hle
  obtain ⟨b, o, sp⟩ := a
  simp only at h1 h2
  subst h2
  simp only [Go.load, vrun] at hr
  cases hc : cell? σ ⟨b, o, Option.none⟩ with
  | none => simp [hc] at hr
  | some v =>
    simp only [hc, vrun, Option.some.injEq, Prod.mk.injEq] at hr
    obtain ⟨rfl, rfl⟩ := hr
    obtain ⟨v', hc', hv⟩ := hw.load h1 hc
    exact ⟨ρ1, v', w, Rho.le_refl _, by simp [hc'], hv, hw⟩
theorem SR.loadCellsFrom {a a' : Addr} (h : PRel ρ a a') (n : Nat) : ∀ (i : Nat) (acc acc' : Array Value) (ρ1 : Rho), ρ.le ρ1 → ARel ρ1 acc acc' → SR P w0 B0 ρ1 ARel (loadCellsFrom a i n acc) (loadCellsFrom a' i n acc') := by
  induction n with
  | zero => intro i acc acc' ρ1 _ ha; unfold Go.loadCellsFrom; exact SR.pure fun _ hle => ha.mono hle
  | succ n ih =>
    intro i acc acc' ρ1 hle ha
    unfold Go.loadCellsFrom
    exact SR.bind (SR.load ((h.add i).mono hle)) fun ρ2 x y hle2 hx => ih _ _ _ _ (Rho.le_trans hle hle2) ((ha.mono hle2).push hx)
theorem SR.loadCells {a a' : Addr} (h : PRel ρ a a') (n : Nat) : SR P w0 B0 ρ ARel (loadCells a n) (loadCells a' n) :=
  SR.loadCellsFrom h n 0 _ _ ρ (Rho.le_refl _) (ARel.nil _)
theorem SR.loadVar {a a' : Addr} (h : PRel ρ a a') (t : TypeId) : SR P w0 B0 ρ VRel (loadVar t a) (loadVar t a') := by
  unfold Go.loadVar
  refine SR.bind (SR.isAgg t) fun ρ1 x y hle hx => ?_
  cases hx
  split
  · refine SR.bind (SR.sizeOf t) fun ρ2 x y hle2 hx => ?_
    cases hx
    exact SR.bind (SR.loadCells ((h.mono hle).mono hle2) _) fun ρ3 x y hle3 hx => SR.pure fun _ hle4 => .agg (hx.mono hle4).1 (hx.mono hle4).2
  · exact SR.load (h.mono hle)
theorem SR.loadAt {v v' : Value} (h : VRel ρ v v') (t : TypeId) : SR P w0 B0 ρ VRel (Instr.loadAt t v) (Instr.loadAt t v') := by
  unfold Instr.loadAt
  exact SR.bind (SR.sureAddr h) fun ρ1 x y hle hx => SR.loadVar hx t

def TrueR {α β : Type} (_ : Rho) (_ : α) (_ : β) : Prop := True
theorem SR.store {a a' : Addr} {v v' : Value} (h : PRel ρ a a') (hv : VRel ρ v v') : SR P w0 B0 ρ TrueR (store a v) (store a' v') := by
  intro ρ1 σ w x σ' hle hw hr
  obtain ⟨i, h1, h2, rfl⟩ := h.mono hle
  obtain ⟨b, o, sp⟩ := a
  simp only at h1 h2
  subst h2
  simp only [Go.store, vrun] at hr
  split at hr
  case h_2 => cases hr
  rename_i σ1 h1v hs
  cases hr
  obtain ⟨g1, g2, g3⟩ := hw.store h1 hs (hv.mono hle)
  refine ⟨ρ1, (), _, Rho.le_refl _, ?_, trivial, g3⟩
  rw [run_store _ _ _ _ _ (hv.one ▸ h1v)]
  cases hc : w.cell? ⟨i.b, i.o + o, Option.none⟩ with
  | none => exact absurd hc g1
  | some u => simp [g2]
theorem SR.storeCells {a a' : Addr} (h : PRel ρ a a') : ∀ (vs vs' : List Value) (i : Nat) (ρ1 : Rho), ρ.le ρ1 → ARel ρ1 vs.toArray vs'.toArray → SR P w0 B0 ρ1 TrueR (storeCells a vs i) (storeCells a' vs' i) := by
  intro vs
  induction vs with
  | nil =>
    intro vs' i ρ1 _ ha
    obtain rfl : vs' = [] := by have := ha.1; simpa using this.symm
    unfold Go.storeCells
    exact SR.pure fun _ _ => trivial
  | cons v vs ih =>
    intro vs' i ρ1 hle ha
    cases vs' with
    | nil => have := ha.1; simp at this
    | cons v' vs' =>
      unfold Go.storeCells
      have h0 := ha.2 0 (by simp) (by simp)
      refine SR.bind (SR.store ((h.add i).mono hle) (by simpa using h0)) fun ρ2 _ _ hle2 _ => ih vs' (i + 1) ρ2 (Rho.le_trans hle hle2) ?_
      have e := ha.1
      refine ⟨by simpa using e, fun k hk hk' => ?_⟩
      have := ha.2 (k + 1) (by simpa using hk) (by simpa using hk')
      simpa using this.mono hle2
theorem ARel.toList {ρ : Rho} {xs ys : Array Value} (h : ARel ρ xs ys) : ARel ρ xs.toList.toArray ys.toList.toArray := by simpa using h
theorem SR.storeVar {a a' : Addr} {v v' : Value} (h : PRel ρ a a') (hv : VRel ρ v v') (t : TypeId) : SR P w0 B0 ρ TrueR (storeVar t a v) (storeVar t a' v') := by
  unfold Go.storeVar
  refine SR.bind (SR.sizeOf t) fun ρ1 x y hle hx => ?_
  cases hx
  rw [hv.cells.1]
  dsimp only
  split
  · exact SR.none fun _ => rfl
  · exact SR.storeCells (h.mono hle) _ _ 0 _ (Rho.le_refl _) (hv.mono hle).cells.toList
theorem SR.storeAt {u u' v v' : Value} (h : VRel ρ u u') (hv : VRel ρ v v') (t : TypeId) : SR P w0 B0 ρ TrueR (Instr.storeAt t u v) (Instr.storeAt t u' v') := by
  unfold Instr.storeAt
  exact SR.bind (SR.sureAddr h) fun ρ1 x y hle hx => SR.storeVar hx (hv.mono hle) t
theorem SR.newRow {cs cs' : Array Value} (h : ARel ρ cs cs') (t : TypeId) : SR P w0 B0 ρ PRel (newRow t cs) (newRow t cs') := by
  intro ρ1 σ w x σ' hle hw hr
  unfold Go.newRow at hr ⊢
  rw [show (newObj (.cells cs t) >>= _ : Sem Addr) = Sem.bind (newObj _) _ from rfl, vrun_bind] at hr
  simp only [newObj, vrun, andThen] at hr
  cases hr
  have hn := hw.newCells t (h.mono hle)
  refine ⟨_, ⟨w.heap.size, 0, Option.none⟩, _, Rho.le_more (hw.dom _ (Nat.le_refl _)) _, by simp, ⟨_, Rho.more_self _ _ _, rfl, by simp⟩, hn⟩
theorem SR.newVar {v v' : Value} (h : VRel ρ v v') (t : TypeId) : SR P w0 B0 ρ PRel (newVar t v) (newVar t v') := SR.newRow h.cells t
theorem SR.box {v v' : Value} (h : VRel ρ v v') (t : TypeId) : SR P w0 B0 ρ VRel (Instr.box t v) (Instr.box t v') := by
  unfold Instr.box
  exact SR.bind (SR.newVar h t) fun ρ1 x y hle hx => SR.pure fun _ hle => (hx.mono hle).vrel
end
end Vm
end Go.Proofs.Ytodjjnklelfgfaa
