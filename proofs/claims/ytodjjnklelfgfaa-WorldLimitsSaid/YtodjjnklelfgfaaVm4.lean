/- More instructions that obey the relation: parts, places, slices, zero values, new things. -/
import Derived.Test.YtodjjnklelfgfaaVm3
namespace Go.Proofs.Ytodjjnklelfgfaa
namespace Vm
set_option linter.unusedSimpArgs false
set_option linter.unusedVariables false
open Go.RowKit

def clean : Value → Bool
  | .agg cs => cs.all cleanC
  | .tuple cs => cs.all cleanC
  | .iface _ v => (match v with | .agg cs => cs.all cleanC | v => cleanC v)
  | .func _ ⟨[]⟩ ⟨[]⟩ => true
  | v => cleanC v
theorem cleanC_rel {v : Value} (h : cleanC v = true) (ρ : Rho) : VRel ρ v v := by
  cases v with
  | pointer a => cases a with
    | none => exact .ptrNil
    | some a => simp [cleanC] at h
  | slice a n c => cases a with
    | none => exact .sliceNil _ _
    | some a => simp [cleanC] at h
  | map a => cases a with
    | none => exact .mapNil
    | some a => simp [cleanC] at h
  | bool b => exact .bool b
  | int k n => exact .int k n
  | float k n => exact .float k n
  | complex k a b => exact .complex k a b
  | string s => exact .string s
  | nilFunc => exact .nilFunc
  | nilIface => exact .nilIface
  | _ => simp [cleanC] at h
theorem cleanA_rel {cs : Array Value} (h : cs.all cleanC = true) (ρ : Rho) : ARel ρ cs cs :=
  ⟨rfl, fun k hk _ => cleanC_rel (Array.all_eq_true.1 h k hk) ρ⟩
theorem clean_rel {v : Value} (h : clean v = true) (ρ : Rho) : VRel ρ v v := by
  cases v with
  | agg cs => exact .agg rfl (cleanA_rel h ρ).2
  | tuple cs => exact .tuple rfl (cleanA_rel h ρ).2
  | iface t v =>
    refine .iface t ?_
    cases v with
    | agg cs => exact .agg rfl (cleanA_rel h ρ).2
    | _ => exact cleanC_rel (by simpa [clean] using h) ρ
  | func fn xs ys =>
    unfold clean at h
    split at h
    · rename_i heq; cases heq
    · rename_i heq; cases heq
    · rename_i heq; cases heq
    · rename_i heq; cases heq; exact .func fn rfl (fun k hk => by simp at hk) rfl (fun k hk => by simp at hk)
    · simp [cleanC] at h
  | _ => exact cleanC_rel (by simpa [clean] using h) ρ
/-- What is clean has but one other side. -/
theorem cleanC_eq {ρ : Rho} {v v' : Value} (h : cleanC v = true) (hr : VRel ρ v v') : v' = v := by
  cases hr <;> first | rfl | (simp [cleanC] at h)
theorem cleanA_eq {ρ : Rho} {xs ys : Array Value} (h : xs.all cleanC = true) (hr : ARel ρ xs ys) : ys = xs := by
  refine Array.ext hr.1.symm fun k h1 h2 => ?_
  exact cleanC_eq (Array.all_eq_true.1 h k h2) (hr.2 k h2 h1)
theorem clean_eq {ρ : Rho} {v v' : Value} (h : clean v = true) (hr : VRel ρ v v') : v' = v := by
  cases hr with
  | agg h1 h2 => rw [cleanA_eq h ⟨h1, h2⟩]
  | tuple h1 h2 => rw [cleanA_eq h ⟨h1, h2⟩]
  | iface t hr =>
    cases hr with
    | agg h1 h2 => rw [cleanA_eq h ⟨h1, h2⟩]
    | _ => first | rfl | (simp [clean, cleanC] at h)
  | @func fn xs ys us vs h1 h2 g1 g2 =>
    unfold clean at h
    split at h
    · rename_i heq; cases heq
    · rename_i heq; cases heq
    · rename_i heq; cases heq
    · rename_i heq
      cases heq
      obtain rfl : ys = #[] := Array.eq_empty_of_size_eq_zero (by rw [← h1]; rfl)
      obtain rfl : vs = #[] := Array.eq_empty_of_size_eq_zero (by rw [← g1]; rfl)
      rfl
    · simp [cleanC] at h
  | _ => first | rfl | (simp [clean, cleanC] at h)

def zeroOk (P : Program) (t : TypeId) : Bool :=
  match (P.info? t).map (·.zero) with
  | some (some z) => clean z
  | _ => true
def elemZeroOk (P : Program) (t : TypeId) : Bool :=
  match P.underlying t with
  | some (.slice e) => zeroOk P e
  | some (.map _ e) => zeroOk P e
  | _ => true

section
variable {P : Program} {w0 : World} {B0 : Base} {ρ : Rho}
theorem SR.zeroValue {t : TypeId} (hz : zeroOk P t = true) : SR P w0 B0 ρ (fun ρ x y => x = y ∧ ∀ ρ', VRel ρ' x x) (zeroValue t) (zeroValue t) := by
  intro ρ1 σ w x σ' hle hw hr
  unfold Go.zeroValue at hr ⊢
  unfold Go.typeInfo at hr ⊢
  rw [show ((_ : Sem TypeInfo) >>= _ : Sem Value) = Sem.bind _ _ from rfl, vrun_bind, show ((_ : Sem Program) >>= _ : Sem TypeInfo) = Sem.bind _ _ from rfl, vrun_bind] at hr
  simp only [program, vrun, andThen] at hr
  cases hd : P.info? t with
  | none => rw [hd] at hr; cases hr
  | some d =>
    simp only [hd] at hr
    cases hz' : d.zero with
    | none => simp only [hz', Pure.pure, vrun, unsupported] at hr; cases hr
    | some z =>
      simp only [hz', Pure.pure, vrun, Option.some.injEq, Prod.mk.injEq] at hr
      obtain ⟨rfl, rfl⟩ := hr
      exact ⟨ρ1, z, w, Rho.le_refl _, by simp [hd, hz'], ⟨rfl, fun ρ' => clean_rel (by simpa [zeroOk, hd, hz'] using hz) ρ'⟩, hw⟩
theorem SR.part {cs cs' : Array Value} (h : ARel ρ cs cs') (t : TypeId) (off : Nat) : SR P w0 B0 ρ VRel (part t cs off) (part t cs' off) := by
  unfold Go.part
  refine SR.bind (SR.isAgg t) fun ρ1 x y hle hx => ?_
  cases hx
  split
  · refine SR.bind (SR.sizeOf t) fun ρ2 x y hle2 hx => ?_
    cases hx
    exact SR.pure fun _ hle3 => .agg (((h.mono hle).mono hle2).mono hle3 |>.extract _ _).1 (((h.mono hle).mono hle2).mono hle3 |>.extract _ _).2
  · cases hc : cs[off]? with
    | none => exact SR.stuck
    | some v =>
      obtain ⟨v', h1, h2⟩ := h.get? hc
      rw [h1]
      exact SR.pure fun _ hle2 => (h2.mono hle).mono hle2
theorem SR.asAgg {v v' : Value} (h : VRel ρ v v') : SR P w0 B0 ρ ARel (asAgg v) (asAgg v') := by
  cases h <;> unfold Go.asAgg <;> first | exact SR.stuck | skip
  case agg h1 h2 => exact SR.pure fun _ hle => ARel.mono hle ⟨h1, h2⟩
theorem SR.field {v v' : Value} (h : VRel ρ v v') (t : TypeId) (f : Nat) : SR P w0 B0 ρ VRel (Instr.field t v f) (Instr.field t v' f) := by
  unfold Instr.field
  refine SR.bind (SR.underlying t) fun ρ1 x y hle hx => ?_
  cases hx
  split
  · rename_i fields
    cases fields[f]? with
    | none => exact SR.stuck
    | some fl => exact SR.bind (SR.asAgg (h.mono hle)) fun ρ2 _ _ hle2 hx => SR.part hx _ _
  · exact SR.stuck
theorem SR.fieldPlace {a a' : Addr} (h : PRel ρ a a') (f : Field) : SR P w0 B0 ρ PRel (fieldPlace a f) (fieldPlace a' f) := by
  unfold Go.fieldPlace
  refine SR.bind (SR.sizeOf _) fun ρ1 x y hle hx => ?_
  cases hx
  split
  · obtain ⟨i, h1, h2, h3⟩ := h
    obtain ⟨b, o, sp⟩ := a
    simp only at h2
    subst h2
    exact SR.none fun σ => rfl
  · exact SR.pure fun _ hle2 => ((h.mono hle).mono hle2).add _
theorem SR.fieldAt {v v' : Value} (h : VRel ρ v v') (t : TypeId) (f : Nat) : SR P w0 B0 ρ VRel (Instr.fieldAt t v f) (Instr.fieldAt t v' f) := by
  unfold Instr.fieldAt
  refine SR.bind (SR.underlying t) fun ρ1 x y hle hx => ?_
  cases hx
  split
  · rename_i fields
    cases fields[f]? with
    | none => exact SR.stuck
    | some fl =>
      exact SR.bind (SR.sureAddr (h.mono hle)) fun ρ2 _ _ hle2 hx => SR.bind (SR.fieldPlace hx _) fun ρ3 _ _ hle3 hx => SR.pure fun _ hle4 => (hx.mono hle4).vrel
  · exact SR.stuck
theorem SR.extract {v v' : Value} (h : VRel ρ v v') (i : Nat) : SR P w0 B0 ρ VRel (Instr.extract v i) (Instr.extract v' i) := by
  cases h <;> unfold Instr.extract <;> first | exact SR.stuck | skip
  case tuple xs ys h1 h2 =>
    have ha : ARel ρ xs ys := ⟨h1, h2⟩
    cases hc : xs[i]? with
    | none => simp only [hc]; exact SR.stuck
    | some v =>
      obtain ⟨v', h1, h2⟩ := ha.get? hc
      simp only [hc, h1]
      exact SR.pure fun _ hle => h2.mono hle
theorem SR.makeInterface {v v' : Value} (h : VRel ρ v v') (t : TypeId) : SR P w0 B0 ρ VRel (Instr.makeInterface t v) (Instr.makeInterface t v') := by
  unfold Instr.makeInterface
  refine SR.bind (SR.underlying t) fun ρ1 x y hle hx => ?_
  cases hx
  split
  · exact SR.stuck
  · exact SR.pure fun _ hle2 => .iface _ ((h.mono hle).mono hle2)
theorem SR.makeFunc {xs ys us vs : Array Value} (fn : Fn) (h : ARel ρ xs ys) (g : ARel ρ us vs) : SR P w0 B0 ρ VRel (Instr.makeFunc fn xs us) (Instr.makeFunc fn ys vs) :=
  SR.pure fun _ hle => .func fn (h.mono hle).1 (h.mono hle).2 (g.mono hle).1 (g.mono hle).2
theorem SR.alloc {t : TypeId} (hz : zeroOk P t = true) : SR P w0 B0 ρ VRel (Instr.alloc t true (.tuple #[])) (Instr.alloc t true (.tuple #[])) := by
  unfold Instr.alloc
  refine SR.bind (SR.zeroValue hz) fun ρ1 x y hle hx => ?_
  obtain ⟨rfl, hx⟩ := hx
  exact SR.bind (SR.newVar (hx ρ1) t) fun ρ2 _ _ hle2 hx => SR.pure fun _ hle3 => (hx.mono hle3).vrel
theorem SR.newMap : SR P w0 B0 ρ VRel (newObj (.map #[] 0) >>= fun r => Pure.pure (Value.map (some r))) (newObj (.map #[] 0) >>= fun r => Pure.pure (Value.map (some r))) := by
  intro ρ1 σ w x σ' hle hw hr
  rw [show ((_ : Sem Nat) >>= _ : Sem Value) = Sem.bind _ _ from rfl, vrun_bind] at hr
  simp only [newObj, vrun, andThen] at hr
  cases hr
  exact ⟨_, .map (some w.heap.size), _, Rho.le_more (hw.dom _ (Nat.le_refl _)) _, by simp, VRel.map (i := ⟨w.heap.size, 0, 0, 0, .ex⟩) (Rho.more_self _ _ _), hw.newMap⟩
theorem SR.makeMap (t : TypeId) {r r' : Option Value} (h : match r, r' with | Option.none, Option.none => True | some v, some v' => VRel ρ v v' | _, _ => False) : SR P w0 B0 ρ VRel (Instr.makeMap t r) (Instr.makeMap t r') := by
  unfold Instr.makeMap
  cases r with
  | none =>
    cases r' with
    | none => exact SR.newMap
    | some v => exact h.elim
  | some v =>
    cases r' with
    | none => exact h.elim
    | some v' =>
      dsimp only at h ⊢
      refine SR.bind (SR.underlying t) fun ρ1 x y hle hx => ?_
      cases hx
      split
      · exact SR.bind (SR.asInt (h.mono hle)) fun _ _ _ _ _ => SR.newMap
      · exact SR.none fun _ => rfl
end
end Vm
end Go.Proofs.Ytodjjnklelfgfaa
