/- Code, calls: what holds behind them in the virtual machine (for every order that a region may be run in), and that it is sound. -/
import Derived.Test.YtodjjnklelfgfaaVm16
import Derived.Deep.Quiet
namespace Go.Proofs.Ytodjjnklelfgfaa
namespace Vm
set_option linter.unusedSimpArgs false
set_option linter.unusedVariables false
open Go.RowKit

/-- Code that writes nothing. -/
def noW {α : Type} : Sem α → Prop
  | .pure _ => True
  | .load _ _ k => ∀ v, noW (k v)
  | .program k => ∀ P, noW (k P)
  | .mark _ k => noW k
  | .halt _ => True
  | _ => False
theorem noW_bind {α β : Type} : ∀ (s : Sem α) (k : α → Sem β), noW s → (∀ a, noW (k a)) → noW (s.bind k)
  | .pure a, k, _, h => h a
  | .load m a f, k, h, g => fun v => noW_bind (f v) k (h v) g
  | .program f, k, h, g => fun P => noW_bind (f P) k (h P) g
  | .mark m f, k, h, g => noW_bind f k h g
  | .halt x, k, _, _ => trivial
  | .store .., _, h, _ | .new .., _, h, _ | .shape .., _, h, _ | .freeze .., _, h, _ | .frozen .., _, h, _ | .getObj .., _, h, _ | .setObj .., _, h, _ | .choose .., _, h, _ | .sys .., _, h, _ => h.elim
theorem noW_run {α : Type} (P : Program) (s : Sem α) : ∀ (w : World) (a : α) (w' : World), noW s → s.run P w = .ok a w' → w' = w := by
  induction s with
  | pure b => intro w a w' _ h; cases h; rfl
  | load m ad f ih =>
    intro w a w' g h
    simp only [Sem.run] at h
    cases hc : w.cell? ad with
    | some v => rw [hc] at h; exact ih v w a w' (g v) h
    | none =>
      simp only [hc] at h
      cases hf : w.farLoad P ad (m == .atomic) with
      | error x => simp [hf] at h
      | ok r => simp only [hf] at h; exact ih r.1 w a w' (g r.1) h
  | program f ih => intro w a w' g h; exact ih P w a w' (g P) h
  | mark m f ih => intro w a w' g h; exact ih w a w' g h
  | halt x => intro w a w' _ h; cases h
  | _ => intro w a w' g h; exact g.elim
theorem noW_pure {α : Type} (a : α) : noW (pure a : Sem α) := trivial
theorem noW_underlying (t : TypeId) : noW (underlying t) := noW_bind _ _ (fun P => trivial) fun p => by cases p.underlying t <;> exact trivial
theorem noW_sizeOf (t : TypeId) : noW (sizeOf t) := noW_bind _ _ (noW_bind _ _ (fun P => trivial) fun p => by cases p.info? t <;> exact trivial) fun _ => trivial
theorem noW_isAgg (t : TypeId) : noW (isAgg t) := noW_bind _ _ (noW_underlying t) fun d => by cases d <;> exact trivial
theorem noW_loadFrom (a : Addr) : ∀ (n i : Nat) (acc : Array Value), noW (loadCellsFrom a i n acc)
  | 0, i, acc => trivial
  | n + 1, i, acc => noW_bind _ _ (fun v => trivial) fun v => noW_loadFrom a n (i + 1) _
theorem noW_loadVar (t : TypeId) (a : Addr) : noW (loadVar t a) := noW_bind _ _ (noW_isAgg t) fun b => by
  cases b
  · exact fun v => trivial
  · exact noW_bind _ _ (noW_sizeOf t) fun n => noW_bind _ _ (noW_loadFrom a n 0 _) fun _ => trivial
theorem noW_asAddr (v : Value) : noW (asAddr v) := by
  cases v <;> first | exact trivial | skip
  rename_i a
  cases a
  · exact noW_bind _ _ (fun P => trivial) fun P => trivial
  · exact trivial
def oneResult (tmps : Array Value) : ResultVar → Sem Value
  | .tmp t => pure (tmps.getD t undef)
  | .cell a t => do loadVar t (← asAddr (tmps.getD a undef))
theorem results_eq (fn : Func) (tmps : Array Value) : results fn tmps = (fn.results.mapM (oneResult tmps) >>= fun vs => pure (if h : vs.size = 1 then vs[0] else .tuple vs)) := by
  unfold results
  congr 1
theorem noW_one (tmps : Array Value) (r : ResultVar) : noW (oneResult tmps r) := by
  cases r with
  | tmp t => exact trivial
  | cell a t => exact noW_bind _ _ (noW_asAddr _) fun _ => noW_loadVar t _
theorem noW_results (fn : Func) (tmps : Array Value) : noW (results fn tmps) := by
  rw [results_eq]
  refine noW_bind _ _ ?_ fun _ => trivial
  rw [Array.mapM_eq_mapM_toList]
  refine noW_bind _ _ ?_ fun _ => trivial
  induction fn.results.toList with
  | nil => exact trivial
  | cons r l ih =>
    rw [List.mapM_cons]
    exact noW_bind _ _ (noW_one _ _) fun _ => noW_bind _ _ ih fun _ => trivial

section
variable {P : Program} {w0 w : World} {B0 : Base} {ρ : Rho} {σ : VHeap}
theorem ARel.getD {xs ys : Array Value} (h : ARel ρ xs ys) (t : Nat) : VRel ρ (xs.getD t undef) (ys.getD t undef) := by
  simp only [Array.getD_eq_getD_getElem?]
  cases hx : xs[t]? with
  | none => rw [h.get_none hx]; exact clean_rel (by simp [undef, clean]) ρ
  | some v =>
    obtain ⟨v', h1, h2⟩ := h.get? hx
    rw [h1]; exact h2
theorem SR.asAddr {v v' : Value} (h : VRel ρ v v') : SR P w0 B0 ρ PRel (asAddr v) (asAddr v') := by
  cases h <;> unfold Go.asAddr <;> first | exact SR.stuck | exact SR.panics | skip
  case ptr id off i h => exact SR.pure fun ρ1 hle => ⟨i, hle _ _ h, rfl, rfl⟩
theorem SR.one {tv tr : Array Value} (h : ARel ρ tv tr) (r : ResultVar) : SR P w0 B0 ρ VRel (oneResult tv r) (oneResult tr r) := by
  cases r with
  | tmp t => exact SR.pure fun _ hle => (h.mono hle).getD t
  | cell a t => exact SR.bind (SR.asAddr (h.getD a)) fun ρ1 _ _ _ hx => SR.loadVar hx t
def LRel (ρ : Rho) (xs ys : List Value) : Prop := ARel ρ xs.toArray ys.toArray
theorem SR.ones (l : List ResultVar) : ∀ {ρ : Rho} {tv tr : Array Value}, ARel ρ tv tr → SR P w0 B0 ρ LRel (l.mapM (oneResult tv)) (l.mapM (oneResult tr)) := by
  induction l with
  | nil => intro ρ tv tr h; exact SR.pure fun _ _ => ARel.nil _
  | cons r l ih =>
    intro ρ tv tr h
    rw [List.mapM_cons, List.mapM_cons]
    refine SR.bind (SR.one h r) fun ρ1 x y hle hx => SR.bind (ih (h.mono hle)) fun ρ2 xs ys hle2 hxs => SR.pure fun ρ3 hle3 => ?_
    refine ⟨by simpa using hxs.1, fun k hk hk' => ?_⟩
    cases k with
    | zero => exact (hx.mono hle2).mono hle3
    | succ k =>
      have := (hxs.mono hle3).2 k (by simpa using hk) (by simpa using hk')
      simpa using this
theorem SR.results (fn : Func) {tv tr : Array Value} (h : ARel ρ tv tr) : SR P w0 B0 ρ VRel (results fn tv) (results fn tr) := by
  rw [results_eq, results_eq]
  refine SR.bind (A := ARel) ?_ fun ρ1 xs ys hle hx => SR.pure fun ρ2 hle2 => ?_
  · rw [Array.mapM_eq_mapM_toList, Array.mapM_eq_mapM_toList]
    exact SR.bind (SR.ones _ h) fun ρ1 xs ys _ hx => SR.pure fun ρ2 hle2 => hx.mono hle2
  · have h2 := hx.mono hle2
    by_cases h1 : xs.size = 1
    · rw [dif_pos h1, dif_pos (h2.1 ▸ h1)]
      exact h2.2 0 _ _
    · rw [dif_neg h1, dif_neg (h2.1 ▸ h1)]
      exact .tuple h2.1 h2.2
theorem results_ok {fn : Func} {tv tr : Array Value} {v : Value} {σ' : VHeap} (hw : WRel ρ σ w0 w B0) (h : ARel ρ tv tr) (hv : vrun P (results fn tv) σ = some (v, σ')) :
    ∃ ρ2 v', ρ.le ρ2 ∧ (results fn tr).run P w = .ok v' w ∧ VRel ρ2 v v' ∧ WRel ρ2 σ' w0 w B0 := by
  obtain ⟨ρ2, y, w', h1, h2, h3, h4⟩ := SR.results (P := P) (w0 := w0) (B0 := B0) fn h ρ σ w v σ' (Rho.le_refl _) hw hv
  obtain rfl := noW_run P _ w y w' (noW_results fn tr) h2
  exact ⟨ρ2, y, h1, h2, h3, h4⟩

/-- All that a caller has is only looked at. -/
def frz : VObj → VObj
  | .cells b => if b.fl = .dead then .cells b else .cells { b with fl := .ro, kin := false }
  | .map es c => .rmap es c
  | .rmap es c => .rmap es c
  | .iter _ _ => .cells ⟨#[], 0, .dead, false, 0, 0⟩
def frozenHeap (σ : VHeap) : VHeap := σ.map frz
def Rho.frz (ρ : Rho) : Rho := fun id => (ρ id).map fun i => { i with kind := .ro }
theorem VRel.frz {v v' : Value} (h : VRel ρ v v') : VRel ρ.frz v v' := by
  have hf : ∀ {id i}, ρ id = some i → ρ.frz id = some { i with kind := .ro } := fun {id i} h => by simp [Rho.frz, h]
  induction h with
  | bool b => exact .bool b
  | int k n => exact .int k n
  | float k n => exact .float k n
  | complex k a b => exact .complex k a b
  | string s => exact .string s
  | ptrNil => exact .ptrNil
  | @ptr id off i h => exact .ptr (i := { i with kind := .ro }) (hf h)
  | sliceNil n c => exact .sliceNil n c
  | @slice id off n c c' i h hc =>
    refine .slice (i := { i with kind := .ro }) (hf h) ?_
    unfold CapOk at hc ⊢
    split at hc <;> first | (subst hc; exact Nat.le_refl _) | exact hc.1 | exact hc
  | sliceOff id off a c' => exact .sliceOff id off a c'
  | glob g => exact .glob g
  | mapNil => exact .mapNil
  | @map id i h => exact .map (i := { i with kind := .ro }) (hf h)
  | func fn h1 _ g1 _ ih ih' => exact .func fn h1 ih g1 ih'
  | nilFunc => exact .nilFunc
  | iface t _ ih => exact .iface t ih
  | nilIface => exact .nilIface
  | agg h1 _ ih => exact .agg h1 ih
  | tuple h1 _ ih => exact .tuple h1 ih
theorem ARel.frz {xs ys : Array Value} (h : ARel ρ xs ys) : ARel ρ.frz xs ys := ⟨h.1, fun k a b => (h.2 k a b).frz⟩
def Base.froz (B0 : Base) (w : World) : Base := ⟨(· < w.heap.size), B0.H, (· < w.heap.size)⟩
theorem WRel.freeze (h : WRel ρ σ w0 w B0) : WRel ρ.frz (frozenHeap σ) w w (B0.froz w) := by
  have hf : ∀ {id i}, ρ id = some i → ρ.frz id = some { i with kind := .ro } := fun {id i} h => by simp [Rho.frz, h]
  have hget : ∀ {id : Nat} {o : VObj}, (frozenHeap σ)[id]? = some o → ∃ o' : VObj, σ[id]? = some o' ∧ o = Vm.frz o' := by
    intro id o ho
    simp only [frozenHeap, Array.getElem?_map] at ho
    cases hs : σ[id]? with
    | none => simp [hs] at ho
    | some o' => simp only [hs, Option.map_some, Option.some.injEq] at ho; exact ⟨o', rfl, ho.symm⟩
  constructor
  · intro id hid
    simp [Rho.frz, h.dom id (by simpa [frozenHeap] using hid)]
  · intro id b hb hd
    obtain ⟨o', ho, e⟩ := hget hb
    cases o' with
    | map es c => cases e
    | rmap es c => cases e
    | iter s p => cases e; exact absurd rfl hd
    | cells b' =>
      by_cases hd' : b'.fl = .dead
      · simp only [Vm.frz, hd', if_true] at e; cases e; exact absurd hd' hd
      · simp only [Vm.frz, hd', if_false] at e
        cases e
        obtain ⟨i, cs, fz, hi, hr⟩ := h.blk id b' ho hd'
        refine ⟨_, cs, fz, hf hi, hr.at_, hr.len, fun k a b => (hr.cells k a b).frz, fun _ => ⟨⟨(Array.getElem?_eq_some_iff.1 hr.at_).1, (Array.getElem?_eq_some_iff.1 hr.at_).1⟩, rfl, fun x => by cases x⟩, by simp, by simp, by simp⟩
  · intro id es c hg
    obtain ⟨o', ho, e⟩ := hget hg
    cases o' <;> simp only [Vm.frz] at e <;> first | (cases e; done) | (split at e <;> cases e)
  · intro id es c hg
    obtain ⟨o', ho, e⟩ := hget hg
    cases o' with
    | cells b => simp only [Vm.frz] at e; split at e <;> cases e
    | iter s p => cases e
    | map es' c' =>
      cases e
      obtain ⟨i, fs, h1, h2, h3, h4, h5⟩ := h.map id es c ho
      exact ⟨_, fs, hf h1, h2, ⟨(Array.getElem?_eq_some_iff.1 h4).1, (Array.getElem?_eq_some_iff.1 h4).1⟩, h4, ⟨h5.1, fun k a b => ⟨(h5.2 k a b).1, (h5.2 k a b).2.1, (h5.2 k a b).2.2.1.frz, (h5.2 k a b).2.2.2⟩⟩⟩
    | rmap es' c' =>
      cases e
      obtain ⟨i, fs, h1, h2, h3, h4, h5⟩ := h.rmap id es c ho
      exact ⟨_, fs, hf h1, h2, ⟨(Array.getElem?_eq_some_iff.1 h4).1, (Array.getElem?_eq_some_iff.1 h4).1⟩, h4, ⟨h5.1, fun k a b => ⟨(h5.2 k a b).1, (h5.2 k a b).2.1, (h5.2 k a b).2.2.1.frz, (h5.2 k a b).2.2.2⟩⟩⟩
  · intro id s p hg
    obtain ⟨o', ho, e⟩ := hget hg
    cases o' <;> simp only [Vm.frz] at e <;> first | (cases e; done) | (split at e <;> cases e)
  · intro id1 id2 o1 o2 i1 i2 h12 g1 g2 w1 w2 r1 r2 hb12
    obtain ⟨o', ho, e⟩ := hget g1
    exfalso
    subst e
    cases o' with
    | cells b =>
      simp only [Vm.frz] at w1
      split at w1
      · rename_i hd; simp [VObj.own, hd] at w1
      · simp [VObj.own] at w1
    | map es c => simp [Vm.frz, VObj.own] at w1
    | rmap es c => simp [Vm.frz, VObj.own] at w1
    | iter s p => simp [Vm.frz, VObj.own] at w1
  · exact fun k hk => hk
  · exact Keeps.refl _ _
  · intro k hk
    have := h.hole k hk
    exact ⟨by simp [Rho.frz, this.1], by simpa [frozenHeap] using this.2⟩
/-- Nothing of what was there has turned. -/
theorem WRel.later (h : WRel ρ σ w0 w B0) {w' : World} (hb : Below w.heap.size w w') : WRel ρ σ w0 w' B0 := by
  have hB := h.base
  constructor
  · exact h.dom
  · intro id b hg hd
    obtain ⟨i, cs, fz, hi, hr⟩ := h.blk id b hg hd
    exact ⟨i, cs, fz, hi, hr.keep (Rho.le_refl _) (hb.block _ (Array.getElem?_eq_some_iff.1 hr.at_).1)⟩
  · intro id es c hg
    obtain ⟨i, fs, h1, h2, h3, h4, h5⟩ := h.map id es c hg
    exact ⟨i, fs, h1, h2, h3, (hb.block _ (Array.getElem?_eq_some_iff.1 h4).1).trans h4, h5⟩
  · intro id es c hg
    obtain ⟨i, fs, h1, h2, h3, h4, h5⟩ := h.rmap id es c hg
    exact ⟨i, fs, h1, h2, h3, (hb.block _ (Array.getElem?_eq_some_iff.1 h4).1).trans h4, h5⟩
  · intro id s p hg
    obtain ⟨i, h1, h2, h3, h4⟩ := h.iter id s p hg
    exact ⟨i, h1, h2, h3, (hb.block _ (Array.getElem?_eq_some_iff.1 h4).1).trans h4⟩
  · exact h.sep
  · exact fun k hk => Nat.lt_of_lt_of_le (h.base k hk) hb.size
  · exact h.below.trans (Keeps.of_below hb h.base)
  · exact h.hole
end
end Vm
end Go.Proofs.Ytodjjnklelfgfaa
