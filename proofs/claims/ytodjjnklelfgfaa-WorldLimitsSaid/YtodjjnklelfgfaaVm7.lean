/- Instructions that obey the relation: maps and iterators. -/
import Derived.Test.YtodjjnklelfgfaaVm6
namespace Go.Proofs.Ytodjjnklelfgfaa
namespace Vm
set_option linter.unusedSimpArgs false
set_option linter.unusedVariables false
open Go.RowKit

section
variable {P : Program} {w0 w : World} {B0 : Base} {ρ : Rho} {σ : VHeap}
theorem heap_set (w : World) (b : Nat) (o : Obj) (k : Nat) : ({ w with heap := w.heap.setIfInBounds b o } : World).heap[k]? = if b = k then (if b < w.heap.size then some o else none) else w.heap[k]? := by
  show (w.heap.setIfInBounds b o)[k]? = _
  rw [Array.getElem?_setIfInBounds]
theorem WRel.setOther (h : WRel ρ σ w0 w B0) {id : Nat} {i : Info} {o : VObj} {r : Obj} (hρ : ρ id = some i)
    (ho : (∃ es c, σ[id]? = some (.map es c)) ∨ (∃ s p, σ[id]? = some (.iter s p)))
    (hm : ∀ es c, o = .map es c → ∃ fs, r = .map fs c ∧ ERel ρ es fs) (hi : ∀ s p, o = .iter s p → r = .stringIter s p) (hc : ∀ b, o ≠ .cells b) (hr0 : ∀ es c, o ≠ .rmap es c) :
    WRel ρ (σ.setIfInBounds id o) w0 { w with heap := w.heap.setIfInBounds i.b r } B0 := by
  have hreal : i.o = 0 ∧ ¬ B0.U i.b ∧ ((∃ fs c, w.heap[i.b]? = some (.map fs c)) ∨ ∃ s p, w.heap[i.b]? = some (.stringIter s p)) := by
    rcases ho with ⟨es, c, ho⟩ | ⟨s, p, ho⟩
    · obtain ⟨i', fs, h1, h2, h3, h4, h5⟩ := h.map id es c ho
      obtain rfl : i = i' := by rw [hρ] at h1; exact Option.some.inj h1
      exact ⟨h2, h3, .inl ⟨fs, c, h4⟩⟩
    · obtain ⟨i', h1, h2, h3, h4⟩ := h.iter id s p ho
      obtain rfl : i = i' := by rw [hρ] at h1; exact Option.some.inj h1
      exact ⟨h2, h3, .inr ⟨s, p, h4⟩⟩
  obtain ⟨hio, hB, hreal⟩ := hreal
  have hlt : i.b < w.heap.size := by
    rcases hreal with ⟨fs, c, e⟩ | ⟨s, p, e⟩ <;> exact (Array.getElem?_eq_some_iff.1 e).1
  have hidlt : id < σ.size := by
    rcases ho with ⟨es, c, e⟩ | ⟨s, p, e⟩ <;> exact (Array.getElem?_eq_some_iff.1 e).1
  have hself : ({ w with heap := w.heap.setIfInBounds i.b r } : World).heap[i.b]? = some r := by rw [heap_set]; simp [hlt]
  have hother : ∀ k, k ≠ i.b → ({ w with heap := w.heap.setIfInBounds i.b r } : World).heap[k]? = w.heap[k]? := fun k hk => by rw [heap_set, if_neg (Ne.symm hk)]
  have hget : ∀ id', id' ≠ id → (σ.setIfInBounds id o)[id']? = σ[id']? := fun id' hne => Array.getElem?_setIfInBounds_ne (Ne.symm hne)
  have hget0 : (σ.setIfInBounds id o)[id]? = some o := by rw [Array.getElem?_setIfInBounds]; simp [hidlt]
  obtain ⟨o0, ho0, how⟩ : ∃ o0, σ[id]? = some o0 ∧ (∀ b, o0 ≠ .cells b) := by
    rcases ho with ⟨es, c, e⟩ | ⟨s, p, e⟩ <;> exact ⟨_, e, fun _ h => by cases h⟩
  have hown0 : o0.own = true := by
    rcases ho with ⟨es, c, e⟩ | ⟨s, p, e⟩ <;> (rw [e] at ho0; cases ho0; rfl)
  have hfar : ∀ id' o' i', id' ≠ id → σ[id']? = some o' → o'.own = true → (∀ b, o' ≠ .cells b) → ρ id' = some i' → i'.b ≠ i.b := by
    intro id' o' i' hid ho' hown' hc' hi' he
    have := h.sep id' id o' o0 i' i hid ho' ho0 hown' hown0 hi' hρ he
    cases o0 with
    | cells b => exact how b rfl
    | _ => cases o' <;> exact this
  constructor
  · intro id' hid; exact h.dom id' (by simpa using hid)
  · intro id' b hb hd
    have hid : id' ≠ id := by rintro rfl; rw [hget0] at hb; exact hc b (Option.some.inj hb)
    rw [hget id' hid] at hb
    obtain ⟨i', cs, fz, hi', hr⟩ := h.blk id' b hb hd
    refine ⟨i', cs, fz, hi', hr.keep (Rho.le_refl _) (hother _ ?_)⟩
    intro e
    have := hr.at_
    rw [e] at this
    rcases hreal with ⟨fs, c, e2⟩ | ⟨s, p, e2⟩ <;> rw [e2] at this <;> cases this
  · intro id' es c hg
    by_cases hid : id' = id
    · subst hid
      rw [hget0] at hg
      obtain rfl := Option.some.inj hg
      obtain ⟨fs, rfl, h5⟩ := hm es c rfl
      exact ⟨i, fs, hρ, hio, hB, hself, h5⟩
    · rw [hget id' hid] at hg
      obtain ⟨i', fs, h1, h2, h3, h4, h5⟩ := h.map id' es c hg
      exact ⟨i', fs, h1, h2, h3, (hother _ (hfar id' _ i' hid hg rfl (by simp) h1)).trans h4, h5⟩
  · intro id' es c hg
    by_cases hid : id' = id
    · subst hid
      rw [hget0] at hg
      exact absurd (Option.some.inj hg) (hr0 es c)
    · rw [hget id' hid] at hg
      obtain ⟨i', fs, h1, h2, h3, h4, h5⟩ := h.rmap id' es c hg
      exact ⟨i', fs, h1, h2, h3, (hother _ (fun e => hB (e ▸ h3.1))).trans h4, h5⟩
  · intro id' s p hg
    by_cases hid : id' = id
    · subst hid
      rw [hget0] at hg
      obtain rfl := Option.some.inj hg
      obtain rfl := hi s p rfl
      exact ⟨i, hρ, hio, hB, hself⟩
    · rw [hget id' hid] at hg
      obtain ⟨i', h1, h2, h3, h4⟩ := h.iter id' s p hg
      exact ⟨i', h1, h2, h3, (hother _ (hfar id' _ i' hid hg rfl (by simp) h1)).trans h4⟩
  · intro id1 id2 o1 o2 i1 i2 h12 g1 g2 w1 w2 r1 r2 hb12
    by_cases e1 : id1 = id
    · subst e1
      rw [hget id2 (Ne.symm h12)] at g2
      have hk := h.sep id1 id2 o0 o2 i1 i2 h12 ho0 g2 hown0 w2 r1 r2 hb12
      cases o0 with
      | cells b => exact absurd rfl (how b)
      | _ => exact hk.elim
    · rw [hget id1 e1] at g1
      by_cases e2 : id2 = id
      · subst e2
        have hk := h.sep id1 id2 o1 o0 i1 i2 h12 g1 ho0 w1 hown0 r1 r2 hb12
        cases o0 with
        | cells b => exact absurd rfl (how b)
        | _ => cases o1 <;> exact hk.elim
      · rw [hget id2 e2] at g2
        exact h.sep id1 id2 o1 o2 i1 i2 h12 g1 g2 w1 w2 r1 r2 hb12
  · simpa using h.base
  · refine h.below.trans ⟨rfl, rfl, rfl, by simp, fun k hk => hother k (fun e => hB (e ▸ hk))⟩
  · intro k hk; have := h.hole k hk; exact ⟨this.1, by simpa using this.2⟩

theorem SR.getMap {α β : Type} {A : Rho → α → β → Prop} {id : Nat} {i : Info} (hi : ρ id = some i) {k : Obj → Sem α} {k' : Obj → Sem β}
    (hk : ∀ ρ1 es fs c, ρ.le ρ1 → ERel ρ1 es fs → SR P w0 B0 ρ1 A (k (.map es c)) (k' (.map fs c))) (hs : ∀ s p σ, vrun P (k (.stringIter s p)) σ = Option.none) :
    SR P w0 B0 ρ A (getObj id >>= k) (getObj i.b >>= k') := by
  intro ρ1 σ w x σ' hle hw hr
  rw [show ((getObj id : Sem Obj) >>= k : Sem α) = Sem.bind _ _ from rfl, vrun_bind] at hr
  simp only [getObj, vrun, andThen] at hr
  cases hg : σ[id]? with
  | none => simp [hg] at hr
  | some o =>
    cases o with
    | cells b => simp [hg] at hr
    | iter s p => simp only [hg, vrun, hs] at hr; cases hr
    | rmap es c =>
      simp only [hg, vrun] at hr
      obtain ⟨i', fs, h1, h2, h3, h4, h5⟩ := hw.rmap id es c hg
      obtain rfl : i = i' := by rw [hle _ _ hi] at h1; exact Option.some.inj h1
      obtain ⟨ρ2, y, w', g1, g2, g3, g4⟩ := hk ρ1 es fs c hle h5 ρ1 σ w x σ' (Rho.le_refl _) hw hr
      refine ⟨ρ2, y, w', g1, ?_, g3, g4⟩
      simp only [getObj]
      rw [show ((Sem.getObj i.b Sem.pure : Sem Obj) >>= k' : Sem β) = Sem.bind _ _ from rfl]
      simp only [Sem.bind, Sem.run, h4, g2]
    | map es c =>
      simp only [hg, vrun] at hr
      obtain ⟨i', fs, h1, h2, h3, h4, h5⟩ := hw.map id es c hg
      obtain rfl : i = i' := by rw [hle _ _ hi] at h1; exact Option.some.inj h1
      obtain ⟨ρ2, y, w', g1, g2, g3, g4⟩ := hk ρ1 es fs c hle h5 ρ1 σ w x σ' (Rho.le_refl _) hw hr
      refine ⟨ρ2, y, w', g1, ?_, g3, g4⟩
      simp only [getObj]
      rw [show ((Sem.getObj i.b Sem.pure : Sem Obj) >>= k' : Sem β) = Sem.bind _ _ from rfl]
      simp only [Sem.bind, Sem.run, h4, g2]
theorem run_setObj {w : World} {b : Nat} {o o' : Obj} (h : w.heap[b]? = some o) (hc : ∀ c e f, o ≠ .cells c e f) : (setObj b o').run P w = .ok () { w with heap := w.heap.setIfInBounds b o' } := by
  simp only [setObj, Sem.run, h]
theorem SR.setMap {id : Nat} {i : Info} (hi : ρ id = some i) {es fs : Array MapEntry} {c : Nat} (he : ERel ρ es fs) : SR P w0 B0 ρ TrueR (setObj id (.map es c)) (setObj i.b (.map fs c)) := by
  intro ρ1 σ w x σ' hle hw hr
  simp only [setObj, vrun] at hr
  cases hg : σ[id]? with
  | none => simp [hg] at hr
  | some o =>
    cases o with
    | cells b => simp [hg] at hr
    | iter s p => simp [hg] at hr
    | rmap es c => simp [hg] at hr
    | map es0 c0 =>
      simp only [hg, vrun] at hr
      cases hr
      obtain ⟨i', fs0, h1, h2, h3, h4, h5⟩ := hw.map id es0 c0 hg
      obtain rfl : i = i' := by rw [hle _ _ hi] at h1; exact Option.some.inj h1
      refine ⟨ρ1, (), _, Rho.le_refl _, run_setObj h4 (by simp), trivial, ?_⟩
      exact hw.setOther (hle _ _ hi) (.inl ⟨_, _, hg⟩) (fun es' c' e => by cases e; exact ⟨fs, rfl, he.mono hle⟩) (fun _ _ e => by cases e) (fun _ e => by cases e) (fun _ _ e => by cases e)
theorem SR.next {v v' : Value} (h : VRel ρ v v') (t : TypeId) : SR P w0 B0 ρ VRel (Instr.next v true t) (Instr.next v' true t) := by
  cases h <;> first | exact SR.none fun _ => rfl | skip
  case ptr id off i hi =>
    cases off with
    | succ n => exact SR.none fun _ => rfl
    | zero =>
      intro ρ1 σ w x σ' hle hw hr
      change vrun P (Sem.bind (getObj id) _) σ = _ at hr
      rw [vrun_bind] at hr
      simp only [getObj, vrun, andThen] at hr
      cases hg : σ[id]? with
      | none => simp [hg] at hr
      | some o =>
        cases o with
        | cells b => simp [hg] at hr
        | map es c => simp only [hg, vrun] at hr; cases hr
        | rmap es c => simp only [hg, vrun] at hr; cases hr
        | iter s p =>
          simp only [hg, vrun] at hr
          obtain ⟨i', h1, h2, h3, h4⟩ := hw.iter id s p hg
          obtain rfl : i = i' := by rw [hle _ _ hi] at h1; exact Option.some.inj h1
          rw [show i.o + 0 = 0 by omega]
          by_cases hp : p < s.size
          · rw [if_pos hp] at hr
            generalize hd : Utf8.decode s p = cw at hr
            obtain ⟨c, wd⟩ := cw
            change vrun P (Sem.bind (setObj id (.stringIter s (p + wd))) _) σ = _ at hr
            rw [vrun_bind] at hr
            simp only [setObj, vrun, hg, andThen] at hr
            cases hr
            refine ⟨ρ1, .tuple #[.bool true, goInt p, .int .i32 c], _, Rho.le_refl _, ?_, ?_, hw.setOther (r := .stringIter s (p + wd)) (hle _ _ hi) (.inr ⟨_, _, hg⟩) (fun _ _ e => by cases e) (fun _ _ e => by cases e; rfl) (fun _ e => by cases e) (fun _ _ e => by cases e)⟩
            · change Sem.run P (Sem.bind (Sem.getObj i.b Sem.pure) _) w = _
              simp only [Sem.bind, Sem.run, h4]
              rw [if_pos hp, hd]
              dsimp only
              rw [Sem.run_bind, run_setObj h4 (by simp)]
              rfl
            · refine .tuple rfl fun k hk hk' => ?_
              match k, hk with
              | 0, _ => exact .bool _
              | 1, _ => exact .int _ _
              | 2, _ => exact .int _ _
          · rw [if_neg hp] at hr
            cases hr
            refine ⟨ρ1, .tuple #[.bool false], w, Rho.le_refl _, ?_, ?_, hw⟩
            · change Sem.run P (Sem.bind (Sem.getObj i.b Sem.pure) _) w = _
              simp only [Sem.bind, Sem.run, h4]
              rw [if_neg hp]
              rfl
            · refine .tuple rfl fun k hk hk' => ?_
              match k, hk with
              | 0, _ => exact .bool _
end
end Vm
end Go.Proofs.Ytodjjnklelfgfaa
