/- Instructions that obey the relation: what is asked of a map and put into it. -/
import Derived.Test.YtodjjnklelfgfaaVm7
namespace Go.Proofs.Ytodjjnklelfgfaa
namespace Vm
set_option linter.unusedSimpArgs false
set_option linter.unusedVariables false
open Go.RowKit

def basicT : TypeDesc → Bool
  | .int _ | .string | .bool => true
  | _ => false
def basicKey (P : Program) (t : TypeId) : Bool :=
  match P.underlying t with
  | some (.map k _) => (P.underlying k).any basicT
  | _ => false
section
variable {P : Program} {w0 w : World} {B0 : Base} {ρ : Rho} {σ : VHeap}
theorem SR.underlyingK (t : TypeId) : SR P w0 B0 ρ (fun _ x y => x = y ∧ P.underlying t = some x) (Go.underlying t) (Go.underlying t) := by
  intro ρ1 σ w x σ' hle hw hr
  obtain ⟨ρ2, y, w', h1, h2, h3, h4⟩ := SR.underlying (P := P) (w0 := w0) (B0 := B0) (ρ := ρ) t ρ1 σ w x σ' hle hw hr
  refine ⟨ρ2, y, w', h1, h2, ⟨h3, ?_⟩, h4⟩
  unfold Go.underlying at hr
  rw [show (program >>= _ : Sem TypeDesc) = Sem.bind program _ from rfl, vrun_bind] at hr
  simp only [program, vrun, andThen] at hr
  cases hd : P.underlying t with
  | none => rw [hd] at hr; cases hr
  | some d => rw [hd] at hr; cases hr; rfl
theorem SR.checkKey {k : TypeId} {d : TypeDesc} (hd : P.underlying k = some d) (hb : basicT d = true) (b b' : Bool) (n : Nat) (v v' : Value) : SR P w0 B0 ρ TrueR (Instr.checkKey b (n + 1) k v) (Instr.checkKey b' (n + 1) k v') := by
  unfold Instr.checkKey
  refine SR.bind (SR.underlyingK k) fun ρ1 x y hle hx => ?_
  obtain ⟨rfl, hx⟩ := hx
  obtain rfl : d = x := by rw [hd] at hx; exact Option.some.inj hx
  cases d <;> first | (simp [basicT] at hb; done) | exact SR.pure fun _ _ => trivial
def EnRel (ρ : Rho) (e f : MapEntry) : Prop := e.key = f.key ∧ cleanC e.key = true ∧ VRel ρ e.val f.val ∧ e.born = f.born
theorem ERel.list {es fs : Array MapEntry} (h : ERel ρ es fs) : All2 (EnRel ρ) es.toList fs.toList := by
  obtain ⟨es⟩ := es
  obtain ⟨fs⟩ := fs
  induction es generalizing fs with
  | nil =>
    obtain rfl : fs = [] := by have := h.1; simpa using this.symm
    exact .nil
  | cons e es ih =>
    cases fs with
    | nil => have := h.1; simp at this
    | cons f fs =>
      refine .cons (by simpa [EnRel] using h.2 0 (by simp) (by simp)) (ih fs ⟨by simpa using h.1, fun i hi hi' => ?_⟩)
      have := h.2 (i + 1) (by simpa using hi) (by simpa using hi')
      simp only [List.getElem_toArray, List.getElem_cons_succ] at this ⊢
      exact this
def FRel (ρ : Rho) (x y : Option (Nat × Value)) : Prop :=
  match x, y with
  | none, none => True
  | some (i, v), some (j, u) => i = j ∧ VRel ρ v u
  | _, _ => False
theorem findNow_rel {d : TypeDesc} {k : Value} : ∀ (es fs : List MapEntry) (i : Nat), All2 (EnRel ρ) es fs → ∀ r, Instr.findNow d k es i = some r → ∃ r', Instr.findNow d k fs i = some r' ∧ FRel ρ r r' := by
  intro es fs i h
  induction h generalizing i with
  | nil => intro r hr; cases hr; exact ⟨none, rfl, trivial⟩
  | @cons e f es fs he _ ih =>
    intro r hr
    unfold Instr.findNow at hr ⊢
    rw [← he.1]
    cases hs : Instr.sameNow d k e.key with
    | none => simp [hs] at hr
    | some b =>
      cases b with
      | true => simp only [hs] at hr; cases hr; exact ⟨_, rfl, rfl, he.2.2.1⟩
      | false => simp only [hs] at hr; exact ih _ r hr
theorem equal_basic {t : TypeId} {d : TypeDesc} {k u : Value} (hd : P.underlying t = some d) (hb : basicT d = true) (hk : cleanC k = true) (hu : cleanC u = true) (σ : VHeap) :
    vrun P (Op.equal t k u) σ = (Instr.sameNow d k u).map fun b => (b, σ) := by
  unfold Op.equal Op.maxDepth
  rw [show (10000 : Nat) = 9999 + 1 from rfl]
  unfold Op.equalIn
  rw [show (underlying t >>= _ : Sem Bool) = Sem.bind (underlying t) _ from rfl, vrun_bind]
  have hu' : vrun P (underlying t) σ = some (d, σ) := by
    unfold Go.underlying
    rw [show (program >>= _ : Sem TypeDesc) = Sem.bind program _ from rfl, vrun_bind]
    simp only [program, vrun, andThen, hd]
    rfl
  rw [hu']
  simp only [andThen]
  cases d <;> first | (simp [basicT] at hb; done) | skip
  case bool =>
    cases k <;> first | (simp [cleanC] at hk; done) | skip
    all_goals cases u <;> first | (simp [cleanC] at hu; done) | rfl
  case int kk =>
    cases k with
    | int k1 n1 =>
      cases u with
      | int k2 n2 =>
        simp only [Instr.sameNow]
        split <;> rfl
      | pointer a => cases a with
        | none => cases n1 <;> first | rfl | (rename_i m; cases m <;> rfl)
        | some a => simp [cleanC] at hu
      | _ => first | rfl | (simp [cleanC] at hu)
    | pointer a => cases a with
      | none => cases u <;> first | rfl | (simp [cleanC] at hu; done) | (rename_i a; cases a <;> first | rfl | (simp [cleanC] at hu; done))
      | some a => simp [cleanC] at hk
    | _ =>
      first
      | (simp [cleanC] at hk; done)
      | (cases u <;> first | rfl | (simp [cleanC] at hu; done) | (rename_i a; cases a <;> first | rfl | (simp [cleanC] at hu; done)))
  case string =>
    cases k with
    | string s =>
      cases u with
      | string s' =>
        rfl
      | _ => first | rfl | (simp [cleanC] at hu)
    | _ => first | (simp [cleanC] at hk; done) | (cases u <;> first | rfl | (simp [cleanC] at hu; done))

theorem findAsking_none {t : TypeId} {d : TypeDesc} {k : Value} (hd : P.underlying t = some d) (hb : basicT d = true) (hk : cleanC k = true) :
    ∀ (es : List MapEntry) (i : Nat), (∀ e ∈ es, cleanC e.key = true) → Instr.findNow d k es i = none → ∀ σ, vrun P (Instr.findAsking t k es i) σ = none := by
  intro es
  induction es with
  | nil => intro i _ h; cases h
  | cons e es ih =>
    intro i hc h σ
    unfold Instr.findNow at h
    unfold Instr.findAsking
    rw [show (Op.equal t k e.key >>= _ : Sem (Option (Nat × Value))) = Sem.bind (Op.equal t k e.key) _ from rfl, vrun_bind, equal_basic hd hb hk (hc e (by simp))]
    cases hs : Instr.sameNow d k e.key with
    | none => rfl
    | some b =>
      cases b with
      | true => simp [hs] at h
      | false =>
        simp only [hs] at h
        simp only [Option.map_some, andThen, Bool.false_eq_true, if_false]
        exact ih (i + 1) (fun e he => hc e (by simp [he])) h σ
theorem SR.findKey {t : TypeId} {d : TypeDesc} {k : Value} (hd : P.underlying t = some d) (hb : basicT d = true) (hk : cleanC k = true) {es fs : Array MapEntry} (he : ERel ρ es fs) :
    SR P w0 B0 ρ FRel (Instr.findKey t k es.toList) (Instr.findKey t k fs.toList) := by
  unfold Instr.findKey
  refine SR.bind (SR.underlyingK t) fun ρ1 x y hle hx => ?_
  obtain ⟨rfl, hx⟩ := hx
  obtain rfl : d = x := by rw [hd] at hx; exact Option.some.inj hx
  cases hf : Instr.findNow d k es.toList 0 with
  | none =>
    refine SR.none fun σ => ?_
    refine findAsking_none hd hb hk es.toList 0 (fun e hm => ?_) hf σ
    obtain ⟨i, hi, rfl⟩ := List.getElem_of_mem hm
    have := he.2 i (by simpa using hi) (by rw [← he.1]; simpa using hi)
    simpa using this.2.1
  | some r =>
    obtain ⟨r', h1, h2⟩ := findNow_rel es.toList fs.toList 0 he.list r hf
    rw [h1]
    refine SR.pure fun ρ2 hle2 => ?_
    cases r with
    | none => cases r' with
      | none => trivial
      | some q => exact h2
    | some p => cases r' with
      | none => exact h2
      | some q => exact ⟨h2.1, (h2.2.mono hle).mono hle2⟩
theorem SR.lookup {t : TypeId} {m m' k : Value} (hb : basicKey P t = true) (hz : elemZeroOk P t = true) (hk : cleanC k = true) (h : VRel ρ m m') (ok : Bool) :
    SR P w0 B0 ρ VRel (Instr.lookup t m k ok) (Instr.lookup t m' k ok) := by
  unfold Instr.lookup
  refine SR.bind (SR.underlyingK t) fun ρ1 x y hle hx => ?_
  obtain ⟨rfl, hu⟩ := hx
  cases x <;> first | exact SR.stuck | skip
  case map key elem =>
    obtain ⟨d, hd, hbd⟩ : ∃ d, P.underlying key = some d ∧ basicT d = true := by
      simp only [basicKey, hu] at hb
      cases hd : P.underlying key with
      | none => simp [hd] at hb
      | some d => exact ⟨d, rfl, by simpa [hd] using hb⟩
    have hz' : zeroOk P elem = true := by simpa [elemZeroOk, hu] using hz
    have tail : ∀ (ρ2 : Rho) (es fs : Array MapEntry), ERel ρ2 es fs → SR P w0 B0 ρ2 VRel
        (do Instr.checkKey es.isEmpty 10000 key k
            let (v, ok') ← match ← Instr.findKey key k es.toList with
              | some (_, v) => Pure.pure (v, true)
              | Option.none => Pure.pure (← Go.zeroValue elem, false)
            Pure.pure (if ok then .tuple #[v, .bool ok'] else v))
        (do Instr.checkKey fs.isEmpty 10000 key k
            let (v, ok') ← match ← Instr.findKey key k fs.toList with
              | some (_, v) => Pure.pure (v, true)
              | Option.none => Pure.pure (← Go.zeroValue elem, false)
            Pure.pure (if ok then .tuple #[v, .bool ok'] else v)) := by
      intro ρ2 es fs he
      refine SR.bind (SR.checkKey hd hbd _ _ 9999 k k) fun ρ3 _ _ hle3 _ => SR.bind (SR.findKey hd hbd hk (he.mono hle3)) fun ρ4 x y hle4 hf => ?_
      have fin : ∀ (ρ5 : Rho) (v v' : Value) (b : Bool), VRel ρ5 v v' → VRel ρ5 (if ok then .tuple #[v, .bool b] else v) (if ok then .tuple #[v', .bool b] else v') := by
        intro ρ5 v v' b hv
        cases ok with
        | false => exact hv
        | true =>
          refine .tuple rfl fun i hi hi' => ?_
          match i, hi with
          | 0, _ => exact hv
          | 1, _ => exact .bool _
      cases x with
      | none => cases y with
        | none => exact SR.bind (SR.zeroValue hz') fun ρ5 z z' _ hz => by obtain ⟨rfl, hz⟩ := hz; exact SR.pure fun ρ6 _ => fin ρ6 _ _ _ (hz ρ6)
        | some q => exact hf.elim
      | some p => cases y with
        | none => exact hf.elim
        | some q =>
          obtain ⟨i, v⟩ := p
          obtain ⟨j, u⟩ := q
          exact SR.pure fun ρ6 hle6 => fin ρ6 _ _ _ (hf.2.mono hle6)
    replace h := h.mono hle
    cases h with
    | mapNil => exact tail ρ1 #[] #[] ⟨rfl, fun k h => by simp at h⟩
    | map hi => exact SR.getMap hi (fun ρ2 es fs c _ he => tail ρ2 es fs he) (fun _ _ _ => rfl)
    | _ => exact SR.stuck
theorem ERel.push {es fs : Array MapEntry} (h : ERel ρ es fs) {k v v' : Value} (hk : cleanC k = true) (hv : VRel ρ v v') (b : Nat) : ERel ρ (es.push ⟨k, v, b⟩) (fs.push ⟨k, v', b⟩) := by
  refine ⟨by simp [h.1], fun i hi hi' => ?_⟩
  simp only [Array.getElem_push]
  by_cases hlt : i < es.size
  · rw [dif_pos hlt, dif_pos (h.1 ▸ hlt)]; exact h.2 i hlt _
  · rw [dif_neg hlt, dif_neg (h.1 ▸ hlt)]; exact ⟨rfl, hk, hv, rfl⟩
theorem ERel.modify {es fs : Array MapEntry} (h : ERel ρ es fs) (i : Nat) (f g : MapEntry → MapEntry) (hfg : ∀ e e', EnRel ρ e e' → EnRel ρ (f e) (g e')) : ERel ρ (es.modify i f) (fs.modify i g) := by
  refine ⟨by simp [h.1], fun k hk hk' => ?_⟩
  have a : k < es.size := by simpa using hk
  have b : k < fs.size := by simpa using hk'
  rw [Array.getElem_modify, Array.getElem_modify]
  by_cases e : i = k
  · rw [if_pos e, if_pos e]; exact hfg _ _ (h.2 k a b)
  · rw [if_neg e, if_neg e]; exact h.2 k a b
theorem SR.keyStays {old new : Value} : SR P w0 B0 ρ (fun _ x y => x = y ∧ x = new) (Instr.keyThatStays old new) (Instr.keyThatStays old new) := by
  unfold Instr.keyThatStays
  split
  · exact SR.pure fun _ _ => ⟨rfl, rfl⟩
  · exact SR.none fun _ => rfl
theorem ERel.key {es fs : Array MapEntry} (h : ERel ρ es fs) (i : Nat) : (es[i]?).map (·.key) = (fs[i]?).map (·.key) := by
  by_cases hi : i < es.size
  · rw [Array.getElem?_eq_getElem hi, Array.getElem?_eq_getElem (h.1 ▸ hi)]
    simp [(h.2 i hi (h.1 ▸ hi)).1]
  · rw [Array.getElem?_eq_none (by omega), Array.getElem?_eq_none (by rw [← h.1]; omega)]
theorem ERel.born {es fs : Array MapEntry} (h : ERel ρ es fs) (i : Nat) : (es[i]?).map (·.born) = (fs[i]?).map (·.born) := by
  by_cases hi : i < es.size
  · rw [Array.getElem?_eq_getElem hi, Array.getElem?_eq_getElem (h.1 ▸ hi)]
    simp [(h.2 i hi (h.1 ▸ hi)).2.2.2]
  · rw [Array.getElem?_eq_none (by omega), Array.getElem?_eq_none (by rw [← h.1]; omega)]
theorem SR.mapUpdate {t : TypeId} {m m' k v v' : Value} (hb : basicKey P t = true) (hk : cleanC k = true) (h : VRel ρ m m') (hv : VRel ρ v v') :
    SR P w0 B0 ρ TrueR (Instr.mapUpdate t m k v) (Instr.mapUpdate t m' k v') := by
  unfold Instr.mapUpdate
  refine SR.bind (SR.underlyingK t) fun ρ1 x y hle hx => ?_
  obtain ⟨rfl, hu⟩ := hx
  cases x <;> first | exact SR.stuck | skip
  case map key elem =>
    obtain ⟨d, hd, hbd⟩ : ∃ d, P.underlying key = some d ∧ basicT d = true := by
      simp only [basicKey, hu] at hb
      cases hd : P.underlying key with
      | none => simp [hd] at hb
      | some d => exact ⟨d, rfl, by simpa [hd] using hb⟩
    replace h := h.mono hle
    cases h with
    | mapNil => exact SR.panics
    | map hi =>
      refine SR.getMap hi (fun ρ2 es fs c hle2 he => ?_) (fun _ _ _ => rfl)
      refine SR.bind (SR.checkKey hd hbd _ _ 9999 k k) fun ρ3 _ _ hle3 _ => SR.bind (SR.findKey hd hbd hk (he.mono hle3)) fun ρ4 x y hle4 hf => ?_
      replace he := (he.mono hle3).mono hle4
      have hle' := Rho.le_trans (Rho.le_trans (Rho.le_trans hle hle2) hle3) hle4
      have hi' := (Rho.le_trans (Rho.le_trans hle2 hle3) hle4) _ _ hi
      cases x with
      | none => cases y with
        | none => exact SR.setMap hi' (he.push hk (hv.mono hle') c)
        | some q => exact hf.elim
      | some p => cases y with
        | none => exact hf.elim
        | some q =>
          obtain ⟨i, u⟩ := p
          obtain ⟨j, u'⟩ := q
          obtain ⟨rfl, _⟩ := hf
          dsimp only
          rw [he.key i]
          refine SR.bind SR.keyStays fun ρ5 x y hle5 hx => ?_
          obtain ⟨rfl, rfl⟩ := hx
          exact SR.setMap (hle5 _ _ hi') ((he.mono hle5).modify i _ _ fun e e' hee => ⟨rfl, hk, (hv.mono hle').mono hle5, hee.2.2.2⟩)
    | _ => exact SR.stuck
end
end Vm
end Go.Proofs.Ytodjjnklelfgfaa
