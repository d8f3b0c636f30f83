/- Instructions that obey the relation: what is asked of a map and put into it. -/
import Derived.Test.YtmapjahpjolmnaaDoorG6
import Derived.Orders
set_option linter.unusedVariables false
set_option linter.unusedSimpArgs false
namespace Go.Proofs.YtmapjahpjolmnaaDoor
namespace Vm
set_option linter.unusedSimpArgs false
set_option linter.unusedVariables false
open Go.RowKit

def basicT : TypeDesc → Bool
  | .int _ | .string | .bool => true
  | _ => false
def basicKey (P : Program) (t : TypeId) : Bool :=
  match P.underlying t with
  | some (.map k _) => (P.underlying k).any basicT
  | _ => false
section
variable {P : Program} {w0 w : World} {B0 : Base} {ρ : Rho} {σ : VHeap}
theorem SR.underlyingK (t : TypeId) : SR P w0 B0 ρ (fun _ x y => x = y ∧ P.underlying t = some x) (Go.underlying t) (Go.underlying t) := by
  intro ρ1 σ w x σ' hle hw hr
  obtain ⟨ρ2, y, w', h1, h2, h3, h4⟩ := SR.underlying (P := P) (w0 := w0) (B0 := B0) (ρ := ρ) t ρ1 σ w x σ' hle hw hr
  refine ⟨ρ2, y, w', h1, h2, ⟨h3, ?_⟩, h4⟩
  unfold Go.underlying at hr
  rw [show (program >>= _ : Sem TypeDesc) = Sem.bind program _ from rfl, vrun_bind] at hr
  simp only [program, vrun, andThen] at hr
  cases hd : P.underlying t with
  | none => rw [hd] at hr; cases hr
  | some d => rw [hd] at hr; cases hr; rfl
theorem SR.checkKey {k : TypeId} {d : TypeDesc} (hd : P.underlying k = some d) (hb : basicT d = true) (b b' : Bool) (n : Nat) (v v' : Value) : SR P w0 B0 ρ TrueR (Instr.checkKey b (n + 1) k v) (Instr.checkKey b' (n + 1) k v') := by
  unfold Instr.checkKey
  refine SR.bind (SR.underlyingK k) fun ρ1 x y hle hx => ?_
  obtain ⟨rfl, hx⟩ := hx
  obtain rfl : d = x := by rw [hd] at hx; exact Option.some.inj hx
  cases d <;> first | (simp [basicT] at hb; done) | exact SR.pure fun _ _ => trivial
def EnRel (ρ : Rho) (e f : MapEntry) : Prop := e.key = f.key ∧ cleanC e.key = true ∧ VRel ρ e.val f.val ∧ e.born = f.born
theorem ERel.list {es fs : Array MapEntry} (h : ERel ρ es fs) : All2 (EnRel ρ) es.toList fs.toList := by
  obtain ⟨es⟩ := es
  obtain ⟨fs⟩ := fs
  induction es generalizing fs with
  | nil =>
    obtain rfl : fs = [] := by have := h.1; simpa using this.symm
    exact .nil
  | cons e es ih =>
    cases fs with
    | nil => have := h.1; simp at this
    | cons f fs =>
      refine .cons (by simpa [EnRel] using h.2 0 (by simp) (by simp)) (ih fs ⟨by simpa using h.1, fun i hi hi' => ?_⟩)
      have := h.2 (i + 1) (by simpa using hi) (by simpa using hi')
      simp only [List.getElem_toArray, List.getElem_cons_succ] at this ⊢
      exact this
def FRel (ρ : Rho) (x y : Option (Nat × Value)) : Prop :=
  match x, y with
  | none, none => True
  | some (i, v), some (j, u) => i = j ∧ VRel ρ v u
  | _, _ => False
theorem findNow_rel {d : TypeDesc} {k : Value} : ∀ (es fs : List MapEntry) (i : Nat), All2 (EnRel ρ) es fs → ∀ r, Instr.findNow d k es i = some r → ∃ r', Instr.findNow d k fs i = some r' ∧ FRel ρ r r' := by
  intro es fs i h
  induction h generalizing i with
  | nil => intro r hr; cases hr; exact ⟨none, rfl, trivial⟩
  | @cons e f es fs he _ ih =>
    intro r hr
    unfold Instr.findNow at hr ⊢
    rw [← he.1]
    cases hs : Instr.sameNow d k e.key with
    | none => simp [hs] at hr
    | some b =>
      cases b with
      | true => simp only [hs] at hr; cases hr; exact ⟨_, rfl, rfl, he.2.2.1⟩
      | false => simp only [hs] at hr; exact ih _ r hr
theorem equal_basic {t : TypeId} {d : TypeDesc} {k u : Value} (hd : P.underlying t = some d) (hb : basicT d = true) (hk : cleanC k = true) (hu : cleanC u = true) (σ : VHeap) :
    vrun P (Op.equal t k u) σ = (Instr.sameNow d k u).map fun b => (b, σ) := by
  unfold Op.equal Op.maxDepth
  rw [show (10000 : Nat) = 9999 + 1 from rfl]
  unfold Op.equalIn
  rw [show (underlying t >>= _ : Sem Bool) = Sem.bind (underlying t) _ from rfl, vrun_bind]
  have hu' : vrun P (underlying t) σ = some (d, σ) := by
    unfold Go.underlying
    rw [show (program >>= _ : Sem TypeDesc) = Sem.bind program _ from rfl, vrun_bind]
    simp only [program, vrun, andThen, hd]
    rfl
  rw [hu']
  simp only [andThen]
  cases d <;> first | (simp [basicT] at hb; done) | skip
  case bool =>
    cases k <;> first | (simp [cleanC] at hk; done) | skip
    all_goals cases u <;> first | (simp [cleanC] at hu; done) | rfl
  case int kk =>
    cases k with
    | int k1 n1 =>
      cases u with
      | int k2 n2 =>
        simp only [Instr.sameNow]
        split <;> rfl
      | pointer a => cases a with
        | none => cases n1 <;> first | rfl | (rename_i m; cases m <;> rfl)
        | some a => simp [cleanC] at hu
      | _ => first | rfl | (simp [cleanC] at hu)
    | pointer a => cases a with
      | none => cases u <;> first | rfl | (simp [cleanC] at hu; done) | (rename_i a; cases a <;> first | rfl | (simp [cleanC] at hu; done))
      | some a => simp [cleanC] at hk
    | _ =>
      first
      | (simp [cleanC] at hk; done)
      | (cases u <;> first | rfl | (simp [cleanC] at hu; done) | (rename_i a; cases a <;> first | rfl | (simp [cleanC] at hu; done)))
  case string =>
    cases k with
    | string s =>
      cases u with
      | string s' =>
        rfl
      | _ => first | rfl | (simp [cleanC] at hu)
    | _ => first | (simp [cleanC] at hk; done) | (cases u <;> first | rfl | (simp [cleanC] at hu; done))

theorem findAsking_none {t : TypeId} {d : TypeDesc} {k : Value} (hd : P.underlying t = some d) (hb : basicT d = true) (hk : cleanC k = true) :
    ∀ (es : List MapEntry) (i : Nat), (∀ e ∈ es, cleanC e.key = true) → Instr.findNow d k es i = none → ∀ σ, vrun P (Instr.findAsking t k es i) σ = none := by
  intro es
  induction es with
  | nil => intro i _ h; cases h
  | cons e es ih =>
    intro i hc h σ
    unfold Instr.findNow at h
    unfold Instr.findAsking
    rw [show (Op.equal t k e.key >>= _ : Sem (Option (Nat × Value))) = Sem.bind (Op.equal t k e.key) _ from rfl, vrun_bind, equal_basic hd hb hk (hc e (by simp))]
    cases hs : Instr.sameNow d k e.key with
    | none => rfl
    | some b =>
      cases b with
      | true => simp [hs] at h
      | false =>
        simp only [hs] at h
        simp only [Option.map_some, andThen, Bool.false_eq_true, if_false]
        exact ih (i + 1) (fun e he => hc e (by simp [he])) h σ
theorem SR.findKey {t : TypeId} {d : TypeDesc} {k : Value} (hd : P.underlying t = some d) (hb : basicT d = true) (hk : cleanC k = true) {es fs : Array MapEntry} (he : ERel ρ es fs) :
    SR P w0 B0 ρ FRel (Instr.findKey t k es.toList) (Instr.findKey t k fs.toList) := by
  unfold Instr.findKey
  refine SR.bind (SR.underlyingK t) fun ρ1 x y hle hx => ?_
  obtain ⟨rfl, hx⟩ := hx
  obtain rfl : d = x := by rw [hd] at hx; exact Option.some.inj hx
  cases hf : Instr.findNow d k es.toList 0 with
  | none =>
    refine SR.none fun σ => ?_
    refine findAsking_none hd hb hk es.toList 0 (fun e hm => ?_) hf σ
    obtain ⟨i, hi, rfl⟩ := List.getElem_of_mem hm
    have := he.2 i (by simpa using hi) (by rw [← he.1]; simpa using hi)
    simpa using this.2.1
  | some r =>
    obtain ⟨r', h1, h2⟩ := findNow_rel es.toList fs.toList 0 he.list r hf
    rw [h1]
    refine SR.pure fun ρ2 hle2 => ?_
    cases r with
    | none => cases r' with
      | none => trivial
      | some q => exact h2
    | some p => cases r' with
      | none => exact h2
      | some q => exact ⟨h2.1, (h2.2.mono hle).mono hle2⟩
theorem SR.lookup {t : TypeId} {m m' k : Value} (hb : basicKey P t = true) (hz : elemZeroOk P t = true) (hk : cleanC k = true) (h : VRel ρ m m') (ok : Bool) :
    SR P w0 B0 ρ VRel (Instr.lookup t m k ok) (Instr.lookup t m' k ok) := by
  unfold Instr.lookup
  refine SR.bind (SR.underlyingK t) fun ρ1 x y hle hx => ?_
  obtain ⟨rfl, hu⟩ := hx
  cases x <;> first | exact SR.stuck | skip
  case map key elem =>
    obtain ⟨d, hd, hbd⟩ : ∃ d, P.underlying key = some d ∧ basicT d = true := by
      simp only [basicKey, hu] at hb
      cases hd : P.underlying key with
      | none => simp [hd] at hb
      | some d => exact ⟨d, rfl, by simpa [hd] using hb⟩
    have hz' : zeroOk P elem = true := by simpa [elemZeroOk, hu] using hz
    have tail : ∀ (ρ2 : Rho) (es fs : Array MapEntry), ERel ρ2 es fs → SR P w0 B0 ρ2 VRel
        (do Instr.checkKey es.isEmpty 10000 key k
            let (v, ok') ← match ← Instr.findKey key k es.toList with
              | some (_, v) => Pure.pure (v, true)
              | Option.none => Pure.pure (← Go.zeroValue elem, false)
            Pure.pure (if ok then .tuple #[v, .bool ok'] else v))
        (do Instr.checkKey fs.isEmpty 10000 key k
            let (v, ok') ← match ← Instr.findKey key k fs.toList with
              | some (_, v) => Pure.pure (v, true)
              | Option.none => Pure.pure (← Go.zeroValue elem, false)
            Pure.pure (if ok then .tuple #[v, .bool ok'] else v)) := by
      intro ρ2 es fs he
      refine SR.bind (SR.checkKey hd hbd _ _ 9999 k k) fun ρ3 _ _ hle3 _ => SR.bind (SR.findKey hd hbd hk (he.mono hle3)) fun ρ4 x y hle4 hf => ?_
      have fin : ∀ (ρ5 : Rho) (v v' : Value) (b : Bool), VRel ρ5 v v' → VRel ρ5 (if ok then .tuple #[v, .bool b] else v) (if ok then .tuple #[v', .bool b] else v') := by
        intro ρ5 v v' b hv
        cases ok with
        | false => exact hv
        | true =>
          refine .tuple rfl fun i hi hi' => ?_
          match i, hi with
          | 0, _ => exact hv
          | 1, _ => exact .bool _
      cases x with
      | none => cases y with
        | none => exact SR.bind (SR.zeroValue hz') fun ρ5 z z' _ hz => by obtain ⟨rfl, hz⟩ := hz; exact SR.pure fun ρ6 _ => fin ρ6 _ _ _ (hz ρ6)
        | some q => exact hf.elim
      | some p => cases y with
        | none => exact hf.elim
        | some q =>
          obtain ⟨i, v⟩ := p
          obtain ⟨j, u⟩ := q
          exact SR.pure fun ρ6 hle6 => fin ρ6 _ _ _ (hf.2.mono hle6)
    replace h := h.mono hle
    cases h with
    | mapNil => exact tail ρ1 #[] #[] ⟨rfl, fun k h => by simp at h⟩
    | map hi => exact SR.getMap hi (fun ρ2 es fs c _ he => tail ρ2 es fs he) (fun _ _ _ => rfl)
    | _ => exact SR.stuck
theorem ERel.push {es fs : Array MapEntry} (h : ERel ρ es fs) {k v v' : Value} (hk : cleanC k = true) (hv : VRel ρ v v') (b : Nat) : ERel ρ (es.push ⟨k, v, b⟩) (fs.push ⟨k, v', b⟩) := by
  refine ⟨by simp [h.1], fun i hi hi' => ?_⟩
  simp only [Array.getElem_push]
  by_cases hlt : i < es.size
  · rw [dif_pos hlt, dif_pos (h.1 ▸ hlt)]; exact h.2 i hlt _
  · rw [dif_neg hlt, dif_neg (h.1 ▸ hlt)]; exact ⟨rfl, hk, hv, rfl⟩
theorem ERel.modify {es fs : Array MapEntry} (h : ERel ρ es fs) (i : Nat) (f g : MapEntry → MapEntry) (hfg : ∀ e e', EnRel ρ e e' → EnRel ρ (f e) (g e')) : ERel ρ (es.modify i f) (fs.modify i g) := by
  refine ⟨by simp [h.1], fun k hk hk' => ?_⟩
  have a : k < es.size := by simpa using hk
  have b : k < fs.size := by simpa using hk'
  rw [Array.getElem_modify, Array.getElem_modify]
  by_cases e : i = k
  · rw [if_pos e, if_pos e]; exact hfg _ _ (h.2 k a b)
  · rw [if_neg e, if_neg e]; exact h.2 k a b
theorem SR.keyStays {old new : Value} : SR P w0 B0 ρ (fun _ x y => x = y ∧ x = new) (Instr.keyThatStays old new) (Instr.keyThatStays old new) := by
  unfold Instr.keyThatStays
  split
  · exact SR.pure fun _ _ => ⟨rfl, rfl⟩
  · exact SR.none fun _ => rfl
theorem ERel.key {es fs : Array MapEntry} (h : ERel ρ es fs) (i : Nat) : (es[i]?).map (·.key) = (fs[i]?).map (·.key) := by
  by_cases hi : i < es.size
  · rw [Array.getElem?_eq_getElem hi, Array.getElem?_eq_getElem (h.1 ▸ hi)]
    simp [(h.2 i hi (h.1 ▸ hi)).1]
  · rw [Array.getElem?_eq_none (by omega), Array.getElem?_eq_none (by rw [← h.1]; omega)]
theorem ERel.born {es fs : Array MapEntry} (h : ERel ρ es fs) (i : Nat) : (es[i]?).map (·.born) = (fs[i]?).map (·.born) := by
  by_cases hi : i < es.size
  · rw [Array.getElem?_eq_getElem hi, Array.getElem?_eq_getElem (h.1 ▸ hi)]
    simp [(h.2 i hi (h.1 ▸ hi)).2.2.2]
  · rw [Array.getElem?_eq_none (by omega), Array.getElem?_eq_none (by rw [← h.1]; omega)]
theorem SR.mapUpdate {t : TypeId} {m m' k v v' : Value} (hb : basicKey P t = true) (hk : cleanC k = true) (h : VRel ρ m m') (hv : VRel ρ v v') :
    SR P w0 B0 ρ TrueR (Instr.mapUpdate t m k v) (Instr.mapUpdate t m' k v') := by
  unfold Instr.mapUpdate
  refine SR.bind (SR.underlyingK t) fun ρ1 x y hle hx => ?_
  obtain ⟨rfl, hu⟩ := hx
  cases x <;> first | exact SR.stuck | skip
  case map key elem =>
    obtain ⟨d, hd, hbd⟩ : ∃ d, P.underlying key = some d ∧ basicT d = true := by
      simp only [basicKey, hu] at hb
      cases hd : P.underlying key with
      | none => simp [hd] at hb
      | some d => exact ⟨d, rfl, by simpa [hd] using hb⟩
    replace h := h.mono hle
    cases h with
    | mapNil => exact SR.panics
    | map hi =>
      refine SR.getMap hi (fun ρ2 es fs c hle2 he => ?_) (fun _ _ _ => rfl)
      refine SR.bind (SR.checkKey hd hbd _ _ 9999 k k) fun ρ3 _ _ hle3 _ => SR.bind (SR.findKey hd hbd hk (he.mono hle3)) fun ρ4 x y hle4 hf => ?_
      replace he := (he.mono hle3).mono hle4
      have hle' := Rho.le_trans (Rho.le_trans (Rho.le_trans hle hle2) hle3) hle4
      have hi' := (Rho.le_trans (Rho.le_trans hle2 hle3) hle4) _ _ hi
      cases x with
      | none => cases y with
        | none => exact SR.setMap hi' (he.push hk (hv.mono hle') c)
        | some q => exact hf.elim
      | some p => cases y with
        | none => exact hf.elim
        | some q =>
          obtain ⟨i, u⟩ := p
          obtain ⟨j, u'⟩ := q
          obtain ⟨rfl, _⟩ := hf
          dsimp only
          rw [he.key i]
          refine SR.bind SR.keyStays fun ρ5 x y hle5 hx => ?_
          obtain ⟨rfl, rfl⟩ := hx
          exact SR.setMap (hle5 _ _ hi') ((he.mono hle5).modify i _ _ fun e e' hee => ⟨rfl, hk, (hv.mono hle').mono hle5, hee.2.2.2⟩)
    | _ => exact SR.stuck
end
end Vm
end Go.Proofs.YtmapjahpjolmnaaDoor
namespace Go.Proofs.YtmapjahpjolmnaaDoor
namespace Vm
set_option linter.unusedSimpArgs false
set_option linter.unusedVariables false
open Go.RowKit

section
variable {P : Program} {w0 w : World} {B0 : Base} {ρ : Rho} {σ : VHeap}
theorem basic_of {t key elem : TypeId} (hb : basicKey P t = true) (hu : P.underlying t = some (.map key elem)) : ∃ d, P.underlying key = some d ∧ basicT d = true := by
  simp only [basicKey, hu] at hb
  cases hd : P.underlying key with
  | none => simp [hd] at hb
  | some d => exact ⟨d, rfl, by simpa [hd] using hb⟩
theorem tuple2 {a a' b b' : Value} (h : VRel ρ a a') (g : VRel ρ b b') : VRel ρ (.tuple #[a, b]) (.tuple #[a', b']) := by
  refine .tuple rfl fun k hk hk' => ?_
  match k, hk with
  | 0, _ => exact h
  | 1, _ => exact g
theorem SR.mapEntry {t : TypeId} {m m' k : Value} (hb : basicKey P t = true) (hz : elemZeroOk P t = true) (hk : cleanC k = true) (h : VRel ρ m m') :
    SR P w0 B0 ρ VRel (Instr.mapEntry t m k) (Instr.mapEntry t m' k) := by
  unfold Instr.mapEntry
  refine SR.bind (SR.underlyingK t) fun ρ1 x y hle hx => ?_
  obtain ⟨rfl, hu⟩ := hx
  cases x <;> first | exact SR.stuck | skip
  case map key elem =>
    obtain ⟨d, hd, hbd⟩ := basic_of hb hu
    have hz' : zeroOk P elem = true := by simpa [elemZeroOk, hu] using hz
    replace h := h.mono hle
    cases h with
    | mapNil => exact SR.panics
    | map hi =>
      refine SR.getMap hi (fun ρ2 es fs c hle2 he => ?_) (fun _ _ _ => rfl)
      refine SR.bind (SR.checkKey hd hbd _ _ 9999 k k) fun ρ3 _ _ hle3 _ => SR.bind (SR.findKey hd hbd hk (he.mono hle3)) fun ρ4 x y hle4 hf => ?_
      replace he := (he.mono hle3).mono hle4
      have hi' := (Rho.le_trans (Rho.le_trans hle2 hle3) hle4) _ _ hi
      cases x with
      | none => cases y with
        | none =>
          refine SR.bind (SR.zeroValue hz') fun ρ5 z z' hle5 hz => ?_
          obtain ⟨rfl, hz⟩ := hz
          exact SR.bind (SR.setMap (hle5 _ _ hi') ((he.mono hle5).push hk (hz _) c)) fun ρ6 _ _ _ _ => SR.pure fun ρ7 _ => tuple2 (hz _) (.int _ _)
        | some q => exact hf.elim
      | some p => cases y with
        | none => exact hf.elim
        | some q =>
          obtain ⟨i, u⟩ := p
          obtain ⟨j, u'⟩ := q
          obtain ⟨rfl, hv⟩ := hf
          dsimp only
          have hbn : (es[i]?).map (fun x => (x.born : Int)) = (fs[i]?).map (fun x => (x.born : Int)) := by
            have := congrArg (Option.map (fun n : Nat => (n : Int))) (he.born i)
            simpa [Option.map_map, Function.comp_def] using this
          rw [he.key i, hbn]
          refine SR.bind SR.keyStays fun ρ5 x y hle5 hx => ?_
          obtain ⟨rfl, rfl⟩ := hx
          refine SR.bind (SR.setMap (hle5 _ _ hi') ((he.mono hle5).modify i _ _ fun e e' hee => ⟨rfl, hk, hee.2.2.1, hee.2.2.2⟩)) fun ρ6 _ _ hle6 _ => SR.pure fun ρ7 hle7 => tuple2 (((hv.mono hle5).mono hle6).mono hle7) (.int _ _)
    | _ => exact SR.stuck
theorem findIdx_born {es fs : List MapEntry} (h : All2 (EnRel ρ) es fs) (n : Int) : es.findIdx? (fun e => (e.born : Int) == n) = fs.findIdx? (fun e => (e.born : Int) == n) := by
  induction h with
  | nil => rfl
  | cons he _ ih => simp only [List.findIdx?_cons, he.2.2.2, ih]
theorem SR.entryStore {t : TypeId} {m m' s s' v v' : Value} (h : VRel ρ m m') (hs : VRel ρ s s') (hv : VRel ρ v v') :
    SR P w0 B0 ρ TrueR (Instr.entryStore t m s v) (Instr.entryStore t m' s' v') := by
  unfold Instr.entryStore
  cases h with
  | map hi =>
    refine SR.getMap hi (fun ρ2 es fs c hle2 he => ?_) (fun _ _ _ => rfl)
    refine SR.bind (SR.asInt (hs.mono hle2)) fun ρ3 x y hle3 hx => ?_
    cases hx
    replace he := he.mono hle3
    have e1 : es.findIdx? (fun e => (e.born : Int) == x) = fs.findIdx? (fun e => (e.born : Int) == x) := by
      have h1 : ∀ (l : Array MapEntry), l.findIdx? (fun e => (e.born : Int) == x) = l.toList.findIdx? (fun e => (e.born : Int) == x) := fun l => by cases l; simp
      rw [h1, h1]
      exact findIdx_born he.list x
    rw [e1]
    cases fs.findIdx? (fun e => (e.born : Int) == x) with
    | none => exact SR.unsupported
    | some i => exact SR.setMap (hle3 _ _ (hle2 _ _ hi)) (he.modify i _ _ fun e e' hee => ⟨hee.1, hee.2.1, (hv.mono hle2).mono hle3, hee.2.2.2⟩)
  | _ => exact SR.stuck
theorem ERel.erase {es fs : Array MapEntry} (h : ERel ρ es fs) (i : Nat) : ERel ρ (es.eraseIdxIfInBounds i) (fs.eraseIdxIfInBounds i) := by
  have e1 := h.1
  unfold Array.eraseIdxIfInBounds
  by_cases hi : i < es.size
  · rw [dif_pos hi, dif_pos (e1 ▸ hi)]
    refine ⟨by simp [e1], fun k hk hk' => ?_⟩
    have hk0 : k < es.size - 1 := by simpa using hk
    rw [Array.getElem_eraseIdx, Array.getElem_eraseIdx]
    by_cases hlt : k < i
    · rw [dif_pos hlt, dif_pos hlt]; exact h.2 k _ _
    · rw [dif_neg hlt, dif_neg hlt]; exact h.2 (k + 1) _ _
  · rw [dif_neg hi, dif_neg (e1 ▸ hi)]; exact h
theorem SR.delete {ts : Array TypeId} {t : TypeId} {m m' k : Value} (hb : ∀ mt, ts[0]? = some mt → basicKey P mt = true) (hk : cleanC k = true) (h : VRel ρ m m') :
    SR P w0 B0 ρ VRel (Builtin.delete_ ts t #[m, k]) (Builtin.delete_ ts t #[m', k]) := by
  unfold Builtin.delete_
  simp only [List.getElem?_toArray, List.getElem?_cons_zero, List.getElem?_cons_succ]
  cases ht : ts[0]? with
  | none => exact SR.stuck
  | some mt =>
    refine SR.bind (SR.underlyingK mt) fun ρ1 x y hle hx => ?_
    obtain ⟨rfl, hu⟩ := hx
    cases x <;> first | exact SR.stuck | skip
    case map key elem =>
      obtain ⟨d, hd, hbd⟩ := basic_of (hb mt ht) hu
      have fin : ∀ (ρ2 : Rho), SR P w0 B0 ρ2 VRel (Pure.pure (.tuple #[]) : Sem Value) (Pure.pure (.tuple #[])) := fun ρ2 => SR.pure fun _ _ => .tuple rfl fun k hk => by simp at hk
      replace h := h.mono hle
      cases h with
      | mapNil => exact SR.bind (SR.checkKey hd hbd _ _ 9999 k k) fun ρ2 _ _ _ _ => fin ρ2
      | map hi =>
        refine SR.getMap hi (fun ρ2 es fs c hle2 he => ?_) (fun _ _ _ => rfl)
        refine SR.bind (SR.checkKey hd hbd _ _ 9999 k k) fun ρ3 _ _ hle3 _ => SR.bind (SR.findKey hd hbd hk (he.mono hle3)) fun ρ4 x y hle4 hf => ?_
        replace he := (he.mono hle3).mono hle4
        have hi' := (Rho.le_trans (Rho.le_trans hle2 hle3) hle4) _ _ hi
        cases x with
        | none => cases y with
          | none => exact SR.bind (SR.setMap hi' he) fun ρ5 _ _ _ _ => fin ρ5
          | some q => exact hf.elim
        | some p => cases y with
          | none => exact hf.elim
          | some q =>
            obtain ⟨i, u⟩ := p
            obtain ⟨j, u'⟩ := q
            obtain ⟨rfl, _⟩ := hf
            exact SR.bind (SR.setMap hi' (he.erase i)) fun ρ5 _ _ _ _ => fin ρ5
      | _ => exact SR.none fun _ => rfl
theorem SR.firstCells {v v' : Value} (h : VRel ρ v v') (size n : Nat) : SR P w0 B0 ρ ARel (Builtin.firstCells size n v) (Builtin.firstCells size n v') := by
  unfold Builtin.firstCells
  cases h with
  | slice hi hc => exact SR.loadCells ⟨_, hi, rfl, rfl⟩ _
  | sliceNil => exact SR.pure fun _ _ => ARel.nil _
  | sliceOff id off a c' =>
    dsimp only
    cases hn : n * size with
    | zero => exact SR.pure fun _ _ => ARel.nil _
    | succ m =>
      refine SR.none fun σ => ?_
      unfold Go.loadCells Go.loadCellsFrom
      refine (show vrun P (Sem.bind (Go.load _) _) σ = Option.none from ?_)
      rw [vrun_bind]
      have : (⟨id, off, some 0⟩ : Addr).add 0 = ⟨id, off, some 0⟩ := by simp [Addr.add]
      rw [this]
      simp [Go.load, vrun, cell?, andThen]
  | string s =>
    refine SR.pure fun _ _ => ⟨rfl, fun k hk hk' => ?_⟩
    simp only [Array.getElem_map]
    exact .int _ _
  | _ => exact SR.stuck
theorem SR.lenOf {v v' : Value} (h : VRel ρ v v') : SR P w0 B0 ρ EqR (Builtin.lenOf v) (Builtin.lenOf v') := by
  cases h <;> first | exact SR.pure fun _ _ => rfl | exact SR.stuck
theorem SR.copy {ts : Array TypeId} {t : TypeId} {a a' b b' : Value} (h : VRel ρ a a') (g : VRel ρ b b') : SR P w0 B0 ρ VRel (Builtin.copy_ ts t #[a, b]) (Builtin.copy_ ts t #[a', b']) := by
  unfold Builtin.copy_
  simp only [List.getElem?_toArray, List.getElem?_cons_zero, List.getElem?_cons_succ]
  cases ts[0]? with
  | none => exact SR.stuck
  | some mt =>
    refine SR.bind (SR.underlyingK mt) fun ρ1 x y hle hx => ?_
    obtain ⟨rfl, hu⟩ := hx
    cases x <;> first | exact SR.stuck | skip
    case slice elem =>
      replace h := h.mono hle
      replace g := g.mono hle
      have fin : ∀ (ρ2 : Rho) (n : Nat), SR P w0 B0 ρ2 VRel (Pure.pure (goInt n) : Sem Value) (Pure.pure (goInt n)) := fun ρ2 n => SR.pure fun _ _ => .int _ _
      cases h with
      | sliceNil n c =>
        refine SR.bind (SR.lenOf g) fun ρ2 x y hle2 hx => ?_
        cases hx
        refine SR.bind (SR.sizeOf elem) fun ρ3 sz y hle3 hx => ?_
        cases hx
        exact SR.bind (SR.firstCells ((g.mono hle2).mono hle3) _ _) fun ρ4 _ _ _ _ => fin ρ4 _
      | slice hi hc =>
        refine SR.bind (SR.lenOf g) fun ρ2 x y hle2 hx => ?_
        cases hx
        refine SR.bind (SR.sizeOf elem) fun ρ3 sz y hle3 hx => ?_
        cases hx
        refine SR.bind (SR.firstCells ((g.mono hle2).mono hle3) _ _) fun ρ4 x y hle4 hx => ?_
        exact SR.bind (SR.storeCells ⟨_, hle4 _ _ (hle3 _ _ (hle2 _ _ hi)), rfl, rfl⟩ _ _ 0 _ (Rho.le_refl _) hx.toList) fun ρ5 _ _ _ _ => fin ρ5 _
      | sliceOff id off a c' =>
        refine SR.bind (SR.lenOf g) fun ρ2 x y hle2 hx => ?_
        cases hx
        refine SR.bind (SR.sizeOf elem) fun ρ3 sz y hle3 hx => ?_
        cases hx
        have e0 : x.min 0 = 0 := Nat.min_zero x
        rw [e0]
        refine SR.bind (A := fun _ (x y : Array Value) => x = #[] ∧ y = #[]) ?_ fun ρ4 x y hle4 hx => ?_
        · have g' := (g.mono hle2).mono hle3
          cases g' with
          | string s =>
            refine SR.pure fun _ _ => ?_
            have : s.extract 0 0 = ByteArray.empty := by ext <;> simp
            rw [this]
            rw [show ByteArray.empty.data = #[] from rfl]
            exact ⟨by simp, by simp⟩
          | sliceNil => exact SR.pure fun _ _ => ⟨rfl, rfl⟩
          | slice =>
            unfold Builtin.firstCells
            simp only [Nat.zero_mul]
            exact SR.pure fun _ _ => ⟨rfl, rfl⟩
          | sliceOff =>
            unfold Builtin.firstCells
            simp only [Nat.zero_mul]
            exact SR.pure fun _ _ => ⟨rfl, rfl⟩
          | _ => exact SR.stuck
        · obtain ⟨rfl, rfl⟩ := hx
          exact SR.bind (SR.pure (A := TrueR) fun _ _ => trivial) fun ρ5 _ _ _ _ => fin ρ5 _
      | _ => exact SR.stuck
end
end Vm
end Go.Proofs.YtmapjahpjolmnaaDoor
namespace Go.Proofs.YtmapjahpjolmnaaDoor
namespace Vm
set_option linter.unusedSimpArgs false
set_option linter.unusedVariables false
open Go.RowKit

/-- What a piece of the machine's code comes to without memory. -/
def pv {α : Type} (P : Program) : Sem α → Option α
  | .pure a => some a
  | .program k => pv P (k P)
  | .mark _ k => pv P k
  | _ => none
theorem pv_run {α : Type} {P : Program} : ∀ {s : Sem α} {a : α}, pv P s = some a → ∀ w, s.run P w = .ok a w
  | .pure b, a, h, w => by cases h; rfl
  | .program k, a, h, w => pv_run (s := k P) h w
  | .mark m k, a, h, w => pv_run (s := k) h w
  | .load .., _, h, _ | .store .., _, h, _ | .new .., _, h, _ | .shape .., _, h, _ | .freeze .., _, h, _ | .frozen .., _, h, _ | .getObj .., _, h, _ | .setObj .., _, h, _
  | .choose .., _, h, _ | .sys .., _, h, _ | .halt .., _, h, _ => by cases h

theorem vrun_first {α β : Type} {P : Program} {s : Sem α} {k : α → Sem β} {σ : VHeap} (h : vrun P s σ = none) : vrun P (s >>= k) σ = none := by
  rw [show s >>= k = s.bind k from rfl, vrun_bind, h]; rfl

section
variable {P : Program} {w0 w : World} {B0 : Base} {ρ : Rho} {σ : VHeap}
theorem zeroCells_rel {z : Array Value} (h : ∀ ρ', ARel ρ' z z) (n : Nat) : ARel ρ (Builtin.zeroCells z n) (Builtin.zeroCells z n) := by
  unfold Builtin.zeroCells
  exact range_map_rel _ (h ρ)
theorem SR.clear {ts : Array TypeId} {t : TypeId} {x x' : Value} (hz : ∀ mt, ts[0]? = some mt → elemZeroOk P mt = true) (h : VRel ρ x x') :
    SR P w0 B0 ρ VRel (Builtin.clear_ ts t #[x]) (Builtin.clear_ ts t #[x']) := by
  unfold Builtin.clear_
  simp only [List.getElem?_toArray, List.getElem?_cons_zero]
  have fin : ∀ (ρ2 : Rho), SR P w0 B0 ρ2 VRel (Pure.pure (.tuple #[]) : Sem Value) (Pure.pure (.tuple #[])) := fun ρ2 => SR.pure fun _ _ => .tuple rfl fun k hk => by simp at hk
  cases ht : ts[0]? with
  | none => exact SR.stuck
  | some mt =>
    refine SR.bind (SR.underlyingK mt) fun ρ1 d y hle hx => ?_
    obtain ⟨rfl, hu⟩ := hx
    replace h := h.mono hle
    cases h with
    | mapNil => exact fin ρ1
    | sliceNil n c => exact fin ρ1
    | sliceOff => cases d <;> exact fin ρ1
    | map hi => cases d <;> exact SR.getMap hi (fun ρ2 es fs c hle2 he => SR.bind (SR.setMap (hle2 _ _ hi) ⟨rfl, fun k hk => by simp at hk⟩) fun ρ3 _ _ _ _ => fin ρ3) (fun _ _ _ => rfl)
    | @slice id off n c c' i hi hc =>
      cases n with
      | zero => cases d <;> exact fin ρ1
      | succ n =>
        cases d with
        | slice elem =>
          have hz' : zeroOk P elem = true := by simpa [elemZeroOk, hu] using hz mt ht
          refine SR.bind (SR.zeroValue hz') fun ρ2 z z' hle2 hz => ?_
          obtain ⟨rfl, hz⟩ := hz
          exact SR.bind (SR.storeCells ⟨_, hle2 _ _ hi, rfl, rfl⟩ _ _ 0 _ (Rho.le_refl _) (zeroCells_rel (fun ρ' => (hz ρ').cells) _).toList) fun ρ3 _ _ _ _ => fin ρ3
        | _ => exact SR.none fun _ => rfl
    | _ => cases d <;> exact SR.none fun _ => rfl
theorem SR.askRoom (n : Nat) : SR P w0 B0 ρ TrueR (askRoom n) (askRoom n) := by
  unfold Go.askRoom
  split
  · intro ρ1 σ w x σ' _ hw hr
    cases hr
    exact ⟨ρ1, (), w, Rho.le_refl _, rfl, trivial, hw⟩
  · exact SR.pure fun _ _ => trivial
theorem SR.makeSlice {t : TypeId} {l l' c c' : Value} (hz : elemZeroOk P t = true) (h : VRel ρ l l') (g : VRel ρ c c') : SR P w0 B0 ρ VRel (Instr.makeSlice t l c) (Instr.makeSlice t l' c') := by
  unfold Instr.makeSlice
  refine SR.bind (SR.underlyingK t) fun ρ1 d y hle hx => ?_
  obtain ⟨rfl, hu⟩ := hx
  cases d <;> first | exact SR.stuck | skip
  case slice elem =>
    have hz' : zeroOk P elem = true := by simpa [elemZeroOk, hu] using hz
    refine SR.bind (SR.asInt (h.mono hle)) fun ρ2 n y hle2 hx => ?_
    cases hx
    refine SR.bind (SR.asInt ((g.mono hle).mono hle2)) fun ρ3 m y hle3 hx => ?_
    cases hx
    refine SR.bind (SR.typeInfo elem) fun ρ4 info y hle4 hx => ?_
    cases hx
    dsimp only
    split
    · refine SR.none fun σ => ?_
      split
      · exact vrun_first vrun_panics
      · split
        · exact vrun_first vrun_panics
        · exact vrun_none fun _ _ => vrun_first vrun_panics
    · refine SR.bind (SR.askRoom _) fun ρ5 _ _ _ _ => ?_
      refine SR.bind (SR.sizeOf elem) fun ρ6 sz y _ hx => ?_
      cases hx
      have tail : ∀ (ρ7 : Rho) (z : Array Value) (k : Nat), (∀ ρ', ARel ρ' z z) → SR P w0 B0 ρ7 VRel
          (Go.newRow elem ((Array.range k).map (z[· % z.size]!)) >>= fun a => Pure.pure (Value.slice (some a) (IntKind.i64.wrap n).toNat (IntKind.i64.wrap m).toNat))
          (Go.newRow elem ((Array.range k).map (z[· % z.size]!)) >>= fun a => Pure.pure (Value.slice (some a) (IntKind.i64.wrap n).toNat (IntKind.i64.wrap m).toNat)) :=
        fun ρ7 z k hz => SR.bind (SR.newRowEx (range_map_rel _ (hz ρ7)) elem) fun ρ8 _ _ _ hx => SR.pure fun _ hle => (hx.mono hle).slice _ _
      split
      · exact tail ρ6 #[] _ (fun _ => ARel.nil _)
      · refine SR.bind (SR.zeroValue hz') fun ρ7 z y _ hx => ?_
        obtain ⟨rfl, hz⟩ := hx
        exact tail ρ7 z.cells _ (fun ρ' => (hz ρ').cells)

/-- Bounds of a slice, one behind the other. -/
def sb2 (isSlice : Bool) (len cap : Nat) (low high max : Option Value) : Sem (Nat × Nat × Nat) :=
  (match max with
    | some v => Instr.sliceBound v cap (if isSlice then .slice3Acap else .slice3Alen)
    | none => Pure.pure cap) >>= fun m =>
  (match high, max with
    | some v, some _ => Instr.sliceBound v m .slice3B
    | some v, none => Instr.sliceBound v m (if isSlice then .sliceAcap else .sliceAlen)
    | none, none => Pure.pure len
    | none, some _ => Go.stuck "Slice: max without high") >>= fun h =>
  (match low with
    | some v => Instr.sliceBound v h (if max.isSome then .slice3C else .sliceB)
    | none => Pure.pure 0) >>= fun l => Pure.pure (l, h, m)
theorem sb2_eq (b : Bool) (n c : Nat) (lo hi mx : Option Value) : Instr.sliceBounds b n c lo hi mx = sb2 b n c lo hi mx := by
  unfold Instr.sliceBounds sb2
  cases mx <;> cases hi <;> cases lo <;> rfl
theorem pv_bind {α β : Type} (s : Sem α) (k : α → Sem β) : pv P (s >>= k) = (pv P s).bind fun a => pv P (k a) := by
  show pv P (s.bind k) = _
  induction s with
  | pure a => rfl
  | program f ih => exact ih P
  | mark m f ih => exact ih
  | _ => rfl
/-- Two pieces of code without memory: where the one comes to an end, the other one does. -/
def PR (P : Program) {α β : Type} (A : α → β → Prop) (s : Sem α) (t : Sem β) : Prop := ∀ x, pv P s = some x → ∃ y, pv P t = some y ∧ A x y
theorem PR.pure {α β : Type} {A : α → β → Prop} {x : α} {y : β} (h : A x y) : PR P A (Pure.pure x) (Pure.pure y) := fun z hz => by cases hz; exact ⟨y, rfl, h⟩
theorem PR.bind {α β γ δ : Type} {A : α → β → Prop} {B : γ → δ → Prop} {s : Sem α} {t : Sem β} {k : α → Sem γ} {k' : β → Sem δ} (h : PR P A s t) (hk : ∀ x y, A x y → PR P B (k x) (k' y)) : PR P B (s >>= k) (t >>= k') := by
  intro z hz
  rw [pv_bind] at hz
  cases hs : pv P s with
  | none => rw [hs] at hz; cases hz
  | some x =>
    rw [hs] at hz
    obtain ⟨y, h1, h2⟩ := h x hs
    obtain ⟨u, h3, h4⟩ := hk x y h2 z hz
    exact ⟨u, by rw [pv_bind, h1]; exact h3, h4⟩
theorem PR.weaken {α β : Type} {A B : α → β → Prop} {s : Sem α} {t : Sem β} (h : PR P A s t) (hAB : ∀ x y, A x y → B x y) : PR P B s t := fun z hz => by
  obtain ⟨y, h1, h2⟩ := h z hz; exact ⟨y, h1, hAB _ _ h2⟩
theorem PR.stuck {α β : Type} {A : α → β → Prop} {s : String} {t : Sem β} : PR P A (Go.stuck s) t := fun z hz => by cases hz
theorem pv_panics {α : Type} {e : RuntimeError} : pv P (runtimePanic e : Sem α) = none := by
  unfold runtimePanic
  rw [pv_bind]
  show (Option.bind (some P) _) = none
  simp only [Option.bind_some]
  cases e with
  | typeAssertion i c a m => rw [pv_bind]; cases pv P (elemOf P.rt.typeAssertionError) <;> rfl
  | panicNil => rw [pv_bind]; cases pv P (elemOf P.rt.panicNilError) <;> rfl
  | _ => rfl
theorem PR.bounds {α β : Type} {A : α → β → Prop} {k : IntKind} {x y : Int} {c : BoundsCode} {t : Sem β} : PR P A (boundsPanic k x y c : Sem α) t := by
  intro z hz
  unfold boundsPanic at hz
  dsimp only at hz
  split at hz
  · rw [pv_bind] at hz; cases hz
  · rw [pv_bind] at hz
    simp only [Pure.pure, pv, Option.bind_some, pv_panics] at hz
    cases hz
theorem PR.asIntOf {v v' : Value} (h : VRel ρ v v') : PR P Eq (asIntOf v) (asIntOf v') := by
  cases h <;> unfold Go.asIntOf <;> first | exact PR.pure rfl | exact PR.stuck | exact fun z hz => by cases hz
/-- Bounds of a slice: with a greater capacity in the real machine. -/
theorem PR.sliceBound {v v' : Value} (h : VRel ρ v v') {y y' : Nat} (hy : y ≤ y') (c c' : BoundsCode) : PR P (fun a b => a = b ∧ a ≤ y) (Instr.sliceBound v y c) (Instr.sliceBound v' y' c') := by
  unfold Instr.sliceBound
  refine PR.bind (PR.asIntOf h) fun x y hx => ?_
  cases hx
  obtain ⟨k, i⟩ := x
  dsimp only
  split
  · rename_i hi
    rw [if_pos (by omega)]
    exact PR.pure ⟨rfl, by omega⟩
  · exact PR.bounds
def ORel (ρ : Rho) (v v' : Option Value) : Prop :=
  match v, v' with
  | none, none => True
  | some v, some v' => VRel ρ v v'
  | _, _ => False
/-- l and h are the same; m is the same too, or it is the capacity on both sides. -/
theorem PR.sliceBounds {lo lo' hi hi' mx mx' : Option Value} (h1 : ORel ρ lo lo') (h2 : ORel ρ hi hi') (h3 : ORel ρ mx mx') (b : Bool) {n c c' : Nat} (hc : c ≤ c') :
    PR P (fun x y => x.1 = y.1 ∧ x.2.1 = y.2.1 ∧ (x.2.2 = y.2.2 ∨ (x.2.2 = c ∧ y.2.2 = c')) ∧ x.2.2 ≤ c ∧ x.1 ≤ x.2.1 ∧ (x.2.1 = n ∨ x.2.1 ≤ x.2.2)) (Instr.sliceBounds b n c lo hi mx) (Instr.sliceBounds b n c' lo' hi' mx') := by
  rw [sb2_eq, sb2_eq]
  unfold sb2
  refine PR.bind (A := fun (x y : Nat) => (x = y ∨ (x = c ∧ y = c')) ∧ x ≤ c ∧ (mx.isSome = true → x = y)) ?_ fun m m' hm => ?_
  · cases mx with
    | none => cases mx' with
      | none => exact PR.pure ⟨.inr ⟨rfl, rfl⟩, Nat.le_refl _, fun h => by simp at h⟩
      | some v => exact h3.elim
    | some v => cases mx' with
      | none => exact h3.elim
      | some v' => exact (PR.sliceBound h3 hc _ _).weaken fun x y h => ⟨.inl h.1, h.2, fun _ => h.1⟩
  obtain ⟨hm1, hm2, hm3⟩ := hm
  have hmm : m ≤ m' := by rcases hm1 with rfl | ⟨rfl, rfl⟩ <;> omega
  refine PR.bind (A := fun (x y : Nat) => x = y ∧ (x = n ∨ x ≤ m)) ?_ fun h h' hh => ?_
  · cases hi with
    | none => cases hi' with
      | none => cases mx with
        | none => cases mx' with
          | none => exact PR.pure ⟨rfl, .inl rfl⟩
          | some v => exact h3.elim
        | some v => exact PR.stuck
      | some v => exact h2.elim
    | some v => cases hi' with
      | none => exact h2.elim
      | some v' => cases mx with
        | none => cases mx' with
          | none => exact (PR.sliceBound h2 hmm _ _).weaken fun x y h => ⟨h.1, .inr h.2⟩
          | some v => exact h3.elim
        | some u => cases mx' with
          | none => exact h3.elim
          | some u' => exact (PR.sliceBound h2 hmm _ _).weaken fun x y h => ⟨h.1, .inr h.2⟩
  obtain ⟨rfl, hh2⟩ := hh
  refine PR.bind (A := fun (x y : Nat) => x = y ∧ x ≤ h) ?_ fun l l' hl => ?_
  · cases lo with
    | none => cases lo' with
      | none => exact PR.pure ⟨rfl, Nat.zero_le _⟩
      | some v => exact h1.elim
    | some v => cases lo' with
      | none => exact h1.elim
      | some v' => exact PR.sliceBound h1 (Nat.le_refl _) _ _
  obtain ⟨rfl, hl2⟩ := hl
  exact PR.pure ⟨rfl, rfl, hm1, hm2, hl2, hh2⟩
end
end Vm
end Go.Proofs.YtmapjahpjolmnaaDoor
namespace Go.Proofs.YtmapjahpjolmnaaDoor
namespace Vm
set_option linter.unusedSimpArgs false
set_option linter.unusedVariables false
open Go.RowKit

section
variable {P : Program}
theorem pv_underlying {t : TypeId} {d : TypeDesc} (h : P.underlying t = some d) : pv P (underlying t) = some d := by
  unfold underlying
  rw [pv_bind]
  show pv P (match P.underlying t with | some d => pure d | none => stuck "no such type") = some d
  rw [h]; rfl
theorem pv_typeInfo {t : TypeId} {i : TypeInfo} (h : P.info? t = some i) : pv P (typeInfo t) = some i := by
  unfold typeInfo
  rw [pv_bind]
  show pv P (match P.info? t with | some d => pure d | none => stuck "no such type") = some i
  rw [h]; rfl
theorem pv_sizeOf {t : TypeId} {i : TypeInfo} (h : P.info? t = some i) : pv P (sizeOf t) = some i.size := by
  unfold sizeOf
  rw [pv_bind, pv_typeInfo h]; rfl

def vslice (P : Program) (σ : VHeap) (t : TypeId) (x : Value) (lo hi mx : Option Value) : Option Value :=
  match P.underlying t, x with
  | some (.slice elem), .slice (some a) n c =>
    match P.info? elem, pv P (Instr.sliceBounds true n c lo hi mx), a.spot, σ[a.block]? with
    | some info, some (l, h, m), none, some (.cells b) =>
      match b.fl with
      | .ex => some (.slice (some (if m = l then a else a.add (l * info.size))) (h - l) (m - l))
      | .dead => none
      | fl =>
        if l < m then (if fl = .ro ∨ b.esz = info.size then some (.slice (some (a.add (l * info.size))) (h - l) (m - l)) else none)
        else if h = l then some (.slice (some ⟨a.block, a.off, some 0⟩) 0 0) else none
    | some _, some (_, _, _), some 0, _ => some (.slice (some a) 0 0)
    | _, _, _, _ => none
  | some (.array n elem), .pointer (some a) =>
    match P.info? elem, pv P (Instr.sliceBounds false n n lo hi mx), σ[a.block]? with
    | some info, some (l, h, m), some (.cells b) => if b.fl = .ex ∨ b.fl = .ro then some (.slice (some (if m = l then a else a.add (l * info.size))) (h - l) (m - l)) else none
    | _, _, _ => none
  | some (.pointer arr), .pointer (some a) =>
    match P.underlying arr with
    | some (.array n elem) =>
      match P.info? elem, pv P (Instr.sliceBounds false n n lo hi mx), σ[a.block]? with
      | some info, some (l, h, m), some (.cells b) => if b.fl = .ex ∨ b.fl = .ro then some (.slice (some (if m = l then a else a.add (l * info.size))) (h - l) (m - l)) else none
      | _, _, _ => none
    | _ => none
  | _, _ => none
theorem pv_slice_slice {t elem : TypeId} {info : TypeInfo} {a : Addr} {n c l h m : Nat} {lo hi mx : Option Value} (hu : P.underlying t = some (.slice elem)) (hi' : P.info? elem = some info)
    (hb : pv P (Instr.sliceBounds true n c lo hi mx) = some (l, h, m)) :
    pv P (Instr.sliceAt t (.slice (some a) n c) lo hi mx) = some (.slice (some (if m = l then a else a.add (l * info.size))) (h - l) (m - l)) := by
  unfold Instr.sliceAt
  rw [pv_bind, pv_underlying hu]
  simp only [Option.bind_some]
  unfold Instr.slice
  rw [pv_bind, pv_underlying hu]
  simp only [Option.bind_some]
  rw [pv_bind, hb]
  simp only [Option.bind_some]
  rw [pv_bind, pv_sizeOf hi']
  simp only [Option.bind_some]
  split <;> rfl
theorem pv_slice_array {t elem : TypeId} {info : TypeInfo} {a : Addr} {n l h m : Nat} {lo hi mx : Option Value} (hu : P.underlying t = some (.array n elem)) (hi' : P.info? elem = some info)
    (hb : pv P (Instr.sliceBounds false n n lo hi mx) = some (l, h, m)) :
    pv P (Instr.sliceAt t (.pointer (some a)) lo hi mx) = some (.slice (some (if m = l then a else a.add (l * info.size))) (h - l) (m - l)) := by
  unfold Instr.sliceAt
  rw [pv_bind, pv_underlying hu]
  simp only [Option.bind_some]
  rw [show Instr.sureAddr (.pointer (some a)) = (pure a : Sem Addr) from rfl, pv_bind]
  simp only [Pure.pure, pv, Option.bind_some]
  rw [pv_bind, hb]
  simp only [Option.bind_some]
  rw [pv_bind, pv_sizeOf hi']
  rfl
theorem pv_slice_ptr {t arr elem : TypeId} {info : TypeInfo} {a : Addr} {n l h m : Nat} {lo hi mx : Option Value} (hu : P.underlying t = some (.pointer arr)) (hu2 : P.underlying arr = some (.array n elem)) (hi' : P.info? elem = some info)
    (hb : pv P (Instr.sliceBounds false n n lo hi mx) = some (l, h, m)) :
    pv P (Instr.sliceAt t (.pointer (some a)) lo hi mx) = some (.slice (some (if m = l then a else a.add (l * info.size))) (h - l) (m - l)) := by
  unfold Instr.sliceAt
  rw [pv_bind, pv_underlying hu]
  simp only [Option.bind_some]
  unfold Instr.slice
  rw [pv_bind, pv_underlying hu]
  simp only [Option.bind_some]
  rw [show asAddr (.pointer (some a)) = (pure a : Sem Addr) from rfl, pv_bind]
  simp only [Pure.pure, pv, Option.bind_some]
  rw [pv_bind, pv_underlying hu2]
  simp only [Option.bind_some]
  rw [pv_bind, hb]
  simp only [Option.bind_some]
  rw [pv_bind, pv_sizeOf hi']
  rfl
variable {w0 w : World} {B0 : Base} {ρ : Rho} {σ : VHeap}
theorem arr_slice {a a' : Addr} {b : Blk} {l h m k : Nat} (hw : WRel ρ σ w0 w B0) (hp : PRel ρ a a') (hb : σ[a.block]? = some (.cells b)) (hf : b.fl = .ex ∨ b.fl = .ro) :
    VRel ρ (.slice (some (if m = l then a else a.add k)) h (m - l)) (.slice (some (if m = l then a' else a'.add k)) h (m - l)) := by
  obtain ⟨i, h1, h2, rfl⟩ := hp
  obtain ⟨bl, o, sp⟩ := a
  simp only at h1 h2 hb
  subst h2
  obtain ⟨i', cs, fz, hi, hr⟩ := hw.blk bl b hb (by rcases hf with e | e <;> rw [e] <;> decide)
  obtain rfl : i = i' := by rw [h1] at hi; exact Option.some.inj hi
  have hc : ∀ off c, CapOk i off c c := by
    intro off c
    rcases hf with e | e
    · simp [CapOk, (hr.ex e).1]
    · simp [CapOk, (hr.ro e).2.1]
  split
  · exact .slice h1 (hc _ _)
  · rw [add_none, add_none, Nat.add_assoc]
    exact .slice h1 (hc _ _)
theorem vslice_ok {t : TypeId} {x x' v : Value} {lo lo' hi hi' mx mx' : Option Value} (hw : WRel ρ σ w0 w B0) (hx : VRel ρ x x') (h1 : ORel ρ lo lo') (h2 : ORel ρ hi hi') (h3 : ORel ρ mx mx')
    (hv : vslice P σ t x lo hi mx = some v) : ∃ v', pv P (Instr.sliceAt t x' lo' hi' mx') = some v' ∧ VRel ρ v v' := by
  unfold vslice at hv
  cases hu : P.underlying t with
  | none => simp [hu] at hv
  | some d =>
    cases hx with
    | @slice id off n c c' i hi0 hc =>
      cases d <;> first | (simp [hu] at hv; done) | skip
      case slice elem =>
        simp only [hu] at hv
        cases hinf : P.info? elem with
        | none => simp [hinf] at hv
        | some info =>
          cases hb : pv P (Instr.sliceBounds true n c lo hi mx) with
          | none => simp [hinf, hb] at hv
          | some lhm =>
            obtain ⟨l, h, m⟩ := lhm
            have hcc : c ≤ c' := by
              unfold CapOk at hc
              split at hc
              · omega
              · exact hc.1
              · exact hc
            obtain ⟨⟨l', h', m'⟩, hb', e1, e2, e3, e4, e5, e6⟩ := PR.sliceBounds (P := P) h1 h2 h3 true (n := n) hcc _ hb
            simp only at e1 e2 e3 e4 e5 e6
            subst e1
            subst e2
            have hrun := pv_slice_slice (a := ⟨i.b, i.o + off, none⟩) hu hinf hb'
            refine ⟨_, hrun, ?_⟩
            simp only [hinf, hb] at hv
            cases hg : σ[id]? with
            | none => simp [hg] at hv
            | some o =>
              cases o with
              | map es cl => simp [hg] at hv
              | iter s p => simp [hg] at hv
              | rmap es cl => simp [hg] at hv
              | cells b =>
                simp only [hg] at hv
                by_cases hd : b.fl = .dead
                · simp [hd] at hv
                obtain ⟨i', cs, fz, hi1, hr⟩ := hw.blk id b hg hd
                obtain rfl : i = i' := by rw [hi0] at hi1; exact Option.some.inj hi1
                have step : ∀ {v}, (if l < m then (if b.fl = .ro ∨ b.esz = info.size then some (Value.slice (some ((⟨id, off, none⟩ : Addr).add (l * info.size))) (h - l) (m - l)) else none)
                    else if h = l then some (.slice (some ⟨id, off, some 0⟩) 0 0) else none) = some v → b.fl ≠ .ex →
                    VRel ρ v (.slice (some (if m' = l then (⟨i.b, i.o + off, none⟩ : Addr) else (⟨i.b, i.o + off, none⟩ : Addr).add (l * info.size))) (h - l) (m' - l)) := by
                  intro v hv hex
                  by_cases hlm : l < m
                  · rw [if_pos hlm] at hv
                    split at hv
                    case isFalse => cases hv
                    rename_i hes
                    cases hv
                    have hmm : m ≤ m' ∧ m' ≤ c' := by rcases e3 with rfl | ⟨rfl, rfl⟩ <;> omega
                    rw [if_neg (by omega), add_none, add_none, Nat.add_assoc]
                    refine .slice hi0 ?_
                    cases hfl : b.fl with
                    | dead => exact absurd hfl hd
                    | ex => exact absurd hfl hex
                    | ro =>
                      have := (hr.ro hfl).2.1
                      simp only [CapOk, this]
                      omega
                    | tip | old =>
                      have hk := hr.gr (by simp [hfl])
                      have hes' : b.esz = info.size := by rcases hes with e | e; exact absurd e (by rw [hfl]; decide); exact e
                      simp only [CapOk, hk.1] at hc ⊢
                      refine ⟨by omega, ?_⟩
                      have hbd := hc.2
                      rw [hk.2, hes'] at hbd ⊢
                      have e : l * info.size + (m' - l) * info.size = m' * info.size := by rw [← Nat.add_mul, Nat.add_sub_cancel' (by omega)]
                      have e' : m' * info.size ≤ c' * info.size := Nat.mul_le_mul_right _ (by omega)
                      omega
                  · rw [if_neg hlm] at hv
                    split at hv
                    case isFalse => cases hv
                    rename_i hhl
                    cases hv
                    subst hhl
                    rw [Nat.sub_self]
                    exact .sliceOff _ _ _ _
                cases hfl : b.fl with
                | dead => exact absurd hfl hd
                | ex =>
                  simp only [hfl] at hv
                  cases hv
                  have hk := hr.ex hfl
                  simp only [CapOk, hk.1] at hc
                  subst hc
                  obtain rfl : m = m' := by rcases e3 with e | ⟨e, e'⟩ <;> omega
                  exact arr_slice hw ⟨i, hi0, rfl, rfl⟩ hg (.inl hfl)
                | ro => simp only [hfl] at hv; exact step (by rw [hfl]; exact hv) (by rw [hfl]; decide)
                | tip => simp only [hfl] at hv; exact step (by rw [hfl]; exact hv) (by rw [hfl]; decide)
                | old => simp only [hfl] at hv; exact step (by rw [hfl]; exact hv) (by rw [hfl]; decide)
    | sliceOff id off a c' =>
      cases d <;> first | (simp [hu] at hv; done) | skip
      case slice elem =>
        simp only [hu] at hv
        cases hinf : P.info? elem with
        | none => simp [hinf] at hv
        | some info =>
          cases hb : pv P (Instr.sliceBounds true 0 0 lo hi mx) with
          | none => simp [hinf, hb] at hv
          | some lhm =>
            obtain ⟨l, h, m⟩ := lhm
            obtain ⟨⟨l', h', m'⟩, hb', e1, e2, e3, e4, e5, e6⟩ := PR.sliceBounds (P := P) h1 h2 h3 true (n := 0) (Nat.zero_le c') _ hb
            simp only at e1 e2 e3 e4 e5 e6
            subst e1
            subst e2
            simp only [hinf, hb] at hv
            cases hv
            refine ⟨_, pv_slice_slice hu hinf hb', ?_⟩
            have : h = 0 := by omega
            subst this
            rw [Nat.zero_sub]
            exact .sliceOff _ _ _ _
    | @ptr id off i hi0 =>
      cases d <;> first | (simp [hu] at hv; done) | skip
      case array n elem =>
        simp only [hu] at hv
        cases hinf : P.info? elem with
        | none => simp [hinf] at hv
        | some info =>
          cases hb : pv P (Instr.sliceBounds false n n lo hi mx) with
          | none => simp [hinf, hb] at hv
          | some lhm =>
            obtain ⟨l, h, m⟩ := lhm
            obtain ⟨⟨l', h', m'⟩, hb', e1, e2, e3, e4, e5, e6⟩ := PR.sliceBounds (P := P) h1 h2 h3 false (n := n) (Nat.le_refl n) _ hb
            simp only at e1 e2 e3 e4 e5 e6
            subst e1
            subst e2
            obtain rfl : m = m' := by rcases e3 with e | ⟨e, e'⟩ <;> omega
            simp only [hinf, hb] at hv
            cases hg : σ[id]? with
            | none => simp [hg] at hv
            | some o =>
              cases o with
              | map es cl => simp [hg] at hv
              | iter s p => simp [hg] at hv
              | rmap es cl => simp [hg] at hv
              | cells b =>
                simp only [hg] at hv
                split at hv
                case isFalse => cases hv
                rename_i hf
                cases hv
                exact ⟨_, pv_slice_array hu hinf hb', arr_slice hw ⟨i, hi0, rfl, rfl⟩ hg hf⟩
      case pointer arr =>
        simp only [hu] at hv
        cases hu2 : P.underlying arr with
        | none => simp [hu2] at hv
        | some d2 =>
          cases d2 <;> first | (simp [hu2] at hv; done) | skip
          case array n elem =>
            simp only [hu2] at hv
            cases hinf : P.info? elem with
            | none => simp [hinf] at hv
            | some info =>
              cases hb : pv P (Instr.sliceBounds false n n lo hi mx) with
              | none => simp [hinf, hb] at hv
              | some lhm =>
                obtain ⟨l, h, m⟩ := lhm
                obtain ⟨⟨l', h', m'⟩, hb', e1, e2, e3, e4, e5, e6⟩ := PR.sliceBounds (P := P) h1 h2 h3 false (n := n) (Nat.le_refl n) _ hb
                simp only at e1 e2 e3 e4 e5 e6
                subst e1
                subst e2
                obtain rfl : m = m' := by rcases e3 with e | ⟨e, e'⟩ <;> omega
                simp only [hinf, hb] at hv
                cases hg : σ[id]? with
                | none => simp [hg] at hv
                | some o =>
                  cases o with
                  | map es cl => simp [hg] at hv
                  | iter s p => simp [hg] at hv
                  | rmap es cl => simp [hg] at hv
                  | cells b =>
                    simp only [hg] at hv
                    split at hv
                    case isFalse => cases hv
                    rename_i hf
                    cases hv
                    exact ⟨_, pv_slice_ptr hu hu2 hinf hb', arr_slice hw ⟨i, hi0, rfl, rfl⟩ hg hf⟩
    | _ => cases d <;> simp [hu] at hv
end
end Vm
end Go.Proofs.YtmapjahpjolmnaaDoor
