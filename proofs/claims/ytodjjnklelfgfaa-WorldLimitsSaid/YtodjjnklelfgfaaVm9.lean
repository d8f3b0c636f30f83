/- Instructions that obey the relation: entries, delete, clear, copy, what is compared with nil, make, pure operations. -/
import Derived.Test.YtodjjnklelfgfaaVm8
import Derived.Orders
namespace Go.Proofs.Ytodjjnklelfgfaa
namespace Vm
set_option linter.unusedSimpArgs false
set_option linter.unusedVariables false
open Go.RowKit

section
variable {P : Program} {w0 w : World} {B0 : Base} {ρ : Rho} {σ : VHeap}
theorem basic_of {t key elem : TypeId} (hb : basicKey P t = true) (hu : P.underlying t = some (.map key elem)) : ∃ d, P.underlying key = some d ∧ basicT d = true := by
  simp only [basicKey, hu] at hb
  cases hd : P.underlying key with
  | none => simp [hd] at hb
  | some d => exact ⟨d, rfl, by simpa [hd] using hb⟩
theorem tuple2 {a a' b b' : Value} (h : VRel ρ a a') (g : VRel ρ b b') : VRel ρ (.tuple #[a, b]) (.tuple #[a', b']) := by
  refine .tuple rfl fun k hk hk' => ?_
  match k, hk with
  | 0, _ => exact h
  | 1, _ => exact g
theorem SR.mapEntry {t : TypeId} {m m' k : Value} (hb : basicKey P t = true) (hz : elemZeroOk P t = true) (hk : cleanC k = true) (h : VRel ρ m m') :
    SR P w0 B0 ρ VRel (Instr.mapEntry t m k) (Instr.mapEntry t m' k) := by
  unfold Instr.mapEntry
  refine SR.bind (SR.underlyingK t) fun ρ1 x y hle hx => ?_
  obtain ⟨rfl, hu⟩ := hx
  cases x <;> first | exact SR.stuck | skip
  case map key elem =>
    obtain ⟨d, hd, hbd⟩ := basic_of hb hu
    have hz' : zeroOk P elem = true := by simpa [elemZeroOk, hu] using hz
    replace h := h.mono hle
    cases h with
    | mapNil => exact SR.panics
    | map hi =>
      refine SR.getMap hi (fun ρ2 es fs c hle2 he => ?_) (fun _ _ _ => rfl)
      refine SR.bind (SR.checkKey hd hbd _ _ 9999 k k) fun ρ3 _ _ hle3 _ => SR.bind (SR.findKey hd hbd hk (he.mono hle3)) fun ρ4 x y hle4 hf => ?_
      replace he := (he.mono hle3).mono hle4
      have hi' := (Rho.le_trans (Rho.le_trans hle2 hle3) hle4) _ _ hi
      cases x with
      | none => cases y with
        | none =>
          refine SR.bind (SR.zeroValue hz') fun ρ5 z z' hle5 hz => ?_
          obtain ⟨rfl, hz⟩ := hz
          exact SR.bind (SR.setMap (hle5 _ _ hi') ((he.mono hle5).push hk (hz _) c)) fun ρ6 _ _ _ _ => SR.pure fun ρ7 _ => tuple2 (hz _) (.int _ _)
        | some q => exact hf.elim
      | some p => cases y with
        | none => exact hf.elim
        | some q =>
          obtain ⟨i, u⟩ := p
          obtain ⟨j, u'⟩ := q
          obtain ⟨rfl, hv⟩ := hf
          dsimp only
          have hbn : (es[i]?).map (fun x => (x.born : Int)) = (fs[i]?).map (fun x => (x.born : Int)) := by
            have := congrArg (Option.map (fun n : Nat => (n : Int))) (he.born i)
            simpa [Option.map_map, Function.comp_def] using this
          rw [he.key i, hbn]
          refine SR.bind SR.keyStays fun ρ5 x y hle5 hx => ?_
          obtain ⟨rfl, rfl⟩ := hx
          refine SR.bind (SR.setMap (hle5 _ _ hi') ((he.mono hle5).modify i _ _ fun e e' hee => ⟨rfl, hk, hee.2.2.1, hee.2.2.2⟩)) fun ρ6 _ _ hle6 _ => SR.pure fun ρ7 hle7 => tuple2 (((hv.mono hle5).mono hle6).mono hle7) (.int _ _)
    | _ => exact SR.stuck
theorem findIdx_born {es fs : List MapEntry} (h : All2 (EnRel ρ) es fs) (n : Int) : es.findIdx? (fun e => (e.born : Int) == n) = fs.findIdx? (fun e => (e.born : Int) == n) := by
  induction h with
  | nil => rfl
  | cons he _ ih => simp only [List.findIdx?_cons, he.2.2.2, ih]
theorem SR.entryStore {t : TypeId} {m m' s s' v v' : Value} (h : VRel ρ m m') (hs : VRel ρ s s') (hv : VRel ρ v v') :
    SR P w0 B0 ρ TrueR (Instr.entryStore t m s v) (Instr.entryStore t m' s' v') := by
  unfold Instr.entryStore
  cases h with
  | map hi =>
    refine SR.getMap hi (fun ρ2 es fs c hle2 he => ?_) (fun _ _ _ => rfl)
    refine SR.bind (SR.asInt (hs.mono hle2)) fun ρ3 x y hle3 hx => ?_
    cases hx
    replace he := he.mono hle3
    have e1 : es.findIdx? (fun e => (e.born : Int) == x) = fs.findIdx? (fun e => (e.born : Int) == x) := by
      have h1 : ∀ (l : Array MapEntry), l.findIdx? (fun e => (e.born : Int) == x) = l.toList.findIdx? (fun e => (e.born : Int) == x) := fun l => by cases l; simp
      rw [h1, h1]
      exact findIdx_born he.list x
    rw [e1]
    cases fs.findIdx? (fun e => (e.born : Int) == x) with
    | none => exact SR.unsupported
    | some i => exact SR.setMap (hle3 _ _ (hle2 _ _ hi)) (he.modify i _ _ fun e e' hee => ⟨hee.1, hee.2.1, (hv.mono hle2).mono hle3, hee.2.2.2⟩)
  | _ => exact SR.stuck
theorem ERel.erase {es fs : Array MapEntry} (h : ERel ρ es fs) (i : Nat) : ERel ρ (es.eraseIdxIfInBounds i) (fs.eraseIdxIfInBounds i) := by
  have e1 := h.1
  unfold Array.eraseIdxIfInBounds
  by_cases hi : i < es.size
  · rw [dif_pos hi, dif_pos (e1 ▸ hi)]
    refine ⟨by simp [e1], fun k hk hk' => ?_⟩
    have hk0 : k < es.size - 1 := by simpa using hk
    rw [Array.getElem_eraseIdx, Array.getElem_eraseIdx]
    by_cases hlt : k < i
    · rw [dif_pos hlt, dif_pos hlt]; exact h.2 k _ _
    · rw [dif_neg hlt, dif_neg hlt]; exact h.2 (k + 1) _ _
  · rw [dif_neg hi, dif_neg (e1 ▸ hi)]; exact h
theorem SR.delete {ts : Array TypeId} {t : TypeId} {m m' k : Value} (hb : ∀ mt, ts[0]? = some mt → basicKey P mt = true) (hk : cleanC k = true) (h : VRel ρ m m') :
    SR P w0 B0 ρ VRel (Builtin.delete_ ts t #[m, k]) (Builtin.delete_ ts t #[m', k]) := by
  unfold Builtin.delete_
  simp only [List.getElem?_toArray, List.getElem?_cons_zero, List.getElem?_cons_succ]
  cases ht : ts[0]? with
  | none => exact SR.stuck
  | some mt =>
    refine SR.bind (SR.underlyingK mt) fun ρ1 x y hle hx => ?_
    obtain ⟨rfl, hu⟩ := hx
    cases x <;> first | exact SR.stuck | skip
    case map key elem =>
      obtain ⟨d, hd, hbd⟩ := basic_of (hb mt ht) hu
      have fin : ∀ (ρ2 : Rho), SR P w0 B0 ρ2 VRel (Pure.pure (.tuple #[]) : Sem Value) (Pure.pure (.tuple #[])) := fun ρ2 => SR.pure fun _ _ => .tuple rfl fun k hk => by simp at hk
      replace h := h.mono hle
      cases h with
      | mapNil => exact SR.bind (SR.checkKey hd hbd _ _ 9999 k k) fun ρ2 _ _ _ _ => fin ρ2
      | map hi =>
        refine SR.getMap hi (fun ρ2 es fs c hle2 he => ?_) (fun _ _ _ => rfl)
        refine SR.bind (SR.checkKey hd hbd _ _ 9999 k k) fun ρ3 _ _ hle3 _ => SR.bind (SR.findKey hd hbd hk (he.mono hle3)) fun ρ4 x y hle4 hf => ?_
        replace he := (he.mono hle3).mono hle4
        have hi' := (Rho.le_trans (Rho.le_trans hle2 hle3) hle4) _ _ hi
        cases x with
        | none => cases y with
          | none => exact SR.bind (SR.setMap hi' he) fun ρ5 _ _ _ _ => fin ρ5
          | some q => exact hf.elim
        | some p => cases y with
          | none => exact hf.elim
          | some q =>
            obtain ⟨i, u⟩ := p
            obtain ⟨j, u'⟩ := q
            obtain ⟨rfl, _⟩ := hf
            exact SR.bind (SR.setMap hi' (he.erase i)) fun ρ5 _ _ _ _ => fin ρ5
      | _ => exact SR.none fun _ => rfl
theorem SR.firstCells {v v' : Value} (h : VRel ρ v v') (size n : Nat) : SR P w0 B0 ρ ARel (Builtin.firstCells size n v) (Builtin.firstCells size n v') := by
  unfold Builtin.firstCells
  cases h with
  | slice hi hc => exact SR.loadCells ⟨_, hi, rfl, rfl⟩ _
  | sliceNil => exact SR.pure fun _ _ => ARel.nil _
  | sliceOff id off a c' =>
    dsimp only
    cases hn : n * size with
    | zero => exact SR.pure fun _ _ => ARel.nil _
    | succ m =>
      refine SR.none fun σ => ?_
      unfold Go.loadCells Go.loadCellsFrom
      refine (show vrun P (Sem.bind (Go.load _) _) σ = Option.none from ?_)
      rw [vrun_bind]
      have : (⟨id, off, some 0⟩ : Addr).add 0 = ⟨id, off, some 0⟩ := by simp [Addr.add]
      rw [this]
      simp [Go.load, vrun, cell?, andThen]
  | string s =>
    refine SR.pure fun _ _ => ⟨rfl, fun k hk hk' => ?_⟩
    simp only [Array.getElem_map]
    exact .int _ _
  | _ => exact SR.stuck
theorem SR.lenOf {v v' : Value} (h : VRel ρ v v') : SR P w0 B0 ρ EqR (Builtin.lenOf v) (Builtin.lenOf v') := by
  cases h <;> first | exact SR.pure fun _ _ => rfl | exact SR.stuck
theorem SR.copy {ts : Array TypeId} {t : TypeId} {a a' b b' : Value} (h : VRel ρ a a') (g : VRel ρ b b') : SR P w0 B0 ρ VRel (Builtin.copy_ ts t #[a, b]) (Builtin.copy_ ts t #[a', b']) := by
  unfold Builtin.copy_
  simp only [List.getElem?_toArray, List.getElem?_cons_zero, List.getElem?_cons_succ]
  cases ts[0]? with
  | none => exact SR.stuck
  | some mt =>
    refine SR.bind (SR.underlyingK mt) fun ρ1 x y hle hx => ?_
    obtain ⟨rfl, hu⟩ := hx
    cases x <;> first | exact SR.stuck | skip
    case slice elem =>
      replace h := h.mono hle
      replace g := g.mono hle
      have fin : ∀ (ρ2 : Rho) (n : Nat), SR P w0 B0 ρ2 VRel (Pure.pure (goInt n) : Sem Value) (Pure.pure (goInt n)) := fun ρ2 n => SR.pure fun _ _ => .int _ _
      cases h with
      | sliceNil n c =>
        refine SR.bind (SR.lenOf g) fun ρ2 x y hle2 hx => ?_
        cases hx
        refine SR.bind (SR.sizeOf elem) fun ρ3 sz y hle3 hx => ?_
        cases hx
        exact SR.bind (SR.firstCells ((g.mono hle2).mono hle3) _ _) fun ρ4 _ _ _ _ => fin ρ4 _
      | slice hi hc =>
        refine SR.bind (SR.lenOf g) fun ρ2 x y hle2 hx => ?_
        cases hx
        refine SR.bind (SR.sizeOf elem) fun ρ3 sz y hle3 hx => ?_
        cases hx
        refine SR.bind (SR.firstCells ((g.mono hle2).mono hle3) _ _) fun ρ4 x y hle4 hx => ?_
        exact SR.bind (SR.storeCells ⟨_, hle4 _ _ (hle3 _ _ (hle2 _ _ hi)), rfl, rfl⟩ _ _ 0 _ (Rho.le_refl _) hx.toList) fun ρ5 _ _ _ _ => fin ρ5 _
      | sliceOff id off a c' =>
        refine SR.bind (SR.lenOf g) fun ρ2 x y hle2 hx => ?_
        cases hx
        refine SR.bind (SR.sizeOf elem) fun ρ3 sz y hle3 hx => ?_
        cases hx
        have e0 : x.min 0 = 0 := Nat.min_zero x
        rw [e0]
        refine SR.bind (A := fun _ (x y : Array Value) => x = #[] ∧ y = #[]) ?_ fun ρ4 x y hle4 hx => ?_
        · have g' := (g.mono hle2).mono hle3
          cases g' with
          | string s =>
            refine SR.pure fun _ _ => ?_
            have : s.extract 0 0 = ByteArray.empty := by ext <;> simp
            rw [this]
            rw [show ByteArray.empty.data = #[] from rfl]
            exact ⟨by simp, by simp⟩
          | sliceNil => exact SR.pure fun _ _ => ⟨rfl, rfl⟩
          | slice =>
            unfold Builtin.firstCells
            simp only [Nat.zero_mul]
            exact SR.pure fun _ _ => ⟨rfl, rfl⟩
          | sliceOff =>
            unfold Builtin.firstCells
            simp only [Nat.zero_mul]
            exact SR.pure fun _ _ => ⟨rfl, rfl⟩
          | _ => exact SR.stuck
        · obtain ⟨rfl, rfl⟩ := hx
          exact SR.bind (SR.pure (A := TrueR) fun _ _ => trivial) fun ρ5 _ _ _ _ => fin ρ5 _
      | _ => exact SR.stuck
end
end Vm
end Go.Proofs.Ytodjjnklelfgfaa
