/- Instructions that obey the relation: slices made and cut, iterators, lengths, copies. -/
import Derived.Test.YtodjjnklelfgfaaVm5
namespace Go.Proofs.Ytodjjnklelfgfaa
namespace Vm
set_option linter.unusedSimpArgs false
set_option linter.unusedVariables false
open Go.RowKit

section
variable {P : Program} {w0 : World} {B0 : Base} {ρ : Rho}
def PExRel (ρ : Rho) (a a' : Addr) : Prop := ∃ i, ρ a.block = some i ∧ a.spot = none ∧ a' = ⟨i.b, i.o + a.off, none⟩ ∧ i.kind = .ex
theorem PExRel.slice {a a' : Addr} (h : PExRel ρ a a') (n c : Nat) : VRel ρ (.slice (some a) n c) (.slice (some a') n c) := by
  obtain ⟨i, h1, h2, rfl, h4⟩ := h
  obtain ⟨b, o, sp⟩ := a
  simp only at h1 h2
  subst h2
  exact .slice h1 (by simp [CapOk, h4])
theorem PExRel.mono {ρ ρ' : Rho} (hle : ρ.le ρ') {a a' : Addr} (h : PExRel ρ a a') : PExRel ρ' a a' := by
  obtain ⟨i, h1, h2, h3, h4⟩ := h; exact ⟨i, hle _ _ h1, h2, h3, h4⟩
theorem SR.newRowEx {cs cs' : Array Value} (h : ARel ρ cs cs') (t : TypeId) : SR P w0 B0 ρ PExRel (Go.newRow t cs) (Go.newRow t cs') := by
  intro ρ1 σ w x σ' hle hw hr
  unfold Go.newRow at hr ⊢
  rw [show (newObj (.cells cs t) >>= _ : Sem Addr) = Sem.bind (newObj _) _ from rfl, vrun_bind] at hr
  simp only [newObj, vrun, andThen] at hr
  cases hr
  have hn := hw.newCells t (h.mono hle)
  refine ⟨_, ⟨w.heap.size, 0, Option.none⟩, _, Rho.le_more (hw.dom _ (Nat.le_refl _)) _, by simp, ⟨_, Rho.more_self _ _ _, rfl, by simp, rfl⟩, hn⟩
theorem range_map_rel {xs ys : Array Value} (n : Nat) (h : ARel ρ xs ys) : ARel ρ ((Array.range n).map (xs[· % xs.size]!)) ((Array.range n).map (ys[· % ys.size]!)) := by
  refine ⟨by simp, fun k hk hk' => ?_⟩
  simp only [Array.getElem_map, Array.getElem_range]
  rw [← h.1]
  by_cases h0 : k % xs.size < xs.size
  · rw [getElem!_pos xs _ h0, getElem!_pos ys _ (h.1 ▸ h0)]; exact h.2 _ _ _
  · rw [getElem!_neg xs _ h0, getElem!_neg ys _ (h.1 ▸ h0)]; exact .bool _
theorem SR.zeroCells0 {elem : TypeId} (hz : zeroOk P elem = true) (c : Prop) [Decidable c] :
    SR P w0 B0 ρ (fun ρ (x y : Array Value) => x = y ∧ ∀ ρ', ARel ρ' x x) (if c then Pure.pure #[] else do Pure.pure (← Go.zeroValue elem).cells) (if c then Pure.pure #[] else do Pure.pure (← Go.zeroValue elem).cells) := by
  split
  · exact SR.pure fun _ _ => ⟨rfl, fun _ => ARel.nil _⟩
  · exact SR.bind (SR.zeroValue hz) fun ρ1 x y _ hx => by obtain ⟨rfl, hx⟩ := hx; exact SR.pure fun _ _ => ⟨rfl, fun ρ' => (hx ρ').cells⟩
theorem SR.buildSlice {t : TypeId} {n : Nat} {ps qs : Array (Nat × Value)} (hz : elemZeroOk P t = true) (h : PartsRel ρ ps.toList qs.toList) :
    SR P w0 B0 ρ VRel (Instr.buildSlice t n ps) (Instr.buildSlice t n qs) := by
  unfold Instr.buildSlice
  refine SR.bind (A := fun ρ x y => x = y ∧ P.underlying t = some x) ?_ fun ρ1 d y hle hy => ?_
  · intro ρ1 σ w x σ' hle hw hr
    obtain ⟨ρ2, y, w', h1, h2, h3, h4⟩ := SR.underlying (P := P) (w0 := w0) (B0 := B0) (ρ := ρ) t ρ1 σ w x σ' hle hw hr
    refine ⟨ρ2, y, w', h1, h2, ⟨h3, ?_⟩, h4⟩
    unfold Go.underlying at hr
    rw [show (program >>= _ : Sem TypeDesc) = Sem.bind program _ from rfl, vrun_bind] at hr
    simp only [program, vrun, andThen] at hr
    cases hd : P.underlying t with
    | none => rw [hd] at hr; cases hr
    | some d => rw [hd] at hr; cases hr; rfl
  · obtain ⟨rfl, hu⟩ := hy
    cases d with
    | slice elem =>
      have hz' : zeroOk P elem = true := by simpa [elemZeroOk, hu] using hz
      refine SR.bind (SR.sizeOf elem) fun ρ2 size y hle2 hy => ?_
      cases hy
      dsimp only
      split
      · exact SR.none fun _ => rfl
      · have tail : ∀ (ρ3 : Rho) (zero : Array Value), ρ.le ρ3 → (∀ ρ', ARel ρ' zero zero) →
            SR P w0 B0 ρ3 VRel (match Instr.fill (fun i => some (i * size, size)) ((Array.range (n * size)).map (zero[· % zero.size]!)) ps.toList with | some cells => do Pure.pure (Value.slice (some (← Go.newRow elem cells)) n n) | _ => Go.stuck "buildSlice: a part of the wrong size")
              (match Instr.fill (fun i => some (i * size, size)) ((Array.range (n * size)).map (zero[· % zero.size]!)) qs.toList with | some cells => do Pure.pure (Value.slice (some (← Go.newRow elem cells)) n n) | _ => Go.stuck "buildSlice: a part of the wrong size") := by
          intro ρ3 zero hle3 hzero
          cases ho : Instr.fill (fun i => some (i * size, size)) ((Array.range (n * size)).map (zero[· % zero.size]!)) ps.toList with
          | none => exact SR.stuck
          | some out =>
            obtain ⟨out', h3, h4⟩ := fill_rel _ _ _ _ _ (h.mono hle3) (range_map_rel _ (hzero ρ3)) out ho
            rw [h3]
            exact SR.bind (SR.newRowEx h4 elem) fun ρ4 _ _ hle4 hx => SR.pure fun _ hle5 => (hx.mono hle5).slice _ _
        split
        · exact tail ρ2 #[] (Rho.le_trans hle hle2) (fun _ => ARel.nil _)
        · exact SR.bind (SR.zeroValue hz') fun ρ3 z y hle3 hz => by
            obtain ⟨rfl, hz⟩ := hz
            exact tail ρ3 z.cells (Rho.le_trans (Rho.le_trans hle hle2) hle3) (fun ρ' => (hz ρ').cells)
    | _ => exact SR.stuck
theorem SR.range {v v' : Value} (h : VRel ρ v v') (hs : ∃ s, v = .string s) (t : TypeId) : SR P w0 B0 ρ VRel (Instr.range t v) (Instr.range t v') := by
  obtain ⟨s, rfl⟩ := hs
  cases h
  unfold Instr.range
  refine SR.bind (SR.underlying t) fun ρ1 x y hle hx => ?_
  cases hx
  cases x with
  | string =>
    intro ρ2 σ w x σ' hle hw hr
    cases hr
    exact ⟨_, .pointer (some ⟨w.heap.size, 0, Option.none⟩), _, Rho.le_more (hw.dom _ (Nat.le_refl _)) _, by simp, PRel.vrel ⟨_, Rho.more_self _ _ _, rfl, rfl⟩, hw.newIter s 0⟩
  | _ => exact SR.none fun _ => rfl
theorem SR.len {v v' : Value} (h : VRel ρ v v') (ts : Array TypeId) (t : TypeId) (hc : ∀ r, v ≠ .chan r) : SR P w0 B0 ρ VRel (Builtin.len_ ts t #[v]) (Builtin.len_ ts t #[v']) := by
  unfold Builtin.len_
  simp only [List.getElem?_toArray, List.getElem?_cons_zero]
  cases ts[0]? with
  | none => exact SR.stuck
  | some t0 =>
    refine SR.bind (SR.underlying t0) fun ρ1 x y hle hx => ?_
    cases hx
    replace h := h.mono hle
    cases x with
    | array n e => exact SR.pure fun _ _ => .int _ _
    | pointer arr =>
      refine SR.bind (SR.underlying arr) fun ρ2 x y hle hx => ?_
      cases hx
      cases x with
      | array n e => exact SR.pure fun _ _ => .int _ _
      | _ => exact SR.stuck
    | string => cases h <;> first | exact SR.stuck | exact SR.pure fun _ _ => .int _ _
    | slice e => cases h <;> first | exact SR.stuck | exact SR.pure fun _ _ => .int _ _
    | map k e =>
      cases h <;> first | exact SR.stuck | exact SR.pure fun _ _ => .int _ _ | skip
      case map id i hi =>
        intro ρ2 σ w x σ' hle hw hr
        dsimp only at hr ⊢
        rw [show ((getObj id : Sem Obj) >>= _ : Sem Value) = Sem.bind _ _ from rfl, vrun_bind] at hr
        simp only [getObj, vrun, andThen] at hr
        cases hg : σ[id]? with
        | none => simp [hg] at hr
        | some o =>
          cases o with
          | cells b => simp [hg] at hr
          | iter s p => simp only [hg, vrun, stuck] at hr; cases hr
          | rmap es c =>
            simp only [hg, vrun] at hr
            cases hr
            obtain ⟨i', fs, h1, h2, h3, h4, h5⟩ := hw.rmap id es c hg
            obtain rfl : i = i' := by rw [hle _ _ hi] at h1; exact Option.some.inj h1
            refine ⟨ρ2, _, w, Rho.le_refl _, ?_, (by rw [h5.1]; exact .int _ _ : VRel ρ2 (goInt es.size) (goInt fs.size)), hw⟩
            simp only [getObj]
            rw [show ((Sem.getObj i.b Sem.pure : Sem Obj) >>= _ : Sem Value) = Sem.bind _ _ from rfl]
            simp only [Sem.bind, Sem.run, h4]
            rfl
          | map es c =>
            simp only [hg, vrun] at hr
            cases hr
            obtain ⟨i', fs, h1, h2, h3, h4, h5⟩ := hw.map id es c hg
            obtain rfl : i = i' := by rw [hle _ _ hi] at h1; exact Option.some.inj h1
            refine ⟨ρ2, _, w, Rho.le_refl _, ?_, (by rw [h5.1]; exact .int _ _ : VRel ρ2 (goInt es.size) (goInt fs.size)), hw⟩
            simp only [getObj]
            rw [show ((Sem.getObj i.b Sem.pure : Sem Obj) >>= _ : Sem Value) = Sem.bind _ _ from rfl]
            simp only [Sem.bind, Sem.run, h4]
            rfl
    | _ => cases h <;> first | exact SR.stuck | exact absurd rfl (hc _)
end
end Vm
end Go.Proofs.Ytodjjnklelfgfaa
