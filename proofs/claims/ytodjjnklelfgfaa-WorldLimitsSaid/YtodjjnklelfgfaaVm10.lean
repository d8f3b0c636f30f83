/- Instructions that obey the relation: clear, make, slices of slices; what touches no memory. -/
import Derived.Test.YtodjjnklelfgfaaVm9
namespace Go.Proofs.Ytodjjnklelfgfaa
namespace Vm
set_option linter.unusedSimpArgs false
set_option linter.unusedVariables false
open Go.RowKit

/-- What a piece of the machine's code comes to without memory. -/
def pv {α : Type} (P : Program) : Sem α → Option α
  | .pure a => some a
  | .program k => pv P (k P)
  | .mark _ k => pv P k
  | _ => none
theorem pv_run {α : Type} {P : Program} : ∀ {s : Sem α} {a : α}, pv P s = some a → ∀ w, s.run P w = .ok a w
  | .pure b, a, h, w => by cases h; rfl
  | .program k, a, h, w => pv_run (s := k P) h w
  | .mark m k, a, h, w => pv_run (s := k) h w
  | .load .., _, h, _ | .store .., _, h, _ | .new .., _, h, _ | .shape .., _, h, _ | .freeze .., _, h, _ | .frozen .., _, h, _ | .getObj .., _, h, _ | .setObj .., _, h, _
  | .choose .., _, h, _ | .sys .., _, h, _ | .halt .., _, h, _ => by cases h

theorem vrun_first {α β : Type} {P : Program} {s : Sem α} {k : α → Sem β} {σ : VHeap} (h : vrun P s σ = none) : vrun P (s >>= k) σ = none := by
  rw [show s >>= k = s.bind k from rfl, vrun_bind, h]; rfl

section
variable {P : Program} {w0 w : World} {B0 : Base} {ρ : Rho} {σ : VHeap}
theorem zeroCells_rel {z : Array Value} (h : ∀ ρ', ARel ρ' z z) (n : Nat) : ARel ρ (Builtin.zeroCells z n) (Builtin.zeroCells z n) := by
  unfold Builtin.zeroCells
  exact range_map_rel _ (h ρ)
theorem SR.clear {ts : Array TypeId} {t : TypeId} {x x' : Value} (hz : ∀ mt, ts[0]? = some mt → elemZeroOk P mt = true) (h : VRel ρ x x') :
    SR P w0 B0 ρ VRel (Builtin.clear_ ts t #[x]) (Builtin.clear_ ts t #[x']) := by
  unfold Builtin.clear_
  simp only [List.getElem?_toArray, List.getElem?_cons_zero]
  have fin : ∀ (ρ2 : Rho), SR P w0 B0 ρ2 VRel (Pure.pure (.tuple #[]) : Sem Value) (Pure.pure (.tuple #[])) := fun ρ2 => SR.pure fun _ _ => .tuple rfl fun k hk => by simp at hk
  cases ht : ts[0]? with
  | none => exact SR.stuck
  | some mt =>
    refine SR.bind (SR.underlyingK mt) fun ρ1 d y hle hx => ?_
    obtain ⟨rfl, hu⟩ := hx
    replace h := h.mono hle
    cases h with
    | mapNil => exact fin ρ1
    | sliceNil n c => exact fin ρ1
    | sliceOff => cases d <;> exact fin ρ1
    | map hi => cases d <;> exact SR.getMap hi (fun ρ2 es fs c hle2 he => SR.bind (SR.setMap (hle2 _ _ hi) ⟨rfl, fun k hk => by simp at hk⟩) fun ρ3 _ _ _ _ => fin ρ3) (fun _ _ _ => rfl)
    | @slice id off n c c' i hi hc =>
      cases n with
      | zero => cases d <;> exact fin ρ1
      | succ n =>
        cases d with
        | slice elem =>
          have hz' : zeroOk P elem = true := by simpa [elemZeroOk, hu] using hz mt ht
          refine SR.bind (SR.zeroValue hz') fun ρ2 z z' hle2 hz => ?_
          obtain ⟨rfl, hz⟩ := hz
          exact SR.bind (SR.storeCells ⟨_, hle2 _ _ hi, rfl, rfl⟩ _ _ 0 _ (Rho.le_refl _) (zeroCells_rel (fun ρ' => (hz ρ').cells) _).toList) fun ρ3 _ _ _ _ => fin ρ3
        | _ => exact SR.none fun _ => rfl
    | _ => cases d <;> exact SR.none fun _ => rfl
theorem SR.askRoom (n : Nat) : SR P w0 B0 ρ TrueR (askRoom n) (askRoom n) := by
  unfold Go.askRoom
  split
  · intro ρ1 σ w x σ' _ hw hr
    cases hr
    exact ⟨ρ1, (), w, Rho.le_refl _, rfl, trivial, hw⟩
  · exact SR.pure fun _ _ => trivial
theorem SR.makeSlice {t : TypeId} {l l' c c' : Value} (hz : elemZeroOk P t = true) (h : VRel ρ l l') (g : VRel ρ c c') : SR P w0 B0 ρ VRel (Instr.makeSlice t l c) (Instr.makeSlice t l' c') := by
  unfold Instr.makeSlice
  refine SR.bind (SR.underlyingK t) fun ρ1 d y hle hx => ?_
  obtain ⟨rfl, hu⟩ := hx
  cases d <;> first | exact SR.stuck | skip
  case slice elem =>
    have hz' : zeroOk P elem = true := by simpa [elemZeroOk, hu] using hz
    refine SR.bind (SR.asInt (h.mono hle)) fun ρ2 n y hle2 hx => ?_
    cases hx
    refine SR.bind (SR.asInt ((g.mono hle).mono hle2)) fun ρ3 m y hle3 hx => ?_
    cases hx
    refine SR.bind (SR.typeInfo elem) fun ρ4 info y hle4 hx => ?_
    cases hx
    dsimp only
    split
    · refine SR.none fun σ => ?_
      split
      · exact vrun_first vrun_panics
      · split
        · exact vrun_first vrun_panics
        · exact vrun_none fun _ _ => vrun_first vrun_panics
    · refine SR.bind (SR.askRoom _) fun ρ5 _ _ _ _ => ?_
      refine SR.bind (SR.sizeOf elem) fun ρ6 sz y _ hx => ?_
      cases hx
      have tail : ∀ (ρ7 : Rho) (z : Array Value) (k : Nat), (∀ ρ', ARel ρ' z z) → SR P w0 B0 ρ7 VRel
          (Go.newRow elem ((Array.range k).map (z[· % z.size]!)) >>= fun a => Pure.pure (Value.slice (some a) (IntKind.i64.wrap n).toNat (IntKind.i64.wrap m).toNat))
          (Go.newRow elem ((Array.range k).map (z[· % z.size]!)) >>= fun a => Pure.pure (Value.slice (some a) (IntKind.i64.wrap n).toNat (IntKind.i64.wrap m).toNat)) :=
        fun ρ7 z k hz => SR.bind (SR.newRowEx (range_map_rel _ (hz ρ7)) elem) fun ρ8 _ _ _ hx => SR.pure fun _ hle => (hx.mono hle).slice _ _
      split
      · exact tail ρ6 #[] _ (fun _ => ARel.nil _)
      · refine SR.bind (SR.zeroValue hz') fun ρ7 z y _ hx => ?_
        obtain ⟨rfl, hz⟩ := hx
        exact tail ρ7 z.cells _ (fun ρ' => (hz ρ').cells)

/-- Bounds of a slice, one behind the other. -/
def sb2 (isSlice : Bool) (len cap : Nat) (low high max : Option Value) : Sem (Nat × Nat × Nat) :=
  (match max with
    | some v => Instr.sliceBound v cap (if isSlice then .slice3Acap else .slice3Alen)
    | none => Pure.pure cap) >>= fun m =>
  (match high, max with
    | some v, some _ => Instr.sliceBound v m .slice3B
    | some v, none => Instr.sliceBound v m (if isSlice then .sliceAcap else .sliceAlen)
    | none, none => Pure.pure len
    | none, some _ => Go.stuck "Slice: max without high") >>= fun h =>
  (match low with
    | some v => Instr.sliceBound v h (if max.isSome then .slice3C else .sliceB)
    | none => Pure.pure 0) >>= fun l => Pure.pure (l, h, m)
theorem sb2_eq (b : Bool) (n c : Nat) (lo hi mx : Option Value) : Instr.sliceBounds b n c lo hi mx = sb2 b n c lo hi mx := by
  unfold Instr.sliceBounds sb2
  cases mx <;> cases hi <;> cases lo <;> rfl
theorem pv_bind {α β : Type} (s : Sem α) (k : α → Sem β) : pv P (s >>= k) = (pv P s).bind fun a => pv P (k a) := by
  show pv P (s.bind k) = _
  induction s with
  | pure a => rfl
  | program f ih => exact ih P
  | mark m f ih => exact ih
  | _ => rfl
/-- Two pieces of code without memory: where the one comes to an end, the other one does. -/
def PR (P : Program) {α β : Type} (A : α → β → Prop) (s : Sem α) (t : Sem β) : Prop := ∀ x, pv P s = some x → ∃ y, pv P t = some y ∧ A x y
theorem PR.pure {α β : Type} {A : α → β → Prop} {x : α} {y : β} (h : A x y) : PR P A (Pure.pure x) (Pure.pure y) := fun z hz => by cases hz; exact ⟨y, rfl, h⟩
theorem PR.bind {α β γ δ : Type} {A : α → β → Prop} {B : γ → δ → Prop} {s : Sem α} {t : Sem β} {k : α → Sem γ} {k' : β → Sem δ} (h : PR P A s t) (hk : ∀ x y, A x y → PR P B (k x) (k' y)) : PR P B (s >>= k) (t >>= k') := by
  intro z hz
  rw [pv_bind] at hz
  cases hs : pv P s with
  | none => rw [hs] at hz; cases hz
  | some x =>
    rw [hs] at hz
    obtain ⟨y, h1, h2⟩ := h x hs
    obtain ⟨u, h3, h4⟩ := hk x y h2 z hz
    exact ⟨u, by rw [pv_bind, h1]; exact h3, h4⟩
theorem PR.weaken {α β : Type} {A B : α → β → Prop} {s : Sem α} {t : Sem β} (h : PR P A s t) (hAB : ∀ x y, A x y → B x y) : PR P B s t := fun z hz => by
  obtain ⟨y, h1, h2⟩ := h z hz; exact ⟨y, h1, hAB _ _ h2⟩
theorem PR.stuck {α β : Type} {A : α → β → Prop} {s : String} {t : Sem β} : PR P A (Go.stuck s) t := fun z hz => by cases hz
theorem pv_panics {α : Type} {e : RuntimeError} : pv P (runtimePanic e : Sem α) = none := by
  unfold runtimePanic
  rw [pv_bind]
  show (Option.bind (some P) _) = none
  simp only [Option.bind_some]
  cases e with
  | typeAssertion i c a m => rw [pv_bind]; cases pv P (elemOf P.rt.typeAssertionError) <;> rfl
  | panicNil => rw [pv_bind]; cases pv P (elemOf P.rt.panicNilError) <;> rfl
  | _ => rfl
theorem PR.bounds {α β : Type} {A : α → β → Prop} {k : IntKind} {x y : Int} {c : BoundsCode} {t : Sem β} : PR P A (boundsPanic k x y c : Sem α) t := by
  intro z hz
  unfold boundsPanic at hz
  dsimp only at hz
  split at hz
  · rw [pv_bind] at hz; cases hz
  · rw [pv_bind] at hz
    simp only [Pure.pure, pv, Option.bind_some, pv_panics] at hz
    cases hz
theorem PR.asIntOf {v v' : Value} (h : VRel ρ v v') : PR P Eq (asIntOf v) (asIntOf v') := by
  cases h <;> unfold Go.asIntOf <;> first | exact PR.pure rfl | exact PR.stuck | exact fun z hz => by cases hz
/-- Bounds of a slice: with a greater capacity in the real machine. -/
theorem PR.sliceBound {v v' : Value} (h : VRel ρ v v') {y y' : Nat} (hy : y ≤ y') (c c' : BoundsCode) : PR P (fun a b => a = b ∧ a ≤ y) (Instr.sliceBound v y c) (Instr.sliceBound v' y' c') := by
  unfold Instr.sliceBound
  refine PR.bind (PR.asIntOf h) fun x y hx => ?_
  cases hx
  obtain ⟨k, i⟩ := x
  dsimp only
  split
  · rename_i hi
    rw [if_pos (by omega)]
    exact PR.pure ⟨rfl, by omega⟩
  · exact PR.bounds
def ORel (ρ : Rho) (v v' : Option Value) : Prop :=
  match v, v' with
  | none, none => True
  | some v, some v' => VRel ρ v v'
  | _, _ => False
/-- l and h are the same; m is the same too, or it is the capacity on both sides. -/
theorem PR.sliceBounds {lo lo' hi hi' mx mx' : Option Value} (h1 : ORel ρ lo lo') (h2 : ORel ρ hi hi') (h3 : ORel ρ mx mx') (b : Bool) {n c c' : Nat} (hc : c ≤ c') :
    PR P (fun x y => x.1 = y.1 ∧ x.2.1 = y.2.1 ∧ (x.2.2 = y.2.2 ∨ (x.2.2 = c ∧ y.2.2 = c')) ∧ x.2.2 ≤ c ∧ x.1 ≤ x.2.1 ∧ (x.2.1 = n ∨ x.2.1 ≤ x.2.2)) (Instr.sliceBounds b n c lo hi mx) (Instr.sliceBounds b n c' lo' hi' mx') := by
  rw [sb2_eq, sb2_eq]
  unfold sb2
  refine PR.bind (A := fun (x y : Nat) => (x = y ∨ (x = c ∧ y = c')) ∧ x ≤ c ∧ (mx.isSome = true → x = y)) ?_ fun m m' hm => ?_
  · cases mx with
    | none => cases mx' with
      | none => exact PR.pure ⟨.inr ⟨rfl, rfl⟩, Nat.le_refl _, fun h => by simp at h⟩
      | some v => exact h3.elim
    | some v => cases mx' with
      | none => exact h3.elim
      | some v' => exact (PR.sliceBound h3 hc _ _).weaken fun x y h => ⟨.inl h.1, h.2, fun _ => h.1⟩
  obtain ⟨hm1, hm2, hm3⟩ := hm
  have hmm : m ≤ m' := by rcases hm1 with rfl | ⟨rfl, rfl⟩ <;> omega
  refine PR.bind (A := fun (x y : Nat) => x = y ∧ (x = n ∨ x ≤ m)) ?_ fun h h' hh => ?_
  · cases hi with
    | none => cases hi' with
      | none => cases mx with
        | none => cases mx' with
          | none => exact PR.pure ⟨rfl, .inl rfl⟩
          | some v => exact h3.elim
        | some v => exact PR.stuck
      | some v => exact h2.elim
    | some v => cases hi' with
      | none => exact h2.elim
      | some v' => cases mx with
        | none => cases mx' with
          | none => exact (PR.sliceBound h2 hmm _ _).weaken fun x y h => ⟨h.1, .inr h.2⟩
          | some v => exact h3.elim
        | some u => cases mx' with
          | none => exact h3.elim
          | some u' => exact (PR.sliceBound h2 hmm _ _).weaken fun x y h => ⟨h.1, .inr h.2⟩
  obtain ⟨rfl, hh2⟩ := hh
  refine PR.bind (A := fun (x y : Nat) => x = y ∧ x ≤ h) ?_ fun l l' hl => ?_
  · cases lo with
    | none => cases lo' with
      | none => exact PR.pure ⟨rfl, Nat.zero_le _⟩
      | some v => exact h1.elim
    | some v => cases lo' with
      | none => exact h1.elim
      | some v' => exact PR.sliceBound h1 (Nat.le_refl _) _ _
  obtain ⟨rfl, hl2⟩ := hl
  exact PR.pure ⟨rfl, rfl, hm1, hm2, hl2, hh2⟩
end
end Vm
end Go.Proofs.Ytodjjnklelfgfaa
