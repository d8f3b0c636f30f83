/- Instructions that obey the relation: entries, delete, clear, copy, what is compared with nil, make, pure operations. -/
import Derived.Test.YtmapjahpjolmnaaGreatDoorG7
import Derived.Orders
set_option linter.unusedVariables false
set_option linter.unusedSimpArgs false
namespace Go.Proofs.YtmapjahpjolmnaaGreatDoor
namespace Vm
set_option linter.unusedSimpArgs false
set_option linter.unusedVariables false
open Go.RowKit

section
variable {P : Program} {w0 w : World} {B0 : Base} {ρ : Rho} {σ : VHeap}
theorem basic_of {t key elem : TypeId} (hb : basicKey P t = true) (hu : P.underlying t = some (.map key elem)) : ∃ d, P.underlying key = some d ∧ basicT d = true := by
  simp only [basicKey, hu] at hb
  cases hd : P.underlying key with
  | none => simp [hd] at hb
  | some d => exact ⟨d, rfl, by simpa [hd] using hb⟩
theorem tuple2 {a a' b b' : Value} (h : VRel ρ a a') (g : VRel ρ b b') : VRel ρ (.tuple #[a, b]) (.tuple #[a', b']) := by
  refine .tuple rfl fun k hk hk' => ?_
  match k, hk with
  | 0, _ => exact h
  | 1, _ => exact g
theorem SR.mapEntry {t : TypeId} {m m' k : Value} (hb : basicKey P t = true) (hz : elemZeroOk P t = true) (hk : cleanC k = true) (h : VRel ρ m m') :
    SR P w0 B0 ρ VRel (Instr.mapEntry t m k) (Instr.mapEntry t m' k) := by
  unfold Instr.mapEntry
  refine SR.bind (SR.underlyingK t) fun ρ1 x y hle hx => ?_
  obtain ⟨rfl, hu⟩ := hx
  cases x <;> first | exact SR.stuck | skip
  case map key elem =>
    obtain ⟨d, hd, hbd⟩ := basic_of hb hu
    have hz' : zeroOk P elem = true := by simpa [elemZeroOk, hu] using hz
    replace h := h.mono hle
    cases h with
    | mapNil => exact SR.panics
    | map hi =>
      refine SR.getMap hi (fun ρ2 es fs c hle2 he => ?_) (fun _ _ _ => rfl)
      refine SR.bind (SR.checkKey hd hbd _ _ 9999 k k) fun ρ3 _ _ hle3 _ => SR.bind (SR.findKey hd hbd hk (he.mono hle3)) fun ρ4 x y hle4 hf => ?_
      replace he := (he.mono hle3).mono hle4
      have hi' := (Rho.le_trans (Rho.le_trans hle2 hle3) hle4) _ _ hi
      cases x with
      | none => cases y with
        | none =>
          refine SR.bind (SR.zeroValue hz') fun ρ5 z z' hle5 hz => ?_
          obtain ⟨rfl, hz⟩ := hz
          exact SR.bind (SR.setMap (hle5 _ _ hi') ((he.mono hle5).push hk (hz _) c)) fun ρ6 _ _ _ _ => SR.pure fun ρ7 _ => tuple2 (hz _) (.int _ _)
        | some q => exact hf.elim
      | some p => cases y with
        | none => exact hf.elim
        | some q =>
          obtain ⟨i, u⟩ := p
          obtain ⟨j, u'⟩ := q
          obtain ⟨rfl, hv⟩ := hf
          dsimp only
          have hbn : (es[i]?).map (fun x => (x.born : Int)) = (fs[i]?).map (fun x => (x.born : Int)) := by
            have := congrArg (Option.map (fun n : Nat => (n : Int))) (he.born i)
            simpa [Option.map_map, Function.comp_def] using this
          rw [he.key i, hbn]
          refine SR.bind SR.keyStays fun ρ5 x y hle5 hx => ?_
          obtain ⟨rfl, rfl⟩ := hx
          refine SR.bind (SR.setMap (hle5 _ _ hi') ((he.mono hle5).modify i _ _ fun e e' hee => ⟨rfl, hk, hee.2.2.1, hee.2.2.2⟩)) fun ρ6 _ _ hle6 _ => SR.pure fun ρ7 hle7 => tuple2 (((hv.mono hle5).mono hle6).mono hle7) (.int _ _)
    | _ => exact SR.stuck
theorem findIdx_born {es fs : List MapEntry} (h : All2 (EnRel ρ) es fs) (n : Int) : es.findIdx? (fun e => (e.born : Int) == n) = fs.findIdx? (fun e => (e.born : Int) == n) := by
  induction h with
  | nil => rfl
  | cons he _ ih => simp only [List.findIdx?_cons, he.2.2.2, ih]
theorem SR.entryStore {t : TypeId} {m m' s s' v v' : Value} (h : VRel ρ m m') (hs : VRel ρ s s') (hv : VRel ρ v v') :
    SR P w0 B0 ρ TrueR (Instr.entryStore t m s v) (Instr.entryStore t m' s' v') := by
  unfold Instr.entryStore
  cases h with
  | map hi =>
    refine SR.getMap hi (fun ρ2 es fs c hle2 he => ?_) (fun _ _ _ => rfl)
    refine SR.bind (SR.asInt (hs.mono hle2)) fun ρ3 x y hle3 hx => ?_
    cases hx
    replace he := he.mono hle3
    have e1 : es.findIdx? (fun e => (e.born : Int) == x) = fs.findIdx? (fun e => (e.born : Int) == x) := by
      have h1 : ∀ (l : Array MapEntry), l.findIdx? (fun e => (e.born : Int) == x) = l.toList.findIdx? (fun e => (e.born : Int) == x) := fun l => by cases l; simp
      rw [h1, h1]
      exact findIdx_born he.list x
    rw [e1]
    cases fs.findIdx? (fun e => (e.born : Int) == x) with
    | none => exact SR.unsupported
    | some i => exact SR.setMap (hle3 _ _ (hle2 _ _ hi)) (he.modify i _ _ fun e e' hee => ⟨hee.1, hee.2.1, (hv.mono hle2).mono hle3, hee.2.2.2⟩)
  | _ => exact SR.stuck
theorem ERel.erase {es fs : Array MapEntry} (h : ERel ρ es fs) (i : Nat) : ERel ρ (es.eraseIdxIfInBounds i) (fs.eraseIdxIfInBounds i) := by
  have e1 := h.1
  unfold Array.eraseIdxIfInBounds
  by_cases hi : i < es.size
  · rw [dif_pos hi, dif_pos (e1 ▸ hi)]
    refine ⟨by simp [e1], fun k hk hk' => ?_⟩
    have hk0 : k < es.size - 1 := by simpa using hk
    rw [Array.getElem_eraseIdx, Array.getElem_eraseIdx]
    by_cases hlt : k < i
    · rw [dif_pos hlt, dif_pos hlt]; exact h.2 k _ _
    · rw [dif_neg hlt, dif_neg hlt]; exact h.2 (k + 1) _ _
  · rw [dif_neg hi, dif_neg (e1 ▸ hi)]; exact h
theorem SR.delete {ts : Array TypeId} {t : TypeId} {m m' k : Value} (hb : ∀ mt, ts[0]? = some mt → basicKey P mt = true) (hk : cleanC k = true) (h : VRel ρ m m') :
    SR P w0 B0 ρ VRel (Builtin.delete_ ts t #[m, k]) (Builtin.delete_ ts t #[m', k]) := by
  unfold Builtin.delete_
  simp only [List.getElem?_toArray, List.getElem?_cons_zero, List.getElem?_cons_succ]
  cases ht : ts[0]? with
  | none => exact SR.stuck
  | some mt =>
    refine SR.bind (SR.underlyingK mt) fun ρ1 x y hle hx => ?_
    obtain ⟨rfl, hu⟩ := hx
    cases x <;> first | exact SR.stuck | skip
    case map key elem =>
      obtain ⟨d, hd, hbd⟩ := basic_of (hb mt ht) hu
      have fin : ∀ (ρ2 : Rho), SR P w0 B0 ρ2 VRel (Pure.pure (.tuple #[]) : Sem Value) (Pure.pure (.tuple #[])) := fun ρ2 => SR.pure fun _ _ => .tuple rfl fun k hk => by simp at hk
      replace h := h.mono hle
      cases h with
      | mapNil => exact SR.bind (SR.checkKey hd hbd _ _ 9999 k k) fun ρ2 _ _ _ _ => fin ρ2
      | map hi =>
        refine SR.getMap hi (fun ρ2 es fs c hle2 he => ?_) (fun _ _ _ => rfl)
        refine SR.bind (SR.checkKey hd hbd _ _ 9999 k k) fun ρ3 _ _ hle3 _ => SR.bind (SR.findKey hd hbd hk (he.mono hle3)) fun ρ4 x y hle4 hf => ?_
        replace he := (he.mono hle3).mono hle4
        have hi' := (Rho.le_trans (Rho.le_trans hle2 hle3) hle4) _ _ hi
        cases x with
        | none => cases y with
          | none => exact SR.bind (SR.setMap hi' he) fun ρ5 _ _ _ _ => fin ρ5
          | some q => exact hf.elim
        | some p => cases y with
          | none => exact hf.elim
          | some q =>
            obtain ⟨i, u⟩ := p
            obtain ⟨j, u'⟩ := q
            obtain ⟨rfl, _⟩ := hf
            exact SR.bind (SR.setMap hi' (he.erase i)) fun ρ5 _ _ _ _ => fin ρ5
      | _ => exact SR.none fun _ => rfl
theorem SR.firstCells {v v' : Value} (h : VRel ρ v v') (size n : Nat) : SR P w0 B0 ρ ARel (Builtin.firstCells size n v) (Builtin.firstCells size n v') := by
  unfold Builtin.firstCells
  cases h with
  | slice hi hc => exact SR.loadCells ⟨_, hi, rfl, rfl⟩ _
  | sliceNil => exact SR.pure fun _ _ => ARel.nil _
  | sliceOff id off a c' =>
    dsimp only
    cases hn : n * size with
    | zero => exact SR.pure fun _ _ => ARel.nil _
    | succ m =>
      refine SR.none fun σ => ?_
      unfold Go.loadCells Go.loadCellsFrom
      refine (show vrun P (Sem.bind (Go.load _) _) σ = Option.none from ?_)
      rw [vrun_bind]
      have : (⟨id, off, some 0⟩ : Addr).add 0 = ⟨id, off, some 0⟩ := by simp [Addr.add]
      rw [this]
      simp [Go.load, vrun, cell?, andThen]
  | string s =>
    refine SR.pure fun _ _ => ⟨rfl, fun k hk hk' => ?_⟩
    simp only [Array.getElem_map]
    exact .int _ _
  | _ => exact SR.stuck
theorem SR.lenOf {v v' : Value} (h : VRel ρ v v') : SR P w0 B0 ρ EqR (Builtin.lenOf v) (Builtin.lenOf v') := by
  cases h <;> first | exact SR.pure fun _ _ => rfl | exact SR.stuck
theorem SR.copy {ts : Array TypeId} {t : TypeId} {a a' b b' : Value} (h : VRel ρ a a') (g : VRel ρ b b') : SR P w0 B0 ρ VRel (Builtin.copy_ ts t #[a, b]) (Builtin.copy_ ts t #[a', b']) := by
  unfold Builtin.copy_
  simp only [List.getElem?_toArray, List.getElem?_cons_zero, List.getElem?_cons_succ]
  cases ts[0]? with
  | none => exact SR.stuck
  | some mt =>
    refine SR.bind (SR.underlyingK mt) fun ρ1 x y hle hx => ?_
    obtain ⟨rfl, hu⟩ := hx
    cases x <;> first | exact SR.stuck | skip
    case slice elem =>
      replace h := h.mono hle
      replace g := g.mono hle
      have fin : ∀ (ρ2 : Rho) (n : Nat), SR P w0 B0 ρ2 VRel (Pure.pure (goInt n) : Sem Value) (Pure.pure (goInt n)) := fun ρ2 n => SR.pure fun _ _ => .int _ _
      cases h with
      | sliceNil n c =>
        refine SR.bind (SR.lenOf g) fun ρ2 x y hle2 hx => ?_
        cases hx
        refine SR.bind (SR.sizeOf elem) fun ρ3 sz y hle3 hx => ?_
        cases hx
        exact SR.bind (SR.firstCells ((g.mono hle2).mono hle3) _ _) fun ρ4 _ _ _ _ => fin ρ4 _
      | slice hi hc =>
        refine SR.bind (SR.lenOf g) fun ρ2 x y hle2 hx => ?_
        cases hx
        refine SR.bind (SR.sizeOf elem) fun ρ3 sz y hle3 hx => ?_
        cases hx
        refine SR.bind (SR.firstCells ((g.mono hle2).mono hle3) _ _) fun ρ4 x y hle4 hx => ?_
        exact SR.bind (SR.storeCells ⟨_, hle4 _ _ (hle3 _ _ (hle2 _ _ hi)), rfl, rfl⟩ _ _ 0 _ (Rho.le_refl _) hx.toList) fun ρ5 _ _ _ _ => fin ρ5 _
      | sliceOff id off a c' =>
        refine SR.bind (SR.lenOf g) fun ρ2 x y hle2 hx => ?_
        cases hx
        refine SR.bind (SR.sizeOf elem) fun ρ3 sz y hle3 hx => ?_
        cases hx
        have e0 : x.min 0 = 0 := Nat.min_zero x
        rw [e0]
        refine SR.bind (A := fun _ (x y : Array Value) => x = #[] ∧ y = #[]) ?_ fun ρ4 x y hle4 hx => ?_
        · have g' := (g.mono hle2).mono hle3
          cases g' with
          | string s =>
            refine SR.pure fun _ _ => ?_
            have : s.extract 0 0 = ByteArray.empty := by ext <;> simp
            rw [this]
            rw [show ByteArray.empty.data = #[] from rfl]
            exact ⟨by simp, by simp⟩
          | sliceNil => exact SR.pure fun _ _ => ⟨rfl, rfl⟩
          | slice =>
            unfold Builtin.firstCells
            simp only [Nat.zero_mul]
            exact SR.pure fun _ _ => ⟨rfl, rfl⟩
          | sliceOff =>
            unfold Builtin.firstCells
            simp only [Nat.zero_mul]
            exact SR.pure fun _ _ => ⟨rfl, rfl⟩
          | _ => exact SR.stuck
        · obtain ⟨rfl, rfl⟩ := hx
          exact SR.bind (SR.pure (A := TrueR) fun _ _ => trivial) fun ρ5 _ _ _ _ => fin ρ5 _
      | _ => exact SR.stuck
end
end Vm
end Go.Proofs.YtmapjahpjolmnaaGreatDoor
namespace Go.Proofs.YtmapjahpjolmnaaGreatDoor
namespace Vm
set_option linter.unusedSimpArgs false
set_option linter.unusedVariables false
open Go.RowKit

/-- What a piece of the machine's code comes to without memory. -/
def pv {α : Type} (P : Program) : Sem α → Option α
  | .pure a => some a
  | .program k => pv P (k P)
  | .mark _ k => pv P k
  | _ => none
theorem pv_run {α : Type} {P : Program} : ∀ {s : Sem α} {a : α}, pv P s = some a → ∀ w, s.run P w = .ok a w
  | .pure b, a, h, w => by cases h; rfl
  | .program k, a, h, w => pv_run (s := k P) h w
  | .mark m k, a, h, w => pv_run (s := k) h w
  | .load .., _, h, _ | .store .., _, h, _ | .new .., _, h, _ | .shape .., _, h, _ | .freeze .., _, h, _ | .frozen .., _, h, _ | .getObj .., _, h, _ | .setObj .., _, h, _
  | .choose .., _, h, _ | .sys .., _, h, _ | .halt .., _, h, _ => by cases h

theorem vrun_first {α β : Type} {P : Program} {s : Sem α} {k : α → Sem β} {σ : VHeap} (h : vrun P s σ = none) : vrun P (s >>= k) σ = none := by
  rw [show s >>= k = s.bind k from rfl, vrun_bind, h]; rfl

section
variable {P : Program} {w0 w : World} {B0 : Base} {ρ : Rho} {σ : VHeap}
theorem zeroCells_rel {z : Array Value} (h : ∀ ρ', ARel ρ' z z) (n : Nat) : ARel ρ (Builtin.zeroCells z n) (Builtin.zeroCells z n) := by
  unfold Builtin.zeroCells
  exact range_map_rel _ (h ρ)
theorem SR.clear {ts : Array TypeId} {t : TypeId} {x x' : Value} (hz : ∀ mt, ts[0]? = some mt → elemZeroOk P mt = true) (h : VRel ρ x x') :
    SR P w0 B0 ρ VRel (Builtin.clear_ ts t #[x]) (Builtin.clear_ ts t #[x']) := by
  unfold Builtin.clear_
  simp only [List.getElem?_toArray, List.getElem?_cons_zero]
  have fin : ∀ (ρ2 : Rho), SR P w0 B0 ρ2 VRel (Pure.pure (.tuple #[]) : Sem Value) (Pure.pure (.tuple #[])) := fun ρ2 => SR.pure fun _ _ => .tuple rfl fun k hk => by simp at hk
  cases ht : ts[0]? with
  | none => exact SR.stuck
  | some mt =>
    refine SR.bind (SR.underlyingK mt) fun ρ1 d y hle hx => ?_
    obtain ⟨rfl, hu⟩ := hx
    replace h := h.mono hle
    cases h with
    | mapNil => exact fin ρ1
    | sliceNil n c => exact fin ρ1
    | sliceOff => cases d <;> exact fin ρ1
    | map hi => cases d <;> exact SR.getMap hi (fun ρ2 es fs c hle2 he => SR.bind (SR.setMap (hle2 _ _ hi) ⟨rfl, fun k hk => by simp at hk⟩) fun ρ3 _ _ _ _ => fin ρ3) (fun _ _ _ => rfl)
    | @slice id off n c c' i hi hc =>
      cases n with
      | zero => cases d <;> exact fin ρ1
      | succ n =>
        cases d with
        | slice elem =>
          have hz' : zeroOk P elem = true := by simpa [elemZeroOk, hu] using hz mt ht
          refine SR.bind (SR.zeroValue hz') fun ρ2 z z' hle2 hz => ?_
          obtain ⟨rfl, hz⟩ := hz
          exact SR.bind (SR.storeCells ⟨_, hle2 _ _ hi, rfl, rfl⟩ _ _ 0 _ (Rho.le_refl _) (zeroCells_rel (fun ρ' => (hz ρ').cells) _).toList) fun ρ3 _ _ _ _ => fin ρ3
        | _ => exact SR.none fun _ => rfl
    | _ => cases d <;> exact SR.none fun _ => rfl
theorem SR.askRoom (n : Nat) : SR P w0 B0 ρ TrueR (askRoom n) (askRoom n) := by
  unfold Go.askRoom
  split
  · intro ρ1 σ w x σ' _ hw hr
    cases hr
    exact ⟨ρ1, (), w, Rho.le_refl _, rfl, trivial, hw⟩
  · exact SR.pure fun _ _ => trivial
theorem SR.makeSlice {t : TypeId} {l l' c c' : Value} (hz : elemZeroOk P t = true) (h : VRel ρ l l') (g : VRel ρ c c') : SR P w0 B0 ρ VRel (Instr.makeSlice t l c) (Instr.makeSlice t l' c') := by
  unfold Instr.makeSlice
  refine SR.bind (SR.underlyingK t) fun ρ1 d y hle hx => ?_
  obtain ⟨rfl, hu⟩ := hx
  cases d <;> first | exact SR.stuck | skip
  case slice elem =>
    have hz' : zeroOk P elem = true := by simpa [elemZeroOk, hu] using hz
    refine SR.bind (SR.asInt (h.mono hle)) fun ρ2 n y hle2 hx => ?_
    cases hx
    refine SR.bind (SR.asInt ((g.mono hle).mono hle2)) fun ρ3 m y hle3 hx => ?_
    cases hx
    refine SR.bind (SR.typeInfo elem) fun ρ4 info y hle4 hx => ?_
    cases hx
    dsimp only
    split
    · refine SR.none fun σ => ?_
      split
      · exact vrun_first vrun_panics
      · split
        · exact vrun_first vrun_panics
        · exact vrun_none fun _ _ => vrun_first vrun_panics
    · refine SR.bind (SR.askRoom _) fun ρ5 _ _ _ _ => ?_
      refine SR.bind (SR.sizeOf elem) fun ρ6 sz y _ hx => ?_
      cases hx
      have tail : ∀ (ρ7 : Rho) (z : Array Value) (k : Nat), (∀ ρ', ARel ρ' z z) → SR P w0 B0 ρ7 VRel
          (Go.newRow elem ((Array.range k).map (z[· % z.size]!)) >>= fun a => Pure.pure (Value.slice (some a) (IntKind.i64.wrap n).toNat (IntKind.i64.wrap m).toNat))
          (Go.newRow elem ((Array.range k).map (z[· % z.size]!)) >>= fun a => Pure.pure (Value.slice (some a) (IntKind.i64.wrap n).toNat (IntKind.i64.wrap m).toNat)) :=
        fun ρ7 z k hz => SR.bind (SR.newRowEx (range_map_rel _ (hz ρ7)) elem) fun ρ8 _ _ _ hx => SR.pure fun _ hle => (hx.mono hle).slice _ _
      split
      · exact tail ρ6 #[] _ (fun _ => ARel.nil _)
      · refine SR.bind (SR.zeroValue hz') fun ρ7 z y _ hx => ?_
        obtain ⟨rfl, hz⟩ := hx
        exact tail ρ7 z.cells _ (fun ρ' => (hz ρ').cells)

/-- Bounds of a slice, one behind the other. -/
def sb2 (isSlice : Bool) (len cap : Nat) (low high max : Option Value) : Sem (Nat × Nat × Nat) :=
  (match max with
    | some v => Instr.sliceBound v cap (if isSlice then .slice3Acap else .slice3Alen)
    | none => Pure.pure cap) >>= fun m =>
  (match high, max with
    | some v, some _ => Instr.sliceBound v m .slice3B
    | some v, none => Instr.sliceBound v m (if isSlice then .sliceAcap else .sliceAlen)
    | none, none => Pure.pure len
    | none, some _ => Go.stuck "Slice: max without high") >>= fun h =>
  (match low with
    | some v => Instr.sliceBound v h (if max.isSome then .slice3C else .sliceB)
    | none => Pure.pure 0) >>= fun l => Pure.pure (l, h, m)
theorem sb2_eq (b : Bool) (n c : Nat) (lo hi mx : Option Value) : Instr.sliceBounds b n c lo hi mx = sb2 b n c lo hi mx := by
  unfold Instr.sliceBounds sb2
  cases mx <;> cases hi <;> cases lo <;> rfl
theorem pv_bind {α β : Type} (s : Sem α) (k : α → Sem β) : pv P (s >>= k) = (pv P s).bind fun a => pv P (k a) := by
  show pv P (s.bind k) = _
  induction s with
  | pure a => rfl
  | program f ih => exact ih P
  | mark m f ih => exact ih
  | _ => rfl
/-- Two pieces of code without memory: where the one comes to an end, the other one does. -/
def PR (P : Program) {α β : Type} (A : α → β → Prop) (s : Sem α) (t : Sem β) : Prop := ∀ x, pv P s = some x → ∃ y, pv P t = some y ∧ A x y
theorem PR.pure {α β : Type} {A : α → β → Prop} {x : α} {y : β} (h : A x y) : PR P A (Pure.pure x) (Pure.pure y) := fun z hz => by cases hz; exact ⟨y, rfl, h⟩
theorem PR.bind {α β γ δ : Type} {A : α → β → Prop} {B : γ → δ → Prop} {s : Sem α} {t : Sem β} {k : α → Sem γ} {k' : β → Sem δ} (h : PR P A s t) (hk : ∀ x y, A x y → PR P B (k x) (k' y)) : PR P B (s >>= k) (t >>= k') := by
  intro z hz
  rw [pv_bind] at hz
  cases hs : pv P s with
  | none => rw [hs] at hz; cases hz
  | some x =>
    rw [hs] at hz
    obtain ⟨y, h1, h2⟩ := h x hs
    obtain ⟨u, h3, h4⟩ := hk x y h2 z hz
    exact ⟨u, by rw [pv_bind, h1]; exact h3, h4⟩
theorem PR.weaken {α β : Type} {A B : α → β → Prop} {s : Sem α} {t : Sem β} (h : PR P A s t) (hAB : ∀ x y, A x y → B x y) : PR P B s t := fun z hz => by
  obtain ⟨y, h1, h2⟩ := h z hz; exact ⟨y, h1, hAB _ _ h2⟩
theorem PR.stuck {α β : Type} {A : α → β → Prop} {s : String} {t : Sem β} : PR P A (Go.stuck s) t := fun z hz => by cases hz
theorem pv_panics {α : Type} {e : RuntimeError} : pv P (runtimePanic e : Sem α) = none := by
  unfold runtimePanic
  rw [pv_bind]
  show (Option.bind (some P) _) = none
  simp only [Option.bind_some]
  cases e with
  | typeAssertion i c a m => rw [pv_bind]; cases pv P (elemOf P.rt.typeAssertionError) <;> rfl
  | panicNil => rw [pv_bind]; cases pv P (elemOf P.rt.panicNilError) <;> rfl
  | _ => rfl
theorem PR.bounds {α β : Type} {A : α → β → Prop} {k : IntKind} {x y : Int} {c : BoundsCode} {t : Sem β} : PR P A (boundsPanic k x y c : Sem α) t := by
  intro z hz
  unfold boundsPanic at hz
  dsimp only at hz
  split at hz
  · rw [pv_bind] at hz; cases hz
  · rw [pv_bind] at hz
    simp only [Pure.pure, pv, Option.bind_some, pv_panics] at hz
    cases hz
theorem PR.asIntOf {v v' : Value} (h : VRel ρ v v') : PR P Eq (asIntOf v) (asIntOf v') := by
  cases h <;> unfold Go.asIntOf <;> first | exact PR.pure rfl | exact PR.stuck | exact fun z hz => by cases hz
/-- Bounds of a slice: with a greater capacity in the real machine. -/
theorem PR.sliceBound {v v' : Value} (h : VRel ρ v v') {y y' : Nat} (hy : y ≤ y') (c c' : BoundsCode) : PR P (fun a b => a = b ∧ a ≤ y) (Instr.sliceBound v y c) (Instr.sliceBound v' y' c') := by
  unfold Instr.sliceBound
  refine PR.bind (PR.asIntOf h) fun x y hx => ?_
  cases hx
  obtain ⟨k, i⟩ := x
  dsimp only
  split
  · rename_i hi
    rw [if_pos (by omega)]
    exact PR.pure ⟨rfl, by omega⟩
  · exact PR.bounds
def ORel (ρ : Rho) (v v' : Option Value) : Prop :=
  match v, v' with
  | none, none => True
  | some v, some v' => VRel ρ v v'
  | _, _ => False
/-- l and h are the same; m is the same too, or it is the capacity on both sides. -/
theorem PR.sliceBounds {lo lo' hi hi' mx mx' : Option Value} (h1 : ORel ρ lo lo') (h2 : ORel ρ hi hi') (h3 : ORel ρ mx mx') (b : Bool) {n c c' : Nat} (hc : c ≤ c') :
    PR P (fun x y => x.1 = y.1 ∧ x.2.1 = y.2.1 ∧ (x.2.2 = y.2.2 ∨ (x.2.2 = c ∧ y.2.2 = c')) ∧ x.2.2 ≤ c ∧ x.1 ≤ x.2.1 ∧ (x.2.1 = n ∨ x.2.1 ≤ x.2.2)) (Instr.sliceBounds b n c lo hi mx) (Instr.sliceBounds b n c' lo' hi' mx') := by
  rw [sb2_eq, sb2_eq]
  unfold sb2
  refine PR.bind (A := fun (x y : Nat) => (x = y ∨ (x = c ∧ y = c')) ∧ x ≤ c ∧ (mx.isSome = true → x = y)) ?_ fun m m' hm => ?_
  · cases mx with
    | none => cases mx' with
      | none => exact PR.pure ⟨.inr ⟨rfl, rfl⟩, Nat.le_refl _, fun h => by simp at h⟩
      | some v => exact h3.elim
    | some v => cases mx' with
      | none => exact h3.elim
      | some v' => exact (PR.sliceBound h3 hc _ _).weaken fun x y h => ⟨.inl h.1, h.2, fun _ => h.1⟩
  obtain ⟨hm1, hm2, hm3⟩ := hm
  have hmm : m ≤ m' := by rcases hm1 with rfl | ⟨rfl, rfl⟩ <;> omega
  refine PR.bind (A := fun (x y : Nat) => x = y ∧ (x = n ∨ x ≤ m)) ?_ fun h h' hh => ?_
  · cases hi with
    | none => cases hi' with
      | none => cases mx with
        | none => cases mx' with
          | none => exact PR.pure ⟨rfl, .inl rfl⟩
          | some v => exact h3.elim
        | some v => exact PR.stuck
      | some v => exact h2.elim
    | some v => cases hi' with
      | none => exact h2.elim
      | some v' => cases mx with
        | none => cases mx' with
          | none => exact (PR.sliceBound h2 hmm _ _).weaken fun x y h => ⟨h.1, .inr h.2⟩
          | some v => exact h3.elim
        | some u => cases mx' with
          | none => exact h3.elim
          | some u' => exact (PR.sliceBound h2 hmm _ _).weaken fun x y h => ⟨h.1, .inr h.2⟩
  obtain ⟨rfl, hh2⟩ := hh
  refine PR.bind (A := fun (x y : Nat) => x = y ∧ x ≤ h) ?_ fun l l' hl => ?_
  · cases lo with
    | none => cases lo' with
      | none => exact PR.pure ⟨rfl, Nat.zero_le _⟩
      | some v => exact h1.elim
    | some v => cases lo' with
      | none => exact h1.elim
      | some v' => exact PR.sliceBound h1 (Nat.le_refl _) _ _
  obtain ⟨rfl, hl2⟩ := hl
  exact PR.pure ⟨rfl, rfl, hm1, hm2, hl2, hh2⟩
end
end Vm
end Go.Proofs.YtmapjahpjolmnaaGreatDoor
namespace Go.Proofs.YtmapjahpjolmnaaGreatDoor
namespace Vm
set_option linter.unusedSimpArgs false
set_option linter.unusedVariables false
open Go.RowKit

section
variable {P : Program}
theorem pv_underlying {t : TypeId} {d : TypeDesc} (h : P.underlying t = some d) : pv P (underlying t) = some d := by
  unfold underlying
  rw [pv_bind]
  show pv P (match P.underlying t with | some d => pure d | none => stuck "no such type") = some d
  rw [h]; rfl
theorem pv_typeInfo {t : TypeId} {i : TypeInfo} (h : P.info? t = some i) : pv P (typeInfo t) = some i := by
  unfold typeInfo
  rw [pv_bind]
  show pv P (match P.info? t with | some d => pure d | none => stuck "no such type") = some i
  rw [h]; rfl
theorem pv_sizeOf {t : TypeId} {i : TypeInfo} (h : P.info? t = some i) : pv P (sizeOf t) = some i.size := by
  unfold sizeOf
  rw [pv_bind, pv_typeInfo h]; rfl

def vslice (P : Program) (σ : VHeap) (t : TypeId) (x : Value) (lo hi mx : Option Value) : Option Value :=
  match P.underlying t, x with
  | some (.slice elem), .slice (some a) n c =>
    match P.info? elem, pv P (Instr.sliceBounds true n c lo hi mx), a.spot, σ[a.block]? with
    | some info, some (l, h, m), none, some (.cells b) =>
      match b.fl with
      | .ex => some (.slice (some (if m = l then a else a.add (l * info.size))) (h - l) (m - l))
      | .dead => none
      | fl =>
        if l < m then (if fl = .ro ∨ b.esz = info.size then some (.slice (some (a.add (l * info.size))) (h - l) (m - l)) else none)
        else if h = l then some (.slice (some ⟨a.block, a.off, some 0⟩) 0 0) else none
    | some _, some (_, _, _), some 0, _ => some (.slice (some a) 0 0)
    | _, _, _, _ => none
  | some (.array n elem), .pointer (some a) =>
    match P.info? elem, pv P (Instr.sliceBounds false n n lo hi mx), σ[a.block]? with
    | some info, some (l, h, m), some (.cells b) => if b.fl = .ex ∨ b.fl = .ro then some (.slice (some (if m = l then a else a.add (l * info.size))) (h - l) (m - l)) else none
    | _, _, _ => none
  | some (.pointer arr), .pointer (some a) =>
    match P.underlying arr with
    | some (.array n elem) =>
      match P.info? elem, pv P (Instr.sliceBounds false n n lo hi mx), σ[a.block]? with
      | some info, some (l, h, m), some (.cells b) => if b.fl = .ex ∨ b.fl = .ro then some (.slice (some (if m = l then a else a.add (l * info.size))) (h - l) (m - l)) else none
      | _, _, _ => none
    | _ => none
  | _, _ => none
theorem pv_slice_slice {t elem : TypeId} {info : TypeInfo} {a : Addr} {n c l h m : Nat} {lo hi mx : Option Value} (hu : P.underlying t = some (.slice elem)) (hi' : P.info? elem = some info)
    (hb : pv P (Instr.sliceBounds true n c lo hi mx) = some (l, h, m)) :
    pv P (Instr.sliceAt t (.slice (some a) n c) lo hi mx) = some (.slice (some (if m = l then a else a.add (l * info.size))) (h - l) (m - l)) := by
  unfold Instr.sliceAt
  rw [pv_bind, pv_underlying hu]
  simp only [Option.bind_some]
  unfold Instr.slice
  rw [pv_bind, pv_underlying hu]
  simp only [Option.bind_some]
  rw [pv_bind, hb]
  simp only [Option.bind_some]
  rw [pv_bind, pv_sizeOf hi']
  simp only [Option.bind_some]
  split <;> rfl
theorem pv_slice_array {t elem : TypeId} {info : TypeInfo} {a : Addr} {n l h m : Nat} {lo hi mx : Option Value} (hu : P.underlying t = some (.array n elem)) (hi' : P.info? elem = some info)
    (hb : pv P (Instr.sliceBounds false n n lo hi mx) = some (l, h, m)) :
    pv P (Instr.sliceAt t (.pointer (some a)) lo hi mx) = some (.slice (some (if m = l then a else a.add (l * info.size))) (h - l) (m - l)) := by
  unfold Instr.sliceAt
  rw [pv_bind, pv_underlying hu]
  simp only [Option.bind_some]
  rw [show Instr.sureAddr (.pointer (some a)) = (pure a : Sem Addr) from rfl, pv_bind]
  simp only [Pure.pure, pv, Option.bind_some]
  rw [pv_bind, hb]
  simp only [Option.bind_some]
  rw [pv_bind, pv_sizeOf hi']
  rfl
theorem pv_slice_ptr {t arr elem : TypeId} {info : TypeInfo} {a : Addr} {n l h m : Nat} {lo hi mx : Option Value} (hu : P.underlying t = some (.pointer arr)) (hu2 : P.underlying arr = some (.array n elem)) (hi' : P.info? elem = some info)
    (hb : pv P (Instr.sliceBounds false n n lo hi mx) = some (l, h, m)) :
    pv P (Instr.sliceAt t (.pointer (some a)) lo hi mx) = some (.slice (some (if m = l then a else a.add (l * info.size))) (h - l) (m - l)) := by
  unfold Instr.sliceAt
  rw [pv_bind, pv_underlying hu]
  simp only [Option.bind_some]
  unfold Instr.slice
  rw [pv_bind, pv_underlying hu]
  simp only [Option.bind_some]
  rw [show asAddr (.pointer (some a)) = (pure a : Sem Addr) from rfl, pv_bind]
  simp only [Pure.pure, pv, Option.bind_some]
  rw [pv_bind, pv_underlying hu2]
  simp only [Option.bind_some]
  rw [pv_bind, hb]
  simp only [Option.bind_some]
  rw [pv_bind, pv_sizeOf hi']
  rfl
variable {w0 w : World} {B0 : Base} {ρ : Rho} {σ : VHeap}
theorem arr_slice {a a' : Addr} {b : Blk} {l h m k : Nat} (hw : WRel ρ σ w0 w B0) (hp : PRel ρ a a') (hb : σ[a.block]? = some (.cells b)) (hf : b.fl = .ex ∨ b.fl = .ro) :
    VRel ρ (.slice (some (if m = l then a else a.add k)) h (m - l)) (.slice (some (if m = l then a' else a'.add k)) h (m - l)) := by
  obtain ⟨i, h1, h2, rfl⟩ := hp
  obtain ⟨bl, o, sp⟩ := a
  simp only at h1 h2 hb
  subst h2
  obtain ⟨i', cs, fz, hi, hr⟩ := hw.blk bl b hb (by rcases hf with e | e <;> rw [e] <;> decide)
  obtain rfl : i = i' := by rw [h1] at hi; exact Option.some.inj hi
  have hc : ∀ off c, CapOk i off c c := by
    intro off c
    rcases hf with e | e
    · simp [CapOk, (hr.ex e).1]
    · simp [CapOk, (hr.ro e).2.1]
  split
  · exact .slice h1 (hc _ _)
  · rw [add_none, add_none, Nat.add_assoc]
    exact .slice h1 (hc _ _)
theorem vslice_ok {t : TypeId} {x x' v : Value} {lo lo' hi hi' mx mx' : Option Value} (hw : WRel ρ σ w0 w B0) (hx : VRel ρ x x') (h1 : ORel ρ lo lo') (h2 : ORel ρ hi hi') (h3 : ORel ρ mx mx')
    (hv : vslice P σ t x lo hi mx = some v) : ∃ v', pv P (Instr.sliceAt t x' lo' hi' mx') = some v' ∧ VRel ρ v v' := by
  unfold vslice at hv
  cases hu : P.underlying t with
  | none => simp [hu] at hv
  | some d =>
    cases hx with
    | @slice id off n c c' i hi0 hc =>
      cases d <;> first | (simp [hu] at hv; done) | skip
      case slice elem =>
        simp only [hu] at hv
        cases hinf : P.info? elem with
        | none => simp [hinf] at hv
        | some info =>
          cases hb : pv P (Instr.sliceBounds true n c lo hi mx) with
          | none => simp [hinf, hb] at hv
          | some lhm =>
            obtain ⟨l, h, m⟩ := lhm
            have hcc : c ≤ c' := by
              unfold CapOk at hc
              split at hc
              · omega
              · exact hc.1
              · exact hc
            obtain ⟨⟨l', h', m'⟩, hb', e1, e2, e3, e4, e5, e6⟩ := PR.sliceBounds (P := P) h1 h2 h3 true (n := n) hcc _ hb
            simp only at e1 e2 e3 e4 e5 e6
            subst e1
            subst e2
            have hrun := pv_slice_slice (a := ⟨i.b, i.o + off, none⟩) hu hinf hb'
            refine ⟨_, hrun, ?_⟩
            simp only [hinf, hb] at hv
            cases hg : σ[id]? with
            | none => simp [hg] at hv
            | some o =>
              cases o with
              | map es cl => simp [hg] at hv
              | iter s p => simp [hg] at hv
              | rmap es cl => simp [hg] at hv
              | cells b =>
                simp only [hg] at hv
                by_cases hd : b.fl = .dead
                · simp [hd] at hv
                obtain ⟨i', cs, fz, hi1, hr⟩ := hw.blk id b hg hd
                obtain rfl : i = i' := by rw [hi0] at hi1; exact Option.some.inj hi1
                have step : ∀ {v}, (if l < m then (if b.fl = .ro ∨ b.esz = info.size then some (Value.slice (some ((⟨id, off, none⟩ : Addr).add (l * info.size))) (h - l) (m - l)) else none)
                    else if h = l then some (.slice (some ⟨id, off, some 0⟩) 0 0) else none) = some v → b.fl ≠ .ex →
                    VRel ρ v (.slice (some (if m' = l then (⟨i.b, i.o + off, none⟩ : Addr) else (⟨i.b, i.o + off, none⟩ : Addr).add (l * info.size))) (h - l) (m' - l)) := by
                  intro v hv hex
                  by_cases hlm : l < m
                  · rw [if_pos hlm] at hv
                    split at hv
                    case isFalse => cases hv
                    rename_i hes
                    cases hv
                    have hmm : m ≤ m' ∧ m' ≤ c' := by rcases e3 with rfl | ⟨rfl, rfl⟩ <;> omega
                    rw [if_neg (by omega), add_none, add_none, Nat.add_assoc]
                    refine .slice hi0 ?_
                    cases hfl : b.fl with
                    | dead => exact absurd hfl hd
                    | ex => exact absurd hfl hex
                    | ro =>
                      have := (hr.ro hfl).2.1
                      simp only [CapOk, this]
                      omega
                    | tip | old =>
                      have hk := hr.gr (by simp [hfl])
                      have hes' : b.esz = info.size := by rcases hes with e | e; exact absurd e (by rw [hfl]; decide); exact e
                      simp only [CapOk, hk.1] at hc ⊢
                      refine ⟨by omega, ?_⟩
                      have hbd := hc.2
                      rw [hk.2, hes'] at hbd ⊢
                      have e : l * info.size + (m' - l) * info.size = m' * info.size := by rw [← Nat.add_mul, Nat.add_sub_cancel' (by omega)]
                      have e' : m' * info.size ≤ c' * info.size := Nat.mul_le_mul_right _ (by omega)
                      omega
                  · rw [if_neg hlm] at hv
                    split at hv
                    case isFalse => cases hv
                    rename_i hhl
                    cases hv
                    subst hhl
                    rw [Nat.sub_self]
                    exact .sliceOff _ _ _ _
                cases hfl : b.fl with
                | dead => exact absurd hfl hd
                | ex =>
                  simp only [hfl] at hv
                  cases hv
                  have hk := hr.ex hfl
                  simp only [CapOk, hk.1] at hc
                  subst hc
                  obtain rfl : m = m' := by rcases e3 with e | ⟨e, e'⟩ <;> omega
                  exact arr_slice hw ⟨i, hi0, rfl, rfl⟩ hg (.inl hfl)
                | ro => simp only [hfl] at hv; exact step (by rw [hfl]; exact hv) (by rw [hfl]; decide)
                | tip => simp only [hfl] at hv; exact step (by rw [hfl]; exact hv) (by rw [hfl]; decide)
                | old => simp only [hfl] at hv; exact step (by rw [hfl]; exact hv) (by rw [hfl]; decide)
    | sliceOff id off a c' =>
      cases d <;> first | (simp [hu] at hv; done) | skip
      case slice elem =>
        simp only [hu] at hv
        cases hinf : P.info? elem with
        | none => simp [hinf] at hv
        | some info =>
          cases hb : pv P (Instr.sliceBounds true 0 0 lo hi mx) with
          | none => simp [hinf, hb] at hv
          | some lhm =>
            obtain ⟨l, h, m⟩ := lhm
            obtain ⟨⟨l', h', m'⟩, hb', e1, e2, e3, e4, e5, e6⟩ := PR.sliceBounds (P := P) h1 h2 h3 true (n := 0) (Nat.zero_le c') _ hb
            simp only at e1 e2 e3 e4 e5 e6
            subst e1
            subst e2
            simp only [hinf, hb] at hv
            cases hv
            refine ⟨_, pv_slice_slice hu hinf hb', ?_⟩
            have : h = 0 := by omega
            subst this
            rw [Nat.zero_sub]
            exact .sliceOff _ _ _ _
    | @ptr id off i hi0 =>
      cases d <;> first | (simp [hu] at hv; done) | skip
      case array n elem =>
        simp only [hu] at hv
        cases hinf : P.info? elem with
        | none => simp [hinf] at hv
        | some info =>
          cases hb : pv P (Instr.sliceBounds false n n lo hi mx) with
          | none => simp [hinf, hb] at hv
          | some lhm =>
            obtain ⟨l, h, m⟩ := lhm
            obtain ⟨⟨l', h', m'⟩, hb', e1, e2, e3, e4, e5, e6⟩ := PR.sliceBounds (P := P) h1 h2 h3 false (n := n) (Nat.le_refl n) _ hb
            simp only at e1 e2 e3 e4 e5 e6
            subst e1
            subst e2
            obtain rfl : m = m' := by rcases e3 with e | ⟨e, e'⟩ <;> omega
            simp only [hinf, hb] at hv
            cases hg : σ[id]? with
            | none => simp [hg] at hv
            | some o =>
              cases o with
              | map es cl => simp [hg] at hv
              | iter s p => simp [hg] at hv
              | rmap es cl => simp [hg] at hv
              | cells b =>
                simp only [hg] at hv
                split at hv
                case isFalse => cases hv
                rename_i hf
                cases hv
                exact ⟨_, pv_slice_array hu hinf hb', arr_slice hw ⟨i, hi0, rfl, rfl⟩ hg hf⟩
      case pointer arr =>
        simp only [hu] at hv
        cases hu2 : P.underlying arr with
        | none => simp [hu2] at hv
        | some d2 =>
          cases d2 <;> first | (simp [hu2] at hv; done) | skip
          case array n elem =>
            simp only [hu2] at hv
            cases hinf : P.info? elem with
            | none => simp [hinf] at hv
            | some info =>
              cases hb : pv P (Instr.sliceBounds false n n lo hi mx) with
              | none => simp [hinf, hb] at hv
              | some lhm =>
                obtain ⟨l, h, m⟩ := lhm
                obtain ⟨⟨l', h', m'⟩, hb', e1, e2, e3, e4, e5, e6⟩ := PR.sliceBounds (P := P) h1 h2 h3 false (n := n) (Nat.le_refl n) _ hb
                simp only at e1 e2 e3 e4 e5 e6
                subst e1
                subst e2
                obtain rfl : m = m' := by rcases e3 with e | ⟨e, e'⟩ <;> omega
                simp only [hinf, hb] at hv
                cases hg : σ[id]? with
                | none => simp [hg] at hv
                | some o =>
                  cases o with
                  | map es cl => simp [hg] at hv
                  | iter s p => simp [hg] at hv
                  | rmap es cl => simp [hg] at hv
                  | cells b =>
                    simp only [hg] at hv
                    split at hv
                    case isFalse => cases hv
                    rename_i hf
                    cases hv
                    exact ⟨_, pv_slice_ptr hu hu2 hinf hb', arr_slice hw ⟨i, hi0, rfl, rfl⟩ hg hf⟩
    | _ => cases d <;> simp [hu] at hv
end
end Vm
end Go.Proofs.YtmapjahpjolmnaaGreatDoor
namespace Go.Proofs.YtmapjahpjolmnaaGreatDoor
namespace Vm
set_option linter.unusedSimpArgs false
set_option linter.unusedVariables false
open Go.RowKit

section
variable {P : Program} {w0 w : World} {B0 : Base} {ρ : Rho} {σ : VHeap}
theorem run_loadFrom {cs : Array Value} {e : TypeId} {fz : Nat × Nat} {b o : Nat} : ∀ (n i : Nat) (acc : Array Value) (w : World), w.heap[b]? = some (.cells cs e fz) → o + i + n ≤ cs.size →
    (loadCellsFrom ⟨b, o, none⟩ i n acc).run P w = .ok (acc ++ cs.extract (o + i) (o + i + n)) w := by
  intro n
  induction n with
  | zero => intro i acc w hb hn; simp [loadCellsFrom]; omega
  | succ n ih =>
    intro i acc w hb hn
    unfold loadCellsFrom
    rw [add_none, Sem.run_bind, run_load]
    have hc : w.cell? ⟨b, o + i, none⟩ = some (cs[o + i]'(by omega)) := by
      simp only [World.cell?, hb]
      simp
    rw [hc]
    simp only [Result.andThen_ok]
    rw [ih (i + 1) _ w hb (by omega)]
    congr 1
    apply Array.ext
    · simp; omega
    · intro k h1 h2
      simp only [Array.getElem_append, Array.getElem_push, Array.getElem_extract, Array.size_push]
      by_cases c1 : k < acc.size
      · rw [dif_pos (by omega), dif_pos c1, dif_pos c1]
      · by_cases c2 : k = acc.size
        · subst c2
          simp
        · rw [dif_neg (by omega), dif_neg c1]
          congr 1
          omega
theorem run_loadCells {cs : Array Value} {e : TypeId} {fz : Nat × Nat} {b o n : Nat} {w : World} (hb : w.heap[b]? = some (.cells cs e fz)) (hn : o + n ≤ cs.size) :
    (loadCells ⟨b, o, none⟩ n).run P w = .ok (cs.extract o (o + n)) w := by
  unfold loadCells
  rw [run_loadFrom n 0 #[] w hb (by omega)]
  simp
def vfirst (σ : VHeap) (size m : Nat) : Value → Option (Array Value)
  | .slice (some a) _ _ =>
    if m * size = 0 then some #[] else
    match a.spot, σ[a.block]? with
    | none, some (.cells b) => if b.fl ≠ .dead ∧ a.off + m * size ≤ b.cells.size then some (b.cells.extract a.off (a.off + m * size)) else none
    | _, _ => none
  | .slice none _ _ => some #[]
  | .string s => some ((s.extract 0 m).data.map fun b => .int .u8 b.toNat)
  | _ => none
theorem blk_extract {b : Blk} {i : Info} {cs : Array Value} {fz : Nat × Nat} {off k : Nat} (hr : BlkRel ρ w B0 b i cs fz) (hk : off + k ≤ b.cells.size) :
    ARel ρ (b.cells.extract off (off + k)) (cs.extract (i.o + off) (i.o + off + k)) := by
  have hl := hr.len
  refine ⟨by simp; omega, fun j hj hj' => ?_⟩
  simp only [Array.size_extract] at hj hj'
  simp only [Array.getElem_extract]
  have := hr.cells (off + j) (by omega) (by omega)
  simpa [Nat.add_assoc] using this
theorem vfirst_ok {size m : Nat} {x x' : Value} {cs : Array Value} (hw : WRel ρ σ w0 w B0) (hx : VRel ρ x x') (h : vfirst σ size m x = some cs) :
    ∃ cs', ARel ρ cs cs' ∧ ∀ w1 : World, w1.heap = w.heap → (Builtin.firstCells size m x').run P w1 = .ok cs' w1 := by
  cases hx with
  | string s =>
    cases h
    refine ⟨_, ⟨rfl, fun k hk hk' => ?_⟩, fun w1 _ => rfl⟩
    simp only [Array.getElem_map]
    exact .int _ _
  | sliceNil => cases h; exact ⟨#[], ARel.nil _, fun w1 _ => rfl⟩
  | sliceOff id off a c' =>
    simp only [vfirst] at h
    split at h
    case isFalse => simp at h
    rename_i h0
    cases h
    refine ⟨#[], ARel.nil _, fun w1 _ => ?_⟩
    unfold Builtin.firstCells
    simp only [h0]
    rfl
  | @slice id off n c c' i hi hc =>
    simp only [vfirst] at h
    split at h
    · rename_i h0
      cases h
      refine ⟨#[], ARel.nil _, fun w1 _ => ?_⟩
      unfold Builtin.firstCells
      simp only [h0]
      rfl
    · cases hg : σ[id]? with
      | none => simp [hg] at h
      | some o =>
        cases o with
        | map es c => simp [hg] at h
        | iter s p => simp [hg] at h
        | rmap es c => simp [hg] at h
        | cells b =>
          simp only [hg] at h
          split at h
          case isFalse => cases h
          rename_i hd
          cases h
          obtain ⟨i', cs, fz, hi', hr⟩ := hw.blk id b hg hd.1
          obtain rfl : i = i' := by rw [hi] at hi'; exact Option.some.inj hi'
          refine ⟨_, blk_extract hr hd.2, fun w1 e => ?_⟩
          unfold Builtin.firstCells
          have hl := hr.len
          exact run_loadCells (by rw [e]; exact hr.at_) (by omega)
  | _ => simp [vfirst] at h

theorem run_storeCells {e : TypeId} {fz : Nat × Nat} {b o : Nat} : ∀ (vs : List Value) (i : Nat) (cs : Array Value) (w : World), w.heap[b]? = some (.cells cs e fz) → o + i + vs.length ≤ cs.size →
    (∀ k, k < cs.size → ¬ (fz.1 ≤ k ∧ k < fz.2)) → (∀ v ∈ vs, v.oneCell' = true) →
    ∃ w' cs', (storeCells ⟨b, o, none⟩ vs i).run P w = .ok () w' ∧ w'.heap[b]? = some (.cells cs' e fz) ∧ cs'.size = cs.size ∧ (∀ k (h : k < vs.length), cs'[o + i + k]? = some vs[k]) ∧
      (∀ k, k < o + i ∨ o + i + vs.length ≤ k → cs'[k]? = cs[k]?) ∧ (∀ k, k ≠ b → w'.heap[k]? = w.heap[k]?) ∧ w'.os = w.os ∧ w'.tape = w.tape ∧ w'.output = w.output ∧ w'.heap.size = w.heap.size := by
  intro vs
  induction vs with
  | nil =>
    intro i cs w hb _ _ _
    exact ⟨w, cs, rfl, hb, rfl, fun k h => by simp at h, fun _ _ => rfl, fun _ _ => rfl, rfl, rfl, rfl, rfl⟩
  | cons v vs ih =>
    intro i cs w hb hn hf h1
    simp only [List.length_cons] at hn
    have hc : w.cell? ⟨b, o + i, none⟩ = some (cs[o + i]'(by omega)) := by
      simp only [World.cell?, hb]
      simp
    have hfz : w.frozen? ⟨b, o + i, none⟩ = false := by
      have := hf (o + i) (by omega)
      simp only [World.frozen?, hb]
      simp only [Bool.and_eq_false_iff, decide_eq_false_iff_not]
      omega
    have hs := heap_set_self (w := w) (a := ⟨b, o + i, none⟩) (v := v) rfl hb
    obtain ⟨w', cs', r1, r2, r3, r4, r5, r6, r7, r8, r9, r10⟩ := ih (i + 1) (cs.setIfInBounds (o + i) v) (w.setCell ⟨b, o + i, none⟩ v) hs (by simp; omega) (fun k hk => hf k (by simpa using hk)) (fun u hu => h1 u (by simp [hu]))
    refine ⟨w', cs', ?_, r2, by simpa using r3, ?_, ?_, ?_, by rw [r7]; rfl, by rw [r8]; rfl, by rw [r9]; rfl, by simpa using r10⟩
    · unfold storeCells
      rw [add_none, Sem.run_bind, run_store _ _ _ _ _ (h1 v (by simp)), hc]
      simp only [hfz]
      exact r1
    · intro k hk
      cases k with
      | zero =>
        rw [r5 (o + i + 0) (.inl (by omega)), Nat.add_zero, Array.getElem?_setIfInBounds]
        rw [if_pos rfl, if_pos (by omega)]
        rfl
      | succ k =>
        have := r4 k (by simpa using hk)
        rw [show o + i + (k + 1) = o + (i + 1) + k by omega]
        simpa using this
    · intro k hk
      simp only [List.length_cons] at hk
      rw [r5 k (by omega), Array.getElem?_setIfInBounds_ne (by omega)]
    · intro k hk
      rw [r6 k hk, Below.heap_setCell _ _ _ _ hk]

/-- A tip becomes an elder. -/
def Blk.aged (b : Blk) : Blk := { b with fl := .old }
theorem WRel.age (h : WRel ρ σ w0 w B0) {id : Nat} {b : Blk} (hb : σ[id]? = some (.cells b)) (hfl : b.fl = .tip) : WRel ρ (σ.setIfInBounds id (.cells b.aged)) w0 w B0 := by
  have hidlt : id < σ.size := (Array.getElem?_eq_some_iff.1 hb).1
  have hget : ∀ id', id' ≠ id → (σ.setIfInBounds id (.cells b.aged))[id']? = σ[id']? := fun id' hne => Array.getElem?_setIfInBounds_ne (Ne.symm hne)
  have hget0 : (σ.setIfInBounds id (.cells b.aged))[id]? = some (.cells b.aged) := by rw [Array.getElem?_setIfInBounds]; simp [hidlt]
  have hd : b.fl ≠ .dead := by rw [hfl]; decide
  have hno : ∀ id' o' i i', id' ≠ id → σ[id']? = some o' → o'.own = true → ρ id = some i → ρ id' = some i' → i'.b = i.b → ∃ b', o' = .cells b' ∧ b'.root = b.root ∧ b'.fl = .old := by
    intro id' o' i i' hne ho hown hi hi' he
    have hk := h.sep id id' _ _ i i' (Ne.symm hne) hb ho (by simp [VObj.own, hfl]) hown hi hi' he.symm
    cases o' with
    | cells b' => exact ⟨b', rfl, hk.1.symm, (hk.2.2.2 hfl).1⟩
    | map es c => exact hk.elim
    | iter s p => exact hk.elim
    | rmap es c => exact hk.elim
  constructor
  · intro id' hid; exact h.dom id' (by simpa using hid)
  · intro id' b' hb' hd'
    by_cases hid : id' = id
    · subst hid
      rw [hget0] at hb'
      obtain rfl : b.aged = b' := VObj.cells.inj (Option.some.inj hb')
      obtain ⟨i, cs, fz, hi, hr⟩ := h.blk id' b hb hd
      refine ⟨i, cs, fz, hi, hr.at_, hr.len, hr.cells, by simp [Blk.aged], fun _ => ?_, by simp [Blk.aged], fun _ => hr.gr (.inl hfl)⟩
      have := hr.mine (by rw [hfl]; decide)
      exact ⟨this.1, this.2.1, by simp [Blk.aged]⟩
    · rw [hget id' hid] at hb'
      exact h.blk id' b' hb' hd'
  · intro id' es c hg
    have hid : id' ≠ id := by rintro rfl; rw [hget0] at hg; cases hg
    rw [hget id' hid] at hg
    exact h.map id' es c hg
  · intro id' es c hg
    have hid : id' ≠ id := by rintro rfl; rw [hget0] at hg; cases hg
    rw [hget id' hid] at hg
    exact h.rmap id' es c hg
  · intro id' s p hg
    have hid : id' ≠ id := by rintro rfl; rw [hget0] at hg; cases hg
    rw [hget id' hid] at hg
    exact h.iter id' s p hg
  · intro id1 id2 o1 o2 i1 i2 h12 g1 g2 w1 w2 r1 r2 hb12
    by_cases e1 : id1 = id
    · subst e1
      rw [hget0] at g1
      obtain rfl := Option.some.inj g1
      rw [hget id2 (Ne.symm h12)] at g2
      obtain ⟨b', rfl, hroot, hold⟩ := hno id2 o2 i1 i2 (Ne.symm h12) g2 w2 r1 r2 hb12.symm
      exact ⟨hroot.symm, by simp [Blk.aged], by rw [hold]; decide, by simp [Blk.aged]⟩
    · rw [hget id1 e1] at g1
      by_cases e2 : id2 = id
      · subst e2
        rw [hget0] at g2
        obtain rfl := Option.some.inj g2
        obtain ⟨b', rfl, hroot, hold⟩ := hno id1 o1 i2 i1 e1 g1 w1 r2 r1 hb12
        exact ⟨hroot, by rw [hold]; decide, by simp [Blk.aged], by rw [hold]; intro e; cases e⟩
      · rw [hget id2 e2] at g2
        exact h.sep id1 id2 o1 o2 i1 i2 h12 g1 g2 w1 w2 r1 r2 hb12
  · exact h.base
  · exact h.below
  · intro k hk; have := h.hole k hk; exact ⟨this.1, by simpa using this.2⟩
/-- A new row in the real memory, with room behind it. -/
theorem WRel.newTip (h : WRel ρ σ w0 w B0) {w' : World} {cs cs' rest : Array Value} {e : TypeId} {fz : Nat × Nat} (esz : Nat) (kin : Bool) (root : Nat) (hw : Below w.heap.size w w') (hsz : w.heap.size < w'.heap.size)
    (ha : w'.heap[w.heap.size]? = some (.cells (cs' ++ rest) e fz)) (hf : ∀ k, k < (cs' ++ rest).size → ¬ (fz.1 ≤ k ∧ k < fz.2)) (hc : ARel ρ cs cs') :
    WRel (ρ.more σ.size ⟨w.heap.size, 0, esz, (cs' ++ rest).size, .gr⟩) (σ.push (.cells ⟨cs, e, .tip, kin, root, esz⟩)) w0 w' B0 := by
  have hle := Rho.le_more (h.dom _ (Nat.le_refl _)) ⟨w.heap.size, 0, esz, (cs' ++ rest).size, .gr⟩
  refine h.grow_new hw (Nat.le_refl _) ?_ (fun _ _ x => by cases x) (fun _ _ x => by cases x) (fun _ _ x => by cases x)
  rintro b hb _
  cases hb
  refine ⟨cs' ++ rest, fz, ha, by simp [hc.1], ?_, by simp, fun _ => ⟨fun u => absurd (h.base _ u) (Nat.lt_irrefl _), rfl, fun _ => hf⟩, by simp, fun _ => ⟨rfl, rfl⟩⟩
  intro k hk hk'
  simp only [Nat.zero_add]
  rw [Array.getElem_append_left (by rw [← hc.1]; exact hk)]
  exact (hc.2 k hk _).mono hle
end
end Vm
end Go.Proofs.YtmapjahpjolmnaaGreatDoor
namespace Go.Proofs.YtmapjahpjolmnaaGreatDoor
namespace Vm
set_option linter.unusedSimpArgs false
set_option linter.unusedVariables false
open Go.RowKit

def isIntT : TypeDesc → Bool
  | .int _ => true
  | _ => false
def vlen : Value → Option Nat
  | .slice _ n _ => some n
  | .string s => some s.size
  | _ => none
section
variable {P : Program} {w0 w : World} {B0 : Base} {ρ : Rho} {σ : VHeap}
theorem pv_lenOf {x : Value} {m : Nat} (h : vlen x = some m) : pv P (Builtin.lenOf x) = some m := by
  cases x <;> first | (cases h; done) | (cases h; rfl)
theorem run_append_fit {ts : Array TypeId} {t t0 t1 e : TypeId} {d1 : TypeDesc} {info : TypeInfo} {base : Option Addr} {n c m : Nat} {x : Value} {w : World}
    (h0 : ts[0]? = some t0) (h1 : ts[1]? = some t1) (hu0 : P.underlying t0 = some (.slice e)) (hu1 : P.underlying t1 = some d1) (hd : isIntT d1 = false) (hi : P.info? e = some info) (hl : vlen x = some m) (hfit : n + m ≤ c) :
    (Builtin.append_ ts t #[.slice base n c, x]).run P w = (((Builtin.firstCells info.size m x).run P w).andThen fun new w1 =>
        (match base with
          | some a => (do storeCells (a.add (n * info.size)) new.toList; pure (.slice base (n + m) c) : Sem Value)
          | _ => pure (.slice base (n + m) c)).run P w1) := by
  unfold Builtin.append_
  have hm : Go.Builtin.append_.match_1 (fun _ => Bool) d1 (fun k => true) (fun x => false) = false := by cases d1 <;> first | rfl | (simp [isIntT] at hd)
  simp only [h0, h1, List.getElem?_toArray, List.getElem?_cons_zero, List.getElem?_cons_succ]
  rw [Sem.run_bind, pv_run (pv_underlying hu0)]
  simp only [Result.andThen_ok]
  rw [Sem.run_bind, pv_run (pv_sizeOf hi)]
  simp only [Result.andThen_ok]
  rw [Sem.run_bind, pv_run (pv_underlying hu1)]
  simp only [Result.andThen_ok]
  rw [Sem.run_bind, Sem.run_pure]
  simp only [Result.andThen_ok, hm, Bool.false_eq_true, if_false, Bool.not_false, if_true]
  rw [Sem.run_bind, pv_run (pv_lenOf hl)]
  simp only [Result.andThen_ok, hfit, if_true]
  rw [Sem.run_bind]
  rfl
theorem growBy_le (L : Nat) : ∀ (r c : Nat), c ≤ L → Builtin.growBy L r c ≤ 2 * L + 256 := by
  intro r
  induction r with
  | zero => intro c h; simp [Builtin.growBy]; omega
  | succ r ih =>
    intro c h
    unfold Builtin.growBy
    split
    · omega
    · rename_i h2
      by_cases h3 : c + (c + 768) / 4 ≤ L
      · exact ih _ h3
      · cases r with
        | zero => simp [Builtin.growBy]; omega
        | succ r =>
          unfold Builtin.growBy
          rw [if_pos (by omega)]
          omega
theorem nextcap_le {L c : Nat} (h : c < L) : Builtin.nextslicecap L c ≤ 2 * L + 256 := by
  unfold Builtin.nextslicecap
  split
  · omega
  · split
    · omega
    · exact growBy_le L 4 c (by omega)
theorem run_append_grow {ts : Array TypeId} {t t0 t1 e : TypeId} {d1 : TypeDesc} {info : TypeInfo} {z : Value} {base : Option Addr} {n c m : Nat} {x : Value} {w : World} {old new : Array Value}
    (h0 : ts[0]? = some t0) (h1 : ts[1]? = some t1) (hu0 : P.underlying t0 = some (.slice e)) (hu1 : P.underlying t1 = some d1) (hd : isIntT d1 = false) (hi : P.info? e = some info) (hz : info.zero = some z) (hl : vlen x = some m) (hfit : ¬ n + m ≤ c)
    (hb : 0 < info.bytes) (hcap : (2 * (n + m) + 256) * info.bytes ≤ 2 ^ 48)
    (ho : ∀ w1 : World, w1.heap = w.heap → (Builtin.firstCells info.size n (.slice base n c)).run P w1 = .ok old w1) (hn : ∀ w1 : World, w1.heap = w.heap → (Builtin.firstCells info.size m x).run P w1 = .ok new w1) :
    ∃ k, n + m ≤ k ∧ (Builtin.append_ ts t #[.slice base n c, x]).run P w = .ok (.slice (some ⟨w.heap.size, 0, none⟩) (n + m) k) (w.drew.alloc (.cells (old ++ new ++ Builtin.zeroCells z.cells (k - (n + m))) e)) := by
  refine ⟨(Question.appendCap (n + m) c e).cut (w.tape w.drawn (.appendCap (n + m) c e)), by simp [Question.cut], ?_⟩
  unfold Builtin.append_
  have hm : Go.Builtin.append_.match_1 (fun _ => Bool) d1 (fun k => true) (fun x => false) = false := by cases d1 <;> first | rfl | (simp [isIntT] at hd)
  simp only [h0, h1, List.getElem?_toArray, List.getElem?_cons_zero, List.getElem?_cons_succ]
  rw [Sem.run_bind, pv_run (pv_underlying hu0)]
  simp only [Result.andThen_ok]
  rw [Sem.run_bind, pv_run (pv_sizeOf hi)]
  simp only [Result.andThen_ok]
  rw [Sem.run_bind, pv_run (pv_underlying hu1)]
  simp only [Result.andThen_ok]
  rw [Sem.run_bind, Sem.run_pure]
  simp only [Result.andThen_ok, hm, Bool.false_eq_true, if_false, Bool.not_false, if_true]
  rw [Sem.run_bind, pv_run (pv_lenOf hl)]
  simp only [Result.andThen_ok, hfit, if_false]
  rw [Sem.run_bind, pv_run (pv_typeInfo hi)]
  have hb0 : ¬ info.bytes = 0 := by omega
  have hlim : ¬ Builtin.nextslicecap (n + m) c * info.bytes > 2 ^ 48 := by
    have := Nat.mul_le_mul_right info.bytes (nextcap_le (L := n + m) (c := c) (by omega))
    omega
  simp only [Result.andThen_ok, false_or, hb0, and_false, if_false]
  rw [Sem.run_bind, pv_run (pv_typeInfo hi)]
  simp only [Result.andThen_ok, hlim, if_false]
  rw [Sem.run_bind, run_choose]
  have hff : (Question.appendCap (n + m) c e).forced = false := rfl
  simp only [hff, Bool.false_eq_true, if_false, Result.andThen_ok]
  rw [Sem.run_bind, pv_run (pv_typeInfo hi)]
  simp only [Result.andThen_ok]
  rw [Sem.run_bind, run_askRoom]
  simp only [Result.andThen_ok]
  rw [Sem.run_bind, ho { heap := w.heap, tape := w.tape, drawn := w.drawn + 1, os := w.os, output := w.output } rfl]
  simp only [Result.andThen_ok]
  rw [Sem.run_bind, hn { heap := w.heap, tape := w.tape, drawn := w.drawn + 1, os := w.os, output := w.output } rfl]
  simp only [Result.andThen_ok]
  have hzv : pv P (zeroValue e) = some z := by
    unfold zeroValue
    rw [pv_bind, pv_typeInfo hi]
    simp only [Option.bind_some, hz]
    rfl
  rw [Sem.run_bind, pv_run hzv]
  simp only [Result.andThen_ok]
  rfl

/-- What has room in a virtual row. -/
def vfit (P : Program) (σ : VHeap) (base : Option Addr) (n c m size : Nat) (news : Array Value) : Option (Value × VHeap) :=
  if n + m ≤ c then
    match base with
    | none => some (.slice none (n + m) c, σ)
    | some a =>
      match vrun P (storeCells (a.add (n * size)) news.toList) σ with
      | some (_, σ') => some (.slice (some a) (n + m) c, σ')
      | none => none
  else none
def vappend (P : Program) (σ : VHeap) (ts : Array TypeId) (s x : Value) : Option (Value × VHeap) :=
  match ts[0]?, ts[1]?, s, vlen x with
  | some t0, some t1, .slice base n c, some m =>
    match P.underlying t0, P.underlying t1 with
    | some (.slice e), some d1 =>
      match P.info? e with
      | some info =>
        if isIntT d1 then none else
        match info.zero, vfirst σ info.size m x with
        | some z, some news =>
          match vfit P σ base n c m info.size news with
          | some r => some r
          | none =>
          if (2 * (n + m) + 256) * info.bytes ≤ 2 ^ 48 ∧ 0 < info.bytes ∧ z.cells.size = info.size ∧ news.all Value.oneCell' ∧ news.size = m * info.size then
            match base with
            | none => if n = 0 ∧ ¬ n + m ≤ c then some (.slice (some ⟨σ.size, 0, none⟩) (n + m) (n + m), σ.push (.cells ⟨news, e, .tip, false, σ.size, info.size⟩)) else none
            | some a =>
              match a.spot, σ[a.block]?, vfirst σ info.size n (.slice (some a) n c) with
              | none, some (.cells b), some olds =>
                match b.fl with
                | .ex => if ¬ n + m ≤ c then some (.slice (some ⟨σ.size, 0, none⟩) (n + m) (n + m), σ.push (.cells ⟨olds ++ news, e, .tip, false, σ.size, info.size⟩)) else none
                | .tip =>
                  if a.off + n * info.size = b.cells.size ∧ b.esz = info.size ∧ b.elem = e then
                    some (.slice (some ⟨σ.size, 0, none⟩) (n + m) (n + m), (σ.setIfInBounds a.block (.cells b.aged)).push (.cells ⟨olds ++ news, e, .tip, true, b.root, info.size⟩))
                  else none
                | _ => none
              | _, _, _ => none
          else none
        | _, _ => none
      | none => none
    | _, _ => none
  | _, _, _, _ => none
theorem vlen_rel {x x' : Value} (h : VRel ρ x x') : vlen x = vlen x' := by cases h <;> rfl
theorem zeroCells_size (z : Array Value) (k : Nat) : (Builtin.zeroCells z k).size = k * z.size := by simp [Builtin.zeroCells]
/-- The real row is laid anew. -/
theorem grow_anew {ts : Array TypeId} {t t0 t1 e : TypeId} {d1 : TypeDesc} {info : TypeInfo} {z : Value} {base : Option Addr} {n c m : Nat} {x : Value} {olds news olds' news' : Array Value}
    (hw : WRel ρ σ w0 w B0) (kin : Bool) (root : Nat)
    (h0 : ts[0]? = some t0) (h1 : ts[1]? = some t1) (hu0 : P.underlying t0 = some (.slice e)) (hu1 : P.underlying t1 = some d1) (hd : isIntT d1 = false) (hi : P.info? e = some info) (hz : info.zero = some z) (hl : vlen x = some m) (hfit : ¬ n + m ≤ c)
    (hb : 0 < info.bytes) (hcap : (2 * (n + m) + 256) * info.bytes ≤ 2 ^ 48) (hzs : z.cells.size = info.size)
    (ho : ∀ w1 : World, w1.heap = w.heap → (Builtin.firstCells info.size n (.slice base n c)).run P w1 = .ok olds' w1) (hn : ∀ w1 : World, w1.heap = w.heap → (Builtin.firstCells info.size m x).run P w1 = .ok news' w1)
    (ro : ARel ρ olds olds') (rn : ARel ρ news news') (hsz : (olds ++ news).size = (n + m) * info.size) :
    ∃ ρ2 v' w', ρ.le ρ2 ∧ (Builtin.append_ ts t #[.slice base n c, x]).run P w = .ok v' w' ∧ VRel ρ2 (.slice (some ⟨σ.size, 0, none⟩) (n + m) (n + m)) v' ∧
      WRel ρ2 (σ.push (.cells ⟨olds ++ news, e, .tip, kin, root, info.size⟩)) w0 w' B0 := by
  obtain ⟨k, hk, hrun⟩ := run_append_grow (t := t) h0 h1 hu0 hu1 hd hi hz hl hfit hb hcap ho hn
  have hra := ro.append rn
  have htot : (olds' ++ news' ++ Builtin.zeroCells z.cells (k - (n + m))).size = k * info.size := by
    rw [Array.size_append, zeroCells_size, ← hra.1, hsz, hzs, ← Nat.add_mul, Nat.add_sub_cancel' hk]
  have hnew := hw.newTip (w' := w.drew.alloc (.cells (olds' ++ news' ++ Builtin.zeroCells z.cells (k - (n + m))) e)) (cs' := olds' ++ news') (rest := Builtin.zeroCells z.cells (k - (n + m))) (e := e) (fz := (0, 0)) info.size kin root
    (((Below.refl _ w).drew).alloc (Nat.le_refl _) _) (by simp) (heap_new _ _) (fun k _ => by simp) hra
  refine ⟨_, _, _, Rho.le_more (hw.dom _ (Nat.le_refl _)) _, hrun, ?_, hnew⟩
  have := VRel.slice (ρ := ρ.more σ.size ⟨w.heap.size, 0, info.size, (olds' ++ news' ++ Builtin.zeroCells z.cells (k - (n + m))).size, .gr⟩) (id := σ.size) (off := 0) (n := n + m) (c := n + m) (c' := k) (Rho.more_self _ _ _)
    (by simp only [CapOk]; rw [htot]; exact ⟨hk, by simp⟩)
  simpa using this
end
end Vm
end Go.Proofs.YtmapjahpjolmnaaGreatDoor
