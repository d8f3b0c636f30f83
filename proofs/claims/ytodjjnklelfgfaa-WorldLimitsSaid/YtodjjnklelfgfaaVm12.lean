/- Rows of cells read and written at once; new blocks at the end of a line. -/
import Derived.Test.YtodjjnklelfgfaaVm11
namespace Go.Proofs.Ytodjjnklelfgfaa
namespace Vm
set_option linter.unusedSimpArgs false
set_option linter.unusedVariables false
open Go.RowKit

section
variable {P : Program} {w0 w : World} {B0 : Base} {ρ : Rho} {σ : VHeap}
theorem run_loadFrom {cs : Array Value} {e : TypeId} {fz : Nat × Nat} {b o : Nat} : ∀ (n i : Nat) (acc : Array Value) (w : World), w.heap[b]? = some (.cells cs e fz) → o + i + n ≤ cs.size →
    (loadCellsFrom ⟨b, o, none⟩ i n acc).run P w = .ok (acc ++ cs.extract (o + i) (o + i + n)) w := by
  intro n
  induction n with
  | zero => intro i acc w hb hn; simp [loadCellsFrom]; omega
  | succ n ih =>
    intro i acc w hb hn
    unfold loadCellsFrom
    rw [add_none, Sem.run_bind, run_load]
    have hc : w.cell? ⟨b, o + i, none⟩ = some (cs[o + i]'(by omega)) := by
      simp only [World.cell?, hb]
      simp
    rw [hc]
    simp only [Result.andThen_ok]
    rw [ih (i + 1) _ w hb (by omega)]
    congr 1
    apply Array.ext
    · simp; omega
    · intro k h1 h2
      simp only [Array.getElem_append, Array.getElem_push, Array.getElem_extract, Array.size_push]
      by_cases c1 : k < acc.size
      · rw [dif_pos (by omega), dif_pos c1, dif_pos c1]
      · by_cases c2 : k = acc.size
        · subst c2
          simp
        · rw [dif_neg (by omega), dif_neg c1]
          congr 1
          omega
theorem run_loadCells {cs : Array Value} {e : TypeId} {fz : Nat × Nat} {b o n : Nat} {w : World} (hb : w.heap[b]? = some (.cells cs e fz)) (hn : o + n ≤ cs.size) :
    (loadCells ⟨b, o, none⟩ n).run P w = .ok (cs.extract o (o + n)) w := by
  unfold loadCells
  rw [run_loadFrom n 0 #[] w hb (by omega)]
  simp
def vfirst (σ : VHeap) (size m : Nat) : Value → Option (Array Value)
  | .slice (some a) _ _ =>
    if m * size = 0 then some #[] else
    match a.spot, σ[a.block]? with
    | none, some (.cells b) => if b.fl ≠ .dead ∧ a.off + m * size ≤ b.cells.size then some (b.cells.extract a.off (a.off + m * size)) else none
    | _, _ => none
  | .slice none _ _ => some #[]
  | .string s => some ((s.extract 0 m).data.map fun b => .int .u8 b.toNat)
  | _ => none
theorem blk_extract {b : Blk} {i : Info} {cs : Array Value} {fz : Nat × Nat} {off k : Nat} (hr : BlkRel ρ w B0 b i cs fz) (hk : off + k ≤ b.cells.size) :
    ARel ρ (b.cells.extract off (off + k)) (cs.extract (i.o + off) (i.o + off + k)) := by
  have hl := hr.len
  refine ⟨by simp; omega, fun j hj hj' => ?_⟩
  simp only [Array.size_extract] at hj hj'
  simp only [Array.getElem_extract]
  have := hr.cells (off + j) (by omega) (by omega)
  simpa [Nat.add_assoc] using this
theorem vfirst_ok {size m : Nat} {x x' : Value} {cs : Array Value} (hw : WRel ρ σ w0 w B0) (hx : VRel ρ x x') (h : vfirst σ size m x = some cs) :
    ∃ cs', ARel ρ cs cs' ∧ ∀ w1 : World, w1.heap = w.heap → (Builtin.firstCells size m x').run P w1 = .ok cs' w1 := by
  cases hx with
  | string s =>
    cases h
    refine ⟨_, ⟨rfl, fun k hk hk' => ?_⟩, fun w1 _ => rfl⟩
    simp only [Array.getElem_map]
    exact .int _ _
  | sliceNil => cases h; exact ⟨#[], ARel.nil _, fun w1 _ => rfl⟩
  | sliceOff id off a c' =>
    simp only [vfirst] at h
    split at h
    case isFalse => simp at h
    rename_i h0
    cases h
    refine ⟨#[], ARel.nil _, fun w1 _ => ?_⟩
    unfold Builtin.firstCells
    simp only [h0]
    rfl
  | @slice id off n c c' i hi hc =>
    simp only [vfirst] at h
    split at h
    · rename_i h0
      cases h
      refine ⟨#[], ARel.nil _, fun w1 _ => ?_⟩
      unfold Builtin.firstCells
      simp only [h0]
      rfl
    · cases hg : σ[id]? with
      | none => simp [hg] at h
      | some o =>
        cases o with
        | map es c => simp [hg] at h
        | iter s p => simp [hg] at h
        | rmap es c => simp [hg] at h
        | cells b =>
          simp only [hg] at h
          split at h
          case isFalse => cases h
          rename_i hd
          cases h
          obtain ⟨i', cs, fz, hi', hr⟩ := hw.blk id b hg hd.1
          obtain rfl : i = i' := by rw [hi] at hi'; exact Option.some.inj hi'
          refine ⟨_, blk_extract hr hd.2, fun w1 e => ?_⟩
          unfold Builtin.firstCells
          have hl := hr.len
          exact run_loadCells (by rw [e]; exact hr.at_) (by omega)
  | _ => simp [vfirst] at h

theorem run_storeCells {e : TypeId} {fz : Nat × Nat} {b o : Nat} : ∀ (vs : List Value) (i : Nat) (cs : Array Value) (w : World), w.heap[b]? = some (.cells cs e fz) → o + i + vs.length ≤ cs.size →
    (∀ k, k < cs.size → ¬ (fz.1 ≤ k ∧ k < fz.2)) → (∀ v ∈ vs, v.oneCell' = true) →
    ∃ w' cs', (storeCells ⟨b, o, none⟩ vs i).run P w = .ok () w' ∧ w'.heap[b]? = some (.cells cs' e fz) ∧ cs'.size = cs.size ∧ (∀ k (h : k < vs.length), cs'[o + i + k]? = some vs[k]) ∧
      (∀ k, k < o + i ∨ o + i + vs.length ≤ k → cs'[k]? = cs[k]?) ∧ (∀ k, k ≠ b → w'.heap[k]? = w.heap[k]?) ∧ w'.os = w.os ∧ w'.tape = w.tape ∧ w'.output = w.output ∧ w'.heap.size = w.heap.size := by
  intro vs
  induction vs with
  | nil =>
    intro i cs w hb _ _ _
    exact ⟨w, cs, rfl, hb, rfl, fun k h => by simp at h, fun _ _ => rfl, fun _ _ => rfl, rfl, rfl, rfl, rfl⟩
  | cons v vs ih =>
    intro i cs w hb hn hf h1
    simp only [List.length_cons] at hn
    have hc : w.cell? ⟨b, o + i, none⟩ = some (cs[o + i]'(by omega)) := by
      simp only [World.cell?, hb]
      simp
    have hfz : w.frozen? ⟨b, o + i, none⟩ = false := by
      have := hf (o + i) (by omega)
      simp only [World.frozen?, hb]
      simp only [Bool.and_eq_false_iff, decide_eq_false_iff_not]
      omega
    have hs := heap_set_self (w := w) (a := ⟨b, o + i, none⟩) (v := v) rfl hb
    obtain ⟨w', cs', r1, r2, r3, r4, r5, r6, r7, r8, r9, r10⟩ := ih (i + 1) (cs.setIfInBounds (o + i) v) (w.setCell ⟨b, o + i, none⟩ v) hs (by simp; omega) (fun k hk => hf k (by simpa using hk)) (fun u hu => h1 u (by simp [hu]))
    refine ⟨w', cs', ?_, r2, by simpa using r3, ?_, ?_, ?_, by rw [r7]; rfl, by rw [r8]; rfl, by rw [r9]; rfl, by simpa using r10⟩
    · unfold storeCells
      rw [add_none, Sem.run_bind, run_store _ _ _ _ _ (h1 v (by simp)), hc]
      simp only [hfz]
      exact r1
    · intro k hk
      cases k with
      | zero =>
        rw [r5 (o + i + 0) (.inl (by omega)), Nat.add_zero, Array.getElem?_setIfInBounds]
        rw [if_pos rfl, if_pos (by omega)]
        rfl
      | succ k =>
        have := r4 k (by simpa using hk)
        rw [show o + i + (k + 1) = o + (i + 1) + k by omega]
        simpa using this
    · intro k hk
      simp only [List.length_cons] at hk
      rw [r5 k (by omega), Array.getElem?_setIfInBounds_ne (by omega)]
    · intro k hk
      rw [r6 k hk, Below.heap_setCell _ _ _ _ hk]

/-- A tip becomes an elder. -/
def Blk.aged (b : Blk) : Blk := { b with fl := .old }
theorem WRel.age (h : WRel ρ σ w0 w B0) {id : Nat} {b : Blk} (hb : σ[id]? = some (.cells b)) (hfl : b.fl = .tip) : WRel ρ (σ.setIfInBounds id (.cells b.aged)) w0 w B0 := by
  have hidlt : id < σ.size := (Array.getElem?_eq_some_iff.1 hb).1
  have hget : ∀ id', id' ≠ id → (σ.setIfInBounds id (.cells b.aged))[id']? = σ[id']? := fun id' hne => Array.getElem?_setIfInBounds_ne (Ne.symm hne)
  have hget0 : (σ.setIfInBounds id (.cells b.aged))[id]? = some (.cells b.aged) := by rw [Array.getElem?_setIfInBounds]; simp [hidlt]
  have hd : b.fl ≠ .dead := by rw [hfl]; decide
  have hno : ∀ id' o' i i', id' ≠ id → σ[id']? = some o' → o'.own = true → ρ id = some i → ρ id' = some i' → i'.b = i.b → ∃ b', o' = .cells b' ∧ b'.root = b.root ∧ b'.fl = .old := by
    intro id' o' i i' hne ho hown hi hi' he
    have hk := h.sep id id' _ _ i i' (Ne.symm hne) hb ho (by simp [VObj.own, hfl]) hown hi hi' he.symm
    cases o' with
    | cells b' => exact ⟨b', rfl, hk.1.symm, (hk.2.2.2 hfl).1⟩
    | map es c => exact hk.elim
    | iter s p => exact hk.elim
    | rmap es c => exact hk.elim
  constructor
  · intro id' hid; exact h.dom id' (by simpa using hid)
  · intro id' b' hb' hd'
    by_cases hid : id' = id
    · subst hid
      rw [hget0] at hb'
      obtain rfl : b.aged = b' := VObj.cells.inj (Option.some.inj hb')
      obtain ⟨i, cs, fz, hi, hr⟩ := h.blk id' b hb hd
      refine ⟨i, cs, fz, hi, hr.at_, hr.len, hr.cells, by simp [Blk.aged], fun _ => ?_, by simp [Blk.aged], fun _ => hr.gr (.inl hfl)⟩
      have := hr.mine (by rw [hfl]; decide)
      exact ⟨this.1, this.2.1, by simp [Blk.aged]⟩
    · rw [hget id' hid] at hb'
      exact h.blk id' b' hb' hd'
  · intro id' es c hg
    have hid : id' ≠ id := by rintro rfl; rw [hget0] at hg; cases hg
    rw [hget id' hid] at hg
    exact h.map id' es c hg
  · intro id' es c hg
    have hid : id' ≠ id := by rintro rfl; rw [hget0] at hg; cases hg
    rw [hget id' hid] at hg
    exact h.rmap id' es c hg
  · intro id' s p hg
    have hid : id' ≠ id := by rintro rfl; rw [hget0] at hg; cases hg
    rw [hget id' hid] at hg
    exact h.iter id' s p hg
  · intro id1 id2 o1 o2 i1 i2 h12 g1 g2 w1 w2 r1 r2 hb12
    by_cases e1 : id1 = id
    · subst e1
      rw [hget0] at g1
      obtain rfl := Option.some.inj g1
      rw [hget id2 (Ne.symm h12)] at g2
      obtain ⟨b', rfl, hroot, hold⟩ := hno id2 o2 i1 i2 (Ne.symm h12) g2 w2 r1 r2 hb12.symm
      exact ⟨hroot.symm, by simp [Blk.aged], by rw [hold]; decide, by simp [Blk.aged]⟩
    · rw [hget id1 e1] at g1
      by_cases e2 : id2 = id
      · subst e2
        rw [hget0] at g2
        obtain rfl := Option.some.inj g2
        obtain ⟨b', rfl, hroot, hold⟩ := hno id1 o1 i2 i1 e1 g1 w1 r2 r1 hb12
        exact ⟨hroot, by rw [hold]; decide, by simp [Blk.aged], by rw [hold]; intro e; cases e⟩
      · rw [hget id2 e2] at g2
        exact h.sep id1 id2 o1 o2 i1 i2 h12 g1 g2 w1 w2 r1 r2 hb12
  · exact h.base
  · exact h.below
  · intro k hk; have := h.hole k hk; exact ⟨this.1, by simpa using this.2⟩
/-- A new row in the real memory, with room behind it. -/
theorem WRel.newTip (h : WRel ρ σ w0 w B0) {w' : World} {cs cs' rest : Array Value} {e : TypeId} {fz : Nat × Nat} (esz : Nat) (kin : Bool) (root : Nat) (hw : Below w.heap.size w w') (hsz : w.heap.size < w'.heap.size)
    (ha : w'.heap[w.heap.size]? = some (.cells (cs' ++ rest) e fz)) (hf : ∀ k, k < (cs' ++ rest).size → ¬ (fz.1 ≤ k ∧ k < fz.2)) (hc : ARel ρ cs cs') :
    WRel (ρ.more σ.size ⟨w.heap.size, 0, esz, (cs' ++ rest).size, .gr⟩) (σ.push (.cells ⟨cs, e, .tip, kin, root, esz⟩)) w0 w' B0 := by
  have hle := Rho.le_more (h.dom _ (Nat.le_refl _)) ⟨w.heap.size, 0, esz, (cs' ++ rest).size, .gr⟩
  refine h.grow_new hw (Nat.le_refl _) ?_ (fun _ _ x => by cases x) (fun _ _ x => by cases x) (fun _ _ x => by cases x)
  rintro b hb _
  cases hb
  refine ⟨cs' ++ rest, fz, ha, by simp [hc.1], ?_, by simp, fun _ => ⟨fun u => absurd (h.base _ u) (Nat.lt_irrefl _), rfl, fun _ => hf⟩, by simp, fun _ => ⟨rfl, rfl⟩⟩
  intro k hk hk'
  simp only [Nat.zero_add]
  rw [Array.getElem_append_left (by rw [← hc.1]; exact hk)]
  exact (hc.2 k hk _).mono hle
end
end Vm
end Go.Proofs.Ytodjjnklelfgfaa
