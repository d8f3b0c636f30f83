/- Rows of cells read and written at once; new blocks at the end of a line. -/
import Derived.Test.YtmapjahpjolmnaaDoorG7
import Derived.Lib.ConvBytes
import Derived.Laws.IdiomStrings
import Derived.Lib.Builder
import Derived.LaidEqlPtr
set_option linter.unusedVariables false
set_option linter.unusedSimpArgs false
namespace Go.Proofs.YtmapjahpjolmnaaDoor
namespace Vm
set_option linter.unusedSimpArgs false
set_option linter.unusedVariables false
open Go.RowKit

section
variable {P : Program} {w0 w : World} {B0 : Base} {ρ : Rho} {σ : VHeap}
theorem run_loadFrom {cs : Array Value} {e : TypeId} {fz : Nat × Nat} {b o : Nat} : ∀ (n i : Nat) (acc : Array Value) (w : World), w.heap[b]? = some (.cells cs e fz) → o + i + n ≤ cs.size →
    (loadCellsFrom ⟨b, o, none⟩ i n acc).run P w = .ok (acc ++ cs.extract (o + i) (o + i + n)) w := by
  intro n
  induction n with
  | zero => intro i acc w hb hn; simp [loadCellsFrom]; omega
  | succ n ih =>
    intro i acc w hb hn
    unfold loadCellsFrom
    rw [add_none, Sem.run_bind, run_load]
    have hc : w.cell? ⟨b, o + i, none⟩ = some (cs[o + i]'(by omega)) := by
      simp only [World.cell?, hb]
      simp
    rw [hc]
    simp only [Result.andThen_ok]
    rw [ih (i + 1) _ w hb (by omega)]
    congr 1
    apply Array.ext
    · simp; omega
    · intro k h1 h2
      simp only [Array.getElem_append, Array.getElem_push, Array.getElem_extract, Array.size_push]
      by_cases c1 : k < acc.size
      · rw [dif_pos (by omega), dif_pos c1, dif_pos c1]
      · by_cases c2 : k = acc.size
        · subst c2
          simp
        · rw [dif_neg (by omega), dif_neg c1]
          congr 1
          omega
theorem run_loadCells {cs : Array Value} {e : TypeId} {fz : Nat × Nat} {b o n : Nat} {w : World} (hb : w.heap[b]? = some (.cells cs e fz)) (hn : o + n ≤ cs.size) :
    (loadCells ⟨b, o, none⟩ n).run P w = .ok (cs.extract o (o + n)) w := by
  unfold loadCells
  rw [run_loadFrom n 0 #[] w hb (by omega)]
  simp
def vfirst (σ : VHeap) (size m : Nat) : Value → Option (Array Value)
  | .slice (some a) _ _ =>
    if m * size = 0 then some #[] else
    match a.spot, σ[a.block]? with
    | none, some (.cells b) => if b.fl ≠ .dead ∧ a.off + m * size ≤ b.cells.size then some (b.cells.extract a.off (a.off + m * size)) else none
    | _, _ => none
  | .slice none _ _ => some #[]
  | .string s => some ((s.extract 0 m).data.map fun b => .int .u8 b.toNat)
  | _ => none
theorem blk_extract {b : Blk} {i : Info} {cs : Array Value} {fz : Nat × Nat} {off k : Nat} (hr : BlkRel ρ w B0 b i cs fz) (hk : off + k ≤ b.cells.size) :
    ARel ρ (b.cells.extract off (off + k)) (cs.extract (i.o + off) (i.o + off + k)) := by
  have hl := hr.len
  refine ⟨by simp; omega, fun j hj hj' => ?_⟩
  simp only [Array.size_extract] at hj hj'
  simp only [Array.getElem_extract]
  have := hr.cells (off + j) (by omega) (by omega)
  simpa [Nat.add_assoc] using this
theorem vfirst_ok {size m : Nat} {x x' : Value} {cs : Array Value} (hw : WRel ρ σ w0 w B0) (hx : VRel ρ x x') (h : vfirst σ size m x = some cs) :
    ∃ cs', ARel ρ cs cs' ∧ ∀ w1 : World, w1.heap = w.heap → (Builtin.firstCells size m x').run P w1 = .ok cs' w1 := by
  cases hx with
  | string s =>
    cases h
    refine ⟨_, ⟨rfl, fun k hk hk' => ?_⟩, fun w1 _ => rfl⟩
    simp only [Array.getElem_map]
    exact .int _ _
  | sliceNil => cases h; exact ⟨#[], ARel.nil _, fun w1 _ => rfl⟩
  | sliceOff id off a c' =>
    simp only [vfirst] at h
    split at h
    case isFalse => simp at h
    rename_i h0
    cases h
    refine ⟨#[], ARel.nil _, fun w1 _ => ?_⟩
    unfold Builtin.firstCells
    simp only [h0]
    rfl
  | @slice id off n c c' i hi hc =>
    simp only [vfirst] at h
    split at h
    · rename_i h0
      cases h
      refine ⟨#[], ARel.nil _, fun w1 _ => ?_⟩
      unfold Builtin.firstCells
      simp only [h0]
      rfl
    · cases hg : σ[id]? with
      | none => simp [hg] at h
      | some o =>
        cases o with
        | map es c => simp [hg] at h
        | iter s p => simp [hg] at h
        | rmap es c => simp [hg] at h
        | cells b =>
          simp only [hg] at h
          split at h
          case isFalse => cases h
          rename_i hd
          cases h
          obtain ⟨i', cs, fz, hi', hr⟩ := hw.blk id b hg hd.1
          obtain rfl : i = i' := by rw [hi] at hi'; exact Option.some.inj hi'
          refine ⟨_, blk_extract hr hd.2, fun w1 e => ?_⟩
          unfold Builtin.firstCells
          have hl := hr.len
          exact run_loadCells (by rw [e]; exact hr.at_) (by omega)
  | _ => simp [vfirst] at h

theorem run_storeCells {e : TypeId} {fz : Nat × Nat} {b o : Nat} : ∀ (vs : List Value) (i : Nat) (cs : Array Value) (w : World), w.heap[b]? = some (.cells cs e fz) → o + i + vs.length ≤ cs.size →
    (∀ k, k < cs.size → ¬ (fz.1 ≤ k ∧ k < fz.2)) → (∀ v ∈ vs, v.oneCell' = true) →
    ∃ w' cs', (storeCells ⟨b, o, none⟩ vs i).run P w = .ok () w' ∧ w'.heap[b]? = some (.cells cs' e fz) ∧ cs'.size = cs.size ∧ (∀ k (h : k < vs.length), cs'[o + i + k]? = some vs[k]) ∧
      (∀ k, k < o + i ∨ o + i + vs.length ≤ k → cs'[k]? = cs[k]?) ∧ (∀ k, k ≠ b → w'.heap[k]? = w.heap[k]?) ∧ w'.os = w.os ∧ w'.tape = w.tape ∧ w'.output = w.output ∧ w'.heap.size = w.heap.size := by
  intro vs
  induction vs with
  | nil =>
    intro i cs w hb _ _ _
    exact ⟨w, cs, rfl, hb, rfl, fun k h => by simp at h, fun _ _ => rfl, fun _ _ => rfl, rfl, rfl, rfl, rfl⟩
  | cons v vs ih =>
    intro i cs w hb hn hf h1
    simp only [List.length_cons] at hn
    have hc : w.cell? ⟨b, o + i, none⟩ = some (cs[o + i]'(by omega)) := by
      simp only [World.cell?, hb]
      simp
    have hfz : w.frozen? ⟨b, o + i, none⟩ = false := by
      have := hf (o + i) (by omega)
      simp only [World.frozen?, hb]
      simp only [Bool.and_eq_false_iff, decide_eq_false_iff_not]
      omega
    have hs := heap_set_self (w := w) (a := ⟨b, o + i, none⟩) (v := v) rfl hb
    obtain ⟨w', cs', r1, r2, r3, r4, r5, r6, r7, r8, r9, r10⟩ := ih (i + 1) (cs.setIfInBounds (o + i) v) (w.setCell ⟨b, o + i, none⟩ v) hs (by simp; omega) (fun k hk => hf k (by simpa using hk)) (fun u hu => h1 u (by simp [hu]))
    refine ⟨w', cs', ?_, r2, by simpa using r3, ?_, ?_, ?_, by rw [r7]; rfl, by rw [r8]; rfl, by rw [r9]; rfl, by simpa using r10⟩
    · unfold storeCells
      rw [add_none, Sem.run_bind, run_store _ _ _ _ _ (h1 v (by simp)), hc]
      simp only [hfz]
      exact r1
    · intro k hk
      cases k with
      | zero =>
        rw [r5 (o + i + 0) (.inl (by omega)), Nat.add_zero, Array.getElem?_setIfInBounds]
        rw [if_pos rfl, if_pos (by omega)]
        rfl
      | succ k =>
        have := r4 k (by simpa using hk)
        rw [show o + i + (k + 1) = o + (i + 1) + k by omega]
        simpa using this
    · intro k hk
      simp only [List.length_cons] at hk
      rw [r5 k (by omega), Array.getElem?_setIfInBounds_ne (by omega)]
    · intro k hk
      rw [r6 k hk, Below.heap_setCell _ _ _ _ hk]

/-- A tip becomes an elder. -/
def Blk.aged (b : Blk) : Blk := { b with fl := .old }
theorem WRel.age (h : WRel ρ σ w0 w B0) {id : Nat} {b : Blk} (hb : σ[id]? = some (.cells b)) (hfl : b.fl = .tip) : WRel ρ (σ.setIfInBounds id (.cells b.aged)) w0 w B0 := by
  have hidlt : id < σ.size := (Array.getElem?_eq_some_iff.1 hb).1
  have hget : ∀ id', id' ≠ id → (σ.setIfInBounds id (.cells b.aged))[id']? = σ[id']? := fun id' hne => Array.getElem?_setIfInBounds_ne (Ne.symm hne)
  have hget0 : (σ.setIfInBounds id (.cells b.aged))[id]? = some (.cells b.aged) := by rw [Array.getElem?_setIfInBounds]; simp [hidlt]
  have hd : b.fl ≠ .dead := by rw [hfl]; decide
  have hno : ∀ id' o' i i', id' ≠ id → σ[id']? = some o' → o'.own = true → ρ id = some i → ρ id' = some i' → i'.b = i.b → ∃ b', o' = .cells b' ∧ b'.root = b.root ∧ b'.fl = .old := by
    intro id' o' i i' hne ho hown hi hi' he
    have hk := h.sep id id' _ _ i i' (Ne.symm hne) hb ho (by simp [VObj.own, hfl]) hown hi hi' he.symm
    cases o' with
    | cells b' => exact ⟨b', rfl, hk.1.symm, (hk.2.2.2 hfl).1⟩
    | map es c => exact hk.elim
    | iter s p => exact hk.elim
    | rmap es c => exact hk.elim
  constructor
  · intro id' hid; exact h.dom id' (by simpa using hid)
  · intro id' b' hb' hd'
    by_cases hid : id' = id
    · subst hid
      rw [hget0] at hb'
      obtain rfl : b.aged = b' := VObj.cells.inj (Option.some.inj hb')
      obtain ⟨i, cs, fz, hi, hr⟩ := h.blk id' b hb hd
      refine ⟨i, cs, fz, hi, hr.at_, hr.len, hr.cells, by simp [Blk.aged], fun _ => ?_, by simp [Blk.aged], fun _ => hr.gr (.inl hfl)⟩
      have := hr.mine (by rw [hfl]; decide)
      exact ⟨this.1, this.2.1, by simp [Blk.aged]⟩
    · rw [hget id' hid] at hb'
      exact h.blk id' b' hb' hd'
  · intro id' es c hg
    have hid : id' ≠ id := by rintro rfl; rw [hget0] at hg; cases hg
    rw [hget id' hid] at hg
    exact h.map id' es c hg
  · intro id' es c hg
    have hid : id' ≠ id := by rintro rfl; rw [hget0] at hg; cases hg
    rw [hget id' hid] at hg
    exact h.rmap id' es c hg
  · intro id' s p hg
    have hid : id' ≠ id := by rintro rfl; rw [hget0] at hg; cases hg
    rw [hget id' hid] at hg
    exact h.iter id' s p hg
  · intro id1 id2 o1 o2 i1 i2 h12 g1 g2 w1 w2 r1 r2 hb12
    by_cases e1 : id1 = id
    · subst e1
      rw [hget0] at g1
      obtain rfl := Option.some.inj g1
      rw [hget id2 (Ne.symm h12)] at g2
      obtain ⟨b', rfl, hroot, hold⟩ := hno id2 o2 i1 i2 (Ne.symm h12) g2 w2 r1 r2 hb12.symm
      exact ⟨hroot.symm, by simp [Blk.aged], by rw [hold]; decide, by simp [Blk.aged]⟩
    · rw [hget id1 e1] at g1
      by_cases e2 : id2 = id
      · subst e2
        rw [hget0] at g2
        obtain rfl := Option.some.inj g2
        obtain ⟨b', rfl, hroot, hold⟩ := hno id1 o1 i2 i1 e1 g1 w1 r2 r1 hb12
        exact ⟨hroot, by rw [hold]; decide, by simp [Blk.aged], by rw [hold]; intro e; cases e⟩
      · rw [hget id2 e2] at g2
        exact h.sep id1 id2 o1 o2 i1 i2 h12 g1 g2 w1 w2 r1 r2 hb12
  · exact h.base
  · exact h.below
  · intro k hk; have := h.hole k hk; exact ⟨this.1, by simpa using this.2⟩
/-- A new row in the real memory, with room behind it. -/
theorem WRel.newTip (h : WRel ρ σ w0 w B0) {w' : World} {cs cs' rest : Array Value} {e : TypeId} {fz : Nat × Nat} (esz : Nat) (kin : Bool) (root : Nat) (hw : Below w.heap.size w w') (hsz : w.heap.size < w'.heap.size)
    (ha : w'.heap[w.heap.size]? = some (.cells (cs' ++ rest) e fz)) (hf : ∀ k, k < (cs' ++ rest).size → ¬ (fz.1 ≤ k ∧ k < fz.2)) (hc : ARel ρ cs cs') :
    WRel (ρ.more σ.size ⟨w.heap.size, 0, esz, (cs' ++ rest).size, .gr⟩) (σ.push (.cells ⟨cs, e, .tip, kin, root, esz⟩)) w0 w' B0 := by
  have hle := Rho.le_more (h.dom _ (Nat.le_refl _)) ⟨w.heap.size, 0, esz, (cs' ++ rest).size, .gr⟩
  refine h.grow_new hw (Nat.le_refl _) ?_ (fun _ _ x => by cases x) (fun _ _ x => by cases x) (fun _ _ x => by cases x)
  rintro b hb _
  cases hb
  refine ⟨cs' ++ rest, fz, ha, by simp [hc.1], ?_, by simp, fun _ => ⟨fun u => absurd (h.base _ u) (Nat.lt_irrefl _), rfl, fun _ => hf⟩, by simp, fun _ => ⟨rfl, rfl⟩⟩
  intro k hk hk'
  simp only [Nat.zero_add]
  rw [Array.getElem_append_left (by rw [← hc.1]; exact hk)]
  exact (hc.2 k hk _).mono hle
end
end Vm
end Go.Proofs.YtmapjahpjolmnaaDoor
namespace Go.Proofs.YtmapjahpjolmnaaDoor
namespace Vm
set_option linter.unusedSimpArgs false
set_option linter.unusedVariables false
open Go.RowKit

def isIntT : TypeDesc → Bool
  | .int _ => true
  | _ => false
def vlen : Value → Option Nat
  | .slice _ n _ => some n
  | .string s => some s.size
  | _ => none
section
variable {P : Program} {w0 w : World} {B0 : Base} {ρ : Rho} {σ : VHeap}
theorem pv_lenOf {x : Value} {m : Nat} (h : vlen x = some m) : pv P (Builtin.lenOf x) = some m := by
  cases x <;> first | (cases h; done) | (cases h; rfl)
theorem run_append_fit {ts : Array TypeId} {t t0 t1 e : TypeId} {d1 : TypeDesc} {info : TypeInfo} {base : Option Addr} {n c m : Nat} {x : Value} {w : World}
    (h0 : ts[0]? = some t0) (h1 : ts[1]? = some t1) (hu0 : P.underlying t0 = some (.slice e)) (hu1 : P.underlying t1 = some d1) (hd : isIntT d1 = false) (hi : P.info? e = some info) (hl : vlen x = some m) (hfit : n + m ≤ c) :
    (Builtin.append_ ts t #[.slice base n c, x]).run P w = (((Builtin.firstCells info.size m x).run P w).andThen fun new w1 =>
        (match base with
          | some a => (do storeCells (a.add (n * info.size)) new.toList; pure (.slice base (n + m) c) : Sem Value)
          | _ => pure (.slice base (n + m) c)).run P w1) := by
  unfold Builtin.append_
  have hm : Go.Builtin.append_.match_1 (fun _ => Bool) d1 (fun k => true) (fun x => false) = false := by cases d1 <;> first | rfl | (simp [isIntT] at hd)
  simp only [h0, h1, List.getElem?_toArray, List.getElem?_cons_zero, List.getElem?_cons_succ]
  rw [Sem.run_bind, pv_run (pv_underlying hu0)]
  simp only [Result.andThen_ok]
  rw [Sem.run_bind, pv_run (pv_sizeOf hi)]
  simp only [Result.andThen_ok]
  rw [Sem.run_bind, pv_run (pv_underlying hu1)]
  simp only [Result.andThen_ok]
  rw [Sem.run_bind, Sem.run_pure]
  simp only [Result.andThen_ok, hm, Bool.false_eq_true, if_false, Bool.not_false, if_true]
  rw [Sem.run_bind, pv_run (pv_lenOf hl)]
  simp only [Result.andThen_ok, hfit, if_true]
  rw [Sem.run_bind]
  rfl
theorem growBy_le (L : Nat) : ∀ (r c : Nat), c ≤ L → Builtin.growBy L r c ≤ 2 * L + 256 := by
  intro r
  induction r with
  | zero => intro c h; simp [Builtin.growBy]; omega
  | succ r ih =>
    intro c h
    unfold Builtin.growBy
    split
    · omega
    · rename_i h2
      by_cases h3 : c + (c + 768) / 4 ≤ L
      · exact ih _ h3
      · cases r with
        | zero => simp [Builtin.growBy]; omega
        | succ r =>
          unfold Builtin.growBy
          rw [if_pos (by omega)]
          omega
theorem nextcap_le {L c : Nat} (h : c < L) : Builtin.nextslicecap L c ≤ 2 * L + 256 := by
  unfold Builtin.nextslicecap
  split
  · omega
  · split
    · omega
    · exact growBy_le L 4 c (by omega)
theorem run_append_grow {ts : Array TypeId} {t t0 t1 e : TypeId} {d1 : TypeDesc} {info : TypeInfo} {z : Value} {base : Option Addr} {n c m : Nat} {x : Value} {w : World} {old new : Array Value}
    (h0 : ts[0]? = some t0) (h1 : ts[1]? = some t1) (hu0 : P.underlying t0 = some (.slice e)) (hu1 : P.underlying t1 = some d1) (hd : isIntT d1 = false) (hi : P.info? e = some info) (hz : info.zero = some z) (hl : vlen x = some m) (hfit : ¬ n + m ≤ c)
    (hb : 0 < info.bytes) (hcap : (2 * (n + m) + 256) * info.bytes ≤ 2 ^ 48)
    (ho : ∀ w1 : World, w1.heap = w.heap → (Builtin.firstCells info.size n (.slice base n c)).run P w1 = .ok old w1) (hn : ∀ w1 : World, w1.heap = w.heap → (Builtin.firstCells info.size m x).run P w1 = .ok new w1) :
    ∃ k, n + m ≤ k ∧ (Builtin.append_ ts t #[.slice base n c, x]).run P w = .ok (.slice (some ⟨w.heap.size, 0, none⟩) (n + m) k) (w.drew.alloc (.cells (old ++ new ++ Builtin.zeroCells z.cells (k - (n + m))) e)) := by
  refine ⟨(Question.appendCap (n + m) c e).cut (w.tape w.drawn (.appendCap (n + m) c e)), by simp [Question.cut], ?_⟩
  unfold Builtin.append_
  have hm : Go.Builtin.append_.match_1 (fun _ => Bool) d1 (fun k => true) (fun x => false) = false := by cases d1 <;> first | rfl | (simp [isIntT] at hd)
  simp only [h0, h1, List.getElem?_toArray, List.getElem?_cons_zero, List.getElem?_cons_succ]
  rw [Sem.run_bind, pv_run (pv_underlying hu0)]
  simp only [Result.andThen_ok]
  rw [Sem.run_bind, pv_run (pv_sizeOf hi)]
  simp only [Result.andThen_ok]
  rw [Sem.run_bind, pv_run (pv_underlying hu1)]
  simp only [Result.andThen_ok]
  rw [Sem.run_bind, Sem.run_pure]
  simp only [Result.andThen_ok, hm, Bool.false_eq_true, if_false, Bool.not_false, if_true]
  rw [Sem.run_bind, pv_run (pv_lenOf hl)]
  simp only [Result.andThen_ok, hfit, if_false]
  rw [Sem.run_bind, pv_run (pv_typeInfo hi)]
  have hb0 : ¬ info.bytes = 0 := by omega
  have hlim : ¬ Builtin.nextslicecap (n + m) c * info.bytes > 2 ^ 48 := by
    have := Nat.mul_le_mul_right info.bytes (nextcap_le (L := n + m) (c := c) (by omega))
    omega
  simp only [Result.andThen_ok, false_or, hb0, and_false, if_false]
  rw [Sem.run_bind, pv_run (pv_typeInfo hi)]
  simp only [Result.andThen_ok, hlim, if_false]
  rw [Sem.run_bind, run_choose]
  have hff : (Question.appendCap (n + m) c e).forced = false := rfl
  simp only [hff, Bool.false_eq_true, if_false, Result.andThen_ok]
  rw [Sem.run_bind, pv_run (pv_typeInfo hi)]
  simp only [Result.andThen_ok]
  rw [Sem.run_bind, run_askRoom]
  simp only [Result.andThen_ok]
  rw [Sem.run_bind, ho { heap := w.heap, tape := w.tape, drawn := w.drawn + 1, os := w.os, output := w.output } rfl]
  simp only [Result.andThen_ok]
  rw [Sem.run_bind, hn { heap := w.heap, tape := w.tape, drawn := w.drawn + 1, os := w.os, output := w.output } rfl]
  simp only [Result.andThen_ok]
  have hzv : pv P (zeroValue e) = some z := by
    unfold zeroValue
    rw [pv_bind, pv_typeInfo hi]
    simp only [Option.bind_some, hz]
    rfl
  rw [Sem.run_bind, pv_run hzv]
  simp only [Result.andThen_ok]
  rfl

/-- What has room in a virtual row. -/
def vfit (P : Program) (σ : VHeap) (base : Option Addr) (n c m size : Nat) (news : Array Value) : Option (Value × VHeap) :=
  if n + m ≤ c then
    match base with
    | none => some (.slice none (n + m) c, σ)
    | some a =>
      match vrun P (storeCells (a.add (n * size)) news.toList) σ with
      | some (_, σ') => some (.slice (some a) (n + m) c, σ')
      | none => none
  else none
def vappend (P : Program) (σ : VHeap) (ts : Array TypeId) (s x : Value) : Option (Value × VHeap) :=
  match ts[0]?, ts[1]?, s, vlen x with
  | some t0, some t1, .slice base n c, some m =>
    match P.underlying t0, P.underlying t1 with
    | some (.slice e), some d1 =>
      match P.info? e with
      | some info =>
        if isIntT d1 then none else
        match info.zero, vfirst σ info.size m x with
        | some z, some news =>
          match vfit P σ base n c m info.size news with
          | some r => some r
          | none =>
          if (2 * (n + m) + 256) * info.bytes ≤ 2 ^ 48 ∧ 0 < info.bytes ∧ z.cells.size = info.size ∧ news.all Value.oneCell' ∧ news.size = m * info.size then
            match base with
            | none => if n = 0 ∧ ¬ n + m ≤ c then some (.slice (some ⟨σ.size, 0, none⟩) (n + m) (n + m), σ.push (.cells ⟨news, e, .tip, false, σ.size, info.size⟩)) else none
            | some a =>
              match a.spot, σ[a.block]?, vfirst σ info.size n (.slice (some a) n c) with
              | none, some (.cells b), some olds =>
                match b.fl with
                | .ex => if ¬ n + m ≤ c then some (.slice (some ⟨σ.size, 0, none⟩) (n + m) (n + m), σ.push (.cells ⟨olds ++ news, e, .tip, false, σ.size, info.size⟩)) else none
                | .tip =>
                  if a.off + n * info.size = b.cells.size ∧ b.esz = info.size ∧ b.elem = e then
                    some (.slice (some ⟨σ.size, 0, none⟩) (n + m) (n + m), (σ.setIfInBounds a.block (.cells b.aged)).push (.cells ⟨olds ++ news, e, .tip, true, b.root, info.size⟩))
                  else none
                | _ => none
              | _, _, _ => none
          else none
        | _, _ => none
      | none => none
    | _, _ => none
  | _, _, _, _ => none
theorem vlen_rel {x x' : Value} (h : VRel ρ x x') : vlen x = vlen x' := by cases h <;> rfl
theorem zeroCells_size (z : Array Value) (k : Nat) : (Builtin.zeroCells z k).size = k * z.size := by simp [Builtin.zeroCells]
/-- The real row is laid anew. -/
theorem grow_anew {ts : Array TypeId} {t t0 t1 e : TypeId} {d1 : TypeDesc} {info : TypeInfo} {z : Value} {base : Option Addr} {n c m : Nat} {x : Value} {olds news olds' news' : Array Value}
    (hw : WRel ρ σ w0 w B0) (kin : Bool) (root : Nat)
    (h0 : ts[0]? = some t0) (h1 : ts[1]? = some t1) (hu0 : P.underlying t0 = some (.slice e)) (hu1 : P.underlying t1 = some d1) (hd : isIntT d1 = false) (hi : P.info? e = some info) (hz : info.zero = some z) (hl : vlen x = some m) (hfit : ¬ n + m ≤ c)
    (hb : 0 < info.bytes) (hcap : (2 * (n + m) + 256) * info.bytes ≤ 2 ^ 48) (hzs : z.cells.size = info.size)
    (ho : ∀ w1 : World, w1.heap = w.heap → (Builtin.firstCells info.size n (.slice base n c)).run P w1 = .ok olds' w1) (hn : ∀ w1 : World, w1.heap = w.heap → (Builtin.firstCells info.size m x).run P w1 = .ok news' w1)
    (ro : ARel ρ olds olds') (rn : ARel ρ news news') (hsz : (olds ++ news).size = (n + m) * info.size) :
    ∃ ρ2 v' w', ρ.le ρ2 ∧ (Builtin.append_ ts t #[.slice base n c, x]).run P w = .ok v' w' ∧ VRel ρ2 (.slice (some ⟨σ.size, 0, none⟩) (n + m) (n + m)) v' ∧
      WRel ρ2 (σ.push (.cells ⟨olds ++ news, e, .tip, kin, root, info.size⟩)) w0 w' B0 := by
  obtain ⟨k, hk, hrun⟩ := run_append_grow (t := t) h0 h1 hu0 hu1 hd hi hz hl hfit hb hcap ho hn
  have hra := ro.append rn
  have htot : (olds' ++ news' ++ Builtin.zeroCells z.cells (k - (n + m))).size = k * info.size := by
    rw [Array.size_append, zeroCells_size, ← hra.1, hsz, hzs, ← Nat.add_mul, Nat.add_sub_cancel' hk]
  have hnew := hw.newTip (w' := w.drew.alloc (.cells (olds' ++ news' ++ Builtin.zeroCells z.cells (k - (n + m))) e)) (cs' := olds' ++ news') (rest := Builtin.zeroCells z.cells (k - (n + m))) (e := e) (fz := (0, 0)) info.size kin root
    (((Below.refl _ w).drew).alloc (Nat.le_refl _) _) (by simp) (heap_new _ _) (fun k _ => by simp) hra
  refine ⟨_, _, _, Rho.le_more (hw.dom _ (Nat.le_refl _)) _, hrun, ?_, hnew⟩
  have := VRel.slice (ρ := ρ.more σ.size ⟨w.heap.size, 0, info.size, (olds' ++ news' ++ Builtin.zeroCells z.cells (k - (n + m))).size, .gr⟩) (id := σ.size) (off := 0) (n := n + m) (c := n + m) (c' := k) (Rho.more_self _ _ _)
    (by simp only [CapOk]; rw [htot]; exact ⟨hk, by simp⟩)
  simpa using this
end
end Vm
end Go.Proofs.YtmapjahpjolmnaaDoor
namespace Go.Proofs.YtmapjahpjolmnaaDoor
namespace Vm
set_option linter.unusedSimpArgs false
set_option linter.unusedVariables false
open Go.RowKit

section
variable {P : Program} {w0 w : World} {B0 : Base} {ρ : Rho} {σ : VHeap}
theorem vfirst_slice {id off n c size : Nat} {b : Blk} {olds : Array Value} (hg : σ[id]? = some (.cells b)) (h : vfirst σ size n (.slice (some ⟨id, off, none⟩) n c) = some olds) (hlen : off + n * size ≤ b.cells.size) :
    olds = b.cells.extract off (off + n * size) := by
  simp only [vfirst, hg] at h
  split at h
  · rename_i h0
    cases h
    rw [h0]; simp; omega
  · split at h
    · cases h; rfl
    · cases h
theorem grow_inplace {e : TypeId} {i : Info} {id off n m c' size : Nat} {b : Blk} {olds news news' : Array Value} (hw : WRel ρ σ w0 w B0) (hg : σ[id]? = some (.cells b)) (hfl : b.fl = .tip) (hρ : ρ id = some i)
    (hend : off + n * size = b.cells.size) (hesz : b.esz = size) (hel : b.elem = e) (ho : olds = b.cells.extract off (off + n * size)) (rn : ARel ρ news news') (hns : news.size = m * size) (h1c : news.all Value.oneCell' = true)
    (hcap : i.o + off + c' * i.esz ≤ i.tot) (hfit : n + m ≤ c') :
    ∃ w', (storeCells ((⟨i.b, i.o + off, none⟩ : Addr).add (n * size)) news'.toList).run P w = .ok () w' ∧
      WRel (ρ.more σ.size ⟨i.b, i.o + off, size, i.tot, .gr⟩) ((σ.setIfInBounds id (.cells b.aged)).push (.cells ⟨olds ++ news, e, .tip, true, b.root, size⟩)) w0 w' B0 := by
  have hd : b.fl ≠ .dead := by rw [hfl]; decide
  obtain ⟨i0, cs, fz, hi0, hr⟩ := hw.blk id b hg hd
  obtain rfl : i = i0 := by rw [hρ] at hi0; exact Option.some.inj hi0
  obtain ⟨hB, htot, hfz⟩ := hr.mine (by rw [hfl]; decide)
  have hgr := hr.gr (.inl hfl)
  rw [hgr.2, hesz, htot] at hcap
  have hm : (n + m) * size ≤ c' * size := Nat.mul_le_mul_right _ hfit
  rw [Nat.add_mul] at hm
  have hlen := hr.len
  have hs' : news'.toList.length = m * size := by rw [Array.length_toList, ← rn.1, hns]
  obtain ⟨w', cs', r1, r2, r3, r4, r5, r6, r7, r8, r9, r10⟩ := run_storeCells (P := P) (o := i.o + off + n * size) news'.toList 0 cs w hr.at_ (by rw [hs']; omega) (hfz (by rw [hfl]; decide)) (fun v hv => by
    obtain ⟨k, hk, rfl⟩ := List.getElem_of_mem hv
    have hk' : k < news.size := by rw [hns, ← hs']; exact hk
    have := (rn.2 k hk' (by rw [← rn.1]; exact hk')).one
    have h1 := Array.all_eq_true.1 h1c k hk'
    rw [this] at h1
    simpa using h1)
  refine ⟨w', by rw [add_none]; exact r1, ?_⟩
  have hsz : (σ.setIfInBounds id (.cells b.aged)).size = σ.size := by simp
  have h1 := hw.age hg hfl
  have hle : ρ.le (ρ.more σ.size ⟨i.b, i.o + off, size, i.tot, .gr⟩) := Rho.le_more (hw.dom _ (Nat.le_refl _)) _
  have hget : ∀ id', id' ≠ id → (σ.setIfInBounds id (.cells b.aged))[id']? = σ[id']? := fun id' hne => Array.getElem?_setIfInBounds_ne (Ne.symm hne)
  have hget0 : (σ.setIfInBounds id (.cells b.aged))[id]? = some (.cells b.aged) := by rw [Array.getElem?_setIfInBounds]; simp [(Array.getElem?_eq_some_iff.1 hg).1]
  have hkin : ∀ id' o' i', id' ≠ id → σ[id']? = some o' → o'.own = true → ρ id' = some i' → i'.b = i.b → ∃ b', o' = .cells b' ∧ b.root = b'.root ∧ b'.fl = .old ∧ i'.o + b'.cells.size ≤ i.o + b.cells.size := by
    intro id' o' i' hne ho' hown hi' he
    have hk := hw.sep id id' _ _ i i' (Ne.symm hne) hg ho' (by simp [VObj.own, hfl]) hown hρ hi' he.symm
    cases o' with
    | cells b' => exact ⟨b', rfl, hk.1, (hk.2.2.2 hfl).1, (hk.2.2.2 hfl).2.2⟩
    | map es c => exact hk.elim
    | iter s p => exact hk.elim
    | rmap es c => exact hk.elim
  have hnew := h1.grow (w' := w') (o := .cells ⟨olds ++ news, e, .tip, true, b.root, size⟩) (i := ⟨i.b, i.o + off, size, i.tot, .gr⟩) ?hn ?hb (fun _ _ x => by cases x) (fun _ _ x => by cases x) (fun _ _ x => by cases x) ?hs (by rw [r10]; exact hw.base)
    (hw.below.trans ⟨r7, r8, r9, by rw [r10]; exact Nat.le_refl _, fun k hk => r6 k (fun e => hB (e ▸ hk))⟩)
  · rw [hsz] at hnew; exact hnew
  case hn =>
    intro id' o' i' ho' hl' hi'
    rw [hsz]
    refine ⟨fun b' eb => ?_, fun hnc => ?_⟩
    · subst eb
      have hd' : b'.fl ≠ .dead := by simpa [VObj.live] using hl'
      obtain ⟨i2, cs2, fz2, hi2, hr2⟩ := h1.blk id' b' ho' hd'
      obtain rfl : i' = i2 := by rw [hi'] at hi2; exact Option.some.inj hi2
      by_cases hbb : i'.b = i.b
      · have hat := hr2.at_
        rw [hbb, hr.at_] at hat
        have hat' := Option.some.inj hat
        injection hat' with e1 e2 e3
        subst e1
        subst e3
        have hend' : i'.o + b'.cells.size ≤ i.o + off + n * size := by
          by_cases hid : id' = id
          · subst hid
            rw [hget0] at ho'
            obtain rfl : b.aged = b' := VObj.cells.inj (Option.some.inj ho')
            obtain rfl : i = i' := by rw [hρ] at hi'; exact Option.some.inj hi'
            simp only [Blk.aged]
            omega
          · rw [hget id' hid] at ho'
            have hown : (VObj.cells b').own = true := by
              have : b'.fl ≠ .ro := fun hro => hB (hbb ▸ (hr2.ro hro).1.1)
              simp [VObj.own, hd', this]
            obtain ⟨b2, e2, _, _, h4⟩ := hkin id' _ i' hid ho' hown hi' hbb
            cases e2
            omega
        refine ⟨cs', fz, ?_, by rw [r3]; exact hr2.len, ?_, hr2.ro, fun hro => ?_, fun hex => ?_, hr2.gr⟩
        · rw [hbb, r2, e2]
        · intro k hk hk'
          have hlt : i'.o + k < cs.size := by rw [← r3]; exact hk'
          have hv := hr2.cells k hk hlt
          have := r5 (i'.o + k) (.inl (by omega))
          rw [Array.getElem?_eq_getElem hk', Array.getElem?_eq_getElem hlt] at this
          rw [Option.some.inj this]
          exact hv.mono hle
        · have := hr2.mine hro
          rw [r3]
          exact this
        · rw [r3]; exact hr2.ex hex
      · exact ⟨cs2, fz2, hr2.keep hle (r6 _ hbb)⟩
    · refine r6 _ (fun hbb => ?_)
      cases o' with
      | cells b' => exact hnc b' rfl
      | map es c =>
        obtain ⟨i2, fs, g1, _, _, g4, _⟩ := h1.map id' es c ho'
        obtain rfl : i' = i2 := by rw [hi'] at g1; exact Option.some.inj g1
        rw [hbb, hr.at_] at g4; cases g4
      | iter s p =>
        obtain ⟨i2, g1, _, _, g4⟩ := h1.iter id' s p ho'
        obtain rfl : i' = i2 := by rw [hi'] at g1; exact Option.some.inj g1
        rw [hbb, hr.at_] at g4; cases g4
      | rmap es c =>
        obtain ⟨i2, fs, g1, _, _, g4, _⟩ := h1.rmap id' es c ho'
        obtain rfl : i' = i2 := by rw [hi'] at g1; exact Option.some.inj g1
        rw [hbb, hr.at_] at g4; cases g4
  case hb =>
    intro bn hbn _
    rw [hsz]
    cases hbn
    have hos : olds.size = n * size := by rw [ho]; simp; omega
    refine ⟨cs', fz, by rw [r2, hel], by simp only [Array.size_append, hos, hns, r3]; omega, ?_, by simp, fun _ => ⟨hB, by rw [r3]; exact htot, fun _ => by rw [r3]; exact hfz (by rw [hfl]; decide)⟩, by simp, fun _ => ⟨rfl, rfl⟩⟩
    intro k hk hk'
    simp only [Array.size_append, hos, hns] at hk
    simp only at hk' ⊢
    by_cases hlt : k < n * size
    · have hlt2 : i.o + off + k < cs.size := by rw [← r3]; exact hk'
      have := r5 (i.o + off + k) (.inl (by omega))
      rw [Array.getElem?_eq_getElem hk', Array.getElem?_eq_getElem hlt2] at this
      rw [Option.some.inj this, Array.getElem_append_left (by rw [hos]; exact hlt)]
      have hv := hr.cells (off + k) (by omega) (by omega)
      subst ho
      simp only [Array.getElem_extract]
      simpa [Nat.add_assoc] using hv.mono hle
    · have h4 := r4 (k - n * size) (by rw [hs']; omega)
      rw [show i.o + off + n * size + 0 + (k - n * size) = i.o + off + k by omega, Array.getElem?_eq_getElem hk'] at h4
      rw [Option.some.inj h4, Array.getElem_append_right (by rw [hos]; omega)]
      have hv := rn.2 (k - n * size) (by omega) (by rw [← rn.1]; omega)
      have eq : (olds ++ news).size = olds.size + news.size := by simp
      have e2 : news[k - olds.size]'(by omega) = news[k - n * size]'(by omega) := getElem_congr_idx (by rw [hos])
      rw [e2]
      simpa using hv.mono hle
  case hs =>
    intro id' o' i' ho' hown _ hi' hbb
    have hbb' : i'.b = i.b := hbb
    have hnsz : (olds ++ news).size = n * size + m * size := by rw [Array.size_append, hns, ho]; simp; omega
    by_cases hid : id' = id
    · subst hid
      rw [hget0] at ho'
      obtain rfl := Option.some.inj ho'
      obtain rfl : i = i' := by rw [hρ] at hi'; exact Option.some.inj hi'
      refine ⟨⟨rfl, by simp [Blk.aged], by simp, by simp [Blk.aged]⟩, ⟨rfl, by simp, by simp [Blk.aged], fun _ => ⟨rfl, rfl, ?_⟩⟩⟩
      simp only [Blk.aged, hnsz]
      omega
    · rw [hget id' hid] at ho'
      obtain ⟨b', rfl, h2, h3, h4⟩ := hkin id' o' i' hid ho' hown hi' hbb'
      refine ⟨⟨h2.symm, by rw [h3]; decide, by simp, by rw [h3]; intro x; cases x⟩, ⟨h2, by simp, by rw [h3]; decide, fun _ => ⟨h3, rfl, ?_⟩⟩⟩
      simp only [hnsz]
      omega
theorem vappend_ok {ts : Array TypeId} {t : TypeId} {s s' x x' v : Value} {σ' : VHeap} (hw : WRel ρ σ w0 w B0) (hs : VRel ρ s s') (hx : VRel ρ x x') (h : vappend P σ ts s x = some (v, σ')) :
    ∃ ρ2 v' w', ρ.le ρ2 ∧ (Builtin.append_ ts t #[s', x']).run P w = .ok v' w' ∧ VRel ρ2 v v' ∧ WRel ρ2 σ' w0 w' B0 := by
  unfold vappend at h
  split at h
  case h_2 => cases h
  rename_i t0 t1 base n c m h0 h1 hl
  have hl' : vlen x' = some m := by rw [← vlen_rel hx]; exact hl
  split at h
  case h_2 => cases h
  rename_i e d1 hu0 hu1
  split at h
  case h_2 => cases h
  rename_i info hi
  split at h
  case isTrue => cases h
  rename_i hd
  have hd' : isIntT d1 = false := by simpa using hd
  split at h
  case h_2 => cases h
  rename_i z news hz hnews
  obtain ⟨news', rn, hrn⟩ := vfirst_ok (P := P) hw hx hnews
  split at h
  · rename_i r hvf
    cases h
    unfold vfit at hvf
    split at hvf
    case isFalse => cases hvf
    rename_i hfit
    have h := hvf
    clear hvf
    split at h
    · cases h
      cases hs
      refine ⟨ρ, _, w, Rho.le_refl _, ?_, .sliceNil _ _, hw⟩
      rw [run_append_fit h0 h1 hu0 hu1 hd' hi hl' hfit, hrn w rfl]
      rfl
    · rename_i a
      split at h
      case h_2 => cases h
      rename_i u σ1 hst
      cases h
      cases hs with
      | @slice id off n c c' i hi0 hc =>
        have hp : PRel ρ (⟨id, off, none⟩ : Addr) ⟨i.b, i.o + off, none⟩ := ⟨i, hi0, rfl, rfl⟩
        obtain ⟨ρ2, y, w', g1, g2, _, g4⟩ := SR.storeCells (P := P) (w0 := w0) (B0 := B0) (hp.add (n * info.size)) news.toList news'.toList 0 ρ (Rho.le_refl _) rn.toList ρ σ w u σ' (Rho.le_refl _) hw hst
        have hcc : c ≤ c' := by
          unfold CapOk at hc
          split at hc
          · omega
          · exact hc.1
          · exact hc
        refine ⟨ρ2, _, w', g1, ?_, .slice (g1 _ _ hi0) hc, g4⟩
        rw [run_append_fit h0 h1 hu0 hu1 hd' hi hl' (by omega), hrn w rfl]
        simp only [Result.andThen_ok]
        rw [Sem.run_bind, g2]
        rfl
      | sliceOff id off a c' =>
        have hm : m = 0 := by omega
        subst hm
        have hn0 : news = #[] := by
          cases x <;> first | (cases hl; done) | skip
          case slice a' n' c'' =>
            cases hl
            cases a' with
            | none => cases hnews; rfl
            | some a' => simp [vfirst] at hnews; exact hnews
          case string st =>
            simp only [vlen, Option.some.injEq] at hl
            simp only [vfirst, Option.some.injEq] at hnews
            subst hnews
            have : st.extract 0 0 = ByteArray.empty := by ext <;> simp
            rw [this, show ByteArray.empty.data = #[] from rfl]
            simp
        subst hn0
        have hn0' : news' = #[] := Array.eq_empty_of_size_eq_zero (by rw [← rn.1]; rfl)
        subst hn0'
        have hσ : σ' = σ := by
          simp only [storeCells] at hst
          cases hst; rfl
        subst hσ
        refine ⟨ρ, .slice (some a) 0 c', w, Rho.le_refl _, ?_, .sliceOff id off a c', hw⟩
        rw [run_append_fit h0 h1 hu0 hu1 hd' hi hl' (by omega), hrn w rfl]
        rfl
  · split at h
    case isFalse => cases h
    rename_i hcond
    obtain ⟨hcap, hb, hzs, h1c, hns⟩ := hcond
    split at h
    · split at h
      case isFalse => cases h
      rename_i hn0
      cases h
      obtain ⟨hn0, hfit⟩ := hn0
      subst hn0
      cases hs
      have := grow_anew (t := t) (base := none) (n := 0) (c := c) (x := x') (olds := #[]) (olds' := #[]) hw false σ.size h0 h1 hu0 hu1 hd' hi hz hl' hfit hb hcap hzs (fun w1 _ => rfl) hrn (ARel.nil _) rn (by simp [hns])
      simpa using this
    · rename_i a
      split at h
      case h_2 => cases h
      rename_i b olds hsp hg hold
      cases hs with
      | sliceOff id off a c' => cases hsp
      | @slice id off n c c' i hi0 hc =>
        obtain ⟨olds', ro, hro⟩ := vfirst_ok (P := P) hw (VRel.slice hi0 hc : VRel ρ (.slice (some ⟨id, off, none⟩) n c) _) hold
        have hd2 : b.fl ≠ .dead := by
          intro e2
          simp only [e2] at h
          cases h
        obtain ⟨i0, cs, fz, hi1, hr⟩ := hw.blk id b hg hd2
        obtain rfl : i = i0 := by rw [hi0] at hi1; exact Option.some.inj hi1
        have hosz : ∀ (hh : off + n * info.size ≤ b.cells.size), olds.size = n * info.size := by
          intro hh
          rw [vfirst_slice hg hold hh]; simp; omega
        split at h
        · rename_i hfl
          split at h
          case isFalse => cases h
          rename_i hfit
          cases h
          have hk := hr.ex hfl
          simp only [CapOk, hk.1] at hc
          subst hc
          have hos : olds.size = n * info.size := by
            simp only [vfirst, hg] at hold
            split at hold
            · rename_i h0'; cases hold; simp [h0']
            · split at hold
              case isFalse => cases hold
              rename_i hh
              cases hold
              simp; omega
          exact grow_anew (t := t) hw false σ.size h0 h1 hu0 hu1 hd' hi hz hl' hfit hb hcap hzs hro hrn ro rn (by rw [Array.size_append, hos, hns, Nat.add_mul])
        · rename_i hfl
          split at h
          case isFalse => cases h
          rename_i hcond2
          obtain ⟨hend, hesz, hel⟩ := hcond2
          simp only at hend
          cases h
          have hk := hr.gr (.inl hfl)
          simp only [CapOk, hk.1] at hc
          have hos := hosz (by omega)
          by_cases hreal : n + m ≤ c'
          · obtain ⟨w', g1, g2⟩ := grow_inplace (P := P) (c' := c') hw hg hfl hi0 hend hesz hel (vfirst_slice hg hold (by omega)) rn hns (by simpa using h1c) hc.2 hreal
            refine ⟨_, .slice (some ⟨i.b, i.o + off, none⟩) (n + m) c', w', Rho.le_more (hw.dom _ (Nat.le_refl _)) _, ?_, ?_, g2⟩
            · rw [run_append_fit h0 h1 hu0 hu1 hd' hi hl' hreal, hrn w rfl]
              simp only [Result.andThen_ok]
              rw [Sem.run_bind, g1]
              rfl
            · have := VRel.slice (ρ := ρ.more σ.size ⟨i.b, i.o + off, info.size, i.tot, .gr⟩) (id := σ.size) (off := 0) (n := n + m) (c := n + m) (c' := c') (Rho.more_self _ _ _)
                (by simp only [CapOk]; refine ⟨hreal, ?_⟩; have := hc.2; rw [hk.2, hesz] at this; omega)
              simpa using this
          · have h1' := hw.age hg hfl
            have := grow_anew (σ := σ.setIfInBounds id (.cells b.aged)) (t := t) h1' true b.root h0 h1 hu0 hu1 hd' hi hz hl' hreal hb hcap hzs hro hrn ro rn (by rw [Array.size_append, hos, hns, Nat.add_mul])
            simpa using this
        · cases h
end
end Vm
end Go.Proofs.YtmapjahpjolmnaaDoor
namespace Go.Proofs.YtmapjahpjolmnaaDoor
namespace Vm
set_option linter.unusedSimpArgs false
set_option linter.unusedVariables false
open Go.RowKit

section
variable {P : Program} {w0 w : World} {B0 : Base} {ρ : Rho} {σ : VHeap}
def u8s (s : ByteArray) : Array Value := s.data.map fun b => .int .u8 (b.toNat : Int)
def toByte : Value → Option UInt8
  | .int .u8 n => if 0 ≤ n ∧ n < 256 then some (UInt8.ofNat n.toNat) else none
  | _ => none
def toBytes : List Value → Option (List UInt8)
  | [] => some []
  | v :: l => match toByte v, toBytes l with
    | some b, some bs => some (b :: bs)
    | _, _ => none
theorem toByte_some {v : Value} {b : UInt8} (h : toByte v = some b) : v = .int .u8 (b.toNat : Int) := by
  cases v with
  | int k n =>
    cases k <;> first | (cases h; done) | skip
    simp only [toByte] at h
    split at h
    · rename_i hn
      cases h
      have : (UInt8.ofNat n.toNat).toNat = n.toNat := UInt8.toNat_ofNat_of_lt' (by simp [UInt8.size]; omega)
      rw [this, Int.toNat_of_nonneg hn.1]
    · cases h
  | _ => cases h
theorem toBytes_some : ∀ {l : List Value} {bs : List UInt8}, toBytes l = some bs → l.length = bs.length ∧ ∀ k (h : k < l.length) (h' : k < bs.length), l[k] = .int .u8 (bs[k].toNat : Int)
  | [], bs, h => by cases h; exact ⟨rfl, fun k h => by simp at h⟩
  | v :: l, bs, h => by
    unfold toBytes at h
    split at h
    case h_2 => cases h
    rename_i b bs' h1 h2
    cases h
    obtain ⟨e1, e2⟩ := toBytes_some h2
    refine ⟨by simp [e1], fun k hk hk' => ?_⟩
    cases k with
    | zero => exact toByte_some h1
    | succ k => simpa using e2 k (by simpa using hk) (by simpa using hk')
def vconvert (P : Program) (σ : VHeap) (src dst : TypeId) (x : Value) : Option (Value × VHeap) :=
  match P.underlying src, P.underlying dst, x with
  | some .string, some (.slice e), .string s =>
    match P.underlying e with
    | some (.int .u8) => some (.slice (some ⟨σ.size, 0, none⟩) s.size s.size, σ.push (.cells ⟨u8s s, e, .tip, false, σ.size, 1⟩))
    | _ => none
  | some (.slice e), some .string, .slice (some a) n c =>
    match P.underlying e with
    | some (.int .u8) =>
      match (vfirst σ 1 n (.slice (some a) n c)).map fun cs => toBytes cs.toList with
      | some (some bs) => some (.string ⟨bs.toArray⟩, σ)
      | _ => none
    | _ => none
  | some (.pointer t), some .unsafePointer, .pointer (some ⟨id, off, none⟩) =>
    match σ[id]?, P.info? t with
    | some (.cells b), some j => if b.fl ≠ .dead ∧ j.size ≠ 0 ∧ off < b.cells.size then some (.pointer (some ⟨id, off, none⟩), σ) else none
    | _, _ => none
  | some .unsafePointer, some (.pointer u), .pointer (some ⟨id, off, none⟩) =>
    match σ[id]?, P.info? u with
    | some (.cells b), some _ => if b.fl = .ex ∧ liesAt P P.depth b.elem (b.cells.size / P.cellsOf b.elem) off u 1 = true then some (.pointer (some ⟨id, off, none⟩), σ) else none
    | _, _ => none
  | _, _, _ => none
theorem vconvert_ok {src dst : TypeId} {x x' v : Value} {σ' : VHeap} (hw : WRel ρ σ w0 w B0) (hx : VRel ρ x x') (h : vconvert P σ src dst x = some (v, σ')) :
    ∃ ρ2 v' w', ρ.le ρ2 ∧ (convert src dst x').run P w = .ok v' w' ∧ VRel ρ2 v v' ∧ WRel ρ2 σ' w0 w' B0 := by
  unfold vconvert at h
  split at h
  · rename_i e s hs hd
    split at h
    case h_2 => cases h
    rename_i he
    cases h
    cases hx
    have hcut : s.size ≤ grownCap w s.size 0 e := by simp [grownCap, Question.cut]
    have hsz : (Lib.bytesCells w e s).size = grownCap w s.size 0 e := by
      have : s.data.size = s.size := rfl
      simp [Lib.bytesCells, this]; omega
    have hnew := hw.newTip (w' := Lib.bytesWorld w e s) (cs := u8s s) (cs' := u8s s) (rest := Array.replicate (grownCap w s.size 0 e - s.size) (.int .u8 0)) (e := e)
      (fz := ((Lib.bytesCells w e s).size, (Lib.bytesCells w e s).size + 1)) 1 false σ.size
      ⟨rfl, rfl, rfl, by simp [Lib.bytesWorld_size], fun k hk => Lib.bytesWorld_at_old w e s k hk⟩ (by simp [Lib.bytesWorld_size]) (Lib.bytesWorld_at_new w e s)
      (fun k hk => by
        have : (Lib.bytesCells w e s) = (u8s s) ++ Array.replicate (grownCap w s.size 0 e - s.size) (.int .u8 0) := rfl
        rw [← this] at hk; omega)
      ⟨rfl, fun k hk hk' => by simp only [u8s, Array.getElem_map]; exact .int _ _⟩
    refine ⟨_, _, _, Rho.le_more (hw.dom _ (Nat.le_refl _)) _, Lib.run_convert_string_bytes w src dst e s hs hd he, ?_, hnew⟩
    have htot : (u8s s ++ Array.replicate (grownCap w s.size 0 e - s.size) (Value.int .u8 0)).size = grownCap w s.size 0 e := hsz
    have := VRel.slice (ρ := ρ.more σ.size ⟨w.heap.size, 0, 1, (u8s s ++ Array.replicate (grownCap w s.size 0 e - s.size) (Value.int .u8 0)).size, .gr⟩) (id := σ.size) (off := 0) (n := s.size) (c := s.size)
      (c' := grownCap w s.size 0 e) (Rho.more_self _ _ _) (by simp only [CapOk]; rw [htot]; exact ⟨hcut, by omega⟩)
    simpa using this
  · rename_i e a n c hs hd
    split at h
    case h_2 => cases h
    rename_i he
    split at h
    case h_2 => cases h
    rename_i bs hbs
    cases h
    cases hf : vfirst σ 1 n (.slice (some a) n c) with
    | none => simp [hf] at hbs
    | some cs =>
      simp only [hf, Option.map_some, Option.some.injEq] at hbs
      obtain ⟨e1, e2⟩ := toBytes_some hbs
      have hn : ∀ (hh : cs.size = n), bs.length = n := fun hh => by rw [← e1, Array.length_toList, hh]
      cases hx with
      | @slice id off n c c' i hi hc =>
        simp only [vfirst, Nat.mul_one] at hf
        split at hf
        · rename_i h0
          cases hf
          subst h0
          obtain rfl : bs = [] := by cases bs with | nil => rfl | cons b bs => simp at e1
          refine ⟨ρ, _, w, Rho.le_refl _, ?_, .string _, hw⟩
          exact run_convert_bytes_back w src dst e ⟨i.b, i.o + off, none⟩ c' [] hs he hd (fun j hj => by simp at hj)
        · cases hg : σ[id]? with
          | none => simp [hg] at hf
          | some o =>
            cases o with
            | map es cl => simp [hg] at hf
            | iter s p => simp [hg] at hf
            | rmap es cl => simp [hg] at hf
            | cells b =>
              simp only [hg] at hf
              split at hf
              case isFalse => cases hf
              rename_i hd2
              cases hf
              obtain ⟨i', cr, fz, hi', hr⟩ := hw.blk id b hg hd2.1
              obtain rfl : i = i' := by rw [hi] at hi'; exact Option.some.inj hi'
              have hlen := hr.len
              have hbl : bs.length = n := hn (by simp; omega)
              refine ⟨ρ, _, w, Rho.le_refl _, ?_, .string _, hw⟩
              have := run_convert_bytes_back (P := P) w src dst e ⟨i.b, i.o + off, none⟩ c' bs hs he hd (fun j hj => by
                rw [add_none]
                have hlt : i.o + (off + j) < cr.size := by omega
                have hv := hr.cells (off + j) (by omega) hlt
                have h3 := e2 j (by simp; omega) hj
                simp only [Array.getElem_toList, Array.getElem_extract] at h3
                rw [h3] at hv
                have h4 : cr[i.o + (off + j)] = .int .u8 (bs[j].toNat : Int) := cleanC_eq rfl hv
                simp only [World.cell?, hr.at_]
                simp only [Option.isSome_none, Bool.false_eq_true, if_false]
                rw [Nat.add_assoc, Array.getElem?_eq_getElem hlt, h4])
              rw [hbl] at this
              exact this
      | sliceOff id off a c' =>
        have hcs : cs = #[] := by simp [vfirst] at hf; exact hf
        subst hcs
        obtain rfl : bs = [] := by cases bs with | nil => rfl | cons b bs => simp at e1
        refine ⟨ρ, _, w, Rho.le_refl _, ?_, .string _, hw⟩
        exact run_convert_bytes_back w src dst e a c' [] hs he hd (fun j hj => by simp at hj)
  · rename_i t id off hs hd
    split at h
    case h_2 => cases h
    rename_i b j hg hj
    split at h
    case isFalse => cases h
    rename_i hc
    cases h
    cases hx with
    | ptr hi =>
      obtain ⟨i', cr, fz, hi', hr⟩ := hw.blk id b hg hc.1
      rw [hi] at hi'
      cases hi'
      have hlen := hr.len
      exact ⟨ρ, _, w, Rho.le_refl _, Lib.run_to_unsafe (e := b.elem) (cells := cr.size) w _ hs hd hj hc.2.1 (by simp [World.shape?, hr.at_]) (by simp only; omega), .ptr hi, hw⟩
  · rename_i u id off hs hd
    split at h
    case h_2 => cases h
    rename_i b j hg hj
    split at h
    case isFalse => cases h
    rename_i hc
    cases h
    cases hx with
    | ptr hi =>
      obtain ⟨i', cr, fz, hi', hr⟩ := hw.blk id b hg (by rw [hc.1]; decide)
      rw [hi] at hi'
      cases hi'
      obtain ⟨-, ho, hz⟩ := hr.ex hc.1
      exact ⟨ρ, _, w, Rho.le_refl _, Lib.run_from_unsafe (e := b.elem) (cells := cr.size) w _ hs hd hj (by simp [World.shape?, hr.at_]) (by rw [← hz]; simp only [ho, Nat.zero_add]; exact hc.2), .ptr hi, hw⟩
  · cases h

/-- One side is nil, the other one is not. -/
def vNil (P : Program) (t : TypeId) (x y : Value) : Bool :=
  match P.underlying t, x, y with
  | some (.pointer _), .pointer (some _), .pointer none | some (.pointer _), .pointer none, .pointer (some _) => true
  | some (.slice _), .slice (some _) _ _, .slice none _ _ | some (.slice _), .slice none _ _, .slice (some _) _ _ => true
  | some (.map _ _), .map (some _), .map none | some (.map _ _), .map none, .map (some _) => true
  | some (.func _ _ _), .func _ _ _, .nilFunc | some (.func _ _ _), .nilFunc, .func _ _ _ => true
  | _, _, _ => false
theorem vNil_ok {t : TypeId} {x x' y y' : Value} (hx : VRel ρ x x') (hy : VRel ρ y y') (h : vNil P t x y = true) : pv P (Op.equal t x' y') = some false := by
  unfold Op.equal Op.maxDepth
  rw [show (10000 : Nat) = 9999 + 1 from rfl]
  unfold Op.equalIn
  unfold vNil at h
  cases hu : P.underlying t with
  | none => simp [hu] at h
  | some d =>
    rw [pv_bind, pv_underlying hu]
    simp only [Option.bind_some]
    simp only [hu] at h
    cases d <;> first | (simp at h; done) | skip
    all_goals (cases hx <;> first | (simp at h; done) | skip)
    all_goals (cases hy <;> first | (simp at h; done) | rfl)
theorem vNil_guard {op : BinOp} {t : TypeId} {a b : Operand} {x x' y y' : Value} (hx : VRel ρ x x') (hy : VRel ρ y y') (h : vNil P t x y = true) : pv P (eqGuard op t a b x' y') = some () := by
  unfold eqGuard
  unfold vNil at h
  cases hu : P.underlying t with
  | none => simp [hu] at h
  | some d =>
    simp only [hu] at h
    cases d <;> first | (simp at h; done) | skip
    all_goals (cases hx <;> first | (simp at h; done) | skip)
    all_goals (cases hy <;> first | (simp at h; done) | (cases op <;> rfl))
theorem vNil_bin {t : TypeId} {x x' y y' : Value} (hx : VRel ρ x x') (hy : VRel ρ y y') (h : vNil P t x y = true) : pv P (binOp .eql t x' y') = some (.bool false) ∧ pv P (binOp .neq t x' y') = some (.bool true) := by
  have he := vNil_ok hx hy h
  unfold vNil at h
  cases hu : P.underlying t with
  | none => simp [hu] at h
  | some d =>
    simp only [hu] at h
    cases d <;> first | (simp at h; done) | skip
    all_goals (cases hx <;> first | (simp at h; done) | skip)
    all_goals (cases hy <;> first | (simp at h; done) | skip)
    all_goals exact ⟨by unfold binOp; rw [pv_bind, he]; rfl, by unfold binOp; rw [pv_bind, he]; rfl⟩
/-- Both sides are one address. -/
def vSame (P : Program) (t : TypeId) (x y : Value) : Bool :=
  match P.underlying t, x, y with
  | some (.pointer te), .pointer (some ⟨i, o, none⟩), .pointer (some ⟨j, p, none⟩) => i == j && o == p && (P.info? te).isSome
  | _, _, _ => false
theorem vSame_ok {t : TypeId} {x x' y y' : Value} (hx : VRel ρ x x') (hy : VRel ρ y y') (h : vSame P t x y = true) (w : World) (op : BinOp) (a b : Operand) :
    pv P (eqGuard op t a b x' y') = some () ∧ (binOp .eql t x' y').run P w = .ok (.bool true) w ∧ (binOp .neq t x' y').run P w = .ok (.bool false) w := by
  unfold vSame at h
  split at h
  case h_2 => cases h
  rename_i te i o j p hu
  simp only [Bool.and_eq_true, beq_iff_eq, Option.isSome_iff_exists] at h
  obtain ⟨⟨rfl, rfl⟩, q, hq⟩ := h
  cases hx with
  | ptr h1 =>
    cases hy with
    | ptr h2 =>
      rw [h1] at h2
      cases h2
      refine ⟨?_, run_eql_ptr_same w _ hu hq, Lib.run_neq_ptr_same w _ hu hq⟩
      unfold eqGuard
      cases op <;> first | rfl | simp [pv, hu]
end
end Vm
end Go.Proofs.YtmapjahpjolmnaaDoor
