/- The relation of the two memories is kept by loads, stores and new blocks; the relation of two runs, and its first rules. -/
import Derived.Test.YtodjjnklelfgfaaVm1
namespace Go.Proofs.Ytodjjnklelfgfaa
namespace Vm
set_option linter.unusedSimpArgs false
set_option linter.unusedVariables false
open Go.RowKit

theorem heap_set_self {w : World} {a : Addr} {v : Value} {c : Array Value} {e : TypeId} {f : Nat × Nat} (hs : a.spot = none) (h : w.heap[a.block]? = some (.cells c e f)) :
    (w.setCell a v).heap[a.block]? = some (.cells (c.setIfInBounds a.off v) e f) := by
  simp only [World.setCell, Array.getElem?_modify, h, hs]; simp

theorem heap_new (w : World) (o : Obj) : (w.alloc o).heap[w.heap.size]? = some o := by
  show (w.heap.push o)[w.heap.size]? = some o
  simp

section
variable {ρ : Rho} {σ : VHeap} {w0 w : World} {B0 : Base}

theorem cell?_some {id off : Nat} {v : Value} (h : cell? σ ⟨id, off, none⟩ = some v) : ∃ b, σ[id]? = some (.cells b) ∧ b.fl ≠ .dead ∧ b.cells[off]? = some v := by
  unfold cell? at h
  simp only at h
  split at h
  · rename_i b _ hb
    by_cases hd : b.fl = .dead
    · simp [hd] at h
    · rw [if_neg hd] at h
      exact ⟨b, hb, hd, h⟩
  · cases h
theorem WRel.load (h : WRel ρ σ w0 w B0) {id off : Nat} {i : Info} {v : Value} (hρ : ρ id = some i) (hc : cell? σ ⟨id, off, none⟩ = some v) :
    ∃ v', w.cell? ⟨i.b, i.o + off, none⟩ = some v' ∧ VRel ρ v v' := by
  obtain ⟨b, hb, hd, hv⟩ := cell?_some hc
  obtain ⟨i', cs, fz, hi, hr⟩ := h.blk id b hb hd
  obtain rfl : i = i' := by rw [hρ] at hi; exact Option.some.inj hi
  obtain ⟨hoff, rfl⟩ := Array.getElem?_eq_some_iff.1 hv
  have hlen := hr.len
  have hlt : i.o + off < cs.size := by omega
  refine ⟨cs[i.o + off], ?_, hr.cells off hoff hlt⟩
  simp only [World.cell?, hr.at_, Option.isSome_none]
  simp [hlt]

theorem WRel.put (h : WRel ρ σ w0 w B0) {σk : VHeap} {id off : Nat} {b : Blk} {i : Info} {v v' : Value} (hb : σ[id]? = some (.cells b)) (hfl : b.fl = .ex ∨ b.fl = .tip) (hρ : ρ id = some i)
    (hoff : off < b.cells.size) (hv : VRel ρ v v') (hk1 : σk.size = σ.size) (hk2 : ∀ id' o', id' ≠ id → σk[id']? = some o' → o'.live = true → σ[id']? = some o')
    (hne : ∀ id' o' i', id' ≠ id → σk[id']? = some o' → o'.own = true → ρ id' = some i' → i'.b ≠ i.b) :
    w.cell? ⟨i.b, i.o + off, none⟩ ≠ none ∧ w.frozen? ⟨i.b, i.o + off, none⟩ = false ∧
    WRel ρ (σk.setIfInBounds id (.cells (b.put off v))) w0 (w.setCell ⟨i.b, i.o + off, none⟩ v') B0 := by
  have hd : b.fl ≠ .dead := by rcases hfl with e | e <;> rw [e] <;> decide
  have hro : b.fl ≠ .ro := by rcases hfl with e | e <;> rw [e] <;> decide
  obtain ⟨i', cs, fz, hi, hr⟩ := h.blk id b hb hd
  obtain rfl : i = i' := by rw [hρ] at hi; exact Option.some.inj hi
  have hlen := hr.len
  have hlt : i.o + off < cs.size := by omega
  obtain ⟨hB, htot, hfz⟩ := hr.mine hro
  have hidlt : id < σ.size := (Array.getElem?_eq_some_iff.1 hb).1
  have hself := heap_set_self (w := w) (a := ⟨i.b, i.o + off, none⟩) (v := v') rfl hr.at_
  have hother : ∀ k, k ≠ i.b → (w.setCell ⟨i.b, i.o + off, none⟩ v').heap[k]? = w.heap[k]? := fun k hk => Below.heap_setCell w _ _ _ hk
  have hget : ∀ id', id' ≠ id → (σk.setIfInBounds id (.cells (b.put off v)))[id']? = σk[id']? := fun id' hne => Array.getElem?_setIfInBounds_ne (Ne.symm hne)
  have hget0 : (σk.setIfInBounds id (.cells (b.put off v)))[id]? = some (.cells (b.put off v)) := by
    rw [Array.getElem?_setIfInBounds]; simp [hk1, hidlt]
  refine ⟨?_, ?_, ?_⟩
  · simp [World.cell?, hr.at_, hlt]
  · have := hfz (by rcases hfl with e | e <;> rw [e] <;> decide) _ hlt
    simp only [World.frozen?, hr.at_]
    simp only [Bool.and_eq_false_iff, decide_eq_false_iff_not]
    omega
  constructor
  · intro id' hid
    exact h.dom id' (by simpa [hk1] using hid)
  · intro id' b' hb' hd'
    by_cases hid : id' = id
    · subst hid
      rw [hget0] at hb'
      obtain rfl : b.put off v = b' := VObj.cells.inj (Option.some.inj hb')
      refine ⟨i, cs.setIfInBounds (i.o + off) v', fz, hρ, hself, by simpa [Blk.put] using hlen, ?_, (fun e => absurd e hro), ?_, ?_, hr.gr⟩
      · intro k hk hk'
        have hk0 : k < b.cells.size := by simpa [Blk.put] using hk
        simp only [Blk.put]
        rw [Array.getElem_setIfInBounds hk0, Array.getElem_setIfInBounds (by simpa using hk')]
        by_cases e : off = k
        · rw [if_pos e, if_pos (by omega)]; exact hv
        · rw [if_neg e, if_neg (by omega)]; exact hr.cells k hk0 _
      · intro _
        exact ⟨hB, by simpa using htot, fun ho k hk => hfz ho k (by simpa using hk)⟩
      · intro e
        obtain ⟨x1, x2, x3⟩ := hr.ex e
        exact ⟨x1, x2, by simpa [Blk.put] using x3⟩
    · rw [hget id' hid] at hb'
      have hlive : (VObj.cells b').live = true := by simpa [VObj.live] using hd'
      obtain ⟨i', cs', fz', hi', hr'⟩ := h.blk id' b' (hk2 id' _ hid hb' hlive) hd'
      refine ⟨i', cs', fz', hi', ?_, hr'.len, hr'.cells, hr'.ro, hr'.mine, hr'.ex, hr'.gr⟩
      rw [hother]
      · exact hr'.at_
      · by_cases hro' : b'.fl = .ro
        · have := (hr'.ro hro').1.1; exact fun e => hB (e ▸ this)
        · exact hne id' _ i' hid hb' (by simp [VObj.own, hd', hro']) hi'
  · intro id' es c hm
    have hid : id' ≠ id := by rintro rfl; rw [hget0] at hm; cases hm
    rw [hget id' hid] at hm
    obtain ⟨i', fs, h1, h2, h3, h4, h5⟩ := h.map id' es c (hk2 id' _ hid hm rfl)
    refine ⟨i', fs, h1, h2, h3, ?_, h5⟩
    rw [hother]
    · exact h4
    · exact hne id' _ i' hid hm rfl h1
  · intro id' es c hm
    have hid : id' ≠ id := by rintro rfl; rw [hget0] at hm; cases hm
    rw [hget id' hid] at hm
    obtain ⟨i', fs, h1, h2, h3, h4, h5⟩ := h.rmap id' es c (hk2 id' _ hid hm rfl)
    exact ⟨i', fs, h1, h2, h3, by rw [hother _ (fun e => hB (e ▸ h3.1))]; exact h4, h5⟩
  · intro id' s p hm
    have hid : id' ≠ id := by rintro rfl; rw [hget0] at hm; cases hm
    rw [hget id' hid] at hm
    obtain ⟨i', h1, h2, h3, h4⟩ := h.iter id' s p (hk2 id' _ hid hm rfl)
    refine ⟨i', h1, h2, h3, ?_⟩
    rw [hother]
    · exact h4
    · exact hne id' _ i' hid hm rfl h1
  · intro id1 id2 o1 o2 i1 i2 h12 g1 g2 w1 w2 r1 r2 hb12
    by_cases e1 : id1 = id
    · subst e1
      rw [hget id2 (Ne.symm h12)] at g2
      obtain rfl : i = i1 := by rw [hρ] at r1; exact Option.some.inj r1
      exact absurd hb12.symm (hne id2 o2 i2 (Ne.symm h12) g2 w2 r2)
    · rw [hget id1 e1] at g1
      by_cases e2 : id2 = id
      · subst e2
        obtain rfl : i = i2 := by rw [hρ] at r2; exact Option.some.inj r2
        exact absurd hb12 (hne id1 o1 i1 e1 g1 w1 r1)
      · rw [hget id2 e2] at g2
        have lv : ∀ o : VObj, o.own = true → o.live = true := by
          intro o ho; cases o <;> simp_all [VObj.own, VObj.live]
        exact h.sep id1 id2 o1 o2 i1 i2 h12 (hk2 id1 _ e1 g1 (lv _ w1)) (hk2 id2 _ e2 g2 (lv _ w2)) w1 w2 r1 r2 hb12
  · simpa using h.base
  · exact h.below.setCell hB v'
  · intro k hk; have := h.hole k hk; exact ⟨this.1, by simpa [hk1] using this.2⟩

theorem kill_get {σ : VHeap} {r id : Nat} : (kill σ r)[id]? = (σ[id]?).map (killed r) := by simp [kill]
theorem killed_live {r : Nat} {o : VObj} (h : (killed r o).live = true) : killed r o = o ∧ ∀ b, o = .cells b → ¬ (b.root = r ∧ b.fl = .old) := by
  cases o with
  | cells b =>
    by_cases hk : b.root = r ∧ b.fl = .old
    · simp [killed, hk, VObj.live] at h
    · exact ⟨by simp [killed, hk], fun b' e => by cases e; exact hk⟩
  | map es c => exact ⟨rfl, fun b e => by cases e⟩
  | iter s p => exact ⟨rfl, fun b e => by cases e⟩
  | rmap es c => exact ⟨rfl, fun b e => by cases e⟩
theorem own_live {o : VObj} (h : o.own = true) : o.live = true := by cases o <;> simp_all [VObj.own, VObj.live]

theorem WRel.store (h : WRel ρ σ w0 w B0) {σ' : VHeap} {id off : Nat} {i : Info} {v v' : Value} (hρ : ρ id = some i) (hs : setCell σ ⟨id, off, none⟩ v = some σ') (hv : VRel ρ v v') :
    w.cell? ⟨i.b, i.o + off, none⟩ ≠ none ∧ w.frozen? ⟨i.b, i.o + off, none⟩ = false ∧ WRel ρ σ' w0 (w.setCell ⟨i.b, i.o + off, none⟩ v') B0 := by
  unfold setCell at hs
  simp only at hs
  split at hs
  case h_2 => cases hs
  rename_i b _ hb
  split at hs
  case isFalse => cases hs
  rename_i hoff
  split at hs
  · rename_i hfl
    cases hs
    refine h.put hb (.inl hfl) hρ hoff hv rfl (fun _ _ _ e _ => e) ?_
    intro id' o' i' hid ho hown hi he
    have hk := h.sep id id' _ _ i i' (Ne.symm hid) hb ho (by simp [VObj.own, hfl]) hown hρ hi he.symm
    cases o' with
    | cells b' => exact hk.2.1 hfl
    | map es c => exact hk
    | iter s p => exact hk
    | rmap es c => exact hk
  · rename_i hfl
    cases hs
    refine h.put hb (.inr hfl) hρ hoff hv ?_ ?_ ?_
    · cases b.kin <;> simp [kill]
    · intro id' o' hid ho hl
      cases hk : b.kin with
      | false => simpa [hk] using ho
      | true =>
        simp only [hk, cond_true, kill_get] at ho
        cases hs' : σ[id']? with
        | none => simp [hs'] at ho
        | some o =>
          simp only [hs', Option.map_some, Option.some.injEq] at ho
          subst ho
          rw [(killed_live hl).1]
    · intro id' o' i' hid ho hown hi he
      cases hk : b.kin with
      | false =>
        simp only [hk, cond_false] at ho
        have hkk := h.sep id id' _ _ i i' (Ne.symm hid) hb ho (by simp [VObj.own, hfl]) hown hρ hi he.symm
        cases o' with
        | cells b' => have := (hkk.2.2.2 hfl).2.1; rw [hk] at this; cases this
        | map es c => exact hkk
        | iter s p => exact hkk
        | rmap es c => exact hkk
      | true =>
        simp only [hk, cond_true, kill_get] at ho
        cases hs' : σ[id']? with
        | none => simp [hs'] at ho
        | some o =>
          simp only [hs', Option.map_some, Option.some.injEq] at ho
          subst ho
          obtain ⟨e1, e2⟩ := killed_live (own_live hown)
          rw [e1] at hown
          have hkk := h.sep id id' _ _ i i' (Ne.symm hid) hb hs' (by simp [VObj.own, hfl]) hown hρ hi he.symm
          cases o with
          | cells b' => exact e2 b' rfl ⟨hkk.1.symm, (hkk.2.2.2 hfl).1⟩
          | map es c => exact hkk
          | iter s p => exact hkk
          | rmap es c => exact hkk
  · cases hs

/-- A new block, whatever it holds. -/
def Rho.more (ρ : Rho) (id : Nat) (i : Info) : Rho := fun k => if k = id then some i else ρ k
theorem Rho.le_more {ρ : Rho} {id : Nat} (h : ρ id = none) (i : Info) : ρ.le (ρ.more id i) := by
  intro k j hk
  by_cases e : k = id
  · subst e; rw [h] at hk; cases hk
  · simp [Rho.more, e, hk]
theorem Rho.more_self (ρ : Rho) (id : Nat) (i : Info) : ρ.more id i id = some i := by simp [Rho.more]

/-- What stays as it was when a block is laid at the end and the real memory grows (or turns where nobody looks). -/
theorem WRel.grow (h : WRel ρ σ w0 w B0) {w' : World} {o : VObj} {i : Info}
    (hn : ∀ id o' i', σ[id]? = some o' → o'.live = true → ρ id = some i' → (∀ b', o' = .cells b' → ∃ cs fz, BlkRel (ρ.more σ.size i) w' B0 b' i' cs fz) ∧ ((∀ b', o' ≠ .cells b') → w'.heap[i'.b]? = w.heap[i'.b]?))
    (hb : ∀ b, o = .cells b → b.fl ≠ .dead → ∃ cs fz, BlkRel (ρ.more σ.size i) w' B0 b i cs fz)
    (hm : ∀ es c, o = .map es c → ∃ fs, i.o = 0 ∧ ¬ B0.U i.b ∧ w'.heap[i.b]? = some (.map fs c) ∧ ERel (ρ.more σ.size i) es fs)
    (hi : ∀ s p, o = .iter s p → i.o = 0 ∧ ¬ B0.U i.b ∧ w'.heap[i.b]? = some (.stringIter s p)) (hr : ∀ es c, o ≠ .rmap es c)
    (hs : ∀ id o' i', σ[id]? = some o' → o'.own = true → o.own = true → ρ id = some i' → i'.b = i.b → Kin o' o i' i ∧ Kin o o' i i')
    (hbase : ∀ k, B0.U k → k < w'.heap.size) (hbel : Keeps B0.U w0 w') : WRel (ρ.more σ.size i) (σ.push o) w0 w' B0 := by
  have hle : ρ.le (ρ.more σ.size i) := Rho.le_more (h.dom _ (Nat.le_refl _)) i
  have hold : ∀ {id o'}, (σ.push o)[id]? = some o' → (id < σ.size ∧ σ[id]? = some o') ∨ (id = σ.size ∧ o' = o) := by
    intro id o' hg
    rw [Array.getElem?_push] at hg
    split at hg
    · exact .inr ⟨by assumption, (Option.some.inj hg).symm⟩
    · exact .inl ⟨(Array.getElem?_eq_some_iff.1 hg).1, hg⟩
  have hρo : ∀ {id}, id < σ.size → ρ.more σ.size i id = ρ id := by
    intro id hid; simp [Rho.more]; omega
  constructor
  · intro id hid
    simp only [Array.size_push] at hid
    unfold Rho.more
    rw [if_neg (by omega)]
    exact h.dom id (by omega)
  · intro id b hg hd
    rcases hold hg with ⟨hid, hg⟩ | ⟨rfl, e⟩
    · obtain ⟨i', _, _, hi', _⟩ := h.blk id b hg hd
      obtain ⟨cs, fz, hr⟩ := (hn id _ i' hg (by simpa [VObj.live] using hd) hi').1 b rfl
      exact ⟨i', cs, fz, hle _ _ hi', hr⟩
    · obtain ⟨cs, fz, hr⟩ := hb b e.symm hd
      exact ⟨i, cs, fz, Rho.more_self _ _ _, hr⟩
  · intro id es c hg
    rcases hold hg with ⟨hid, hg⟩ | ⟨rfl, e⟩
    · obtain ⟨i', fs, h1, h2, h3, h4, h5⟩ := h.map id es c hg
      exact ⟨i', fs, hle _ _ h1, h2, h3, ((hn id _ i' hg rfl h1).2 (by simp)).trans h4, h5.mono hle⟩
    · obtain ⟨fs, h2, h3, h4, h5⟩ := hm es c e.symm
      exact ⟨i, fs, Rho.more_self _ _ _, h2, h3, h4, h5⟩
  · intro id es c hg
    rcases hold hg with ⟨hid, hg⟩ | ⟨rfl, e⟩
    · obtain ⟨i', fs, h1, h2, h3, h4, h5⟩ := h.rmap id es c hg
      exact ⟨i', fs, hle _ _ h1, h2, h3, ((hn id _ i' hg rfl h1).2 (by simp)).trans h4, h5.mono hle⟩
    · exact absurd e.symm (hr es c)
  · intro id s p hg
    rcases hold hg with ⟨hid, hg⟩ | ⟨rfl, e⟩
    · obtain ⟨i', h1, h2, h3, h4⟩ := h.iter id s p hg
      exact ⟨i', hle _ _ h1, h2, h3, ((hn id _ i' hg rfl h1).2 (by simp)).trans h4⟩
    · obtain ⟨h2, h3, h4⟩ := hi s p e.symm
      exact ⟨i, Rho.more_self _ _ _, h2, h3, h4⟩
  · intro id1 id2 o1 o2 i1 i2 h12 g1 g2 w1 w2 r1 r2 hb12
    rcases hold g1 with ⟨d1, g1'⟩ | ⟨e1, e1'⟩ <;> rcases hold g2 with ⟨d2, g2'⟩ | ⟨e2, e2'⟩
    · rw [hρo d1] at r1; rw [hρo d2] at r2
      exact h.sep id1 id2 o1 o2 i1 i2 h12 g1' g2' w1 w2 r1 r2 hb12
    · subst e2; subst e2'; rw [hρo d1] at r1; rw [Rho.more_self] at r2; cases r2
      exact (hs id1 o1 i1 g1' w1 w2 r1 hb12).1
    · subst e1; subst e1'; rw [hρo d2] at r2; rw [Rho.more_self] at r1; cases r1
      exact (hs id2 o2 i2 g2' w2 w1 r2 hb12.symm).2
    · exact absurd (e1.trans e2.symm) h12
  · exact hbase
  · exact hbel
  · intro k hk
    have := h.hole k hk
    exact ⟨by rw [hρo this.2]; exact this.1, by simp; omega⟩

theorem BlkRel.keep {ρ ρ' : Rho} {w w' : World} {B0 : Base} {b : Blk} {i : Info} {cs : Array Value} {fz : Nat × Nat} (h : BlkRel ρ w B0 b i cs fz) (hle : ρ.le ρ') (hb : w'.heap[i.b]? = w.heap[i.b]?) : BlkRel ρ' w' B0 b i cs fz :=
  ⟨hb.trans h.at_, h.len, fun k a b => (h.cells k a b).mono hle, h.ro, h.mine, h.ex, h.gr⟩
theorem WRel.real_lt (h : WRel ρ σ w0 w B0) {id : Nat} {o : VObj} {i : Info} (ho : σ[id]? = some o) (hl : o.live = true) (hi : ρ id = some i) : i.b < w.heap.size := by
  cases o with
  | cells b =>
    obtain ⟨i', cs, fz, hi', hr⟩ := h.blk id b ho (by simpa [VObj.live] using hl)
    obtain rfl : i = i' := by rw [hi] at hi'; exact Option.some.inj hi'
    exact (Array.getElem?_eq_some_iff.1 hr.at_).1
  | map es c =>
    obtain ⟨i', fs, hi', _, _, h4, _⟩ := h.map id es c ho
    obtain rfl : i = i' := by rw [hi] at hi'; exact Option.some.inj hi'
    exact (Array.getElem?_eq_some_iff.1 h4).1
  | iter s p =>
    obtain ⟨i', hi', _, _, h4⟩ := h.iter id s p ho
    obtain rfl : i = i' := by rw [hi] at hi'; exact Option.some.inj hi'
    exact (Array.getElem?_eq_some_iff.1 h4).1
  | rmap es c =>
    obtain ⟨i', fs, hi', _, _, h4, _⟩ := h.rmap id es c ho
    obtain rfl : i = i' := by rw [hi] at hi'; exact Option.some.inj hi'
    exact (Array.getElem?_eq_some_iff.1 h4).1
/-- The real memory has got new blocks alone. -/
theorem WRel.grow_new (h : WRel ρ σ w0 w B0) {w' : World} {o : VObj} {i : Info} (hw : Below w.heap.size w w') (hib : w.heap.size ≤ i.b)
    (hb : ∀ b, o = .cells b → b.fl ≠ .dead → ∃ cs fz, BlkRel (ρ.more σ.size i) w' B0 b i cs fz)
    (hm : ∀ es c, o = .map es c → ∃ fs, i.o = 0 ∧ w'.heap[i.b]? = some (.map fs c) ∧ ERel (ρ.more σ.size i) es fs)
    (hi : ∀ s p, o = .iter s p → i.o = 0 ∧ w'.heap[i.b]? = some (.stringIter s p)) (hr : ∀ es c, o ≠ .rmap es c) : WRel (ρ.more σ.size i) (σ.push o) w0 w' B0 := by
  have hle : ρ.le (ρ.more σ.size i) := Rho.le_more (h.dom _ (Nat.le_refl _)) i
  have hB := h.base
  refine h.grow ?_ hb ?_ ?_ hr ?_ (fun k hk => Nat.lt_of_lt_of_le (h.base k hk) hw.size) (h.below.trans (Keeps.of_below hw h.base))
  · intro id o' i' ho hl hi'
    have hlt := h.real_lt ho hl hi'
    refine ⟨fun b' e => ?_, fun _ => hw.block _ hlt⟩
    subst e
    obtain ⟨i2, cs, fz, hi2, hr⟩ := h.blk id b' ho (by simpa [VObj.live] using hl)
    obtain rfl : i' = i2 := by rw [hi'] at hi2; exact Option.some.inj hi2
    exact ⟨cs, fz, hr.keep hle (hw.block _ hlt)⟩
  · intro es c e
    obtain ⟨fs, h1, h2, h3⟩ := hm es c e
    exact ⟨fs, h1, fun u => by have := hB _ u; omega, h2, h3⟩
  · intro s p e
    obtain ⟨h1, h2⟩ := hi s p e
    exact ⟨h1, fun u => by have := hB _ u; omega, h2⟩
  · intro id o' i' ho hown _ hi' he
    have := h.real_lt ho (own_live hown) hi'
    omega
theorem WRel.newCells (h : WRel ρ σ w0 w B0) {cs cs' : Array Value} (e : TypeId) (hc : ARel ρ cs cs') :
    WRel (ρ.more σ.size ⟨w.heap.size, 0, 0, cs'.size, .ex⟩) (σ.push (.cells ⟨cs, e, .ex, false, σ.size, 0⟩)) w0 (w.alloc (.cells cs' e)) B0 := by
  have hle := Rho.le_more (h.dom _ (Nat.le_refl _)) ⟨w.heap.size, 0, 0, cs'.size, .ex⟩
  refine h.grow_new ((Below.refl _ _).alloc (Nat.le_refl _) _) (Nat.le_refl _) ?_ (fun _ _ x => by cases x) (fun _ _ x => by cases x) (fun _ _ x => by cases x)
  rintro b hb _
  cases hb
  refine ⟨cs', (0, 0), heap_new _ _, by simp [hc.1], ?_, by simp, ?_, fun _ => ⟨rfl, rfl, hc.1⟩, by simp⟩
  · intro k hk hk'
    simp only [Nat.zero_add]
    exact (hc.2 k hk _).mono hle
  · intro _
    exact ⟨fun u => absurd (h.base _ u) (Nat.lt_irrefl _), rfl, fun _ k hk => by simp⟩
theorem WRel.newMap (h : WRel ρ σ w0 w B0) : WRel (ρ.more σ.size ⟨w.heap.size, 0, 0, 0, .ex⟩) (σ.push (.map #[] 0)) w0 (w.alloc (.map #[] 0)) B0 := by
  refine h.grow_new ((Below.refl _ _).alloc (Nat.le_refl _) _) (Nat.le_refl _) (fun _ x => by cases x) ?_ (fun _ _ x => by cases x) (fun _ _ x => by cases x)
  rintro es c hm
  cases hm
  exact ⟨#[], rfl, heap_new _ _, rfl, fun k hk => by simp at hk⟩
theorem WRel.newIter (h : WRel ρ σ w0 w B0) (s : ByteArray) (p : Nat) : WRel (ρ.more σ.size ⟨w.heap.size, 0, 0, 0, .ex⟩) (σ.push (.iter s p)) w0 (w.alloc (.stringIter s p)) B0 := by
  refine h.grow_new ((Below.refl _ _).alloc (Nat.le_refl _) _) (Nat.le_refl _) (fun _ x => by cases x) (fun _ _ x => by cases x) ?_ (fun _ _ x => by cases x)
  rintro s' p' hm
  cases hm
  exact ⟨rfl, heap_new _ _⟩
end
end Vm
end Go.Proofs.Ytodjjnklelfgfaa
