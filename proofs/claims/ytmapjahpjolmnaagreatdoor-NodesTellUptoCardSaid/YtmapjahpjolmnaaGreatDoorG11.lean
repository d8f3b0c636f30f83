/- Blocks that are hidden for a while: masks, what lies behind them, and their filling. -/
import Derived.Test.YtmapjahpjolmnaaGreatDoorG10
import Derived.Orders
set_option linter.unusedVariables false
set_option linter.unusedSimpArgs false
namespace Go.Proofs.YtmapjahpjolmnaaGreatDoor
namespace Vm
set_option linter.unusedSimpArgs false
set_option linter.unusedVariables false
open Go.RowKit

def gone : VObj := .cells ⟨#[], 0, .dead, false, 0, 0⟩
def msk (σ : VHeap) (p : Nat → Bool) : VHeap := σ.mapIdx fun id o => bif p id then gone else o
theorem msk_get (σ : VHeap) (p : Nat → Bool) (id : Nat) : (msk σ p)[id]? = (σ[id]?).map fun o => bif p id then gone else o := by simp [msk]
theorem msk_size (σ : VHeap) (p : Nat → Bool) : (msk σ p).size = σ.size := by simp [msk]
theorem heap_ext {σ τ : VHeap} (h : ∀ id : Nat, σ[id]? = τ[id]?) : σ = τ := by
  apply Array.ext_getElem?
  exact h
theorem msk_msk (σ : VHeap) (p q : Nat → Bool) : msk (msk σ p) q = msk σ fun id => p id || q id := by
  apply heap_ext
  intro id
  rw [msk_get, msk_get, msk_get]
  cases σ[id]? with
  | none => rfl
  | some o => cases hp : p id <;> cases hq : q id <;> simp [hp, hq]
def VObj.alone : VObj → Bool
  | .cells b => b.fl == .ex
  | .map _ _ => true
  | _ => false

section
variable {w0 w : World} {B0 : Base} {ρ : Rho} {σ : VHeap}
theorem msk_some {p : Nat → Bool} {id : Nat} {o : VObj} (h : (msk σ p)[id]? = some o) (hl : o.live = true) : p id = false ∧ σ[id]? = some o := by
  rw [msk_get] at h
  cases hs : σ[id]? with
  | none => simp [hs] at h
  | some o' =>
    simp only [hs, Option.map_some, Option.some.injEq] at h
    cases hp : p id with
    | false => simp only [hp, cond_false] at h; subst h; exact ⟨rfl, rfl⟩
    | true => simp only [hp, cond_true] at h; subst h; simp [gone, VObj.live] at hl
/-- Fewer blocks may be looked at; those that are hidden, and alone, nobody may turn. -/
theorem WRel.protect (h : WRel ρ σ w0 w B0) (p : Nat → Bool) (hal : ∀ id o, p id = true → σ[id]? = some o → o.live = true → o.alone = true) :
    WRel ρ (msk σ p) w w ⟨fun k => B0.U k ∨ ∃ id o i, p id = true ∧ σ[id]? = some o ∧ o.live = true ∧ ρ id = some i ∧ i.b = k, B0.H, fun k => B0.U k ∧ B0.Ro k⟩ := by
  have hfar : ∀ id o i, p id = false → σ[id]? = some o → o.own = true → ρ id = some i → ¬ (∃ id' o' i', p id' = true ∧ σ[id']? = some o' ∧ o'.live = true ∧ ρ id' = some i' ∧ i'.b = i.b) := by
    rintro id o i hp ho hown hi ⟨id', o', i', hp', ho', hl', hi', he⟩
    have ha := hal id' o' hp' ho' hl'
    have hne : id' ≠ id := by rintro rfl; rw [hp] at hp'; cases hp'
    have hown' : o'.own = true := by
      cases o' with
      | cells b => simp [VObj.alone] at ha; simp [VObj.own, ha]
      | map es c => rfl
      | iter s p => rfl
      | rmap es c => simp [VObj.alone] at ha
    have hk := h.sep id' id o' o i' i hne ho' ho hown' hown hi' hi he
    cases o' with
    | cells b =>
      cases o with
      | cells b2 => simp [VObj.alone] at ha; exact hk.2.1 ha
      | _ => exact hk
    | _ => exact hk
  constructor
  · intro id hid; exact h.dom id (by simpa [msk_size] using hid)
  · intro id b hb hd
    obtain ⟨hp, hb'⟩ := msk_some hb (by simpa [VObj.live] using hd)
    obtain ⟨i, cs, fz, hi, hr⟩ := h.blk id b hb' hd
    refine ⟨i, cs, fz, hi, hr.at_, hr.len, hr.cells, fun e => ⟨⟨.inl (hr.ro e).1.1, (hr.ro e).1⟩, (hr.ro e).2⟩, fun e => ⟨?_, (hr.mine e).2⟩, hr.ex, hr.gr⟩
    rintro (hu | hu)
    · exact (hr.mine e).1 hu
    · exact hfar id _ i hp hb' (by simp [VObj.own, hd, e]) hi hu
  · intro id es c hg
    obtain ⟨hp, hg'⟩ := msk_some hg rfl
    obtain ⟨i, fs, h1, h2, h3, h4, h5⟩ := h.map id es c hg'
    refine ⟨i, fs, h1, h2, ?_, h4, h5⟩
    rintro (hu | hu)
    · exact h3 hu
    · exact hfar id _ i hp hg' rfl h1 hu
  · intro id es c hg
    obtain ⟨hp, hg'⟩ := msk_some hg rfl
    obtain ⟨i, fs, h1, h2, h3, h4, h5⟩ := h.rmap id es c hg'
    exact ⟨i, fs, h1, h2, ⟨.inl h3.1, h3⟩, h4, h5⟩
  · intro id s q hg
    obtain ⟨hp, hg'⟩ := msk_some hg rfl
    obtain ⟨i, h1, h2, h3, h4⟩ := h.iter id s q hg'
    refine ⟨i, h1, h2, ?_, h4⟩
    rintro (hu | hu)
    · exact h3 hu
    · exact hfar id _ i hp hg' rfl h1 hu
  · intro id1 id2 o1 o2 i1 i2 h12 g1 g2 w1 w2 r1 r2 hb12
    obtain ⟨_, g1'⟩ := msk_some g1 (own_live w1)
    obtain ⟨_, g2'⟩ := msk_some g2 (own_live w2)
    exact h.sep id1 id2 o1 o2 i1 i2 h12 g1' g2' w1 w2 r1 r2 hb12
  · rintro k (hk | ⟨id, o, i, hp, ho, hl, hi, rfl⟩)
    · exact h.base k hk
    · exact h.real_lt ho hl hi
  · exact Keeps.refl _ _
  · intro id hid; have := h.hole id hid; exact ⟨this.1, by rw [msk_size]; exact this.2⟩
/-- What was hidden comes back as it was. -/
def back (σ σ1 : VHeap) (p : Nat → Bool) : VHeap := σ1.mapIdx fun id o => bif p id then (σ[id]?).getD o else o
theorem back_get (σ σ1 : VHeap) (p : Nat → Bool) (id : Nat) : (back σ σ1 p)[id]? = (σ1[id]?).map fun o => bif p id then (σ[id]?).getD o else o := by simp [back]
theorem WRel.back (h : WRel ρ σ w0 w B0) {p : Nat → Bool} (hal : ∀ id o, p id = true → σ[id]? = some o → o.live = true → o.alone = true) (hps : ∀ id, p id = true → id < σ.size) {ρ2 : Rho} {σ1 : VHeap} {w1 : World} (hle : ρ.le ρ2)
    (h1 : WRel ρ2 σ1 w w1 ⟨fun k => B0.U k ∨ ∃ id o i, p id = true ∧ σ[id]? = some o ∧ o.live = true ∧ ρ id = some i ∧ i.b = k, B0.H, fun k => B0.U k ∧ B0.Ro k⟩) : WRel ρ2 (Vm.back σ σ1 p) w0 w1 B0 := by
  have hget : ∀ {id : Nat} {o : VObj}, (Vm.back σ σ1 p)[id]? = some o → (p id = true ∧ σ[id]? = some o) ∨ (p id = false ∧ σ1[id]? = some o) := by
    intro id o ho
    rw [back_get] at ho
    cases hs : σ1[id]? with
    | none => simp [hs] at ho
    | some o1 =>
      simp only [hs, Option.map_some, Option.some.injEq] at ho
      cases hp : p id with
      | false => simp only [hp, cond_false] at ho; subst ho; exact .inr ⟨rfl, rfl⟩
      | true =>
        simp only [hp, cond_true] at ho
        have hlt := hps id hp
        rw [Array.getElem?_eq_getElem hlt] at ho ⊢
        simp only [Option.getD_some] at ho
        subst ho
        exact .inl ⟨rfl, rfl⟩
  have hsame : ∀ {id : Nat} {o : VObj} {i : Info}, p id = true → σ[id]? = some o → o.live = true → ρ id = some i → w1.heap[i.b]? = w.heap[i.b]? :=
    fun {id o i} hp ho hl hi => h1.below.block _ (.inr ⟨id, o, i, hp, ho, hl, hi, rfl⟩)
  have hal' : ∀ {id : Nat} {o : VObj}, p id = true → σ[id]? = some o → o.live = true → o.own = true := by
    intro id o hp ho hl
    have := hal id o hp ho hl
    cases o with
    | cells b => simp [VObj.alone] at this; simp [VObj.own, this]
    | map es c => rfl
    | iter s q => rfl
    | rmap es c => simp [VObj.alone] at this
  constructor
  · intro id hid; exact h1.dom id (by simpa [Vm.back] using hid)
  · intro id b hb hd
    rcases hget hb with ⟨hp, ho⟩ | ⟨hp, ho⟩
    · obtain ⟨i, cs, fz, hi, hr⟩ := h.blk id b ho hd
      exact ⟨i, cs, fz, hle _ _ hi, hr.keep hle (hsame hp ho (by simpa [VObj.live] using hd) hi)⟩
    · obtain ⟨i, cs, fz, hi, hr⟩ := h1.blk id b ho hd
      exact ⟨i, cs, fz, hi, hr.at_, hr.len, hr.cells, fun e => ⟨(hr.ro e).1.2, (hr.ro e).2⟩, fun e => ⟨fun u => (hr.mine e).1 (.inl u), (hr.mine e).2⟩, hr.ex, hr.gr⟩
  · intro id es c hg
    rcases hget hg with ⟨hp, ho⟩ | ⟨hp, ho⟩
    · obtain ⟨i, fs, g1, g2, g3, g4, g5⟩ := h.map id es c ho
      exact ⟨i, fs, hle _ _ g1, g2, g3, (hsame hp ho rfl g1).trans g4, g5.mono hle⟩
    · obtain ⟨i, fs, g1, g2, g3, g4, g5⟩ := h1.map id es c ho
      exact ⟨i, fs, g1, g2, fun u => g3 (.inl u), g4, g5⟩
  · intro id es c hg
    rcases hget hg with ⟨hp, ho⟩ | ⟨hp, ho⟩
    · obtain ⟨i, fs, g1, g2, g3, g4, g5⟩ := h.rmap id es c ho
      exact ⟨i, fs, hle _ _ g1, g2, g3, (hsame hp ho rfl g1).trans g4, g5.mono hle⟩
    · obtain ⟨i, fs, g1, g2, g3, g4, g5⟩ := h1.rmap id es c ho
      exact ⟨i, fs, g1, g2, g3.2, g4, g5⟩
  · intro id s q hg
    rcases hget hg with ⟨hp, ho⟩ | ⟨hp, ho⟩
    · have := hal id _ hp ho rfl
      simp [VObj.alone] at this
    · obtain ⟨i, g1, g2, g3, g4⟩ := h1.iter id s q ho
      exact ⟨i, g1, g2, fun u => g3 (.inl u), g4⟩
  · have hreal : ∀ {id : Nat} {o : VObj} {i : Info}, p id = true → σ[id]? = some o → o.own = true → ρ2 id = some i → ρ id = some i := by
      intro id o i hp ho hown hi
      cases hr : ρ id with
      | some j => have := hle _ _ hr; rw [hi] at this; exact this.symm
      | none =>
        exfalso
        cases o with
        | cells b =>
          have hd : b.fl ≠ .dead := by
            have := own_live hown
            simpa [VObj.live] using this
          obtain ⟨j, _, _, hj, _⟩ := h.blk id b ho hd
          rw [hr] at hj; cases hj
        | map es c => obtain ⟨j, _, hj, _⟩ := h.map id es c ho; rw [hr] at hj; cases hj
        | iter s q => obtain ⟨j, hj, _⟩ := h.iter id s q ho; rw [hr] at hj; cases hj
        | rmap es c => simp [VObj.own] at hown
    have hun : ∀ {id : Nat} {o : VObj} {i : Info}, σ1[id]? = some o → o.own = true → ρ2 id = some i → ¬ (B0.U i.b ∨ ∃ id o j, p id = true ∧ σ[id]? = some o ∧ o.live = true ∧ ρ id = some j ∧ j.b = i.b) := by
      intro id o i ho hown hi
      cases o with
      | cells b =>
        have hd : b.fl ≠ .dead := by
          have := own_live hown
          simpa [VObj.live] using this
        have hro : b.fl ≠ .ro := by
          intro e; simp [VObj.own, e] at hown
        obtain ⟨j, _, _, hj, hr⟩ := h1.blk id b ho hd
        rw [hi] at hj; cases hj
        exact (hr.mine hro).1
      | map es c => obtain ⟨j, _, hj, _, g3, _⟩ := h1.map id es c ho; rw [hi] at hj; cases hj; exact g3
      | iter s q => obtain ⟨j, hj, _, g3, _⟩ := h1.iter id s q ho; rw [hi] at hj; cases hj; exact g3
      | rmap es c => simp [VObj.own] at hown
    intro id1 id2 o1 o2 i1 i2 h12 g1 g2 w1 w2 r1 r2 hb12
    rcases hget g1 with ⟨hp1, ho1⟩ | ⟨hp1, ho1⟩
    · have hr1 := hreal hp1 ho1 w1 r1
      rcases hget g2 with ⟨hp2, ho2⟩ | ⟨hp2, ho2⟩
      · exact h.sep id1 id2 o1 o2 i1 i2 h12 ho1 ho2 w1 w2 hr1 (hreal hp2 ho2 w2 r2) hb12
      · exact absurd (.inr ⟨id1, o1, i1, hp1, ho1, own_live w1, hr1, hb12⟩) (hun ho2 w2 r2)
    · rcases hget g2 with ⟨hp2, ho2⟩ | ⟨hp2, ho2⟩
      · exact absurd (.inr ⟨id2, o2, i2, hp2, ho2, own_live w2, hreal hp2 ho2 w2 r2, hb12.symm⟩) (hun ho1 w1 r1)
      · exact h1.sep id1 id2 o1 o2 i1 i2 h12 ho1 ho2 w1 w2 r1 r2 hb12
  · intro k hk; exact h1.base k (.inl hk)
  · exact h.below.trans (h1.below.mono fun k hk => .inl hk)
  · intro id hid; have := h1.hole id hid; exact ⟨this.1, by simpa [Vm.back] using this.2⟩

/-- A place kept free at the end. -/
theorem WRel.reserve (h : WRel ρ σ w0 w B0) : WRel ρ (σ.push gone) w0 w ⟨B0.U, fun id => B0.H id ∨ id = σ.size, B0.Ro⟩ := by
  have hold : ∀ {id : Nat} {o : VObj}, (σ.push gone)[id]? = some o → o.live = true → σ[id]? = some o := by
    intro id o hg hl
    rw [Array.getElem?_push] at hg
    split at hg
    · cases hg; simp [gone, VObj.live] at hl
    · exact hg
  constructor
  · intro id hid; exact h.dom id (by simp at hid; omega)
  · intro id b hb hd
    obtain ⟨i, cs, fz, hi, hr⟩ := h.blk id b (hold hb (by simpa [VObj.live] using hd)) hd
    exact ⟨i, cs, fz, hi, hr.at_, hr.len, hr.cells, hr.ro, hr.mine, hr.ex, hr.gr⟩
  · intro id es c hg; exact h.map id es c (hold hg rfl)
  · intro id es c hg; exact h.rmap id es c (hold hg rfl)
  · intro id s q hg; exact h.iter id s q (hold hg rfl)
  · intro id1 id2 o1 o2 i1 i2 h12 g1 g2 w1 w2; exact h.sep id1 id2 o1 o2 i1 i2 h12 (hold g1 (own_live w1)) (hold g2 (own_live w2)) w1 w2
  · exact h.base
  · exact h.below
  · rintro id (hid | rfl)
    · have := h.hole id hid; exact ⟨this.1, by simp; omega⟩
    · exact ⟨h.dom _ (Nat.le_refl _), by simp⟩
/-- Fewer places kept free. -/
theorem WRel.fewer (h : WRel ρ σ w0 w B0) {B1 : Base} (hU : B1.U = B0.U) (hR : B1.Ro = B0.Ro) (hH : ∀ id, B1.H id → B0.H id) : WRel ρ σ w0 w B1 := by
  obtain ⟨U, H, Ro⟩ := B1
  simp only at hU hR hH
  subst hU hR
  constructor
  · exact h.dom
  · intro id b hb hd
    obtain ⟨i, cs, fz, hi, hr⟩ := h.blk id b hb hd
    exact ⟨i, cs, fz, hi, hr.at_, hr.len, hr.cells, hr.ro, hr.mine, hr.ex, hr.gr⟩
  · exact h.map
  · exact h.rmap
  · exact h.iter
  · exact h.sep
  · exact h.base
  · exact h.below
  · intro id hid; exact h.hole id (hH id hid)
/-- The shape of what a value may be in a new block: its addresses lie below. -/
def leafB (n : Nat) : Value → Bool
  | .pointer (some a) => decide (a.block < n)
  | .slice (some a) _ _ => decide (a.block < n)
  | .map (some r) => decide (r < n)
  | .chan _ => true
  | .func _ ⟨[]⟩ ⟨[]⟩ => true
  | .iface _ (.pointer (some a)) => decide (a.block < n)
  | v => clean v
theorem leafB_rel {ρ ρ' : Rho} {n : Nat} {v x : Value} (hl : leafB n v = true) (h : VRel ρ v x) (hle : ∀ id i, id < n → ρ id = some i → ρ' id = some i) : VRel ρ' v x := by
  unfold leafB at hl
  split at hl
  · cases h with
    | ptr hi => exact .ptr (hle _ _ (by simpa using hl) hi)
  · cases h with
    | slice hi hc => exact .slice (hle _ _ (by simpa using hl) hi) hc
    | sliceOff => exact .sliceOff _ _ _ _
  · cases h with
    | map hi => exact .map (hle _ _ (by simpa using hl) hi)
  · cases h with
    | glob g => exact .glob g
  · cases h with
    | func _ h1 h2 g1 g2 => exact .func _ h1 (fun k hk _ => by simp at hk) g1 (fun k hk _ => by simp at hk)
  · cases h with
    | iface t h => cases h with
      | ptr hi => exact .iface _ (.ptr (hle _ _ (by simpa using hl) hi))
  · obtain rfl := clean_eq hl h
    exact clean_rel hl ρ'
/-- What a value is in two memories at once: its addresses are those of the first. -/
theorem VRel.both {ρ ρ2 ρ' : Rho} {v x : Value} (h : VRel ρ v x) (hle : ∀ id i j, ρ id = some j → ρ2 id = some i → ρ' id = some i) : ∀ {y : Value}, VRel ρ2 v y → VRel ρ' v y := by
  induction h with
  | bool b => intro y k; cases k; exact .bool b
  | int kd n => intro y k; cases k; exact .int kd n
  | float kd n => intro y k; cases k; exact .float kd n
  | complex kd a b => intro y k; cases k; exact .complex kd a b
  | string s => intro y k; cases k; exact .string s
  | ptrNil => intro y k; cases k; exact .ptrNil
  | ptr h => intro y k; cases k with | ptr h2 => exact .ptr (hle _ _ _ h h2)
  | sliceNil n c => intro y k; cases k; exact .sliceNil n c
  | slice h hc => intro y k; cases k with
    | slice h2 hc2 => exact .slice (hle _ _ _ h h2) hc2
  | sliceOff id off a c' => intro y k; cases k; exact .sliceOff _ _ _ _
  | glob g => intro y k; cases k; exact .glob g
  | mapNil => intro y k; cases k; exact .mapNil
  | map h => intro y k; cases k with | map h2 => exact .map (hle _ _ _ h h2)
  | func fn h1 _ g1 _ ih ih' => intro y k; cases k with
    | func _ k1 k2 l1 l2 => exact .func fn k1 (fun j a b => ih j a (h1 ▸ a) (k2 j a b)) l1 (fun j a b => ih' j a (g1 ▸ a) (l2 j a b))
  | nilFunc => intro y k; cases k; exact .nilFunc
  | iface t _ ih => intro y k; cases k with | iface _ k => exact .iface t (ih k)
  | nilIface => intro y k; cases k; exact .nilIface
  | agg h1 _ ih => intro y k; cases k with
    | agg k1 k2 => exact .agg k1 fun j a b => ih j a (h1 ▸ a) (k2 j a b)
  | tuple h1 _ ih => intro y k; cases k with
    | tuple k1 k2 => exact .tuple k1 fun j a b => ih j a (h1 ▸ a) (k2 j a b)
/-- The kinds of new blocks that may come late. -/
inductive AKind where
  | ptr | slice (n c : Nat) | map
def AKind.val : AKind → Nat → Value
  | .ptr, id => .pointer (some ⟨id, 0, none⟩)
  | .slice n c, id => .slice (some ⟨id, 0, none⟩) n c
  | .map, id => .map (some id)
def AKind.obj (k : AKind) (cs : Array Value) (e : TypeId) (id : Nat) : VObj := match k with
  | .map => .map #[] 0
  | _ => .cells ⟨cs, e, .ex, false, id, 0⟩
theorem AKind.own (k : AKind) (cs : Array Value) (e : TypeId) (id : Nat) : (k.obj cs e id).own = true := by cases k <;> rfl
/-- A block that came to lie at the end takes a place that was kept free. -/
theorem WRel.late (h : WRel ρ σ w0 w B0) {id : Nat} (hid : B0.H id) {k : AKind} {cs : Array Value} {e : TypeId} (hcs : cs.all (leafB id) = true) {ρ2 : Rho} {w' : World} {v' : Value}
    (hle : ρ.le ρ2) (h2 : WRel ρ2 (σ.push (k.obj cs e σ.size)) w0 w' B0) (hv : VRel ρ2 (k.val σ.size) v') :
    ∃ ρ', ρ.le ρ' ∧ VRel ρ' (k.val id) v' ∧ WRel ρ' (σ.setIfInBounds id (k.obj cs e id)) w0 w' ⟨B0.U, fun j => B0.H j ∧ j ≠ id, B0.Ro⟩ := by
  obtain ⟨hn, hlt⟩ := h.hole id hid
  have hn2 : ρ2 id = none := (h2.hole id hid).1
  refine ⟨fun j => if j = id then ρ2 σ.size else if j = σ.size then none else ρ2 j, ?_, ?_, ?_⟩
  · intro j i hj
    have h1 : j ≠ id := by rintro rfl; rw [hn] at hj; cases hj
    have h3 : j ≠ σ.size := by rintro rfl; rw [h.dom _ (Nat.le_refl _)] at hj; cases hj
    simp only [if_neg h1, if_neg h3]
    exact hle _ _ hj
  · cases k with
    | ptr => cases hv with | ptr hi => exact .ptr (by simpa using hi)
    | slice n c => cases hv with
      | slice hi hc => exact .slice (by simpa using hi) hc
    | map => cases hv with | map hi => exact .map (by simpa using hi)
  · have hself : (σ.push (k.obj cs e σ.size))[σ.size]? = some (k.obj cs e σ.size) := by simp
    have hold : ∀ {j : Nat} {o : VObj}, (σ.setIfInBounds id (k.obj cs e id))[j]? = some o → (j = id ∧ o = k.obj cs e id) ∨ (j ≠ id ∧ j < σ.size ∧ σ[j]? = some o ∧ (σ.push (k.obj cs e σ.size))[j]? = some o) := by
      intro j o hg
      by_cases hj : j = id
      · subst hj
        rw [Array.getElem?_setIfInBounds_self_of_lt hlt] at hg
        exact .inl ⟨rfl, (Option.some.inj hg).symm⟩
      · rw [Array.getElem?_setIfInBounds_ne (Ne.symm hj)] at hg
        have hjl := (Array.getElem?_eq_some_iff.1 hg).1
        exact .inr ⟨hj, hjl, hg, by rw [Array.getElem?_push, if_neg (by omega)]; exact hg⟩
    have hρ : ∀ {j : Nat}, j ≠ id → j < σ.size → (if j = id then ρ2 σ.size else if j = σ.size then none else ρ2 j) = ρ2 j := by
      intro j h1 h3
      simp only [if_neg h1, if_neg (show j ≠ σ.size by omega)]
    have hbelow : ∀ (j : Nat) (i : Info), j < σ.size → ρ2 j = some i → (fun j => if j = id then ρ2 σ.size else if j = σ.size then none else ρ2 j) j = some i := by
      intro j i h1 h3
      have hj : j ≠ id := by rintro rfl; rw [hn2] at h3; cases h3
      exact (hρ hj h1).trans h3
    have hboth : ∀ {v x y : Value}, VRel ρ v x → VRel ρ2 v y → VRel (fun j => if j = id then ρ2 σ.size else if j = σ.size then none else ρ2 j) v y := by
      intro v x y g1 g2
      refine g1.both (fun j i i' k1 k2 => hbelow j i ?_ k2) g2
      rcases Nat.lt_or_ge j σ.size with h | h'
      · exact h
      · rw [h.dom j h'] at k1; cases k1
    constructor
    · intro j hj
      simp only [Array.size_setIfInBounds] at hj
      have h1 : j ≠ id := by omega
      simp only [if_neg h1]
      split
      · rfl
      · exact h2.dom j (by simp; omega)
    · intro j b hb hd
      rcases hold hb with ⟨rfl, hb⟩ | ⟨hj, hjl, hb1, hb2⟩
      · obtain ⟨b2, hb2, hbc, hbe, hbf, hbz⟩ : ∃ b2, k.obj cs e σ.size = .cells b2 ∧ b2.cells = cs ∧ b2.elem = e ∧ b2.fl = .ex ∧ b = { b2 with root := j } := by
          cases k with
          | map => cases hb
          | ptr => cases hb; exact ⟨_, rfl, rfl, rfl, rfl, rfl⟩
          | slice n c => cases hb; exact ⟨_, rfl, rfl, rfl, rfl, rfl⟩
        obtain ⟨i, rs, fz, hi, hr⟩ := h2.blk σ.size b2 (hself.trans (by rw [hb2])) (by rw [hbf]; simp)
        subst hbz
        refine ⟨i, rs, fz, by simpa using hi, hr.at_, hr.len, fun n a b => ?_, (fun x => by rw [hbf] at x; cases x), hr.mine, hr.ex, hr.gr⟩
        refine leafB_rel (n := j) ?_ (hr.cells n a b) fun m i' hm hm2 => hbelow m i' (by omega) hm2
        have := Array.all_eq_true.1 hcs n (hbc ▸ a)
        simpa [← hbc] using this
      · obtain ⟨i, rs, fz, hi, hr⟩ := h2.blk j b hb2 hd
        obtain ⟨i0, rs0, fz0, hi0, hr0⟩ := h.blk j b hb1 hd
        refine ⟨i, rs, fz, by rw [hρ hj hjl]; exact hi, hr.at_, hr.len, fun n a b => ?_, hr.ro, hr.mine, hr.ex, hr.gr⟩
        exact hboth (hr0.cells n a (by have := hr0.len; omega)) (hr.cells n a b)
    · intro j es c hg
      rcases hold hg with ⟨rfl, hb⟩ | ⟨hj, hjl, hb1, hb2⟩
      · have hk : k = .map := by cases k <;> first | rfl | (cases hb)
        subst hk
        cases hb
        obtain ⟨i, fs, g1, g2, g3, g4, g5⟩ := h2.map σ.size #[] 0 hself
        exact ⟨i, fs, by simpa using g1, g2, g3, g4, g5.1, fun n a => by simp at a⟩
      · obtain ⟨i, fs, g1, g2, g3, g4, g5⟩ := h2.map j es c hb2
        obtain ⟨i0, fs0, k1, k2, k3, k4, k5⟩ := h.map j es c hb1
        exact ⟨i, fs, by rw [hρ hj hjl]; exact g1, g2, g3, g4, g5.1, fun n a b => ⟨(g5.2 n a b).1, (g5.2 n a b).2.1, hboth (k5.2 n a (k5.1 ▸ a)).2.2.1 (g5.2 n a b).2.2.1, (g5.2 n a b).2.2.2⟩⟩
    · intro j es c hg
      rcases hold hg with ⟨rfl, hb⟩ | ⟨hj, hjl, hb1, hb2⟩
      · cases k <;> cases hb
      · obtain ⟨i, fs, g1, g2, g3, g4, g5⟩ := h2.rmap j es c hb2
        obtain ⟨i0, fs0, k1, k2, k3, k4, k5⟩ := h.rmap j es c hb1
        exact ⟨i, fs, by rw [hρ hj hjl]; exact g1, g2, g3, g4, g5.1, fun n a b => ⟨(g5.2 n a b).1, (g5.2 n a b).2.1, hboth (k5.2 n a (k5.1 ▸ a)).2.2.1 (g5.2 n a b).2.2.1, (g5.2 n a b).2.2.2⟩⟩
    · intro j s q hg
      rcases hold hg with ⟨rfl, hb⟩ | ⟨hj, hjl, hb1, hb2⟩
      · cases k <;> cases hb
      · obtain ⟨i, g1, g2, g3, g4⟩ := h2.iter j s q hb2
        exact ⟨i, by rw [hρ hj hjl]; exact g1, g2, g3, g4⟩
    · intro id1 id2 o1 o2 i1 i2 h12 g1 g2 w1 w2 r1 r2 hb12
      rcases hold g1 with ⟨e1, e1'⟩ | ⟨hj1, hl1, ho1, ho1'⟩ <;> rcases hold g2 with ⟨e2, e2'⟩ | ⟨hj2, hl2, ho2, ho2'⟩
      · exact absurd (e1.trans e2.symm) h12
      · subst e1; subst e1'
        rw [hρ hj2 hl2] at r2
        have := h2.sep σ.size id2 _ o2 i1 i2 (by omega) hself ho2' (k.own _ _ _) w2 (by simpa using r1) r2 hb12
        cases k <;> first | exact this.elim | (cases o2 <;> first | exact this.elim | (exact absurd rfl this.2.1))
      · subst e2; subst e2'
        rw [hρ hj1 hl1] at r1
        have := h2.sep id1 σ.size o1 _ i1 i2 (by omega) ho1' hself w1 (k.own _ _ _) r1 (by simpa using r2) hb12
        cases k <;> cases o1 <;> first | exact this.elim | (exact absurd rfl this.2.2.1)
      · rw [hρ hj1 hl1] at r1; rw [hρ hj2 hl2] at r2
        exact h2.sep id1 id2 o1 o2 i1 i2 h12 ho1' ho2' w1 w2 r1 r2 hb12
    · exact h2.base
    · exact h2.below
    · rintro j ⟨hj, hne⟩
      have := h.hole j hj
      exact ⟨by rw [hρ hne this.2]; exact (h2.hole j hj).1, by simpa using this.2⟩
end
end Vm
end Go.Proofs.YtmapjahpjolmnaaGreatDoor
namespace Go.Proofs.YtmapjahpjolmnaaGreatDoor
namespace Vm
set_option linter.unusedSimpArgs false
set_option linter.unusedVariables false
open Go.RowKit

theorem pv_vrun {α : Type} {P : Program} : ∀ {s : Sem α} {a : α}, pv P s = some a → ∀ σ, vrun P s σ = some (a, σ)
  | .pure b, a, h, σ => by cases h; rfl
  | .program k, a, h, σ => pv_vrun (s := k P) h σ
  | .mark m k, a, h, σ => pv_vrun (s := k) h σ
  | .load .., _, h, _ | .store .., _, h, _ | .new .., _, h, _ | .shape .., _, h, _ | .freeze .., _, h, _ | .frozen .., _, h, _ | .getObj .., _, h, _ | .setObj .., _, h, _
  | .choose .., _, h, _ | .sys .., _, h, _ | .halt .., _, h, _ => by cases h
/-- The value of an operation that needs no memory. -/
def nval (P : Program) (o : Oper) (ev : Operand → Value) : Option Value :=
  match pureOp P o ev with
  | some v => some v
  | none => match o.op with
    | .move x | .assign x => some (ev x)
    | .pick c a b => match ev c with
      | .bool t => some (bif t then ev a else ev b)
      | _ => none
    | .build t parts => bif zeroOk P t then pv P (Instr.build t (parts.map fun (i, x) => (i, ev x))) else none
    | .nilCheck x => match ev x with
      | .pointer (some a) => some (.pointer (some a))
      | .func (.func f) xs ys => some (.func (.func f) xs ys)
      | _ => none
    | .binOp op t x y _ => bif vNil P t (ev x) (ev y) then (match op with
        | .eql => some (.bool false)
        | .neq => some (.bool true)
        | _ => none) else none
    | .makeInterface t x => pv P (Instr.makeInterface t (ev x))
    | .makeFunc fn xs ys => some (.func fn (xs.map ev) (ys.map ev))
    | .fieldAddr s x f => pv P (Instr.fieldAt s (ev x) f)
    | .field t x f => pv P (Instr.field t (ev x) f)
    | .indexAddr t x i => pv P (Instr.indexAt t (ev x) (ev i))
    | .index t x i => pv P (Instr.index t (ev x) (ev i))
    | .extract t i => pv P (Instr.extract (ev t) i)
    | .call c => match c.callee, c.args.map ev with
      | .builtin .len, ⟨[x]⟩ => match x with
        | .chan _ => none
        | x => pv P (Builtin.len_ c.argTypes o.type #[x])
      | _, _ => none
    | _ => none
theorem pv_fieldAt_chan (P : Program) (s : TypeId) (g : Option Nat) (f : Nat) : pv P (Instr.fieldAt s (.chan g) f) = none := by
  unfold Instr.fieldAt
  rw [pv_bind]
  cases pv P (underlying s) with
  | none => rfl
  | some d =>
    simp only [Option.bind_some]
    cases d <;> first | rfl | skip
    case struct fields =>
      dsimp only
      split <;> rfl
theorem pv_indexAt_chan (P : Program) (t : TypeId) (g : Option Nat) (i : Value) : pv P (Instr.indexAt t (.chan g) i) = none := by
  unfold Instr.indexAt
  rw [pv_bind]
  cases pv P (asIntOf i) with
  | none => rfl
  | some ki =>
    obtain ⟨k, i⟩ := ki
    simp only [Option.bind_some]
    rw [pv_bind]
    cases pv P (underlying t) with
    | none => rfl
    | some d =>
      simp only [Option.bind_some]
      cases d <;> rfl
theorem nval_vop {P : Program} {o : Oper} {ev : Operand → Value} {v : Value} (h : nval P o ev = some v) (σ : VHeap) : vop P o ev σ = some (.val v σ) := by
  unfold nval at h
  unfold vop
  cases hp : pureOp P o ev with
  | some u => rw [hp] at h; cases h; rfl
  | none =>
    rw [hp] at h
    simp only at h ⊢
    obtain ⟨dst, op, type, pos, after, guard⟩ := o
    cases op <;> dsimp only at h ⊢ <;> first | (cases h; done) | skip
    case move x => cases h; rfl
    case assign x => cases h; rfl
    case pick c a b => split at h <;> cases h; rename_i he; simp only [he]
    case build t parts =>
      cases hz : zeroOk P t with
      | false => rw [hz] at h; cases h
      | true => rw [hz] at h; simp only [cond_true] at h ⊢; rw [pv_vrun h]; rfl
    case nilCheck x => split at h <;> cases h <;> (rename_i he; simp only [he])
    case binOp op t x y yt =>
      cases hn : vNil P t (ev x) (ev y) with
      | false => rw [hn] at h; cases h
      | true =>
        rw [hn] at h
        simp only [cond_true] at h ⊢
        split at h <;> cases h <;> rfl
    case makeInterface t x => rw [pv_vrun h]; rfl
    case makeFunc fn xs ys => cases h; rfl
    case fieldAddr s x f =>
      have hg : gres σ (ev x) = ev x := by
        unfold gres
        split
        · rename_i g he; rw [he, pv_fieldAt_chan] at h; cases h
        · rfl
      rw [hg, pv_vrun h]; rfl
    case field t x f => rw [pv_vrun h]; rfl
    case indexAddr t x i =>
      have hg : gres σ (ev x) = ev x := by
        unfold gres
        split
        · rename_i g he; rw [he, pv_indexAt_chan] at h; cases h
        · rfl
      rw [hg, pv_vrun h]; rfl
    case index t x i => rw [pv_vrun h]; rfl
    case extract t i => rw [pv_vrun h]; rfl
    case call c =>
      unfold vcall
      split at h
      · rename_i x hc hx
        split at h
        · cases h
        · rename_i hnc
          simp only [hc, hx]
          rw [pv_vrun h]
          rfl
      · cases h
theorem vcall_congr {P : Program} {c : Call} {t : TypeId} {ev ev' : Operand → Value} (h : ∀ x ∈ c.operands, ev x = ev' x) (σ : VHeap) : vcall P ev c t σ = vcall P ev' c t σ := by
  have hargs : c.args.map ev = c.args.map ev' := Array.map_congr_left fun x hx => h x (by simp [Call.operands, hx])
  unfold vcall
  cases hc : c.callee with
  | value f =>
    have hf : ev f = ev' f := h f (by simp [Call.operands, hc])
    simp only [hf, hargs]
  | invoke r m => rfl
  | builtin b => simp only [hargs]
theorem pureOp_congr {P : Program} {o : Oper} {ev ev' : Operand → Value} (h : ∀ x ∈ o.op.operands, ev x = ev' x) : pureOp P o ev = pureOp P o ev' := by
  unfold pureOp
  split
  · rfl
  · rename_i hs
    rw [execOp_congr o (fun cs b e => hs cs b e) h]
    have hall : (o.op.operands.all fun x => clean (ev x)) = o.op.operands.all fun x => clean (ev' x) := by
      rw [Bool.eq_iff_iff, Array.all_eq_true', Array.all_eq_true']
      exact ⟨fun g x hx => h x hx ▸ g x hx, fun g x hx => (h x hx).symm ▸ g x hx⟩
    rw [hall]
theorem vop_congr {P : Program} {o : Oper} {ev ev' : Operand → Value} (h : ∀ x ∈ o.op.operands, ev x = ev' x) (σ : VHeap) : vop P o ev σ = vop P o ev' σ := by
  unfold vop
  rw [pureOp_congr h]
  cases pureOp P o ev' with
  | some v => rfl
  | none =>
    obtain ⟨dst, op, type, pos, after, guard⟩ := o
    have pairs : ∀ ps : Array (Nat × Operand), (∀ x ∈ ps.map (·.2), ev x = ev' x) →
        (ps.map fun (i, x) => (i, ev x)) = (ps.map fun (i, x) => (i, ev' x)) := fun ps hp =>
      Array.map_congr_left fun p hm => by
        obtain ⟨i, x⟩ := p
        simp only [hp x (Array.mem_map.2 ⟨(i, x), hm, rfl⟩)]
    cases op <;> simp only [Op.operands] at h <;> dsimp only
    case build t ps => rw [pairs ps fun x hx => h x (by simpa using hx)]
    case buildSlice t n ps => rw [pairs ps fun x hx => h x (by simpa using hx)]
    case makeFunc fn first captured =>
      rw [Array.map_congr_left (xs := first) fun x hx => h x (by simp [hx]), Array.map_congr_left (xs := captured) fun x hx => h x (by simp [hx])]
    case call c => rw [vcall_congr h]
    case makeMap t r => cases r <;> simp_all
    case slice t x lo hi mx => cases lo <;> cases hi <;> cases mx <;> simp_all
    case next it b => cases b <;> simp_all
    all_goals (first | rfl | (simp_all; done))
theorem nval_congr {P : Program} {o : Oper} {ev ev' : Operand → Value} (h : ∀ x ∈ o.op.operands, ev x = ev' x) : nval P o ev = nval P o ev' := by
  unfold nval
  rw [pureOp_congr h]
  cases pureOp P o ev' with
  | some v => rfl
  | none =>
    obtain ⟨dst, op, type, pos, after, guard⟩ := o
    have pairs : ∀ ps : Array (Nat × Operand), (∀ x ∈ ps.map (·.2), ev x = ev' x) →
        (ps.map fun (i, x) => (i, ev x)) = (ps.map fun (i, x) => (i, ev' x)) := fun ps hp =>
      Array.map_congr_left fun p hm => by
        obtain ⟨i, x⟩ := p
        simp only [hp x (Array.mem_map.2 ⟨(i, x), hm, rfl⟩)]
    cases op <;> simp only [Op.operands] at h <;> dsimp only
    case build t ps => rw [pairs ps fun x hx => h x (by simpa using hx)]
    case makeFunc fn first captured =>
      rw [Array.map_congr_left (xs := first) fun x hx => h x (by simp [hx]), Array.map_congr_left (xs := captured) fun x hx => h x (by simp [hx])]
    case call c => rw [Array.map_congr_left (xs := c.args) fun x hx => h x (by simp [Call.operands, hx])]
    all_goals (first | rfl | (simp_all; done))
theorem noW_vrun {α : Type} (P : Program) (s : Sem α) : ∀ (σ : VHeap) (a : α) (σ' : VHeap), noW s → vrun P s σ = some (a, σ') → σ' = σ := by
  induction s with
  | pure b => intro σ a σ' _ h; cases h; rfl
  | load m ad f ih =>
    intro σ a σ' g h
    cases m
    · simp only [vrun] at h
      split at h
      · exact ih _ _ _ _ (g _) h
      · cases h
    · cases h
  | program f ih => intro σ a σ' g h; exact ih P σ a σ' (g P) h
  | mark m f ih => intro σ a σ' g h; exact ih σ a σ' g h
  | halt x => intro σ a σ' _ h; cases h
  | _ => intro σ a σ' g h; exact g.elim
/-- Operations that only read. -/
def isRd (P : Program) (o : Oper) : Bool := match o.op with
  | .load _ _ => true
  | .slice .. => true
  | .convert s d _ => match P.underlying s, P.underlying d with
    | some (.slice _), some .string => true
    | _, _ => false
  | _ => false
theorem noW_loadAt (t : TypeId) (v : Value) : noW (Instr.loadAt t v) := noW_bind _ _ (by unfold Instr.sureAddr; split <;> exact trivial) fun a => noW_loadVar t a
theorem rd_same {P : Program} {o : Oper} {ev : Operand → Value} {σ : VHeap} {r : VN} (ho : isRd P o = true) (h : vop P o ev σ = some r) : ∃ v, r = .val v σ := by
  unfold vop at h
  split at h
  · cases h; exact ⟨_, rfl⟩
  · rename_i hnp
    clear hnp
    obtain ⟨dst, op, type, pos, after, guard⟩ := o
    cases op <;> simp only [isRd, Bool.false_eq_true] at ho <;> dsimp only at h
    case load t a =>
      unfold vv at h
      split at h
      case h_2 => cases h
      rename_i v σ' hv
      cases h
      rw [noW_vrun P _ _ _ _ (noW_loadAt t (gres σ (ev a))) hv]
      exact ⟨v, rfl⟩
    case slice t x lo hi mx =>
      split at h
      case h_2 => cases h
      cases h
      exact ⟨_, rfl⟩
    case convert src dst x =>
      split at ho
      case h_2 => cases ho
      rename_i e hs hd
      unfold vv at h
      split at h
      case h_2 => cases h
      rename_i v σ' hv
      cases h
      unfold vconvert at hv
      rw [hs, hd] at hv
      split at hv
      · rename_i h1 h2; cases h1
      · split at hv
        · split at hv
          · cases hv; exact ⟨_, rfl⟩
          · cases hv
        · cases hv
      · rename_i h1 h2; cases h1
      · rename_i h1 h2; cases h1
      · cases hv
/-- More may be looked at. -/
def Sees (σ τ : VHeap) : Prop := ∀ (id : Nat) b, σ[id]? = some (.cells b) → b.fl ≠ .dead → τ[id]? = some (.cells b)
theorem Sees.cell {σ τ : VHeap} (hs : Sees σ τ) (a : Addr) (v : Value) (hv : cell? σ a = some v) : cell? τ a = some v := by
  unfold cell? at hv ⊢
  split at hv
  · rename_i b hsp hb
    by_cases hd : b.fl = .dead
    · rw [if_pos hd] at hv; cases hv
    · rw [hsp, hs _ _ hb hd]
      exact hv
  · cases hv
theorem noW_sees {α : Type} {P : Program} {σ τ : VHeap} (hs : Sees σ τ) (s : Sem α) : ∀ (a : α) (σ' : VHeap), noW s → vrun P s σ = some (a, σ') → vrun P s τ = some (a, τ) := by
  induction s with
  | pure b => intro a σ' _ h; cases h; rfl
  | load m ad f ih =>
    intro a σ' g h
    cases m
    · simp only [vrun] at h ⊢
      split at h
      · rename_i v hv; rw [hs.cell _ _ hv]; exact ih v _ _ (g _) h
      · cases h
    · cases h
  | program f ih => intro a σ' g h; exact ih P a σ' (g P) h
  | mark m f ih => intro a σ' g h; exact ih a σ' g h
  | halt x => intro a σ' _ h; cases h
  | _ => intro a σ' g h; exact g.elim
theorem vfirst_sees {σ τ : VHeap} (hs : Sees σ τ) {size m : Nat} {x : Value} {cs : Array Value} (h : vfirst σ size m x = some cs) : vfirst τ size m x = some cs := by
  unfold vfirst at h ⊢
  split at h
  · rename_i a n c
    try dsimp only
    split at h
    · rename_i h0; rw [if_pos h0]; exact h
    · rename_i h0
      rw [if_neg h0]
      split at h
      · rename_i b h1 h2
        split at h
        · rename_i hd
          simp only [h1, hs _ _ h2 hd.1, if_pos hd]
          exact h
        · cases h
      · cases h
  · exact h
  · exact h
  · cases h
theorem vslice_sees {P : Program} {σ τ : VHeap} (hs : Sees σ τ) {t : TypeId} {x v : Value} {lo hi mx : Option Value} (h : vslice P σ t x lo hi mx = some v) : vslice P τ t x lo hi mx = some v := by
  unfold vslice at h ⊢
  split at h
  · rename_i elem a n c hu
    try simp only [hu]
    split at h
    · rename_i info l h' m b h1 h2 h3 h4
      by_cases hd : b.fl = .dead
      · rw [hd] at h; cases h
      · simp only [h1, h2, h3, hs _ _ h4 hd]
        exact h
    · rename_i h1 h2 h3
      simp only [h1, h2, h3]
      exact h
    · cases h
  · rename_i n elem a hu
    try simp only [hu]
    split at h
    · rename_i info l h' m b h1 h2 h3
      split at h
      · rename_i hfl
        have hd : b.fl ≠ .dead := by rcases hfl with e | e <;> rw [e] <;> decide
        simp only [h1, h2, hs _ _ h3 hd, if_pos hfl]
        exact h
      · cases h
    · cases h
  · rename_i arr a hu
    try simp only [hu]
    split at h
    · rename_i n elem ha
      try simp only [ha]
      split at h
      · rename_i info l h' m b h1 h2 h3
        split at h
        · rename_i hfl
          have hd : b.fl ≠ .dead := by rcases hfl with e | e <;> rw [e] <;> decide
          simp only [h1, h2, hs _ _ h3 hd, if_pos hfl]
          exact h
        · cases h
      · cases h
    · cases h
  · cases h
theorem gfind_sees {σ τ : VHeap} (hs : Sees σ τ) {g : Nat} : ∀ {n k id : Nat}, gfind σ g n k = some id → gfind τ g n k = some id
  | 0, _, _, h => by cases h
  | n + 1, k, id, h => by
    unfold gfind at h ⊢
    split at h
    case h_2 => cases h
    rename_i b hb
    cases hc : decide (b.fl = .ro) && b.kin with
    | false => rw [hc] at h; cases h
    | true =>
      rw [hc] at h
      simp only [cond_true] at h
      have hc' := hc
      simp only [Bool.and_eq_true, decide_eq_true_eq] at hc'
      simp only [hs k b hb (by rw [hc'.1]; decide), hc, cond_true]
      cases hg : b.root == g with
      | false => rw [hg] at h; exact gfind_sees hs h
      | true => rw [hg] at h; exact h
theorem gres_sees {σ τ : VHeap} (hs : Sees σ τ) (v : Value) : gres τ v = gres σ v ∨ ∃ g, v = .chan (some g) ∧ gres σ v = v := by
  unfold gres
  split
  · rename_i g
    cases h : gfind σ g 16 0 with
    | some id => rw [gfind_sees hs h]; exact .inl rfl
    | none => exact .inr ⟨g, rfl, rfl⟩
  · exact .inl rfl
theorem vrun_loadAt_chan (P : Program) (t : TypeId) (g : Option Nat) (σ : VHeap) : vrun P (Instr.loadAt t (.chan g)) σ = none := rfl
theorem vslice_chan (P : Program) (σ : VHeap) (t : TypeId) (g : Option Nat) (lo hi mx : Option Value) : vslice P σ t (.chan g) lo hi mx = none := by
  unfold vslice
  split
  · rename_i h; cases h
  · rename_i h; cases h
  · rename_i h; cases h
  · rfl
theorem rd_sees {P : Program} {o : Oper} {ev : Operand → Value} {σ τ : VHeap} {v : Value} {σ' : VHeap} (ho : isRd P o = true) (hs : Sees σ τ) (h : vop P o ev σ = some (.val v σ')) : vop P o ev τ = some (.val v τ) := by
  unfold vop at h ⊢
  cases hp : pureOp P o ev with
  | some u => rw [hp] at h; cases h; rfl
  | none =>
    rw [hp] at h
    obtain ⟨dst, op, type, pos, after, guard⟩ := o
    cases op <;> simp only [isRd, Bool.false_eq_true] at ho <;> dsimp only at h ⊢
    case load t a =>
      unfold vv at h
      split at h
      case h_2 => cases h
      rename_i v σ' hv
      cases h
      rcases gres_sees hs (ev a) with e | ⟨g, e1, e2⟩
      · rw [e, noW_sees hs _ _ _ (noW_loadAt t (gres σ (ev a))) hv]
        rfl
      · rw [e2, e1, vrun_loadAt_chan] at hv; cases hv
    case slice t x lo hi mx =>
      split at h
      case h_2 => cases h
      rename_i u hv
      cases h
      rcases gres_sees hs (ev x) with e | ⟨g, e1, e2⟩
      · rw [e, vslice_sees hs hv]
      · rw [e2, e1, vslice_chan] at hv; cases hv
    case convert src dst x =>
      split at ho
      case h_2 => cases ho
      rename_i e hs' hd
      unfold vv at h
      split at h
      case h_2 => cases h
      rename_i v σ' hv
      cases h
      unfold vconvert at hv ⊢
      rw [hs', hd] at hv ⊢
      split at hv
      · rename_i h1 h2; cases h1
      · rename_i e' a n c h1 h2 h3
        cases h1
        try simp only [h3]
        split at hv
        · rename_i hu
          try simp only [hu]
          split at hv
          · rename_i bs hb
            cases hb' : vfirst σ 1 n (.slice (some a) n c) with
            | none => rw [hb'] at hb; cases hb
            | some cs =>
              rw [vfirst_sees hs hb']
              rw [hb'] at hb
              simp only [hb]
              cases hv
              rfl
          · cases hv
        · cases hv
      · rename_i h1 h2; cases h1
      · rename_i h1 h2; cases h1
      · cases hv
theorem Sees.msk {σ : VHeap} {p q : Nat → Bool} (h : ∀ id, q id = true → p id = true) : Sees (Vm.msk σ p) (Vm.msk σ q) := by
  intro id b hb hd
  rw [msk_get] at hb ⊢
  cases hσ : σ[id]? with
  | none => rw [hσ] at hb; cases hb
  | some o =>
    rw [hσ] at hb
    simp only [Option.map_some, Option.some.injEq] at hb ⊢
    cases hp : p id with
    | true => rw [hp] at hb; simp only [cond_true, gone, VObj.cells.injEq] at hb; subst hb; exact absurd rfl hd
    | false =>
      rw [hp] at hb
      cases hq : q id with
      | true => rw [h _ hq] at hp; cases hp
      | false => exact hb
/-- The row of a slice that is written out. -/
def sliceRow (P : Program) (t : TypeId) (len : Nat) (parts : Array (Nat × Value)) : Option (Array Value × TypeId) :=
  match pv P (underlying t) with
  | some (.slice elem) => match pv P (sizeOf elem) with
    | some size => if len * size > 2 ^ 24 then none else
      match (if len * size = 0 then some #[] else (pv P (zeroValue elem)).map (·.cells)) with
      | some zero => match Instr.fill (fun i => some (i * size, size)) ((Array.range (len * size)).map (zero[· % zero.size]!)) parts.toList with
        | some cells => some (cells, elem)
        | none => none
      | none => none
    | none => none
  | _ => none
theorem vrun_pv {α β : Type} {P : Program} {s : Sem α} {a : α} (h : pv P s = some a) (f : α → Sem β) (σ : VHeap) : vrun P (s >>= f) σ = vrun P (f a) σ := by
  rw [show s >>= f = s.bind f from rfl, vrun_bind, pv_vrun h]
  rfl
theorem sliceRow_ok {P : Program} {t : TypeId} {len : Nat} {parts : Array (Nat × Value)} {cs : Array Value} {e : TypeId} (h : sliceRow P t len parts = some (cs, e)) (σ : VHeap) :
    vrun P (Instr.buildSlice t len parts) σ = some (.slice (some ⟨σ.size, 0, none⟩) len len, σ.push (.cells ⟨cs, e, .ex, false, σ.size, 0⟩)) := by
  unfold sliceRow at h
  split at h
  case h_2 => cases h
  rename_i elem hu
  split at h
  case h_2 => cases h
  rename_i size hs
  split at h
  case isTrue => cases h
  rename_i hbig
  split at h
  case h_2 => cases h
  rename_i zero hz
  split at h
  case h_2 => cases h
  rename_i cells hc
  cases h
  unfold Instr.buildSlice
  rw [vrun_pv hu]
  dsimp only
  rw [vrun_pv hs]
  rw [if_neg hbig]
  by_cases h0 : len * size = 0
  · rw [if_pos h0] at hz ⊢
    cases hz
    rw [vrun_pv (s := Pure.pure #[]) (a := #[]) rfl, hc]
    rfl
  · rw [if_neg h0] at hz ⊢
    cases hv : pv P (zeroValue e) with
    | none => rw [hv] at hz; cases hz
    | some z =>
      rw [hv] at hz
      cases hz
      rw [vrun_pv (s := zeroValue e) (a := z) hv]
      rw [vrun_pv (s := Pure.pure z.cells) (a := z.cells) rfl, hc]
      rfl
def nalloc (P : Program) (o : Oper) (ev : Operand → Value) : Option (AKind × Array Value × TypeId) :=
  match pureOp P o ev with
  | some _ => none
  | none => match o.op with
    | .alloc e => bif zeroOk P e then (match pv P (zeroValue e) with
      | some z => some (.ptr, z.cells, e)
      | none => none) else none
    | .box e x => some (.ptr, (ev x).cells, e)
    | .makeMap _ none => some (.map, #[], 0)
    | .buildSlice t n parts => bif elemZeroOk P t then (match sliceRow P t n (parts.map fun (i, x) => (i, ev x)) with
      | some (cs, e) => some (.slice n n, cs, e)
      | none => none) else none
    | _ => none
theorem nalloc_vop {P : Program} {o : Oper} {ev : Operand → Value} {k : AKind} {cs : Array Value} {e : TypeId} (h : nalloc P o ev = some (k, cs, e)) (σ : VHeap) : vop P o ev σ = some (.val (k.val σ.size) (σ.push (k.obj cs e σ.size))) := by
  unfold nalloc at h
  unfold vop
  cases hp : pureOp P o ev with
  | some u => rw [hp] at h; cases h
  | none =>
    rw [hp] at h
    simp only at h ⊢
    obtain ⟨dst, op, type, pos, after, guard⟩ := o
    cases op <;> dsimp only at h ⊢ <;> first | (cases h; done) | skip
    case alloc t =>
      cases hz : zeroOk P t with
      | false => rw [hz] at h; cases h
      | true =>
        rw [hz] at h
        simp only [cond_true] at h ⊢
        split at h
        case h_2 => cases h
        rename_i z hv
        cases h
        unfold Instr.alloc
        rw [vrun_pv hv]
        rfl
    case box t x => cases h; rfl
    case makeMap t r =>
      cases r with
      | some x => cases h
      | none => cases h; rfl
    case buildSlice t n parts =>
      cases hz : elemZeroOk P t with
      | false => rw [hz] at h; cases h
      | true =>
        rw [hz] at h
        simp only [cond_true] at h ⊢
        split at h
        case h_2 => cases h
        rename_i cs' e' hs
        cases h
        rw [sliceRow_ok hs]
        rfl
theorem nalloc_congr {P : Program} {o : Oper} {ev ev' : Operand → Value} (h : ∀ x ∈ o.op.operands, ev x = ev' x) : nalloc P o ev = nalloc P o ev' := by
  unfold nalloc
  rw [pureOp_congr h]
  cases pureOp P o ev' with
  | some v => rfl
  | none =>
    obtain ⟨dst, op, type, pos, after, guard⟩ := o
    have pairs : ∀ ps : Array (Nat × Operand), (∀ x ∈ ps.map (·.2), ev x = ev' x) →
        (ps.map fun (i, x) => (i, ev x)) = (ps.map fun (i, x) => (i, ev' x)) := fun ps hp =>
      Array.map_congr_left fun p hm => by
        obtain ⟨i, x⟩ := p
        simp only [hp x (Array.mem_map.2 ⟨(i, x), hm, rfl⟩)]
    cases op <;> simp only [Op.operands] at h <;> dsimp only
    case buildSlice t n ps => rw [pairs ps fun x hx => h x (by simpa using hx)]
    case makeMap t r => cases r <;> rfl
    all_goals (first | rfl | (simp_all; done))
end Vm
end Go.Proofs.YtmapjahpjolmnaaGreatDoor
