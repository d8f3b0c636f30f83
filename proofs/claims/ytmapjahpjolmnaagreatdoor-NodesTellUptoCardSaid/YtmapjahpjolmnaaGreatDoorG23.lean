/- A region that draws its order, with a last phase (stores, say) in which the condition on the world need hold no more: behind operation f. ONE walk, in an order that is handed in: kinds 1 reads what every S-world gives alike (f waits for it), 2 reads what every world gives, 0 stands alone and keeps S, 3 stands alone, f or behind it. No program in sight. -/
import Derived.Test.YtmapjahpjolmnaaGreatDoorG1
import Derived.Test.YtmapjahpjolmnaaGreatDoorG22
import Derived.Deep.RegionHeld3
set_option linter.unusedVariables false
set_option linter.unusedSimpArgs false
namespace Go.Proofs.YtmapjahpjolmnaaGreatDoor
open Go
section
variable {P : Program} {ops : Array Oper} {md : Region.Mode} {S : World → Prop} {Q : Exit → Act → World → Prop} {f : Nat}
def wpAnyF (P : Program) (md : Region.Mode) (ops : Array Oper) (Q : Exit → Act → World → Prop) (S : World → Prop) (f : Nat) : Nat → Array Bool → Act → World → Prop
  | 0, listed, a, w => Region.ready md ops listed = [] ∧ Q .normal a w
  | fuel + 1, listed, a, w =>
    (Region.ready md ops listed = [] → Q .normal a w) ∧
    ∀ i ∈ Region.ready md ops listed, wpOp P ops Q i (fun a' w' => ((listed.setIfInBounds i true).getD f false = false → S w') ∧ wpAnyF P md ops Q S f fuel (listed.setIfInBounds i true) a' w') a w
theorem wpAny_of_F : ∀ (fuel : Nat) (listed : Array Bool) (a : Act) (w : World), wpAnyF P md ops Q S f fuel listed a w → wpAny P md ops Q fuel listed a w
  | 0, _, _, _, h => h
  | fuel + 1, _, _, _, h => ⟨h.1, fun i hi => wpOp_mono (fun a' w' h' => wpAny_of_F fuel _ a' w' h'.2) (h.2 i hi)⟩
/-- What is listed brings with it what it waits for. -/
def Clo (md : Region.Mode) (ops : Array Oper) (L : Array Bool) : Prop := ∀ j oj, ops[j]? = some oj → L.getD j false = true → ∀ e ∈ oj.after, Region.binds md e = true → L.getD e.on false = true
theorem getD_set_ne' {L : Array Bool} {i j : Nat} (d : Bool) (h : i ≠ j) : (L.setIfInBounds i true).getD j d = L.getD j d := getD_set_ne d h
theorem getD_set_le {L : Array Bool} {i j : Nat} (h : L.getD j false = true) : (L.setIfInBounds i true).getD j false = true := by
  by_cases hij : i = j
  · subst hij
    have hlt : i < L.size := by
      rcases Nat.lt_or_ge i L.size with h' | h'
      · exact h'
      · simp [Array.getElem?_eq_none h'] at h
    simp [hlt]
  · rw [getD_set_ne' false hij]; exact h
theorem Clo.step {L : Array Bool} {j : Nat} (h : Clo md ops L) (hj : j ∈ Region.ready md ops L) : Clo md ops (L.setIfInBounds j true) := by
  obtain ⟨hjun, oj, hoj, hall⟩ := mem_ready.1 hj
  intro k ok hk hkl e he hb
  by_cases hjk : j = k
  · subst hjk
    rw [hoj] at hk
    obtain rfl := Option.some.inj hk
    refine getD_set_le ?_
    have h1 := hall e he hb
    rcases Nat.lt_or_ge e.on L.size with h' | h'
    · simpa [h'] using h1
    · simp [Array.getElem?_eq_none h'] at h1
  · rw [getD_set_ne' false hjk] at hkl
    exact getD_set_le (h k ok hk hkl e he hb)
def ancB (md : Region.Mode) (ops : Array Oper) : Nat → Nat → Nat → Bool
  | 0, g, i => g == i
  | n + 1, g, i => g == i || (match ops[g]? with
    | some o => o.after.any fun e => Region.binds md e && ancB md ops n e.on i
    | none => false)
theorem anc_spec {i : Nat} {L : Array Bool} (hL : Clo md ops L) : ∀ (n g : Nat), ancB md ops n g i = true → L.getD g false = true → L.getD i false = true
  | 0, g, h, hg => by
    have : g = i := by simpa [ancB] using h
    subst this; exact hg
  | n + 1, g, h, hg => by
    simp only [ancB, Bool.or_eq_true, beq_iff_eq] at h
    rcases h with h | h
    · subst h; exact hg
    · cases ho : ops[g]? with
      | none => rw [ho] at h; cases h
      | some o =>
        rw [ho] at h
        obtain ⟨e, he, hb⟩ := Array.any_eq_true'.1 h
        simp only [Bool.and_eq_true] at hb
        exact anc_spec hL n e.on hb.2 (hL g o ho hg e he hb.1)
theorem unl {L : Array Bool} {i : Nat} (h : L.getD i true = false) : L.getD i false = false := by
  rcases Nat.lt_or_ge i L.size with h' | h'
  · simpa [h'] using h
  · simp [Array.getElem?_eq_none h'] at h
theorem anyF_first {SR : World → Prop} {i : Nat} {oi : Oper} {v : Value} (hi : ops[i]? = some oi) (hfi : i ≠ f) (hsel : ∀ (j : Nat) (o : Oper) cs b, ops[j]? = some o → o.op ≠ .select cs b)
    (hQ : ∀ c a w, Q (.panic c) (a.put oi.dst v) w → Q (.panic c) a w) (hSR : ∀ L w, Clo md ops L → L.getD i false = false → (L.getD f false = false → S w) → SR w) :
    ∀ (fuel : Nat) (listed : Array Bool) (a : Act) (w : World),
      (∀ j oj, ops[j]? = some oj → j ≠ i → listed.getD j true = false → (∀ e ∈ oj.after, Region.binds md e = true → e.on ≠ i) → oi.apart ops oj = true) → Clo md ops listed →
      i ∈ Region.ready md ops listed → Reads P ops SR oi a v → (listed.getD f false = false → S w) →
      wpAnyF P md ops Q S f fuel (listed.setIfInBounds i true) (a.put oi.dst v) w → wpAnyF P md ops Q S f (fuel + 1) listed a w := by
  intro fuel
  induction fuel with
  | zero =>
    intro listed a w _ hcl hr hy hS H
    refine ⟨fun h => (by rw [h] at hr; cases hr), fun j hj => ?_⟩
    by_cases hji : j = i
    · subst hji; exact hy.wpOp hi (hSR _ _ hcl (unl (mem_ready.1 hr).1) hS) ⟨fun h => hS (by rwa [getD_set_ne' false hfi] at h), H⟩
    · have := ready_mono hj hji
      rw [H.1] at this
      cases this
  | succ fuel ih =>
    intro listed a w hfree hcl hr hy hS H
    refine ⟨fun h => (by rw [h] at hr; cases hr), fun j hj => ?_⟩
    by_cases hji : j = i
    · subst hji; exact hy.wpOp hi (hSR _ _ hcl (unl (mem_ready.1 hr).1) hS) ⟨fun h => hS (by rwa [getD_set_ne' false hfi] at h), H⟩
    · have h1 := H.2 j (ready_mono hj hji)
      obtain ⟨hjun, oj, hoj, hall⟩ := mem_ready.1 hj
      have hnot : ∀ e ∈ oj.after, Region.binds md e = true → e.on ≠ i := fun e he hb heq => by
        have h1 := hall e he hb
        have h0 := (mem_ready.1 hr).1
        rw [heq] at h1
        rcases Nat.lt_or_ge i listed.size with h' | h'
        · simp [h'] at h0 h1; rw [h0] at h1; cases h1
        · simp [Array.getElem?_eq_none h'] at h1
      have h2 := wpOp_putR hoj (hfree j oj hoj hji hjun hnot) (fun cs b => hsel i oi cs b hi) (fun cs b => hsel j oj cs b hoj) hQ hy h1
      have hfree' : ∀ k ok, ops[k]? = some ok → k ≠ i → (listed.setIfInBounds j true).getD k true = false →
          (∀ e ∈ ok.after, Region.binds md e = true → e.on ≠ i) → oi.apart ops ok = true := fun k ok hk hki hun hno => by
        refine hfree k ok hk hki ?_ hno
        by_cases hjk : j = k
        · subst hjk; exact hjun
        · rw [getD_set_ne true hjk] at hun; exact hun
      have hsame : ((listed.setIfInBounds i true).setIfInBounds j true).getD f false = (listed.setIfInBounds j true).getD f false := by
        rw [Array.setIfInBounds_comm _ _ (Ne.symm hji), getD_set_ne' false hfi]
      refine wpOp_mono (fun a' w' h3 => ?_) h2
      have h4 : (listed.setIfInBounds j true).getD f false = false → S w' := fun h => h3.2.1 (by rw [hsame]; exact h)
      refine ⟨h4, ih (listed.setIfInBounds j true) a' w' hfree' (hcl.step hj) (ready_mono hr (Ne.symm hji)) h3.1 h4 ?_⟩
      rw [Array.setIfInBounds_comm _ _ hji]
      exact h3.2.2
def wpPf (P : Program) (ops : Array Oper) (S : World → Prop) (Q : Exit → Act → World → Prop) (K : Act → World → Prop) : List (Nat × Nat × Oper) → Act → World → Prop
  | [], a, w => K a w
  | (_, 0, o) :: p, a, w => wpList P ops (Exit.then (fun a' w' => S w' ∧ wpPf P ops S Q K p a' w') Q) [o] a w
  | (_, 1, o) :: p, a, w => ∃ v, Reads P ops S o a v ∧ wpPf P ops S Q K p (a.put o.dst v) w
  | (_, 2, o) :: p, a, w => ∃ v, Reads P ops (fun _ => True) o a v ∧ wpPf P ops S Q K p (a.put o.dst v) w
  | (_, _, o) :: p, a, w => wpList P ops (Exit.then (fun a' w' => wpPf P ops S Q K p a' w') Q) [o] a w
def pfB (md : Region.Mode) (ops : Array Oper) (f : Nat) (E : Array Bool → Bool) : List (Nat × Nat) → Array Bool → Bool
  | [], l => E l
  | (i, 0) :: p, l => decide (Region.ready md ops l = [i]) && pfB md ops f E p (l.setIfInBounds i true)
  | (i, 1) :: p, l => (Region.ready md ops l).contains i && Region.free md ops l i && (i != f && ancB md ops 4 f i) && pfB md ops f E p (l.setIfInBounds i true)
  | (i, 2) :: p, l => (Region.ready md ops l).contains i && Region.free md ops l i && (i != f) && pfB md ops f E p (l.setIfInBounds i true)
  | (i, _) :: p, l => decide (Region.ready md ops l = [i]) && ((l.setIfInBounds i true).getD f false && pfB md ops f E p (l.setIfInBounds i true))
def pfO (ops : Array Oper) (p : List (Nat × Nat)) : List (Nat × Nat × Oper) := p.filterMap fun x => (ops[x.1]?).map fun o => (x.1, x.2, o)
theorem pfO_cons {x : Nat × Nat} {p : List (Nat × Nat)} {o : Oper} (ho : ops[x.1]? = some o) : pfO ops (x :: p) = (x.1, x.2, o) :: pfO ops p := by
  simp [pfO, ho]
theorem anyF_one {i : Nat} {o : Oper} {l : Array Bool} {fuel : Nat} {a : Act} {w : World} (hr : Region.ready md ops l = [i]) (ho : ops[i]? = some o)
    (h : wpOp P ops Q i (fun a' w' => ((l.setIfInBounds i true).getD f false = false → S w') ∧ wpAnyF P md ops Q S f fuel (l.setIfInBounds i true) a' w') a w) : wpAnyF P md ops Q S f (fuel + 1) l a w :=
  ⟨fun h0 => (by rw [hr] at h0; cases h0), fun j hj => by
    rw [hr, List.mem_singleton] at hj
    subst hj; exact h⟩
theorem any_pf {K : Act → World → Prop} {E : Array Bool → Bool} {n : Nat} (hK : ∀ l a w, E l = true → Clo md ops l → (l.getD f false = false → S w) → K a w → wpAnyF P md ops Q S f n l a w) (hsel : Region.noSelect ops = true) (hQ : ∀ c a d v w, Q (.panic c) (a.put d v) w → Q (.panic c) a w) : ∀ (p : List (Nat × Nat)) (l : Array Bool) (a : Act) (w : World), pfB md ops f E p l = true → Clo md ops l → (l.getD f false = false → S w) → wpPf P ops S Q K (pfO ops p) a w →
    wpAnyF P md ops Q S f (p.length + n) l a w
  | [], l, a, w, hB, hcl, hS, h => by
    rw [List.length_nil, Nat.zero_add]
    exact hK l a w (by simpa [pfB] using hB) hcl hS h
  | (i, 0) :: p, l, a, w, hB, hcl, hS, h => by
    rw [List.length_cons, Nat.add_right_comm]
    simp only [pfB, Bool.and_eq_true, decide_eq_true_eq] at hB
    have hr : i ∈ Region.ready md ops l := by rw [hB.1]; exact List.mem_singleton.2 rfl
    obtain ⟨o, ho⟩ := ready_some hr
    rw [pfO_cons (x := (i, 0)) ho] at h
    have h2 : wpList P ops (Exit.then (fun a' w' => S w' ∧ wpPf P ops S Q K (pfO ops p) a' w') Q) [o] a w := h
    exact anyF_one hB.1 ho (wpOp_mono (fun a' w' h' => ⟨fun _ => h'.1, any_pf hK hsel hQ p _ a' w' hB.2 (hcl.step hr) (fun _ => h'.1) h'.2⟩) (wpOp_of_list' ho h2))
  | (i, 1) :: p, l, a, w, hB, hcl, hS, h => by
    rw [List.length_cons, Nat.add_right_comm]
    simp only [pfB, Bool.and_eq_true, bne_iff_ne, ne_eq] at hB
    obtain ⟨⟨⟨h1, h2⟩, h3, h4⟩, h5⟩ := hB
    have hr : i ∈ Region.ready md ops l := by simpa using h1
    obtain ⟨o, ho⟩ := ready_some hr
    rw [pfO_cons (x := (i, 1)) ho] at h
    obtain ⟨v, hy, h⟩ := h
    exact anyF_first ho h3 (Region.noSelect_spec hsel) (fun c a w h => hQ c a _ _ w h) (fun L w hL hi hs => hs (by
      cases hg : L.getD f false with
      | false => rfl
      | true => rw [anc_spec hL 4 f h4 hg] at hi; cases hi)) _ l a w (Region.free_spec ho h2) hcl hr hy hS (any_pf hK hsel hQ p _ _ w h5 (hcl.step hr) (fun h => hS (by rwa [getD_set_ne' false h3] at h)) h)
  | (i, 2) :: p, l, a, w, hB, hcl, hS, h => by
    rw [List.length_cons, Nat.add_right_comm]
    simp only [pfB, Bool.and_eq_true, bne_iff_ne, ne_eq] at hB
    obtain ⟨⟨⟨h1, h2⟩, h3⟩, h5⟩ := hB
    have hr : i ∈ Region.ready md ops l := by simpa using h1
    obtain ⟨o, ho⟩ := ready_some hr
    rw [pfO_cons (x := (i, 2)) ho] at h
    obtain ⟨v, hy, h⟩ := h
    exact anyF_first (SR := fun _ => True) ho h3 (Region.noSelect_spec hsel) (fun c a w h => hQ c a _ _ w h) (fun L w _ _ _ => trivial) _ l a w (Region.free_spec ho h2) hcl hr hy hS (any_pf hK hsel hQ p _ _ w h5 (hcl.step hr) (fun h => hS (by rwa [getD_set_ne' false h3] at h)) h)
  | (i, k + 3) :: p, l, a, w, hB, hcl, hS, h => by
    rw [List.length_cons, Nat.add_right_comm]
    simp only [pfB, Bool.and_eq_true, decide_eq_true_eq] at hB
    have hr : i ∈ Region.ready md ops l := by rw [hB.1]; exact List.mem_singleton.2 rfl
    obtain ⟨o, ho⟩ := ready_some hr
    rw [pfO_cons (x := (i, k + 3)) ho] at h
    have h2 : wpList P ops (Exit.then (fun a' w' => wpPf P ops S Q K (pfO ops p) a' w') Q) [o] a w := h
    have h3 : (l.setIfInBounds i true).getD f false = false → False := fun h => by rw [hB.2.1] at h; cases h
    exact anyF_one hB.1 ho (wpOp_mono (fun a' w' h' => ⟨fun h => (h3 h).elim, any_pf hK hsel hQ p _ a' w' hB.2.2 (hcl.step hr) (fun h => (h3 h).elim) h'⟩) (wpOp_of_list' ho h2))
theorem anyF_done {listed : Array Bool} {a : Act} {w : World} (hr : Region.ready md ops listed = []) (h : Q .normal a w) : ∀ fuel, wpAnyF P md ops Q S f fuel listed a w
  | 0 => ⟨hr, h⟩
  | _ + 1 => ⟨fun _ => h, by rw [hr]; simp⟩
theorem any_fuelF : ∀ (n g : Nat) (l : Array Bool) (a : Act) (w : World), wpAnyF P md ops Q S f n l a w → wpAnyF P md ops Q S f (n + g) l a w
  | 0, g, l, a, w, h => by
    rw [Nat.zero_add]
    exact anyF_done h.1 h.2 g
  | n + 1, g, l, a, w, h => by
    rw [show n + 1 + g = (n + g) + 1 by omega]
    exact ⟨h.1, fun i hi => wpOp_mono (fun a' w' h' => ⟨h'.1, any_fuelF n g _ a' w' h'.2⟩) (h.2 i hi)⟩
theorem clo_none (n : Nat) : Clo md ops (Array.replicate n false) := fun j oj _ h => by
  rcases Nat.lt_or_ge j n with h' | h'
  · simp [h'] at h
  · have : (Array.replicate n false)[j]? = none := Array.getElem?_eq_none (by simpa using h')
    simp [this] at h
/-- THE LAW. -/
theorem wp_region_pf {id : Nat} {a : Act} {w : World} {l : List Oper} (S : World → Prop) (f : Nat) (p : List (Nat × Nat)) (hm : P.follows .mixedOrders = true) (hB : (Region.noSelect l.toArray && (decide (p.length ≤ l.length) && pfB .any l.toArray f (fun L => (Region.ready .any l.toArray L).isEmpty) p (Array.replicate l.length false))) = true)
    (hQ : ∀ c a d v w, Q (.panic c) (a.put d v) w → Q (.panic c) a w) (hS : S w.drew) (h : wpPf P l.toArray S Q (Q .normal) (pfO l.toArray p) a w.drew) : (Code.region id l.toArray true).wp P Q a w := by
  simp only [Bool.and_eq_true, decide_eq_true_eq] at hB
  refine wp_region_any hm ?_
  have h1 := any_pf (f := f) (n := 0) (K := Q .normal) (fun L a w hE _ _ hk => ⟨by simpa using hE, hk⟩) hB.1 hQ p _ a w.drew hB.2.2 (clo_none _) (fun _ => hS) h
  rw [Nat.add_zero] at h1
  have h2 := any_fuelF p.length (l.length - p.length) _ a w.drew h1
  rw [show p.length + (l.length - p.length) = l.toArray.size by have := hB.2.1; simp; omega] at h2
  exact wpAny_of_F _ _ _ _ (by simpa using h2)
theorem pf_read {K : Act → World → Prop} {i : Nat} {p : List (Nat × Nat × Oper)} {o : Oper} {a : Act} {w : World} (a2 : Act)
    (h : ∀ w, S w → ∀ M : Act → World → Prop, M a2 w → wpList P ops (Exit.then M (fun _ _ _ => False)) [o] a w)
    (he : a.put o.dst (valOf o.dst a2) = a2) (h2 : wpPf P ops S Q K p a2 w) : wpPf P ops S Q K ((i, 1, o) :: p) a w :=
  ⟨valOf o.dst a2, fun w hS w' e => by subst e; exact h w' hS _ ⟨he.symm, rfl⟩, by rw [he]; exact h2⟩
theorem pf_pure {K : Act → World → Prop} {i : Nat} {p : List (Nat × Nat × Oper)} {o : Oper} {a : Act} {w : World} (a2 : Act)
    (h : ∀ w, ∀ M : Act → World → Prop, M a2 w → wpList P ops (Exit.then M (fun _ _ _ => False)) [o] a w)
    (he : a.put o.dst (valOf o.dst a2) = a2) (h2 : wpPf P ops S Q K p a2 w) : wpPf P ops S Q K ((i, 2, o) :: p) a w :=
  ⟨valOf o.dst a2, fun w _ w' e => by subst e; exact h w' _ ⟨he.symm, rfl⟩, by rw [he]; exact h2⟩
theorem pf_alone {K : Act → World → Prop} {i : Nat} {p : List (Nat × Nat × Oper)} {o : Oper} {a : Act} {w : World}
    (h : ∀ M : Act → World → Prop, (∀ a' w', S w' → wpPf P ops S Q K p a' w' → M a' w') → wpList P ops (Exit.then M Q) [o] a w) : wpPf P ops S Q K ((i, 0, o) :: p) a w :=
  h _ (fun _ _ h1 h2 => ⟨h1, h2⟩)
theorem pf_last {K : Act → World → Prop} {i : Nat} {p : List (Nat × Nat × Oper)} {o : Oper} {a : Act} {w : World}
    (h : ∀ M : Act → World → Prop, (∀ a' w', wpPf P ops S Q K p a' w' → M a' w') → wpList P ops (Exit.then M Q) [o] a w) : wpPf P ops S Q K ((i, 3, o) :: p) a w :=
  h _ (fun _ _ h1 => h1)
/-- Two that come in either order, one behind the other. -/
def wpFork (P : Program) (ops : Array Oper) (S : World → Prop) (Q : Exit → Act → World → Prop) (K : Act → World → Prop) : List (Nat × Nat × Oper) → Act → World → Prop
  | [(_, _, oi), (_, _, oj)], a, w => wpList P ops (Exit.then (fun a1 w1 => S w1 ∧ wpList P ops (Exit.then (fun a2 w2 => S w2 ∧ K a2 w2) Q) [oj] a1 w1) Q) [oi] a w ∧ wpList P ops (Exit.then (fun a1 w1 => S w1 ∧ wpList P ops (Exit.then (fun a2 w2 => S w2 ∧ K a2 w2) Q) [oi] a1 w1) Q) [oj] a w
  | _, _, _ => False
def forkB (md : Region.Mode) (ops : Array Oper) (f : Nat) (i j : Nat) (p : List (Nat × Nat)) (L : Array Bool) : Bool :=
  decide (Region.ready md ops L = [i, j]) && (decide (Region.ready md ops (L.setIfInBounds i true) = [j]) && (decide (Region.ready md ops (L.setIfInBounds j true) = [i]) && (decide (i ≠ j) && pfB md ops f (fun L => (Region.ready md ops L).isEmpty) p ((L.setIfInBounds i true).setIfInBounds j true))))
theorem wp_region_fork {id : Nat} {a : Act} {w : World} {l : List Oper} (S : World → Prop) (f : Nat) (p : List (Nat × Nat)) (i j : Nat) (p2 : List (Nat × Nat)) (hm : P.follows .mixedOrders = true) (hB : (Region.noSelect l.toArray && (decide (p.length + (p2.length + 1 + 1) ≤ l.length) && pfB .any l.toArray f (forkB .any l.toArray f i j p2) p (Array.replicate l.length false))) = true)
    (hQ : ∀ c a d v w, Q (.panic c) (a.put d v) w → Q (.panic c) a w) (hS : S w.drew) (h : wpPf P l.toArray S Q (wpFork P l.toArray S Q (wpPf P l.toArray S Q (Q .normal) (pfO l.toArray p2)) (pfO l.toArray [(i, 0), (j, 0)])) (pfO l.toArray p) a w.drew) : (Code.region id l.toArray true).wp P Q a w := by
  simp only [Bool.and_eq_true, decide_eq_true_eq] at hB
  refine wp_region_any hm ?_
  have hlast := fun L a w (hE : pfB .any l.toArray f (fun L => (Region.ready .any l.toArray L).isEmpty) p2 L = true) (hcl : Clo .any l.toArray L) (hs : S w) (hk : wpPf P l.toArray S Q (Q .normal) (pfO l.toArray p2) a w) =>
    any_pf (P := P) (f := f) (n := 0) (K := Q .normal) (fun L a w hE _ _ hk => ⟨by simpa using hE, hk⟩) hB.1 hQ p2 L a w hE hcl (fun _ => hs) hk
  have h1 := any_pf (f := f) (n := p2.length + 1 + 1) (K := wpFork P l.toArray S Q (wpPf P l.toArray S Q (Q .normal) (pfO l.toArray p2)) (pfO l.toArray [(i, 0), (j, 0)])) (fun L a w hE hcl hs hk => by
    simp only [forkB, Bool.and_eq_true, decide_eq_true_eq] at hE
    obtain ⟨hr, hri, hrj, hne, hE⟩ := hE
    have hi : i ∈ Region.ready .any l.toArray L := by rw [hr]; simp
    have hj : j ∈ Region.ready .any l.toArray L := by rw [hr]; simp
    obtain ⟨oi, hoi⟩ := ready_some hi
    obtain ⟨oj, hoj⟩ := ready_some hj
    rw [pfO_cons (x := (i, 0)) hoi, pfO_cons (x := (j, 0)) hoj] at hk
    obtain ⟨k1, k2⟩ := hk
    have hji : j ∈ Region.ready .any l.toArray (L.setIfInBounds i true) := by rw [hri]; simp
    have hij : i ∈ Region.ready .any l.toArray (L.setIfInBounds j true) := by rw [hrj]; simp
    refine ⟨fun h0 => by rw [hr] at h0; simp at h0, fun q hq => ?_⟩
    rw [hr] at hq
    simp only [List.mem_cons, List.not_mem_nil, or_false] at hq
    rcases hq with rfl | rfl
    · refine wpOp_mono (fun a1 w1 h1 => ⟨fun _ => h1.1, anyF_one hri hoj (wpOp_mono (fun a2 w2 h2 => ⟨fun _ => h2.1, ?_⟩) (wpOp_of_list' hoj h1.2))⟩) (wpOp_of_list' hoi k1)
      exact hlast _ _ _ hE ((hcl.step hi).step hji) h2.1 h2.2
    · refine wpOp_mono (fun a1 w1 h1 => ⟨fun _ => h1.1, anyF_one hrj hoi (wpOp_mono (fun a2 w2 h2 => ⟨fun _ => h2.1, ?_⟩) (wpOp_of_list' hoi h1.2))⟩) (wpOp_of_list' hoj k2)
      have h3 := hlast _ _ _ hE ((hcl.step hi).step hji) h2.1 h2.2
      rw [Array.setIfInBounds_comm _ _ hne] at h3
      exact h3) hB.1 hQ p _ a w.drew hB.2.2 (clo_none _) (fun _ => hS) h
  have h2 := any_fuelF (p.length + (p2.length + 1 + 1)) (l.length - (p.length + (p2.length + 1 + 1))) _ a w.drew h1
  rw [show p.length + (p2.length + 1 + 1) + (l.length - (p.length + (p2.length + 1 + 1))) = l.toArray.size by have := hB.2.1; simp; omega] at h2
  exact wpAny_of_F _ _ _ _ (by simpa using h2)
theorem pf_fork {K : Act → World → Prop} {i j k m : Nat} {oi oj : Oper} {a : Act} {w : World}
    (h1 : wpList P ops (Exit.then (fun a1 w1 => S w1 ∧ wpList P ops (Exit.then (fun a2 w2 => S w2 ∧ K a2 w2) Q) [oj] a1 w1) Q) [oi] a w)
    (h2 : wpList P ops (Exit.then (fun a1 w1 => S w1 ∧ wpList P ops (Exit.then (fun a2 w2 => S w2 ∧ K a2 w2) Q) [oi] a1 w1) Q) [oj] a w) : wpPf P ops S Q (wpFork P ops S Q K [(i, k, oi), (j, m, oj)]) [] a w := ⟨h1, h2⟩
theorem pf_two {K : Act → World → Prop} {oi oj : Oper} {a : Act} {w : World}
    (h : ∀ M1 : Act → World → Prop, (∀ a1 w1, S w1 → (∀ M2 : Act → World → Prop, (∀ a2 w2, S w2 → K a2 w2 → M2 a2 w2) → wpList P ops (Exit.then M2 Q) [oj] a1 w1) → M1 a1 w1) → wpList P ops (Exit.then M1 Q) [oi] a w) :
    wpList P ops (Exit.then (fun a1 w1 => S w1 ∧ wpList P ops (Exit.then (fun a2 w2 => S w2 ∧ K a2 w2) Q) [oj] a1 w1) Q) [oi] a w :=
  h _ (fun _ _ h1 h2 => ⟨h1, h2 _ (fun _ _ h3 h4 => ⟨h3, h4⟩)⟩)
end
end Go.Proofs.YtmapjahpjolmnaaGreatDoor
namespace Go.Proofs.YtmapjahpjolmnaaGreatDoor
open Go.RowKit Tr
set_option maxRecDepth 20000
theorem info_stmt : (Tryz.prog.info? 50).map (fun i => (i.zero, i.size, i.bytes)) = some (some (.agg #[.int .u8 0, .string e0, .int .i64 0, .slice none 0 0, .slice none 0 0, .slice none 0 0, .int .i64 0]), 7, 112) := by kernel_rfl
theorem one_seven {a b c d e f g : Value} (ha : a.oneCell' = true) (hb : b.oneCell' = true) (hc : c.oneCell' = true) (hd : d.oneCell' = true) (he : e.oneCell' = true) (hf : f.oneCell' = true) (hg : g.oneCell' = true) : ∀ u ∈ [a, b, c, d, e, f, g], u.oneCell' = true := by
  intro u hu
  simp only [List.mem_cons, List.not_mem_nil, or_false] at hu
  rcases hu with rfl | rfl | rfl | rfl | rfl | rfl | rfl <;> assumption
theorem Stays.last {wj w8 : World} {X m n : Nat} {v : Value} (ht : Tur (· = X) wj w8) (hX : X < m) (hn : n ≤ m) (hv : ∀ g, v.ownBlock = some g → g < m) : Stays wj w8 (Nw m wj) (NwR n w8 v) :=
  ⟨fun b h => ⟨Nat.le_trans hn h.1, Nat.lt_of_lt_of_le h.2 ht.size, fun e => by have := hv b e; have := h.1; omega⟩, fun b h => ht.block b h.2 (fun e => by have := h.1; omega)⟩
set_option maxHeartbeats 4000000 in
theorem w_copyS {w0 : World} {Bd : Nat} {l : List XS} {v : Value} (h : SsAt w0 Bd l v) : ∀ (w : World), Below Bd w0 w → Bd ≤ w0.heap.size → numSs l ≤ 1500000 →
    Calls Tryz.prog 20 #[v] w fun e w' => ∃ v', e = .returned v' ∧ SsK w' (Nw w.heap.size w') l v' ∧ Below w.heap.size w w' := by
  induction h with
  | @mk l A cap ev bv lv hc hm hat hok hee hbb hll ih1 ih2 =>
    intro w hbl hB0 hsum
    have HAT := Lib.hid hat
    have HIH1 := Lib.hid ih1
    have HIH2 := Lib.hid ih2
    have HOK := Lib.hid hok
    have HEE := Lib.hid hee
    have HBB := Lib.hid hbb
    have HLL := Lib.hid hll
    have HBL := Lib.hid hbl
    have HB0 := Lib.hid hB0
    have HSUM := Lib.hid hsum
    have hcl : cap < 9223372036854775808 := by unfold maxLen at hm; omega
    have hll' : l.length ≤ 1500000 := by have := len_numSs l; omega
    clear hat ih1 ih2 hok hee hbb hll hbl hB0 hsum
    go_enter Tryz.func20, Tryz.ntmps20
    go_wp2_with fail
    go_loopw [3, 4] (fun v i0 wr => ∃ ps : List (XS × Value × Value × Value), ps.length ≤ l.length ∧ i0 = .int .i64 ps.length ∧ ps.map Prod.fst = l.take ps.length ∧ CpS w.heap.size wr v ps ∧ Below w.heap.size w wr) (fun v i0 wr => l.length - (intOf i0).toNat)
    case atStart => exact ⟨[], Nat.zero_le _, rfl, rfl, CpS.nil _ _, Below.refl _ _⟩
    case round =>
      obtain ⟨ps, hpl, rfl, hpm, hcp, hbr⟩ := hrel
      have HBR := Lib.hid hbr
      have HCP := Lib.hid hcp
      have HPM := Lib.hid hpm
      have HV := Lib.hid hcp.own.lt
      clear hbr hcp hpm
      by_cases hlt : ps.length < l.length
      · have HBW : Hid (Below Bd w0 wr) := HBL.out.trans (HBR.out.mono (Nat.le_trans HB0.out HBL.out.size))
        obtain ⟨b, o, rfl, hbB, hcells⟩ := HAT.out (by omega)
        have hcc0 := hcells _ hlt
        have hcc : scellsT wr b (o + ps.length * 7) l[ps.length] (ev ps.length) (bv ps.length) (lv ps.length) := by
          unfold scellsT at hcc0 ⊢
          simp only [cell_keep HBW.out hbB]
          exact hcc0
        obtain ⟨A1, c1, e1, -, -⟩ := (HEE.out _ hlt).form
        obtain ⟨A2, c2, e2, -, -⟩ := (HBB.out _ hlt).form
        obtain ⟨A3, c3, e3, -, -⟩ := (HLL.out _ hlt).form
        have hnum := numSs_K1 l _ hlt
        have hs := HSUM.out
        have HC1 := Lib.hid (fun wb (hb : Below Bd w0 wb) => w_copyE (HEE.out _ hlt) wb hb HB0.out (by omega))
        have HC2 := Lib.hid (fun wb (hb : Below Bd w0 wb) => HIH1.out _ hlt wb hb HB0.out (by omega))
        have HC3 := Lib.hid (fun wb (hb : Below Bd w0 wb) => HIH2.out _ hlt wb hb HB0.out (by omega))
        have HOX := Lib.hid (HOK.out _ hlt)
        have HPN : Hid ((ps.map Prod.fst) ++ [l[ps.length]] = l.take (ps.length + 1)) := by unfold Hid; rw [HPM.out, List.take_succ_eq_append_getElem hlt]
        rw [e1] at hcc HC1
        rw [e2] at hcc HC2
        rw [e3] at hcc HC3
        unfold scellsT at hcc
        clear hcells hcc0 e1 e2 e3 hnum hs HPM
        generalize l[ps.length] = x at *
        have hb := (Below.refl wr.heap.size wr).alloc (Nat.le_refl _) (.cells #[.int .u8 x.k, .string x.s, .int .i64 x.n, .slice A1 x.exprs.length c1, .slice A2 x.body.length c2, .slice A3 x.els.length c3, .int .i64 x.line] 50)
        have HXB := Lib.hid (Blk.new wr 50 #[.int .u8 x.k, .string x.s, .int .i64 x.n, .slice A1 x.exprs.length c1, .slice A2 x.body.length c2, .slice A3 x.els.length c3, .int .i64 x.line])
        obtain ⟨y0, y1, y2, y3, y4, y5, y6⟩ := hcc
        have HA := Lib.hid hb
        clear hb
        go_upto_region 6 with (fail)
        clear y0 y1 y2 y3 y4 y5 y6
        generalize wr.alloc (.cells #[.int .u8 x.k, .string x.s, .int .i64 x.n, .slice A1 x.exprs.length c1, .slice A2 x.body.length c2, .slice A3 x.els.length c3, .int .i64 x.line] 50) = wa at *
        obtain ⟨X, hX⟩ : ∃ X, X = wr.heap.size := ⟨_, rfl⟩
        have HXW := Lib.hid hX
        rw [← hX] at HXB ⊢
        clear hX
        have HBA : Hid (Below Bd w0 wa) := HBW.out.trans (HA.out.mono (Nat.le_trans HB0.out HBW.out.size))
        refine wp_region_noPanic ?_
        refine wp_region_pf (fun wd => Below wa.heap.size wa wd) 8 [(0, 2), (3, 2), (6, 2), (1, 1), (4, 1), (7, 1), (2, 0), (9, 2), (5, 0), (8, 3), (10, 3), (11, 3), (12, 3), (13, 3), (14, 3)] (by kernel_rfl) (by kernel_rfl) (fun _ _ _ _ _ h => h) (drew_B _) ?_
        simp only [pfO, List.filterMap_cons, List.filterMap_nil, List.getElem?_toArray, List.getElem?_cons_zero, List.getElem?_cons_succ, Option.map_some]
        iterate 3 (
          refine pf_pure ?_ (fun wd M hM => ?_) ?_ ?_
          rotate_left
          · have HM := Lib.hid hM
            clear hM
            go_wp2_with fail
            exact HM.out
          · rfl)
        iterate 3 (
          refine pf_read ?_ (fun wd hS M hM => ?_) ?_ ?_
          rotate_left
          · have HM := Lib.hid hM
            have hxd : Blk wd X 50 #[.int .u8 x.k, .string x.s, .int .i64 x.n, .slice A1 x.exprs.length c1, .slice A2 x.body.length c2, .slice A3 x.els.length c3, .int .i64 x.line] := HXB.out.keep ((Tur.of_gr (F := fun _ => False)) hS) (fun h => h)
            have x3 : wd.cell? ⟨X, 3, none⟩ = some (.slice A1 x.exprs.length c1) := hxd.cell 3
            have x4 : wd.cell? ⟨X, 4, none⟩ = some (.slice A2 x.body.length c2) := hxd.cell 4
            have x5 : wd.cell? ⟨X, 5, none⟩ = some (.slice A3 x.els.length c3) := hxd.cell 5
            clear hM hS hxd
            go_wp2_with fail
            exact HM.out
          · rfl)
        have hsx := HXB.out.lt
        refine pf_alone (fun M hM => ?_)
        have HM := Lib.hid hM
        clear hM
        go_wp2_with fail
        refine (HC1.out wa.drew (HBA.out.trans (drew_B _))).mono ?_
        rintro en w5 ⟨v5, rfl, hk5, hb5⟩
        obtain ⟨A5, c5, rfl, -⟩ := hk5.form
        have HK5 := Lib.hid hk5
        have HB5 : Hid (Below wa.heap.size wa w5) := (drew_B wa).trans hb5
        clear hk5 hb5
        go_wp2_with fail
        refine HM.out _ _ HB5.out ?_
        clear HM M
        refine pf_pure ?_ (fun wd M hM => ?_) ?_ ?_
        rotate_left
        · have HM := Lib.hid hM
          clear hM
          go_wp2_with fail
          exact HM.out
        · rfl
        refine pf_alone (fun M hM => ?_)
        have HM := Lib.hid hM
        clear hM
        go_wp2_with fail
        refine (HC2.out w5 (HBA.out.trans (HB5.out.mono (Nat.le_trans HB0.out HBA.out.size)))).mono ?_
        rintro en w6 ⟨v6, rfl, hk6, hb6⟩
        obtain ⟨A6, c6, rfl, -⟩ := hk6.form
        have HK6 := Lib.hid hk6
        have HB6 : Hid (Below wa.heap.size wa w6) := HB5.out.trans (hb6.mono HB5.out.size)
        have HT6 : Hid (Tur (· = X) w5 w6) := Tur.of_gr hb6
        clear hk6 hb6
        go_wp2_with fail
        refine HM.out _ _ HB6.out ?_
        clear HM M
        refine pf_last (fun M hM => ?_)
        have HM := Lib.hid hM
        clear hM
        go_wp2_with fail
        refine (HC3.out w6 (HBA.out.trans (HB6.out.mono (Nat.le_trans HB0.out HBA.out.size)))).mono ?_
        rintro en w7 ⟨v7, rfl, hk7, hb7⟩
        obtain ⟨A7, c7, rfl, -⟩ := hk7.form
        have HK7 := Lib.hid hk7
        have HB7 : Hid (Below wa.heap.size wa w7) := HB6.out.trans (hb7.mono HB6.out.size)
        have HT7 : Hid (Tur (· = X) w6 w7) := Tur.of_gr hb7
        have HX7 : Hid (Blk w7 X 50 #[.int .u8 x.k, .string x.s, .int .i64 x.n, .slice A1 x.exprs.length c1, .slice A2 x.body.length c2, .slice A3 x.els.length c3, .int .i64 x.line]) := HXB.out.keep ((Tur.of_gr (F := fun _ => False)) HB7.out) (fun h => h)
        clear hk7 hb7
        go_wp2_with fail
        refine HM.out _ _ ?_
        clear HM M
        have q3 : w7.cell? ⟨X, 3, none⟩ = some (.slice A1 x.exprs.length c1) := HX7.out.cell 3
        have f3 := HX7.out.free 3
        have hx : Blk (w7.setCell ⟨X, 3, none⟩ (.slice A5 x.exprs.length c5)) X 50 #[.int .u8 x.k, .string x.s, .int .i64 x.n, .slice A5 x.exprs.length c5, .slice A2 x.body.length c2, .slice A3 x.els.length c3, .int .i64 x.line] := by simpa using HX7.out.set 3 (.slice A5 x.exprs.length c5)
        have ht : Tur (· = X) w7 (w7.setCell ⟨X, 3, none⟩ (.slice A5 x.exprs.length c5)) := Tur.of_set ⟨X, 3, none⟩ _
        have HX8 := Lib.hid hx
        have HT8 := Lib.hid ht
        clear hx ht
        refine pf_last (fun M hM => ?_)
        have HM := Lib.hid hM
        clear hM
        go_wp2_with fail
        clear q3 f3
        generalize w7.setCell ⟨X, 3, none⟩ (.slice A5 x.exprs.length c5) = w8 at *
        refine HM.out _ _ ?_
        clear HM M
        refine pf_last (fun M hM => ?_)
        have HM := Lib.hid hM
        clear hM
        go_wp2_with fail
        refine HM.out _ _ ?_
        clear HM M
        have q4 : w8.cell? ⟨X, 4, none⟩ = some (.slice A2 x.body.length c2) := HX8.out.cell 4
        have f4 := HX8.out.free 4
        have hx : Blk (w8.setCell ⟨X, 4, none⟩ (.slice A6 x.body.length c6)) X 50 #[.int .u8 x.k, .string x.s, .int .i64 x.n, .slice A5 x.exprs.length c5, .slice A6 x.body.length c6, .slice A3 x.els.length c3, .int .i64 x.line] := by simpa using HX8.out.set 4 (.slice A6 x.body.length c6)
        have ht : Tur (· = X) w8 (w8.setCell ⟨X, 4, none⟩ (.slice A6 x.body.length c6)) := Tur.of_set ⟨X, 4, none⟩ _
        have HX9 := Lib.hid hx
        have HT9 := Lib.hid ht
        clear hx ht
        refine pf_last (fun M hM => ?_)
        have HM := Lib.hid hM
        clear hM
        go_wp2_with fail
        clear q4 f4
        generalize w8.setCell ⟨X, 4, none⟩ (.slice A6 x.body.length c6) = w9 at *
        refine HM.out _ _ ?_
        clear HM M
        refine pf_last (fun M hM => ?_)
        have HM := Lib.hid hM
        clear hM
        go_wp2_with fail
        refine HM.out _ _ ?_
        clear HM M
        have q5 : w9.cell? ⟨X, 5, none⟩ = some (.slice A3 x.els.length c3) := HX9.out.cell 5
        have f5 := HX9.out.free 5
        have hx : Blk (w9.setCell ⟨X, 5, none⟩ (.slice A7 x.els.length c7)) X 50 #[.int .u8 x.k, .string x.s, .int .i64 x.n, .slice A5 x.exprs.length c5, .slice A6 x.body.length c6, .slice A7 x.els.length c7, .int .i64 x.line] := by simpa using HX9.out.set 5 (.slice A7 x.els.length c7)
        have ht : Tur (· = X) w9 (w9.setCell ⟨X, 5, none⟩ (.slice A7 x.els.length c7)) := Tur.of_set ⟨X, 5, none⟩ _
        have HX10 := Lib.hid hx
        have HT10 := Lib.hid ht
        clear hx ht
        refine pf_last (fun M hM => ?_)
        have HM := Lib.hid hM
        clear hM
        go_wp2_with fail
        clear q5 f5
        generalize w9.setCell ⟨X, 5, none⟩ (.slice A7 x.els.length c7) = w10 at *
        refine HM.out _ _ ?_
        clear HM M
        refine NoPanic.normal (?_ : _)
        have hsw := HXW.out
        have hz5 := HB5.out.size
        have hz6 := HB6.out.size
        have ht7 : Tur (· = X) w7 w10 := (HT8.out.trans HT9.out (fun _ _ h => h)).trans HT10.out (fun _ _ h => h)
        have ht6 : Tur (· = X) w6 w10 := HT7.out.trans ht7 (fun _ _ h => h)
        have ht5 : Tur (· = X) w5 w10 := HT6.out.trans ht6 (fun _ _ h => h)
        have hb10 : Below wr.heap.size wr w10 := (HA.out.trans (HB7.out.mono HA.out.size)).trans (ht7.below _ (Nat.le_trans HA.out.size HB7.out.size) (fun k hk e => by omega))
        have hrs := HBR.out.size
        have hws := HA.out.size
        have hv : ∀ m, wa.heap.size ≤ m → ∀ g, u3.ownBlock = some g → g < m := fun m hm g h => by have := (HV.out g h).2; omega
        have hkd : KidS w10 (NwR w.heap.size w10 u3) (x, .slice A5 x.exprs.length c5, .slice A6 x.body.length c6, .slice A7 x.els.length c7) :=
          ⟨HK5.out.keep (Stays.last (m := wa.heap.size) ht5 hsx (by omega) (hv _ (Nat.le_refl _))).sub (Stays.last (m := wa.heap.size) ht5 hsx (by omega) (hv _ (Nat.le_refl _))).blk,
           HK6.out.keep (Stays.last (n := w.heap.size) (v := u3) ht6 (by omega) (by omega) (hv _ hz5)).sub (Stays.last (n := w.heap.size) (v := u3) ht6 (by omega) (by omega) (hv _ hz5)).blk,
           HK7.out.keep (Stays.last (n := w.heap.size) (v := u3) ht7 (by omega) (by omega) (hv _ hz6)).sub (Stays.last (n := w.heap.size) (v := u3) ht7 (by omega) (by omega) (hv _ hz6)).blk⟩
        have HKD := Lib.hid hkd
        have HB10 := Lib.hid hb10
        have HCP10 := Lib.hid (HCP.out.call hb10)
        clear hsw hz5 hz6 ht7 ht6 ht5 hb10 hrs hws hv hkd hsx HK5 HK6 HK7 HT6 HT7 HT8 HT9 HT10 HX7 HX8 HX9 HB5 HB6 HB7 HXW HCP HXB HC1 HC2 HC3
        have x0 : w10.cell? ⟨X, 0, none⟩ = some (.int .u8 x.k) := HX10.out.cell 0
        have x1 : w10.cell? ⟨X, 1, none⟩ = some (.string x.s) := HX10.out.cell 1
        have x2 : w10.cell? ⟨X, 2, none⟩ = some (.int .i64 x.n) := HX10.out.cell 2
        have x3 : w10.cell? ⟨X, 3, none⟩ = some (.slice A5 x.exprs.length c5) := HX10.out.cell 3
        have x4 : w10.cell? ⟨X, 4, none⟩ = some (.slice A6 x.body.length c6) := HX10.out.cell 4
        have x5 : w10.cell? ⟨X, 5, none⟩ = some (.slice A7 x.els.length c7) := HX10.out.cell 5
        have x6 : w10.cell? ⟨X, 6, none⟩ = some (.int .i64 x.line) := HX10.out.cell 6
        have hz3 : ps.length + 1 ≤ maxLen := by unfold maxLen; omega
        have hz4 : (ps.length + 1) * 112 ≤ 140737488355328 := by omega
        have hbs : w.heap.size ≤ w10.heap.size := Nat.le_trans HBR.out.size HB10.out.size
        have hown := HCP10.out.own
        go_wp2_with (at_builtin; refine wp_app1_at rfl _ _ _ rfl 50 7 112 _ Tryz.underlying43 info_stmt rfl (by decide) w.heap.size _ _ _ rfl hown [_, _, _, _, _, _, _] _ rfl rfl rfl ?hone hz3 hz4 hbs ?_; (case hone => exact one_seven rfl rfl rfl rfl rfl rfl rfl); intro g c9 w11 hc11 hm11 how11 hgrow11 hne11; have HCP11 := Lib.hid (HCP10.out.push HKD.out HOX.out how11 hgrow11 hne11); have HB11 := Lib.hid ((HBR.out.trans (HB10.out.mono HBR.out.size)).trans (below_grown hown hgrow11 hbs)); clear hgrow11 hne11 how11 x0 x1 x2 x3 x4 x5 x6)
        go_roundw
        case rel => exact ⟨ps ++ [(x, .slice A5 x.exprs.length c5, .slice A6 x.body.length c6, .slice A7 x.els.length c7)], by rw [List.length_append]; exact hlt, by rw [List.length_append]; go_num, by rw [List.map_append, List.length_append]; exact HPN.out, HCP11.out, HB11.out⟩
        case measure => simp [intOf]; omega
      · have HE := Lib.hid (HCP.out.done (by rw [HPM.out, List.take_of_length_le (by omega)]))
        obtain ⟨AQ, cQ, rfl, -⟩ := HE.out.form
        clear HCP HV HPM
        go_wp2_with fail
        go_ret
        exact ⟨_, rfl, HE.out, HBR.out⟩
end Go.Proofs.YtmapjahpjolmnaaGreatDoor
namespace Go.Proofs.YtmapjahpjolmnaaGreatDoor
open Go.RowKit Tr
set_option maxRecDepth 20000
theorem info_item : (Tryz.prog.info? 45).map (fun i => (i.zero, i.size, i.bytes)) = some (some (.agg #[.int .u8 0, .string e0, .slice none 0 0, .slice none 0 0, .bool false, .slice none 0 0, .int .i64 0]), 7, 112) := by kernel_rfl
theorem three_new (w : World) (t0 t1 t2 : TypeId) (c0 c1 c2 : Array Value) : ∃ w3, w3 = ((w.alloc (.cells c0 t0)).alloc (.cells c1 t1)).alloc (.cells c2 t2) ∧ Below w.heap.size w w3 ∧
    Blk w3 w.heap.size t0 c0 ∧ Blk w3 (w.heap.size + 1) t1 c1 ∧ Blk w3 (w.heap.size + 1 + 1) t2 c2 ∧ w3.heap.size = w.heap.size + 3 := by
  refine ⟨_, rfl, (((Below.refl _ _).alloc (Nat.le_refl _) _).alloc (by simp) _).alloc (by simp; omega) _, ?_, ?_, ?_, by simp⟩
  · exact alloc_keep (alloc_keep (Blk.new w t0 c0) _) _
  · have h := Blk.new (w.alloc (.cells c0 t0)) t1 c1
    rw [World.size_alloc] at h
    exact alloc_keep h _
  · have h := Blk.new ((w.alloc (.cells c0 t0)).alloc (.cells c1 t1)) t2 c2
    rw [World.size_alloc, World.size_alloc] at h
    exact h
theorem CpI.store {n O : Nat} {w : World} {v u : Value} {ps : List (XI × Value × Value × Value)} (h : CpI n w v ps) (hO : O < n) : CpI n (w.setCell ⟨O, 0, none⟩ u) v ps := by
  have ht : Tur (· = O) w (w.setCell ⟨O, 0, none⟩ u) := Tur.of_set ⟨O, 0, none⟩ _
  refine ⟨h.own.kept (row := some O) ⟨ht.os, ht.tape, ht.output, ht.size, fun k hk hne => ht.block k hk (fun e => hne (by rw [e]))⟩ (.inr (fun e => by have := (h.own.lt O e).1; omega)), h.ok, fun p hp => (h.kids p hp).keep ⟨fun b h => ⟨h.1, Nat.lt_of_lt_of_le h.2.1 ht.size, h.2.2⟩, fun b h => ht.block b h.2.1 (fun e => by have := h.1; omega)⟩⟩
set_option maxHeartbeats 4000000 in
theorem w_copyP {w : World} {l : List XI} {v : Value} (h : IsAt w w.heap.size l v) (hz : numP l ≤ 1500000) (hlen : l.length ≤ 1500000) (hpar : ∀ x ∈ l, x.params.length ≤ 1500000) :
    Calls Tryz.prog 7 #[.agg #[v]] w fun e w' => ∃ v', e = .returned (.agg #[v']) ∧ IsAt w' w'.heap.size l v' ∧ Below w.heap.size w w' := by
  obtain ⟨A, cap, pv, ev, bv, rfl, hc, hm, hat, hin⟩ := h.form
  have HAT := Lib.hid hat
  have HIN := Lib.hid hin
  have HZ := Lib.hid hz
  have HPAR := Lib.hid hpar
  have hcl : cap < 9223372036854775808 := by unfold maxLen at hm; omega
  obtain ⟨w3, hw3, hb3, hp3, hr3, ho3, hsz⟩ := three_new w 24 24 24 #[.slice A l.length cap] #[.slice none 0 0] #[.slice none 0 0]
  have HW3 := Lib.hid hw3
  have HB3 := Lib.hid hb3
  have HP3 := Lib.hid hp3
  have HR3 := Lib.hid hr3
  have HO3 := Lib.hid ho3
  have HSZ := Lib.hid hsz
  clear h hat hin hz hpar hw3 hb3 hp3 hr3 ho3 hsz
  go_enter Tryz.func7, Tryz.ntmps7
  go_upto_region 2 with (fail)
  rw [← HW3.out]
  clear HW3
  obtain ⟨R, hR⟩ : ∃ x, x = w.heap.size + 1 := ⟨_, rfl⟩
  obtain ⟨O, hO⟩ : ∃ x, x = w.heap.size + 1 + 1 := ⟨_, rfl⟩
  have HNE : Hid (w.heap.size < R ∧ R < O ∧ O < w3.heap.size) := ⟨by omega, by omega, by have := HSZ.out; omega⟩
  rw [← hO] at HO3 ⊢
  rw [← hR] at HR3 ⊢
  clear hR hO HSZ
  go_wp2_with fail
  go_loopw [4] (fun i0 wr => ∃ (u : Value) (ps : List (XI × Value × Value × Value)), ps.length ≤ l.length ∧ i0 = .int .i64 ps.length ∧ ps.map Prod.fst = l.take ps.length ∧ CpI w3.heap.size wr u ps ∧ Below w.heap.size w wr ∧ w3.heap.size ≤ wr.heap.size ∧ Blk wr w.heap.size 24 #[.slice A l.length cap] ∧ Blk wr R 24 #[.slice none 0 0] ∧ Blk wr O 24 #[u]) (fun i0 wr => l.length - (intOf i0).toNat)
  case atStart => exact ⟨.slice none 0 0, [], Nat.zero_le _, rfl, rfl, CpI.nil _ _, HB3.out, Nat.le_refl _, HP3.out, HR3.out, HO3.out⟩
  case round =>
    obtain ⟨u, ps, hpl, rfl, hpm, hcp, hbr, hws, hpr, hrr, hor⟩ := hrel
    have HBR := Lib.hid hbr
    have HCP := Lib.hid hcp
    have HPM := Lib.hid hpm
    have HV := Lib.hid hcp.own.lt
    have HWS := Lib.hid hws
    have HPR := Lib.hid hpr
    have HRR := Lib.hid hrr
    have HOR := Lib.hid hor
    obtain ⟨AU, mU, cU, rfl⟩ : ∃ AU mU cU, u = .slice AU mU cU := by
      rcases hcp.own.2 with ⟨h1, -⟩ | ⟨g, cap, cur, h1, -⟩
      · exact ⟨_, _, _, h1⟩
      · exact ⟨_, _, _, h1⟩
    clear hbr hcp hpm hws hpr hrr hor HP3 HR3 HO3 HB3
    have x0 : wr.cell? ⟨w.heap.size, 0, none⟩ = some (.slice A l.length cap) := HPR.out.cell 0
    by_cases hlt : ps.length < l.length
    · obtain ⟨b, o, rfl, hbB, hcells⟩ := HAT.out (by omega)
      have hcc0 := hcells _ hlt
      have hcc : icells wr b (o + ps.length * 7) l[ps.length] (pv ps.length) (ev ps.length) (bv ps.length) := by
        unfold icells at hcc0 ⊢
        simp only [cell_keep HBR.out hbB]
        exact hcc0
      obtain ⟨hok, htp, hep, hbp⟩ := HIN.out _ hlt
      obtain ⟨A1, c1, e1, -, -, -⟩ := htp.form
      obtain ⟨A2, c2, e2, -, -⟩ := hep.form
      obtain ⟨A3, c3, e3, -, -⟩ := hbp.form
      have hnum : numEs l[ps.length].exprs + numSs l[ps.length].body ≤ numP l := numI_le (List.getElem_mem hlt)
      have hs := HZ.out
      have hpx := HPAR.out _ (List.getElem_mem hlt)
      have HC1 := Lib.hid (fun wb (hb : Below w.heap.size w wb) => w_copyT (htp.keep hb) hb.size hpx)
      have HC2 := Lib.hid (fun wb (hb : Below w.heap.size w wb) => w_copyE hep wb hb (Nat.le_refl _) (by omega))
      have HC3 := Lib.hid (fun wb (hb : Below w.heap.size w wb) => w_copyS hbp wb hb (Nat.le_refl _) (by omega))
      have HOX := Lib.hid hok
      have HPN : Hid ((ps.map Prod.fst) ++ [l[ps.length]] = l.take (ps.length + 1)) := by unfold Hid; rw [HPM.out, List.take_succ_eq_append_getElem hlt]
      rw [e1] at hcc HC1
      rw [e2] at hcc HC2
      rw [e3] at hcc HC3
      unfold icells at hcc
      clear hcells hcc0 e1 e2 e3 hnum hs hpx HPM hok htp hep hbp
      generalize l[ps.length] = x at *
      have hb := (Below.refl wr.heap.size wr).alloc (Nat.le_refl _) (.cells #[.int .u8 x.k, .string x.name, .slice A1 x.params.length c1, .slice A2 x.exprs.length c2, .bool x.has, .slice A3 x.body.length c3, .int .i64 x.line] 45)
      have HXB := Lib.hid (Blk.new wr 45 #[.int .u8 x.k, .string x.name, .slice A1 x.params.length c1, .slice A2 x.exprs.length c2, .bool x.has, .slice A3 x.body.length c3, .int .i64 x.line])
      obtain ⟨y0, y1, y2, y3, y4, y5, y6⟩ := hcc
      have HA := Lib.hid hb
      clear hb
      go_upto_region 6 with (fail)
      clear y0 y1 y2 y3 y4 y5 y6 x0
      generalize wr.alloc (.cells #[.int .u8 x.k, .string x.name, .slice A1 x.params.length c1, .slice A2 x.exprs.length c2, .bool x.has, .slice A3 x.body.length c3, .int .i64 x.line] 45) = wa at *
      obtain ⟨X, hX⟩ : ∃ X, X = wr.heap.size := ⟨_, rfl⟩
      have HXW := Lib.hid hX
      rw [← hX] at HXB ⊢
      clear hX
      have HBA : Hid (Below w.heap.size w wa) := HBR.out.trans (HA.out.mono HBR.out.size)
      refine wp_region_noPanic ?_
      refine wp_region_pf (fun wd => Below wa.heap.size wa wd) 8 [(0, 2), (3, 2), (6, 2), (1, 1), (4, 1), (7, 1), (2, 0), (9, 2), (5, 0), (8, 3), (10, 3), (11, 3), (12, 3), (13, 3), (14, 3)] (by kernel_rfl) (by kernel_rfl) (fun _ _ _ _ _ h => h) (drew_B _) ?_
      simp only [pfO, List.filterMap_cons, List.filterMap_nil, List.getElem?_toArray, List.getElem?_cons_zero, List.getElem?_cons_succ, Option.map_some]
      iterate 3 (
        refine pf_pure ?_ (fun wd M hM => ?_) ?_ ?_
        rotate_left
        · have HM := Lib.hid hM
          clear hM
          go_wp2_with fail
          exact HM.out
        · rfl)
      iterate 3 (
        refine pf_read ?_ (fun wd hS M hM => ?_) ?_ ?_
        rotate_left
        · have HM := Lib.hid hM
          have hxd : Blk wd X 45 #[.int .u8 x.k, .string x.name, .slice A1 x.params.length c1, .slice A2 x.exprs.length c2, .bool x.has, .slice A3 x.body.length c3, .int .i64 x.line] := HXB.out.keep ((Tur.of_gr (F := fun _ => False)) hS) (fun h => h)
          have x3 : wd.cell? ⟨X, 2, none⟩ = some (.slice A1 x.params.length c1) := hxd.cell 2
          have x4 : wd.cell? ⟨X, 3, none⟩ = some (.slice A2 x.exprs.length c2) := hxd.cell 3
          have x5 : wd.cell? ⟨X, 5, none⟩ = some (.slice A3 x.body.length c3) := hxd.cell 5
          clear hM hS hxd
          go_wp2_with fail
          exact HM.out
        · rfl)
      have hsx := HXB.out.lt
      refine pf_alone (fun M hM => ?_)
      have HM := Lib.hid hM
      clear hM
      go_wp2_with fail
      refine (HC1.out wa.drew (HBA.out.trans (drew_B _))).mono ?_
      rintro en w5 ⟨v5, rfl, hk5, hb5⟩
      obtain ⟨A5, c5, rfl, -, -, -⟩ := hk5.form
      have HK5 := Lib.hid hk5
      have HB5 : Hid (Below wa.heap.size wa w5) := (drew_B wa).trans hb5
      clear hk5 hb5
      go_wp2_with fail
      refine HM.out _ _ HB5.out ?_
      clear HM M
      refine pf_pure ?_ (fun wd M hM => ?_) ?_ ?_
      rotate_left
      · have HM := Lib.hid hM
        clear hM
        go_wp2_with fail
        exact HM.out
      · rfl
      refine pf_alone (fun M hM => ?_)
      have HM := Lib.hid hM
      clear hM
      go_wp2_with fail
      refine (HC2.out w5 (HBA.out.trans (HB5.out.mono HBA.out.size))).mono ?_
      rintro en w6 ⟨v6, rfl, hk6, hb6⟩
      obtain ⟨A6, c6, rfl, -⟩ := hk6.form
      have HK6 := Lib.hid hk6
      have HB6 : Hid (Below wa.heap.size wa w6) := HB5.out.trans (hb6.mono HB5.out.size)
      have HT6 : Hid (Tur (· = X) w5 w6) := Tur.of_gr hb6
      clear hk6 hb6
      go_wp2_with fail
      refine HM.out _ _ HB6.out ?_
      clear HM M
      refine pf_last (fun M hM => ?_)
      have HM := Lib.hid hM
      clear hM
      go_wp2_with fail
      refine (HC3.out w6 (HBA.out.trans (HB6.out.mono HBA.out.size))).mono ?_
      rintro en w7 ⟨v7, rfl, hk7, hb7⟩
      obtain ⟨A7, c7, rfl, -⟩ := hk7.form
      have HK7 := Lib.hid hk7
      have HB7 : Hid (Below wa.heap.size wa w7) := HB6.out.trans (hb7.mono HB6.out.size)
      have HT7 : Hid (Tur (· = X) w6 w7) := Tur.of_gr hb7
      have HX7 : Hid (Blk w7 X 45 #[.int .u8 x.k, .string x.name, .slice A1 x.params.length c1, .slice A2 x.exprs.length c2, .bool x.has, .slice A3 x.body.length c3, .int .i64 x.line]) := HXB.out.keep ((Tur.of_gr (F := fun _ => False)) HB7.out) (fun h => h)
      clear hk7 hb7
      go_wp2_with fail
      refine HM.out _ _ ?_
      clear HM M
      have q2 : w7.cell? ⟨X, 2, none⟩ = some (.slice A1 x.params.length c1) := HX7.out.cell 2
      have f2 := HX7.out.free 2
      have hx : Blk (w7.setCell ⟨X, 2, none⟩ (.slice A5 x.params.length c5)) X 45 #[.int .u8 x.k, .string x.name, .slice A5 x.params.length c5, .slice A2 x.exprs.length c2, .bool x.has, .slice A3 x.body.length c3, .int .i64 x.line] := by simpa using HX7.out.set 2 (.slice A5 x.params.length c5)
      have ht : Tur (· = X) w7 (w7.setCell ⟨X, 2, none⟩ (.slice A5 x.params.length c5)) := Tur.of_set ⟨X, 2, none⟩ _
      have HX8 := Lib.hid hx
      have HT8 := Lib.hid ht
      clear hx ht
      refine pf_last (fun M hM => ?_)
      have HM := Lib.hid hM
      clear hM
      go_wp2_with fail
      clear q2 f2
      generalize w7.setCell ⟨X, 2, none⟩ (.slice A5 x.params.length c5) = w8 at *
      refine HM.out _ _ ?_
      clear HM M
      refine pf_last (fun M hM => ?_)
      have HM := Lib.hid hM
      clear hM
      go_wp2_with fail
      refine HM.out _ _ ?_
      clear HM M
      have q3 : w8.cell? ⟨X, 3, none⟩ = some (.slice A2 x.exprs.length c2) := HX8.out.cell 3
      have f3 := HX8.out.free 3
      have hx : Blk (w8.setCell ⟨X, 3, none⟩ (.slice A6 x.exprs.length c6)) X 45 #[.int .u8 x.k, .string x.name, .slice A5 x.params.length c5, .slice A6 x.exprs.length c6, .bool x.has, .slice A3 x.body.length c3, .int .i64 x.line] := by simpa using HX8.out.set 3 (.slice A6 x.exprs.length c6)
      have ht : Tur (· = X) w8 (w8.setCell ⟨X, 3, none⟩ (.slice A6 x.exprs.length c6)) := Tur.of_set ⟨X, 3, none⟩ _
      have HX9 := Lib.hid hx
      have HT9 := Lib.hid ht
      clear hx ht
      refine pf_last (fun M hM => ?_)
      have HM := Lib.hid hM
      clear hM
      go_wp2_with fail
      clear q3 f3
      generalize w8.setCell ⟨X, 3, none⟩ (.slice A6 x.exprs.length c6) = w9 at *
      refine HM.out _ _ ?_
      clear HM M
      refine pf_last (fun M hM => ?_)
      have HM := Lib.hid hM
      clear hM
      go_wp2_with fail
      refine HM.out _ _ ?_
      clear HM M
      have q5 : w9.cell? ⟨X, 5, none⟩ = some (.slice A3 x.body.length c3) := HX9.out.cell 5
      have f5 := HX9.out.free 5
      have hx : Blk (w9.setCell ⟨X, 5, none⟩ (.slice A7 x.body.length c7)) X 45 #[.int .u8 x.k, .string x.name, .slice A5 x.params.length c5, .slice A6 x.exprs.length c6, .bool x.has, .slice A7 x.body.length c7, .int .i64 x.line] := by simpa using HX9.out.set 5 (.slice A7 x.body.length c7)
      have ht : Tur (· = X) w9 (w9.setCell ⟨X, 5, none⟩ (.slice A7 x.body.length c7)) := Tur.of_set ⟨X, 5, none⟩ _
      have HX10 := Lib.hid hx
      have HT10 := Lib.hid ht
      clear hx ht
      refine pf_last (fun M hM => ?_)
      have HM := Lib.hid hM
      clear hM
      go_wp2_with fail
      clear q5 f5
      generalize w9.setCell ⟨X, 5, none⟩ (.slice A7 x.body.length c7) = w10 at *
      refine HM.out _ _ ?_
      clear HM M
      refine NoPanic.normal (?_ : _)
      have hsw := HXW.out
      have hz5 := HB5.out.size
      have hz6 := HB6.out.size
      have ht7 : Tur (· = X) w7 w10 := (HT8.out.trans HT9.out (fun _ _ h => h)).trans HT10.out (fun _ _ h => h)
      have ht6 : Tur (· = X) w6 w10 := HT7.out.trans ht7 (fun _ _ h => h)
      have ht5 : Tur (· = X) w5 w10 := HT6.out.trans ht6 (fun _ _ h => h)
      have hb10 : Below wr.heap.size wr w10 := (HA.out.trans (HB7.out.mono HA.out.size)).trans (ht7.below _ (Nat.le_trans HA.out.size HB7.out.size) (fun k hk e => by omega))
      have hrs := HWS.out
      have hws := HA.out.size
      have hv : ∀ m, wa.heap.size ≤ m → ∀ g, (Value.slice AU mU cU).ownBlock = some g → g < m := fun m hm g h => by have := (HV.out g h).2; omega
      have hkd : KidI w10 (NwR w3.heap.size w10 (.slice AU mU cU)) (x, .slice A5 x.params.length c5, .slice A6 x.exprs.length c6, .slice A7 x.body.length c7) :=
        ⟨HK5.out.keep (Stays.last (m := wa.heap.size) ht5 hsx (by omega) (hv _ (Nat.le_refl _))).sub (Stays.last (m := wa.heap.size) ht5 hsx (by omega) (hv _ (Nat.le_refl _))).blk,
         HK6.out.keep (Stays.last (n := w3.heap.size) (v := .slice AU mU cU) ht6 (by omega) (by omega) (hv _ hz5)).sub (Stays.last (n := w3.heap.size) (v := .slice AU mU cU) ht6 (by omega) (by omega) (hv _ hz5)).blk,
         HK7.out.keep (Stays.last (n := w3.heap.size) (v := .slice AU mU cU) ht7 (by omega) (by omega) (hv _ hz6)).sub (Stays.last (n := w3.heap.size) (v := .slice AU mU cU) ht7 (by omega) (by omega) (hv _ hz6)).blk⟩
      have HKD := Lib.hid hkd
      have HB10 := Lib.hid hb10
      have HCP10 := Lib.hid (HCP.out.call hb10)
      have HP10 := Lib.hid (HPR.out.keep ((Tur.of_gr (F := fun _ => False)) hb10) (fun h => h))
      have HR10 := Lib.hid (HRR.out.keep ((Tur.of_gr (F := fun _ => False)) hb10) (fun h => h))
      have HO10 := Lib.hid (HOR.out.keep ((Tur.of_gr (F := fun _ => False)) hb10) (fun h => h))
      have HWS10 : Hid (w3.heap.size ≤ w10.heap.size) := Nat.le_trans hrs hb10.size
      clear hsw hz5 hz6 ht7 ht6 ht5 hb10 hrs hws hv hkd hsx HK5 HK6 HK7 HT6 HT7 HT8 HT9 HT10 HX7 HX8 HX9 HB5 HB6 HB7 HXW HCP HXB HC1 HC2 HC3 HPR HRR HOR HV HWS
      have x0 : w10.cell? ⟨X, 0, none⟩ = some (.int .u8 x.k) := HX10.out.cell 0
      have x1 : w10.cell? ⟨X, 1, none⟩ = some (.string x.name) := HX10.out.cell 1
      have x2 : w10.cell? ⟨X, 2, none⟩ = some (.slice A5 x.params.length c5) := HX10.out.cell 2
      have x3 : w10.cell? ⟨X, 3, none⟩ = some (.slice A6 x.exprs.length c6) := HX10.out.cell 3
      have x4 : w10.cell? ⟨X, 4, none⟩ = some (.bool x.has) := HX10.out.cell 4
      have x5 : w10.cell? ⟨X, 5, none⟩ = some (.slice A7 x.body.length c7) := HX10.out.cell 5
      have x6 : w10.cell? ⟨X, 6, none⟩ = some (.int .i64 x.line) := HX10.out.cell 6
      have xo : w10.cell? ⟨O, 0, none⟩ = some (.slice AU mU cU) := HO10.out.cell 0
      have hz3 : ps.length + 1 ≤ maxLen := by unfold maxLen; omega
      have hz4 : (ps.length + 1) * 112 ≤ 140737488355328 := by omega
      have hbs : w3.heap.size ≤ w10.heap.size := HWS10.out
      have hown := HCP10.out.own
      go_wp2_with (at_builtin; refine wp_app1_at rfl _ _ _ rfl 45 7 112 _ Tryz.underlying22 info_item rfl (by decide) w3.heap.size _ _ _ rfl hown [_, _, _, _, _, _, _] _ rfl rfl rfl ?hone hz3 hz4 hbs ?_; (case hone => exact one_seven rfl rfl rfl rfl rfl rfl rfl); intro g c9 w11 hc11 hm11 how11 hgrow11 hne11; have HCP11 := Lib.hid (HCP10.out.push HKD.out HOX.out how11 hgrow11 hne11); have HTG := Lib.hid (Tur.of_grown hgrow11); have HLT := Lib.hid hown.lt; have hne := HNE.out; have ho11 := HO10.out.keep HTG.out (fun e => by have := HLT.out _ e.symm; omega); have q11 : w11.cell? ⟨O, 0, none⟩ = some (.slice AU mU cU) := ho11.cell 0; have f11 := ho11.free 0; have HO11 := Lib.hid ho11; clear hgrow11 hne11 how11 x0 x1 x2 x3 x4 x5 x6 xo ho11 hne)
      have hne := HNE.out
      have hlt2 := HLT.out
      have htg := HTG.out
      have ht12 : Tur (· = O) w11 (w11.setCell ⟨O, 0, none⟩ (.slice (some ⟨g, 0, none⟩) (ps.length + 1) c9)) := Tur.of_set ⟨O, 0, none⟩ _
      have hb12 : Below w.heap.size w (w11.setCell ⟨O, 0, none⟩ (.slice (some ⟨g, 0, none⟩) (ps.length + 1) c9)) := ((HBR.out.trans (HB10.out.mono HBR.out.size)).trans (htg.below _ (by omega) (fun k hk e => by have := hlt2 _ e.symm; omega))).trans (ht12.below _ (by have := htg.size; omega) (fun k hk e => by omega))
      have HP12 := Lib.hid ((HP10.out.keep htg (fun e => by have := hlt2 _ e.symm; omega)).keep ht12 (by omega))
      have HR12 := Lib.hid ((HR10.out.keep htg (fun e => by have := hlt2 _ e.symm; omega)).keep ht12 (by omega))
      have HO12 : Hid (Blk (w11.setCell ⟨O, 0, none⟩ (.slice (some ⟨g, 0, none⟩) (ps.length + 1) c9)) O 24 #[.slice (some ⟨g, 0, none⟩) (ps.length + 1) c9]) := by unfold Hid; simpa using HO11.out.set 0 (.slice (some ⟨g, 0, none⟩) (ps.length + 1) c9)
      have HB12 := Lib.hid hb12
      have HCP12 := Lib.hid (HCP11.out.store (O := O) (u := .slice (some ⟨g, 0, none⟩) (ps.length + 1) c9) (by omega))
      have HWS12 : Hid (w3.heap.size ≤ (w11.setCell ⟨O, 0, none⟩ (.slice (some ⟨g, 0, none⟩) (ps.length + 1) c9)).heap.size) := by have := ht12.size; have := htg.size; unfold Hid; omega
      clear hne hlt2 htg ht12 hb12
      go_roundw
      case rel => exact ⟨_, ps ++ [(x, .slice A5 x.params.length c5, .slice A6 x.exprs.length c6, .slice A7 x.body.length c7)], by rw [List.length_append]; exact hlt, by rw [List.length_append]; go_num, by rw [List.map_append, List.length_append]; exact HPN.out, HCP12.out, HB12.out, HWS12.out, HP12.out, HR12.out, HO12.out⟩
      case measure => simp [intOf]; omega
    · have HE := Lib.hid (HCP.out.done (by rw [HPM.out, List.take_of_length_le (by omega)]))
      have xo : wr.cell? ⟨O, 0, none⟩ = some (.slice AU mU cU) := HOR.out.cell 0
      have q11 : wr.cell? ⟨R, 0, none⟩ = some (.slice none 0 0) := HRR.out.cell 0
      have f11 := HRR.out.free 0
      have hne := HNE.out
      have ht12 : Tur (· = R) wr (wr.setCell ⟨R, 0, none⟩ (.slice AU mU cU)) := Tur.of_set ⟨R, 0, none⟩ _
      have HB12 : Hid (Below w.heap.size w (wr.setCell ⟨R, 0, none⟩ (.slice AU mU cU))) := HBR.out.trans (ht12.below _ HBR.out.size (fun k hk e => by omega))
      have hrx : Blk (wr.setCell ⟨R, 0, none⟩ (.slice AU mU cU)) R 24 #[.slice AU mU cU] := by simpa using HRR.out.set 0 (.slice AU mU cU)
      have HIX := Lib.hid ((HCP.out.store (O := R) (u := .slice AU mU cU) (by omega)).done (l := l) (by rw [HPM.out, List.take_of_length_le (by omega)]))
      have xr : (wr.setCell ⟨R, 0, none⟩ (.slice AU mU cU)).cell? ⟨R, 0, none⟩ = some (.slice AU mU cU) := hrx.cell 0
      clear HCP HV HPM hne ht12 hrx
      go_wp2_with fail
      refine bodyPost_ret (v := .agg #[.slice AU mU cU]) (by simp [results, Tryz.results7, go_sem, xr]) rfl ⟨_, rfl, HIX.out, HB12.out⟩
end Go.Proofs.YtmapjahpjolmnaaGreatDoor
