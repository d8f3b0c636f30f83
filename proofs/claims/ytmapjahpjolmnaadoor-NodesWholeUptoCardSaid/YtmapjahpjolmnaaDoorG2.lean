/- A region that draws its order, whose operations fall into stretches: operations that only read, then one operation that stands alone, and so on. No program in sight. -/
import Derived.StillTail
import Derived.RegionTactic
import Derived.StillTailTactics
import Derived.WalkKit
import Derived.Test.YtmapjahpjolmnaaDoorG1
import Derived.Test.YtmapjahpjolmnaaDoorProg
import Derived.Deep.Cut
import Derived.Deep.RegionHeld3
import Derived.BigQuiet
import Derived.Laws.EntriesVeiled
import Derived.Deep.QuietTactic
set_option linter.unusedVariables false
set_option linter.unusedSimpArgs false
namespace Go.Proofs.YtmapjahpjolmnaaDoor
open Go
section
variable {P : Program} {ops : Array Oper} {md : Region.Mode} {w : World}
/-- Each operation behind the n-th waits for one from the n-th on. -/
def hangB (md : Region.Mode) (ops : Array Oper) (n : Nat) : Bool :=
  (List.range ops.size).all fun t => decide (t ≤ n) || (List.range t).any fun j => decide (n ≤ j) && Region.waitsFor md ops t j
def lexTo : Nat → Nat → Array Bool → Array Bool
  | 0, _, l => l
  | f + 1, k, l => lexTo f (k + 1) (l.setIfInBounds k true)
def lexFree (md : Region.Mode) (ops : Array Oper) : Nat → Nat → Array Bool → Bool
  | 0, _, _ => true
  | f + 1, k, listed => (Region.ready md ops listed).contains k && Region.free md ops listed k && lexFree md ops f (k + 1) (listed.setIfInBounds k true)
theorem hang_waits {n : Nat} {listed : Array Bool} (hs : Region.sinkB md ops n = true) (hc : hangB md ops n = true) (hn : n < ops.size) (inv : HeadInv md ops n listed) :
    ∀ (d i : Nat), n - i = d → i < n → listed.getD i true = false → ∀ t, n ≤ t → t ∉ Region.ready md ops listed := by
  intro d
  induction d using Nat.strongRecOn with
  | _ d ih =>
    intro i hd hi hun t ht hr
    obtain ⟨_, ot, hot, hall⟩ := mem_ready.1 hr
    have htlt : t < ops.size := (Array.getElem?_eq_some_iff.1 hot).1
    by_cases htn : t = n
    · subst htn
      have h1 := List.all_eq_true.1 hs i (List.mem_range.2 hi)
      obtain ⟨j, hj, hj2⟩ := List.any_eq_true.1 h1
      simp only [Bool.and_eq_true, decide_eq_true_eq] at hj2
      obtain ⟨oj, hoj, e, he, hb, hon⟩ := Region.waitsFor_spec hj2.2
      have hjle : j ≤ t := by have := List.mem_range.1 hj; omega
      by_cases hjt : j = t
      · subst hjt
        have : oj = ot := Option.some.inj (hoj.symm.trans hot)
        subst this
        have h2 := hall e he hb
        rw [hon, getD_both hun] at h2
        cases h2
      · cases hl : listed.getD j false with
        | true =>
          have h2 := inv.closed j oj hoj hl e he hb
          rw [hon, getD_both hun] at h2
          cases h2
        | false =>
          have hjs : j < listed.size := by rw [inv.size]; omega
          exact ih (t - j) (by omega) j rfl (by omega) (getD_in hjs hl) t (Nat.le_refl _) hr
    · have h1 := List.all_eq_true.1 hc t (List.mem_range.2 htlt)
      simp only [Bool.or_eq_true, decide_eq_true_eq] at h1
      rcases h1 with h1 | h1
      · omega
      · obtain ⟨j, hj, hj2⟩ := List.any_eq_true.1 h1
        simp only [Bool.and_eq_true, decide_eq_true_eq] at hj2
        obtain ⟨o', ho', e, he, hb, hon⟩ := Region.waitsFor_spec hj2.2
        have hjt := List.mem_range.1 hj
        have : o' = ot := Option.some.inj (ho'.symm.trans hot)
        subst this
        have h2 := hall e he hb
        rw [hon, getD_both (inv.tail j hj2.1 (by omega))] at h2
        cases h2
theorem wpAnyL_first' {n i : Nat} {oi : Oper} {v : Value} {L : Array Bool → Act → Prop} (hi : ops[i]? = some oi) (hsel : ∀ (j : Nat) (o : Oper) cs b, ops[j]? = some o → o.op ≠ .select cs b)
    (hs : Region.sinkB md ops n = true) (hc : hangB md ops n = true) (hn : n < ops.size) (hin : i < n)
    (hdone : ∀ listed a, L listed a → ∀ j ∈ Region.ready md ops listed, n ≤ j) :
    ∀ (f : Nat) (listed : Array Bool) (a : Act), HeadInv md ops n listed →
      (∀ j oj, ops[j]? = some oj → j ≠ i → listed.getD j true = false → (∀ e ∈ oj.after, Region.binds md e = true → e.on ≠ i) → oi.apart ops oj = true) →
      i ∈ Region.ready md ops listed → YieldsAt P ops w oi v a →
      wpAnyL P md ops w n L f (listed.setIfInBounds i true) (a.put oi.dst v) → wpAnyL P md ops w n L (f + 1) listed a := by
  intro f
  induction f with
  | zero =>
    intro listed a inv _ hr hy H
    have hun := (mem_ready.1 hr).1
    refine ⟨fun h => (by rw [h] at hr; cases hr), fun j hj => ?_⟩
    have hjn : j < n := by
      rcases Nat.lt_or_ge j n with h | h
      · exact h
      · exact absurd hj (hang_waits hs hc hn inv _ i rfl hin hun j h)
    refine ⟨hjn, ?_⟩
    by_cases hji : j = i
    · subst hji; exact hy.stOp hi H
    · have := hdone _ _ H j (ready_mono hj hji)
      omega
  | succ f ih =>
    intro listed a inv hfree hr hy H
    have hun := (mem_ready.1 hr).1
    refine ⟨fun h => (by rw [h] at hr; cases hr), fun j hj => ?_⟩
    have hjn : j < n := by
      rcases Nat.lt_or_ge j n with h | h
      · exact h
      · exact absurd hj (hang_waits hs hc hn inv _ i rfl hin hun j h)
    refine ⟨hjn, ?_⟩
    by_cases hji : j = i
    · subst hji; exact hy.stOp hi H
    · have h1 := (H.2 j (ready_mono hj hji)).2
      obtain ⟨hjun, oj, hoj, hall⟩ := mem_ready.1 hj
      have hnot : ∀ e ∈ oj.after, Region.binds md e = true → e.on ≠ i := fun e he hb heq => by
        have h1 := hall e he hb
        rw [heq, getD_both hun] at h1
        cases h1
      have h2 := stOp_put hoj (hfree j oj hoj hji hjun hnot) (fun cs b => hsel i oi cs b hi) (fun cs b => hsel j oj cs b hoj) hy h1
      have hfree' : ∀ k ok, ops[k]? = some ok → k ≠ i → (listed.setIfInBounds j true).getD k true = false →
          (∀ e ∈ ok.after, Region.binds md e = true → e.on ≠ i) → oi.apart ops ok = true := fun k ok hk hki hun hno => by
        refine hfree k ok hk hki ?_ hno
        by_cases hjk : j = k
        · subst hjk; exact hjun
        · rw [getD_set_ne true hjk] at hun; exact hun
      refine stOp_mono (fun a' h3 => ih (listed.setIfInBounds j true) a' (inv.set hj hjn) hfree' (ready_mono hr (Ne.symm hji)) h3.1 ?_) h2
      rw [Array.setIfInBounds_comm _ _ hji]
      exact h3.2
theorem wpAnyL_lex' {n : Nat} {Lq : Act → Prop} {LL : Array Bool} (hsel : Region.noSelect ops = true) (hs : Region.sinkB md ops n = true) (hc : hangB md ops n = true) (hn : n < ops.size)
    (hend : ∀ j ∈ Region.ready md ops LL, n ≤ j) :
    ∀ (l : List Oper) (k : Nat) (listed : Array Bool) (a : Act), (∀ j, j < l.length → l[j]? = ops[k + j]?) → k + l.length = n → HeadInv md ops n listed → lexTo l.length k listed = LL →
    lexFree md ops l.length k listed = true → wpStill P ops w Lq l a →
    wpAnyL P md ops w n (fun listed' a' => listed' = LL ∧ Lq a') l.length listed a
  | [], k, listed, a, _, hk, _, hLL, hB, h => ⟨hLL, h⟩
  | o :: l, k, listed, a, hl, hk, inv, hLL, hB, h => by
    have h0 : ops[k]? = some o := by simpa using (hl 0 (by simp)).symm
    simp only [List.length_cons, lexFree, Bool.and_eq_true] at hB
    obtain ⟨⟨hr, hf⟩, hB'⟩ := hB
    have hkn : k < n := by simp only [List.length_cons] at hk; omega
    have hr' : k ∈ Region.ready md ops listed := by simpa using hr
    have hst : stOp P ops w k (wpStill P ops w Lq l) a := by unfold stOp; simp only [h0]; exact h
    obtain ⟨v, hy, hK⟩ := yieldsAt_of_stOp h0 hst
    exact wpAnyL_first' h0 (Region.noSelect_spec hsel) hs hc hn hkn (fun listed' a' hL => by rw [hL.1]; exact hend) l.length listed a inv (Region.free_spec h0 hf) hr' hy
      (wpAnyL_lex' hsel hs hc hn hend l (k + 1) _ _ (fun j hj => by have := hl (j + 1) (by simp; omega); simpa [Nat.add_assoc, Nat.add_comm 1 j] using this) (by simp only [List.length_cons] at hk; omega) (inv.set hr' hkn) hLL hB' hK)

/-- The first k of n. -/
def firstK (n k : Nat) : Array Bool := lexTo k 0 (Array.replicate n false)
theorem lexTo_size : ∀ (f k : Nat) (l : Array Bool), (lexTo f k l).size = l.size
  | 0, _, _ => rfl
  | f + 1, k, l => by simp [lexTo, lexTo_size f]
theorem lexTo_get : ∀ (f k : Nat) (l : Array Bool) (j : Nat), (lexTo f k l)[j]? = if k ≤ j ∧ j < k + f ∧ j < l.size then some true else l[j]?
  | 0, k, l, j => by rw [if_neg (by omega)]; rfl
  | f + 1, k, l, j => by
    rw [lexTo, lexTo_get f (k + 1), Array.getElem?_setIfInBounds, Array.size_setIfInBounds]
    by_cases h1 : k + 1 ≤ j ∧ j < k + 1 + f ∧ j < l.size
    · rw [if_pos h1, if_pos (by omega)]
    · rw [if_neg h1]
      by_cases h2 : k = j
      · subst h2
        by_cases h3 : k < l.size
        · rw [if_pos rfl, if_pos h3, if_pos (by omega)]
        · rw [if_pos rfl, if_neg h3, if_neg (by omega), Array.getElem?_eq_none (by omega)]
      · rw [if_neg h2, if_neg (by omega)]
theorem firstK_get (n k j : Nat) : (firstK n k)[j]? = if j < n then some (decide (j < k)) else none := by
  unfold firstK
  rw [lexTo_get, Array.size_replicate]
  by_cases h : j < n
  · by_cases h2 : j < k
    · rw [if_pos (by omega), if_pos h]; simp [h2]
    · rw [if_neg (by omega), if_pos h]; simp [h, h2]
  · rw [if_neg (by omega), if_neg h]; simp; omega
theorem firstK_more (n k m : Nat) : lexTo m k (firstK n k) = firstK n (k + m) := by
  apply Array.ext_getElem?
  intro j
  rw [lexTo_get, firstK_get, firstK_get]
  have : (firstK n k).size = n := by unfold firstK; rw [lexTo_size]; simp
  rw [this]
  by_cases h : j < n
  · rw [if_pos h, if_pos h]
    by_cases h2 : k ≤ j ∧ j < k + m ∧ j < n
    · rw [if_pos h2]; simp; omega
    · rw [if_neg h2]; congr 1; simp; omega
  · rw [if_neg (by omega), if_neg h, if_neg h]
theorem firstK_set (n k : Nat) : (firstK n k).setIfInBounds k true = firstK n (k + 1) := firstK_more n k 1
/-- May the first k be done with? -/
def closedB (md : Region.Mode) (ops : Array Oper) (k : Nat) : Bool :=
  (List.range k).all fun j => match ops[j]? with
    | none => true
    | some o => o.after.all fun e => !Region.binds md e || (decide (e.on < k) && decide (e.on < ops.size))
theorem inv_of {k n : Nat} (hk : k ≤ n) (h : closedB md ops k = true) : HeadInv md ops n (firstK ops.size k) := by
  refine ⟨by unfold firstK; rw [lexTo_size]; simp, fun j oj hj hl e he hb => ?_, fun t ht hts => ?_⟩
  · have hjs := (Array.getElem?_eq_some_iff.1 hj).1
    have hjk : j < k := by
      rw [Array.getD_eq_getD_getElem?, firstK_get, if_pos hjs] at hl
      simpa using hl
    have h1 := List.all_eq_true.1 h j (List.mem_range.2 hjk)
    simp only [hj] at h1
    have h2 := Array.all_eq_true'.1 h1 e he
    simp only [hb, Bool.not_true, Bool.false_or, Bool.and_eq_true, decide_eq_true_eq] at h2
    rw [Array.getD_eq_getD_getElem?, firstK_get, if_pos h2.2]
    simp [h2.1]
  · rw [Array.getD_eq_getD_getElem?, firstK_get, if_pos hts]
    simp; omega

theorem wpStill_mono {L M : Act → Prop} (hLM : ∀ a, L a → M a) : ∀ {l : List Oper} {a : Act}, wpStill P ops w L l a → wpStill P ops w M l a
  | [], _, h => hLM _ h
  | o :: l, a, h => by
    unfold wpStill at *
    split at h
    · rename_i hw
      rw [if_pos hw]
      exact Oper.still_mono (fun a h => wpStill_mono hLM h) h
    · rename_i hw
      rw [if_neg hw]
      exact wpStill_mono hLM h
/-- Stretches: so many that only read, then one alone; at the end one by one. -/
def wpSegs (P : Program) (ops : Array Oper) (Q : Exit → Act → World → Prop) : List Nat → List Oper → Act → World → Prop
  | [], l, a, w => wpList P ops Q l a w
  | n :: r, l, a, w => wpStill P ops w (fun a' => wpList P ops (Exit.then (wpSegs P ops Q r (l.drop (n + 1))) Q) ((l.drop n).take 1) a' w) (l.take n) a
def oneByOne (md : Region.Mode) (ops : Array Oper) : Nat → Nat → Bool
  | 0, k => (Region.ready md ops (firstK ops.size k)).isEmpty
  | f + 1, k => decide (Region.ready md ops (firstK ops.size k) = [k]) && oneByOne md ops f (k + 1)
def segsB (md : Region.Mode) (ops : Array Oper) : List Nat → Nat → Bool
  | [], k => oneByOne md ops (ops.size - k) k
  | n :: r, k => decide (k + n < ops.size) && closedB md ops k && Region.sinkB md ops (k + n) && hangB md ops (k + n) && lexFree md ops n k (firstK ops.size k)
      && decide (Region.ready md ops (firstK ops.size (k + n)) = [k + n]) && segsB md ops r (k + n + 1)
theorem wp_then {o : Oper} {a : Act} {K M : Act → World → Prop} {Q : Exit → Act → World → Prop} (h : o.wp P a w K (Exit.then M Q)) : o.wp P a w K Q := by
  unfold Oper.wp at *
  generalize (execOp a.eval o).run P w = r at *
  cases r with
  | ok n w' =>
    cases n <;> simp only [Oper.upon] at h ⊢
    case enter f args =>
      refine Calls.mono h fun e w'' he => ?_
      cases e <;> exact he
    all_goals exact h
  | halt x w' =>
    cases x <;> simp only [Oper.upon] at h ⊢
    all_goals exact h
theorem wpOp_of_list {i : Nat} {o : Oper} {a : Act} {M : Act → World → Prop} {Q : Exit → Act → World → Prop} (hi : ops[i]? = some o) (h : wpList P ops (Exit.then M Q) [o] a w) : wpOp P ops Q i M a w := by
  unfold wpOp
  simp only [hi]
  unfold wpList at h
  split at h
  · rename_i hw
    rw [if_pos hw]
    rcases h with h | ⟨h1, h2⟩
    · exact .inl (wp_then (Oper.wp_mono (fun a w h => h) h))
    · exact .inr ⟨h1, h2⟩
  · rename_i hw
    rw [if_neg hw]
    exact h
theorem any_solo {k f : Nat} {o : Oper} {a : Act} {Q : Exit → Act → World → Prop} (hi : ops[k]? = some o) (hr : Region.ready md ops (firstK ops.size k) = [k])
    (h : wpOp P ops Q k (wpAny P md ops Q f (firstK ops.size (k + 1))) a w) : wpAny P md ops Q (f + 1) (firstK ops.size k) a w := by
  refine ⟨fun h0 => (by rw [hr] at h0; cases h0), fun i hin => ?_⟩
  rw [hr] at hin
  simp only [List.mem_singleton] at hin
  subst hin
  rw [firstK_set]
  exact h
theorem any_ones {Q : Exit → Act → World → Prop} : ∀ (f k : Nat) (l : List Oper) (a : Act) (w : World), l.length = f → k + f = ops.size → (∀ j, j < f → l[j]? = ops[k + j]?) → oneByOne md ops f k = true → wpList P ops Q l a w → wpAny P md ops Q f (firstK ops.size k) a w
  | 0, k, l, a, w, hl, _, _, hB, h => by
    obtain rfl := List.length_eq_zero_iff.1 hl
    exact ⟨by simpa [oneByOne] using hB, h⟩
  | f + 1, k, [], a, w, hl, _, _, _, _ => by simp at hl
  | f + 1, k, o :: l, a, w, hl, hk, hg, hB, h => by
    simp only [oneByOne, Bool.and_eq_true, decide_eq_true_eq] at hB
    have hi : ops[k]? = some o := by simpa using (hg 0 (by omega)).symm
    refine any_solo hi hB.1 ?_
    have ih : ∀ a w, wpList P ops Q l a w → wpAny P md ops Q f (firstK ops.size (k + 1)) a w := fun a w h => any_ones f (k + 1) l a w (by simpa using hl) (by omega) (fun j hj => by
      have := hg (j + 1) (by omega)
      rw [show k + (j + 1) = k + 1 + j by omega] at this
      simpa using this) hB.2 h
    refine wpOp_mono ih ?_
    unfold wpOp
    simp only [hi]
    unfold wpList at h
    exact h
theorem any_segs {Q : Exit → Act → World → Prop} (hsel : Region.noSelect ops = true) : ∀ (segs : List Nat) (k : Nat) (l : List Oper) (a : Act) (w : World), k + l.length = ops.size → (∀ j, j < l.length → l[j]? = ops[k + j]?) → segsB md ops segs k = true →
    wpSegs P ops Q segs l a w → wpAny P md ops Q l.length (firstK ops.size k) a w
  | [], k, l, a, w, hk, hg, hB, h => any_ones l.length k l a w rfl hk hg (by rw [show l.length = ops.size - k by omega]; exact hB) h
  | n :: r, k, l, a, w, hk, hg, hB, h => by
    simp only [segsB, Bool.and_eq_true, decide_eq_true_eq] at hB
    obtain ⟨⟨⟨⟨⟨⟨hn, hcl⟩, hs⟩, hc⟩, hlex⟩, hend⟩, hrest⟩ := hB
    have hnl : n < l.length := by omega
    have htl : (l.take n).length = n := by simp; omega
    obtain ⟨o, ho⟩ : ∃ o, l[n]? = some o := ⟨_, List.getElem?_eq_getElem hnl⟩
    have ho' : ops[k + n]? = some o := by rw [← hg n hnl]; exact ho
    have hone : (l.drop n).take 1 = [o] := by
      rw [List.drop_eq_getElem_cons hnl, List.take_succ_cons, List.take_zero]
      congr 1
      rw [List.getElem?_eq_getElem hnl] at ho
      exact Option.some.inj ho
    have H := wpAnyL_lex' (P := P) (md := md) (w := w) (LL := firstK ops.size (k + n)) (Lq := fun a' => wpAny P md ops Q (l.length - n) (firstK ops.size (k + n)) a' w) hsel hs hc hn
      (fun j hj => by rw [hend] at hj; simp at hj; omega) (l.take n) k (firstK ops.size k) a (fun j hj => by
        have hj' : j < n := by rw [htl] at hj; exact hj
        rw [← hg j (by omega)]; simp [hj']) (by rw [htl]) (inv_of (by omega) hcl) (by rw [htl]; exact firstK_more _ _ _) (by rw [htl]; exact hlex) (by
        unfold wpSegs at h
        rw [hone] at h
        refine wpStill_mono (fun a' h' => ?_) h
        rw [show l.length - n = (l.length - n - 1) + 1 by omega]
        refine any_solo ho' hend (wpOp_mono (fun a'' w'' h'' => ?_) (wpOp_of_list ho' h'))
        have := any_segs hsel r (k + n + 1) (l.drop (n + 1)) a'' w'' (by simp; omega) (fun j hj => by
          rw [List.getElem?_drop, show k + n + 1 + j = k + (n + 1 + j) by omega]
          simp at hj
          exact hg _ (by omega)) hrest h''
        rw [show (l.drop (n + 1)).length = l.length - n - 1 by simp; omega] at this
        exact this)
    have := wpAny_of_head (Q' := Q) (g := l.length - n) (fun listed a' hL => by
      obtain ⟨rfl, h⟩ := hL
      exact h) _ _ _ H
    rw [htl, show n + (l.length - n) = l.length by omega] at this
    exact this
theorem seg_step {Q : Exit → Act → World → Prop} {n : Nat} {r : List Nat} {l : List Oper} {a : Act} (h : ∀ K : Act → World → Prop, (∀ a w, wpSegs P ops Q r (l.drop (n + 1)) a w → K a w) → wpStill P ops w (fun a' => wpList P ops (Exit.then K Q) ((l.drop n).take 1) a' w) (l.take n) a) : wpSegs P ops Q (n :: r) l a w :=
  h _ (fun _ _ h => h)
theorem seg_done {Q : Exit → Act → World → Prop} {l : List Oper} {a : Act} (h : wpList P ops Q l a w) : wpSegs P ops Q [] l a w := h
/-- THE LAW: a region that draws, in stretches. -/
theorem wp_region_segs {id : Nat} {Q : Exit → Act → World → Prop} {a : Act} {w : World} {l : List Oper} (segs : List Nat) (hm : P.follows .mixedOrders = true) (hB : (Region.noSelect l.toArray && segsB .any l.toArray segs 0) = true)
    (h : wpSegs P l.toArray Q segs l a w.drew) : (Code.region id l.toArray true).wp P Q a w := by
  simp only [Bool.and_eq_true] at hB
  refine wp_region_any hm ?_
  have := any_segs (P := P) (md := .any) (ops := l.toArray) (Q := Q) hB.1 segs 0 l a w.drew (by simp) (fun j hj => by simp) hB.2 h
  rw [show l.toArray.size = l.length by simp]
  exact (by simpa [firstK, lexTo] using this)
end
end Go.Proofs.YtmapjahpjolmnaaDoor
namespace Go.Proofs.YtmapjahpjolmnaaDoor
open Go
section
variable {P : Program} {ops : Array Oper} {md : Region.Mode} {S : World → Prop} {Q : Exit → Act → World → Prop}
/-- In every world that meets S the operation leaves v, and the world as it is. -/
def Reads (P : Program) (ops : Array Oper) (S : World → Prop) (o : Oper) (a : Act) (v : Value) : Prop := ∀ w, S w → Gives P ops (fun w' => w' = w) o a v
theorem Reads.same {o : Oper} {a a' : Act} {v : Value} (h : Reads P ops S o a v) (he : execOp a'.eval o = execOp a.eval o)
    (hw : Region.wanted o (yielded ops a'.tmps) = Region.wanted o (yielded ops a.tmps)) (hs : a.tmps.size = a'.tmps.size) : Reads P ops S o a' v := fun w hS => (h w hS).same he hw hs
theorem Reads.wpOp {i : Nat} {o : Oper} {v : Value} {a : Act} (hi : ops[i]? = some o) (hy : Reads P ops S o a v) {K : Act → World → Prop} {w : World} (hS : S w) (h : K (a.put o.dst v) w) : wpOp P ops Q i K a w :=
  wpOp_gives hi (hy w hS) rfl (fun w' e => by subst e; exact h)
theorem wpOp_putR {j : Nat} {oi oj : Oper} {v : Value} (hj : ops[j]? = some oj) (hap : oi.apart ops oj = true)
    (hsi : ∀ cs b, oi.op ≠ .select cs b) (hsj : ∀ cs b, oj.op ≠ .select cs b)
    (hQ : ∀ c a w, Q (.panic c) (a.put oi.dst v) w → Q (.panic c) a w) {K : Act → World → Prop} {a : Act} {w : World}
    (hy : Reads P ops S oi a v) (h : wpOp P ops Q j K (a.put oi.dst v) w) :
    wpOp P ops Q j (fun a' w' => Reads P ops S oi a' v ∧ K (a'.put oi.dst v) w') a w := by
  obtain ⟨h1, h2, h3⟩ := Oper.apart_spec hap
  have keep : ∀ (a : Act), Reads P ops S oi a v → ∀ u, Reads P ops S oi (a.put oj.dst u) v := fun a hy u =>
    hy.same (execOp_put oi hsi a oj.dst u h3) (wanted_put oi a oj.dst u h3) (by rw [put_size])
  have keepD : ∀ d, Reads P ops S oi { a with defers := d :: a.defers } v := fun d => hy.same rfl rfl rfl
  unfold wpOp at *
  simp only [hj] at *
  rw [wanted_put oj a oi.dst v h1] at h
  split
  · rename_i hw
    simp only [hw, if_true] at h
    rcases h with h | ⟨hasks, hlets⟩
    case inr => exact .inr ⟨by unfold Oper.asks at *; rw [execOp_put oj hsj a oi.dst v h1] at hasks; exact hasks, hlets⟩
    refine .inl ?_
    unfold Oper.wp at *
    rw [execOp_put oj hsj a oi.dst v h1] at h
    generalize (execOp a.eval oj).run P w = r at *
    cases r with
    | ok n w' =>
      cases n <;> simp only [Oper.upon] at h ⊢
      case value u => exact ⟨keep a hy u, by rw [← Act.put_comm a v u h2]; exact h⟩
      case skip => exact ⟨keep a hy _, by rw [← Act.put_comm a v undef h2]; exact h⟩
      case defer d =>
        refine ⟨keep _ (keepD d) _, ?_⟩
        rw [← Act.put_comm _ v undef h2, ← Act.put_defers]
        exact h
      case enter f args =>
        refine Calls.mono h fun e w'' he => ?_
        cases e with
        | returned u => exact ⟨keep a hy u, by rw [← Act.put_comm a v u h2]; exact he⟩
        | panicked c => exact hQ _ _ _ he
        | outgrown => exact he
      case row row args => exact Rows.mono h fun u w'' he => ⟨keep a hy u, by rw [← Act.put_comm a v u h2]; exact he⟩
    | halt x w' =>
      cases x <;> simp only [Oper.upon] at h ⊢
      case panic u => exact hQ _ _ _ h
  · rename_i hw
    simp only [hw] at h
    exact ⟨keep a hy _, by rw [← Act.put_comm a v undef h2]; exact h⟩
theorem anyR_first {i : Nat} {oi : Oper} {v : Value} (hi : ops[i]? = some oi) (hsel : ∀ (j : Nat) (o : Oper) cs b, ops[j]? = some o → o.op ≠ .select cs b)
    (hQ : ∀ c a w, Q (.panic c) (a.put oi.dst v) w → Q (.panic c) a w) :
    ∀ (fuel : Nat) (listed : Array Bool) (a : Act) (w : World),
      (∀ j oj, ops[j]? = some oj → j ≠ i → listed.getD j true = false → (∀ e ∈ oj.after, Region.binds md e = true → e.on ≠ i) → oi.apart ops oj = true) →
      i ∈ Region.ready md ops listed → Reads P ops S oi a v → S w →
      wpAnyH P md ops Q S fuel (listed.setIfInBounds i true) (a.put oi.dst v) w → wpAnyH P md ops Q S (fuel + 1) listed a w := by
  intro fuel
  induction fuel with
  | zero =>
    intro listed a w _ hr hy hS H
    refine ⟨fun h => (by rw [h] at hr; cases hr), fun j hj => ?_⟩
    by_cases hji : j = i
    · subst hji; exact hy.wpOp hi hS ⟨hS, H⟩
    · have := ready_mono hj hji
      rw [H.1] at this
      cases this
  | succ fuel ih =>
    intro listed a w hfree hr hy hS H
    refine ⟨fun h => (by rw [h] at hr; cases hr), fun j hj => ?_⟩
    by_cases hji : j = i
    · subst hji; exact hy.wpOp hi hS ⟨hS, H⟩
    · have h1 := H.2 j (ready_mono hj hji)
      obtain ⟨hjun, oj, hoj, hall⟩ := mem_ready.1 hj
      have hnot : ∀ e ∈ oj.after, Region.binds md e = true → e.on ≠ i := fun e he hb heq => by
        have h1 := hall e he hb
        have h0 := (mem_ready.1 hr).1
        rw [heq] at h1
        rcases Nat.lt_or_ge i listed.size with h' | h'
        · simp [h'] at h0 h1; rw [h0] at h1; cases h1
        · simp [Array.getElem?_eq_none h'] at h1
      have h2 := wpOp_putR hoj (hfree j oj hoj hji hjun hnot) (fun cs b => hsel i oi cs b hi) (fun cs b => hsel j oj cs b hoj) hQ hy h1
      have hfree' : ∀ k ok, ops[k]? = some ok → k ≠ i → (listed.setIfInBounds j true).getD k true = false →
          (∀ e ∈ ok.after, Region.binds md e = true → e.on ≠ i) → oi.apart ops ok = true := fun k ok hk hki hun hno => by
        refine hfree k ok hk hki ?_ hno
        by_cases hjk : j = k
        · subst hjk; exact hjun
        · rw [getD_set_ne true hjk] at hun; exact hun
      refine wpOp_mono (fun a' w' h3 => ⟨h3.2.1, ih (listed.setIfInBounds j true) a' w' hfree' (ready_mono hr (Ne.symm hji)) h3.1 h3.2.1 ?_⟩) h2
      rw [Array.setIfInBounds_comm _ _ hji]
      exact h3.2.2
/-- The order: (i, true) reads; (i, false) stands alone. -/
def wpPi (P : Program) (ops : Array Oper) (S : World → Prop) (Q : Exit → Act → World → Prop) : List (Nat × Bool × Oper) → Act → World → Prop
  | [], a, w => Q .normal a w
  | (_, true, o) :: p, a, w => ∃ v, Reads P ops S o a v ∧ wpPi P ops S Q p (a.put o.dst v) w
  | (_, false, o) :: p, a, w => wpList P ops (Exit.then (fun a' w' => S w' ∧ wpPi P ops S Q p a' w') Q) [o] a w
def piB (md : Region.Mode) (ops : Array Oper) : List (Nat × Bool) → Array Bool → Bool
  | [], l => (Region.ready md ops l).isEmpty
  | (i, true) :: p, l => (Region.ready md ops l).contains i && Region.free md ops l i && piB md ops p (l.setIfInBounds i true)
  | (i, false) :: p, l => decide (Region.ready md ops l = [i]) && piB md ops p (l.setIfInBounds i true)
/-- The order with its operations written out. -/
def piO (ops : Array Oper) (p : List (Nat × Bool)) : List (Nat × Bool × Oper) := p.filterMap fun x => (ops[x.1]?).map fun o => (x.1, x.2, o)
theorem piO_cons {x : Nat × Bool} {p : List (Nat × Bool)} {o : Oper} (ho : ops[x.1]? = some o) : piO ops (x :: p) = (x.1, x.2, o) :: piO ops p := by
  simp [piO, ho]
theorem ready_some {i : Nat} {l : Array Bool} (h : i ∈ Region.ready md ops l) : ∃ o, ops[i]? = some o := by
  obtain ⟨-, o, ho, -⟩ := mem_ready.1 h
  exact ⟨o, ho⟩
theorem wp_then' {o : Oper} {a : Act} {w : World} {K M : Act → World → Prop} (h : o.wp P a w K (Exit.then M Q)) : o.wp P a w K Q := by
  unfold Oper.wp at *
  generalize (execOp a.eval o).run P w = r at *
  cases r with
  | ok n w' =>
    cases n <;> simp only [Oper.upon] at h ⊢
    case enter f args =>
      refine Calls.mono h fun e w'' he => ?_
      cases e <;> exact he
    all_goals exact h
  | halt x w' =>
    cases x <;> simp only [Oper.upon] at h ⊢
    all_goals exact h
theorem wpOp_of_list' {i : Nat} {o : Oper} {a : Act} {w : World} {M : Act → World → Prop} (hi : ops[i]? = some o) (h : wpList P ops (Exit.then M Q) [o] a w) : wpOp P ops Q i M a w := by
  unfold wpOp
  simp only [hi]
  unfold wpList at h
  split at h
  · rename_i hw
    rw [if_pos hw]
    rcases h with h | ⟨h1, h2⟩
    · exact .inl (wp_then' (Oper.wp_mono (fun a w h => h) h))
    · exact .inr ⟨h1, h2⟩
  · rename_i hw
    rw [if_neg hw]
    exact h
theorem any_pi (hsel : Region.noSelect ops = true) (hQ : ∀ c a d v w, Q (.panic c) (a.put d v) w → Q (.panic c) a w) : ∀ (p : List (Nat × Bool)) (l : Array Bool) (a : Act) (w : World), piB md ops p l = true → S w → wpPi P ops S Q (piO ops p) a w →
    wpAnyH P md ops Q S p.length l a w
  | [], l, a, w, hB, _, h => ⟨by simpa [piB] using hB, h⟩
  | (i, true) :: p, l, a, w, hB, hS, h => by
    simp only [piB, Bool.and_eq_true] at hB
    have hr : i ∈ Region.ready md ops l := by simpa using hB.1.1
    obtain ⟨o, ho⟩ := ready_some hr
    rw [piO_cons (x := (i, true)) ho] at h
    obtain ⟨v, hy, h⟩ := h
    exact anyR_first ho (Region.noSelect_spec hsel) (fun c a w h => hQ c a _ _ w h) _ l a w (Region.free_spec ho hB.1.2) hr hy hS (any_pi hsel hQ p _ _ w hB.2 hS h)
  | (i, false) :: p, l, a, w, hB, hS, h => by
    simp only [piB, Bool.and_eq_true, decide_eq_true_eq] at hB
    have hr : i ∈ Region.ready md ops l := by rw [hB.1]; exact List.mem_singleton.2 rfl
    obtain ⟨o, ho⟩ := ready_some hr
    rw [piO_cons (x := (i, false)) ho] at h
    refine wpAnyH_all hB.1 (by simp) (fun j hj => ?_)
    simp only [List.mem_singleton] at hj
    subst hj
    have h2 : wpList P ops (Exit.then (fun a' w' => S w' ∧ wpPi P ops S Q (piO ops p) a' w') Q) [o] a w := h
    exact wpOp_mono (fun a' w' h' => ⟨h'.1, any_pi hsel hQ p _ a' w' hB.2 h'.1 h'.2⟩) (wpOp_of_list' ho h2)
theorem any_fuel : ∀ (f g : Nat) (l : Array Bool) (a : Act) (w : World), wpAnyH P md ops Q S f l a w → wpAnyH P md ops Q S (f + g) l a w
  | 0, g, l, a, w, h => by
    rw [Nat.zero_add]
    exact wpAnyH_done h.1 h.2 g
  | f + 1, g, l, a, w, h => by
    rw [show f + 1 + g = (f + g) + 1 by omega]
    exact ⟨h.1, fun i hi => wpOp_mono (fun a' w' h' => ⟨h'.1, any_fuel f g _ a' w' h'.2⟩) (h.2 i hi)⟩
/-- THE LAW. -/
theorem wp_region_pi {id : Nat} {a : Act} {w : World} {l : List Oper} (S : World → Prop) (p : List (Nat × Bool)) (hm : P.follows .mixedOrders = true) (hB : (Region.noSelect l.toArray && (decide (p.length ≤ l.length) && piB .any l.toArray p (Array.replicate l.length false))) = true)
    (hQ : ∀ c a d v w, Q (.panic c) (a.put d v) w → Q (.panic c) a w) (hS : S w.drew) (h : wpPi P l.toArray S Q (piO l.toArray p) a w.drew) : (Code.region id l.toArray true).wp P Q a w := by
  simp only [Bool.and_eq_true, decide_eq_true_eq] at hB
  refine wp_region_held (S := S) hm ?_
  have h1 := any_pi hB.1 hQ p _ a w.drew hB.2.2 hS h
  have h2 := any_fuel p.length (l.length - p.length) _ a w.drew h1
  rw [show p.length + (l.length - p.length) = l.toArray.size by have := hB.2.1; simp; omega] at h2
  exact (by simpa using h2)
/-- THE LAW, BEHIND A STRETCH: n operations that only read in the world at hand, one that waits for them all, then an order. -/
theorem wp_region_segpi {id : Nat} {a : Act} {w : World} {l : List Oper} (n : Nat) (S : World → Prop) (p : List (Nat × Bool)) (hm : P.follows .mixedOrders = true)
    (hB : (Region.noSelect l.toArray && (decide (n + 1 + p.length ≤ l.length) && (Region.sinkB .any l.toArray n && (hangB .any l.toArray n && (lexFree .any l.toArray n 0 (firstK l.toArray.size 0) && (decide (Region.ready .any l.toArray (firstK l.toArray.size n) = [n]) && piB .any l.toArray p (firstK l.toArray.size (n + 1)))))))) = true)
    (hQ : ∀ c a d v w, Q (.panic c) (a.put d v) w → Q (.panic c) a w)
    (h : wpStill P l.toArray w.drew (fun a' => wpList P l.toArray (Exit.then (fun a'' w'' => S w'' ∧ wpPi P l.toArray S Q (piO l.toArray p) a'' w'') Q) ((l.drop n).take 1) a' w.drew) (l.take n) a) : (Code.region id l.toArray true).wp P Q a w := by
  simp only [Bool.and_eq_true, decide_eq_true_eq] at hB
  obtain ⟨hsel, hlen, hs, hc, hlex, hend, hpi⟩ := hB
  refine wp_region_any hm ?_
  have hnl : n < l.length := by omega
  have htl : (l.take n).length = n := by simp; omega
  obtain ⟨o, ho⟩ : ∃ o, l[n]? = some o := ⟨_, List.getElem?_eq_getElem hnl⟩
  have ho' : l.toArray[n]? = some o := by simpa using ho
  have hone : (l.drop n).take 1 = [o] := by
    rw [List.drop_eq_getElem_cons hnl, List.take_succ_cons, List.take_zero]
    congr 1
    rw [List.getElem?_eq_getElem hnl] at ho
    exact Option.some.inj ho
  have H := wpAnyL_lex' (P := P) (md := .any) (ops := l.toArray) (w := w.drew) (LL := firstK l.toArray.size n) (Lq := fun a' => wpAny P .any l.toArray Q (l.length - n) (firstK l.toArray.size n) a' w.drew) hsel hs hc (by simpa using hnl)
    (fun j hj => by rw [hend] at hj; simp at hj; omega) (l.take n) 0 (firstK l.toArray.size 0) a (fun j hj => by
      have hj' : j < n := by rw [htl] at hj; exact hj
      simp [hj']) (by rw [htl]; omega) (inv_of (by omega) (by simp [closedB])) (by rw [htl]; simpa using firstK_more l.toArray.size 0 n) (by rw [htl]; exact hlex) (by
      rw [hone] at h
      refine wpStill_mono (fun a' h' => ?_) h
      rw [show l.length - n = (l.length - n - 1) + 1 by omega]
      refine any_solo ho' hend (wpOp_mono (fun a'' w'' h'' => ?_) (wpOp_of_list' ho' h'))
      have h1 := any_pi hsel hQ p _ a'' w'' hpi h''.1 h''.2
      have h2 := any_fuel p.length (l.length - n - 1 - p.length) _ a'' w'' h1
      rw [show p.length + (l.length - n - 1 - p.length) = l.length - n - 1 by omega] at h2
      exact wpAny_of_held _ _ _ _ h2)
  have h3 := wpAny_of_head (Q' := Q) (g := l.length - n) (fun listed a' hL => by
    obtain ⟨rfl, h⟩ := hL
    exact h) _ _ _ H
  rw [htl, show n + (l.length - n) = l.length by omega] at h3
  rw [show l.toArray.size = l.length by simp] at h3 ⊢
  exact (by simpa [firstK, lexTo] using h3)
theorem segpi_step {n : Nat} {p : List (Nat × Bool)} {l : List Oper} {a : Act} {w : World} (h : ∀ K : Act → World → Prop, (∀ a' w', S w' → wpPi P ops S Q (piO ops p) a' w' → K a' w') → wpStill P ops w (fun a' => wpList P ops (Exit.then K Q) ((l.drop n).take 1) a' w) (l.take n) a) :
    wpStill P ops w (fun a' => wpList P ops (Exit.then (fun a'' w'' => S w'' ∧ wpPi P ops S Q (piO ops p) a'' w'') Q) ((l.drop n).take 1) a' w) (l.take n) a :=
  h _ (fun _ _ h1 h2 => ⟨h1, h2⟩)
/-- One that reads: run alone in a world of which S is known. -/
theorem pi_read {i : Nat} {p : List (Nat × Bool × Oper)} {o : Oper} {a : Act} {w : World} (a2 : Act)
    (h : ∀ w, S w → ∀ M : Act → World → Prop, M a2 w → wpList P ops (Exit.then M (fun _ _ _ => False)) [o] a w)
    (he : a.put o.dst (valOf o.dst a2) = a2) (h2 : wpPi P ops S Q p a2 w) : wpPi P ops S Q ((i, true, o) :: p) a w :=
  ⟨valOf o.dst a2, fun w hS w' e => by subst e; exact h w' hS _ ⟨he.symm, rfl⟩, by rw [he]; exact h2⟩
/-- One that stands alone. -/
theorem pi_alone {i : Nat} {p : List (Nat × Bool × Oper)} {o : Oper} {a : Act} {w : World}
    (h : ∀ M : Act → World → Prop, (∀ a' w', S w' → wpPi P ops S Q p a' w' → M a' w') → wpList P ops (Exit.then M Q) [o] a w) : wpPi P ops S Q ((i, false, o) :: p) a w :=
  h _ (fun _ _ h1 h2 => ⟨h1, h2⟩)
end
end Go.Proofs.YtmapjahpjolmnaaDoor
namespace Go.Proofs.YtmapjahpjolmnaaDoor
open Go
inductive Ord where
  | done
  | read (i : Nat) (t : Ord)
  | alone (i : Nat) (t : Ord)
  | fork (i : Nat) (s : Ord) (j : Nat) (t : Ord)
  | fork3 (i : Nat) (s : Ord) (j : Nat) (t : Ord) (k : Nat) (u : Ord)
inductive OrdO where
  | done
  | read (o : Oper) (t : OrdO)
  | alone (o : Oper) (t : OrdO)
  | fork (o : Oper) (s : OrdO) (p : Oper) (t : OrdO)
  | fork3 (o : Oper) (s : OrdO) (p : Oper) (t : OrdO) (q : Oper) (u : OrdO)
def Ord.len : Ord → Nat
  | .done => 0
  | .read _ t => t.len + 1
  | .alone _ t => t.len + 1
  | .fork _ s _ _ => s.len + 1
  | .fork3 _ s _ _ _ _ => s.len + 1
def Ord.ops (ops : Array Oper) : Ord → OrdO
  | .done => .done
  | .read i t => match ops[i]? with
    | some o => .read o (t.ops ops)
    | none => .done
  | .alone i t => match ops[i]? with
    | some o => .alone o (t.ops ops)
    | none => .done
  | .fork i s j t => match ops[i]?, ops[j]? with
    | some o, some p => .fork o (s.ops ops) p (t.ops ops)
    | _, _ => .done
  | .fork3 i s j t k u => match ops[i]?, ops[j]?, ops[k]? with
    | some o, some p, some q => .fork3 o (s.ops ops) p (t.ops ops) q (u.ops ops)
    | _, _, _ => .done
def ordB (md : Region.Mode) (ops : Array Oper) : Ord → Array Bool → Bool
  | .done, l => (Region.ready md ops l).isEmpty
  | .read i t, l => (Region.ready md ops l).contains i && Region.free md ops l i && ordB md ops t (l.setIfInBounds i true)
  | .alone i t, l => decide (Region.ready md ops l = [i]) && ordB md ops t (l.setIfInBounds i true)
  | .fork i s j t, l => decide (Region.ready md ops l = [i, j]) && (decide (s.len = t.len) && (ordB md ops s (l.setIfInBounds i true) && ordB md ops t (l.setIfInBounds j true)))
  | .fork3 i s j t k u, l => decide (Region.ready md ops l = [i, j, k]) && (decide (s.len = t.len ∧ s.len = u.len) && (ordB md ops s (l.setIfInBounds i true) && (ordB md ops t (l.setIfInBounds j true) && ordB md ops u (l.setIfInBounds k true))))
def wpOrd (P : Program) (ops : Array Oper) (S : World → Prop) (Q : Exit → Act → World → Prop) : OrdO → Act → World → Prop
  | .done, a, w => Q .normal a w
  | .read o t, a, w => ∃ v, Reads P ops S o a v ∧ wpOrd P ops S Q t (a.put o.dst v) w
  | .alone o t, a, w => wpList P ops (Exit.then (fun a' w' => S w' ∧ wpOrd P ops S Q t a' w') Q) [o] a w
  | .fork o s p t, a, w => wpList P ops (Exit.then (fun a' w' => S w' ∧ wpOrd P ops S Q s a' w') Q) [o] a w ∧ wpList P ops (Exit.then (fun a' w' => S w' ∧ wpOrd P ops S Q t a' w') Q) [p] a w
  | .fork3 o s p t q u, a, w => wpList P ops (Exit.then (fun a' w' => S w' ∧ wpOrd P ops S Q s a' w') Q) [o] a w ∧ wpList P ops (Exit.then (fun a' w' => S w' ∧ wpOrd P ops S Q t a' w') Q) [p] a w ∧ wpList P ops (Exit.then (fun a' w' => S w' ∧ wpOrd P ops S Q u a' w') Q) [q] a w
section
variable {P : Program} {ops : Array Oper} {md : Region.Mode} {S : World → Prop} {Q : Exit → Act → World → Prop}
theorem ready_in {i : Nat} {r : List Nat} {l : Array Bool} (hB : Region.ready md ops l = r) (hi : i ∈ r) : ∃ o, ops[i]? = some o := ready_some (md := md) (l := l) (by rw [hB]; exact hi)
theorem any_ord (hsel : Region.noSelect ops = true) (hQ : ∀ c a d v w, Q (.panic c) (a.put d v) w → Q (.panic c) a w) : ∀ (t : Ord) (l : Array Bool) (a : Act) (w : World), ordB md ops t l = true → S w → wpOrd P ops S Q (t.ops ops) a w →
    wpAnyH P md ops Q S t.len l a w
  | .done, l, a, w, hB, _, h => ⟨by simpa [ordB] using hB, h⟩
  | .read i t, l, a, w, hB, hS, h => by
    simp only [ordB, Bool.and_eq_true] at hB
    have hr : i ∈ Region.ready md ops l := by simpa using hB.1.1
    obtain ⟨o, ho⟩ := ready_some hr
    simp only [Ord.ops, ho] at h
    obtain ⟨v, hy, h⟩ := h
    exact anyR_first ho (Region.noSelect_spec hsel) (fun c a w h => hQ c a _ _ w h) _ l a w (Region.free_spec ho hB.1.2) hr hy hS (any_ord hsel hQ t _ _ w hB.2 hS h)
  | .alone i t, l, a, w, hB, hS, h => by
    simp only [ordB, Bool.and_eq_true, decide_eq_true_eq] at hB
    obtain ⟨o, ho⟩ := ready_in hB.1 (List.mem_singleton.2 rfl)
    simp only [Ord.ops, ho] at h
    refine wpAnyH_all hB.1 (by simp) (fun j hj => ?_)
    simp only [List.mem_singleton] at hj
    subst hj
    exact wpOp_mono (fun a' w' h' => ⟨h'.1, any_ord hsel hQ t _ a' w' hB.2 h'.1 h'.2⟩) (wpOp_of_list' ho h)
  | .fork i s j t, l, a, w, hB, hS, h => by
    simp only [ordB, Bool.and_eq_true, decide_eq_true_eq] at hB
    obtain ⟨o, ho⟩ := ready_in (i := i) hB.1 (by simp)
    obtain ⟨p, hp⟩ := ready_in (i := j) hB.1 (by simp)
    simp only [Ord.ops, ho, hp] at h
    refine wpAnyH_all hB.1 (by simp) (fun x hx => ?_)
    simp only [List.mem_cons, List.not_mem_nil, or_false] at hx
    rcases hx with rfl | rfl
    · exact wpOp_mono (fun a' w' h' => ⟨h'.1, any_ord hsel hQ s _ a' w' hB.2.2.1 h'.1 h'.2⟩) (wpOp_of_list' ho h.1)
    · refine wpOp_mono (fun a' w' h' => ⟨h'.1, ?_⟩) (wpOp_of_list' hp h.2)
      show wpAnyH P md ops Q S s.len _ a' w'
      rw [hB.2.1]
      exact any_ord hsel hQ t _ a' w' hB.2.2.2 h'.1 h'.2
  | .fork3 i s j t k u, l, a, w, hB, hS, h => by
    simp only [ordB, Bool.and_eq_true, decide_eq_true_eq] at hB
    obtain ⟨o, ho⟩ := ready_in (i := i) hB.1 (by simp)
    obtain ⟨p, hp⟩ := ready_in (i := j) hB.1 (by simp)
    obtain ⟨q, hq⟩ := ready_in (i := k) hB.1 (by simp)
    simp only [Ord.ops, ho, hp, hq] at h
    refine wpAnyH_all hB.1 (by simp) (fun x hx => ?_)
    simp only [List.mem_cons, List.not_mem_nil, or_false] at hx
    rcases hx with rfl | rfl | rfl
    · exact wpOp_mono (fun a' w' h' => ⟨h'.1, any_ord hsel hQ s _ a' w' hB.2.2.1 h'.1 h'.2⟩) (wpOp_of_list' ho h.1)
    · refine wpOp_mono (fun a' w' h' => ⟨h'.1, ?_⟩) (wpOp_of_list' hp h.2.1)
      show wpAnyH P md ops Q S s.len _ a' w'
      rw [hB.2.1.1]
      exact any_ord hsel hQ t _ a' w' hB.2.2.2.1 h'.1 h'.2
    · refine wpOp_mono (fun a' w' h' => ⟨h'.1, ?_⟩) (wpOp_of_list' hq h.2.2)
      show wpAnyH P md ops Q S s.len _ a' w'
      rw [hB.2.1.2]
      exact any_ord hsel hQ u _ a' w' hB.2.2.2.2 h'.1 h'.2
/-- THE LAW. -/
theorem wp_region_ord {id : Nat} {a : Act} {w : World} {l : List Oper} (S : World → Prop) (t : Ord) (hm : P.follows .mixedOrders = true) (hB : (Region.noSelect l.toArray && (decide (t.len ≤ l.length) && ordB .any l.toArray t (Array.replicate l.length false))) = true)
    (hQ : ∀ c a d v w, Q (.panic c) (a.put d v) w → Q (.panic c) a w) (hS : S w.drew) (h : wpOrd P l.toArray S Q (t.ops l.toArray) a w.drew) : (Code.region id l.toArray true).wp P Q a w := by
  simp only [Bool.and_eq_true, decide_eq_true_eq] at hB
  refine wp_region_held (S := S) hm ?_
  have h1 := any_ord hB.1 hQ t _ a w.drew hB.2.2 hS h
  have h2 := any_fuel t.len (l.length - t.len) _ a w.drew h1
  rw [show t.len + (l.length - t.len) = l.toArray.size by have := hB.2.1; simp; omega] at h2
  exact (by simpa using h2)
theorem ord_read {o : Oper} {t : OrdO} {a : Act} {w : World} (a2 : Act)
    (h : ∀ w, S w → ∀ M : Act → World → Prop, M a2 w → wpList P ops (Exit.then M (fun _ _ _ => False)) [o] a w)
    (he : a.put o.dst (valOf o.dst a2) = a2) (h2 : wpOrd P ops S Q t a2 w) : wpOrd P ops S Q (.read o t) a w :=
  ⟨valOf o.dst a2, fun w hS w' e => by subst e; exact h w' hS _ ⟨he.symm, rfl⟩, by rw [he]; exact h2⟩
theorem ord_alone {o : Oper} {t : OrdO} {a : Act} {w : World}
    (h : ∀ M : Act → World → Prop, (∀ a' w', S w' → wpOrd P ops S Q t a' w' → M a' w') → wpList P ops (Exit.then M Q) [o] a w) : wpOrd P ops S Q (.alone o t) a w :=
  h _ (fun _ _ h1 h2 => ⟨h1, h2⟩)
theorem ord_fork {o p : Oper} {s t : OrdO} {a : Act} {w : World} (h1 : wpOrd P ops S Q (.alone o s) a w) (h2 : wpOrd P ops S Q (.alone p t) a w) : wpOrd P ops S Q (.fork o s p t) a w := ⟨h1, h2⟩
theorem ord_fork3 {o p q : Oper} {s t u : OrdO} {a : Act} {w : World} (h1 : wpOrd P ops S Q (.alone o s) a w) (h2 : wpOrd P ops S Q (.alone p t) a w) (h3 : wpOrd P ops S Q (.alone q u) a w) : wpOrd P ops S Q (.fork3 o s p t q u) a w := ⟨h1, h2, h3⟩
end
end Go.Proofs.YtmapjahpjolmnaaDoor
namespace Go.Proofs.YtmapjahpjolmnaaDoor
open Go.RowKit Tr
theorem cells_ne {w : World} {a b : Nat} {t u : TypeId} {cs cu : Array Value} (h : w.heap[a]? = some (.cells cs t (0, 0))) (k : w.heap[b]? = some (.cells cu u (0, 0))) (hne : t ≠ u) : a ≠ b := by
  rintro rfl; rw [h] at k; injection k with k; injection k with _ h2; exact hne h2
/-- What a walk needs of its closure on expressions. -/
structure WkE {σ : Type} (I : σ → World → Prop) (se : σ → XE → Int → σ) (most : Int) (Bd wb f : Nat) (caps : Array Value) (fs : Value) (Fr : Nat → Prop) (w0 : World) : Prop where
  m0 : 0 ≤ most
  m1 : most ≤ 100
  box : ∀ a w, I a w → Blk w wb 59 #[.func (.func f) #[] caps, fs, .int .i64 most]
  below : ∀ a w, I a w → Below Bd w0 w
  drew : ∀ a w, I a w → I a w.drew
  run : ∀ (args : Array Value) (w : World), (callFunc f args).run Tryd.prog w = .ok (.enter f args) w
  call : ∀ (a : σ) (w : World) (b o : Nat) (e : XE) (kv : Value) (d : Int), I a w → ecells w b o e kv → EsAt w Bd e.kids kv → b < Bd → e.Ok → 0 ≤ d → d ≤ most →
    Calls Tryd.prog f (#[.pointer (some ⟨b, o, none⟩), .int .i64 d] ++ caps) w fun en w' => en = .returned (.tuple #[]) ∧ I (se a e d) w' ∧ Tur Fr w w'
set_option maxRecDepth 20000 in
set_option maxHeartbeats 4000000 in
theorem w_exprs {σ : Type} {I : σ → World → Prop} {se : σ → XE → Int → σ} {most : Int} {Bd wb f : Nat} {caps : Array Value} {fs : Value} {Fr : Nat → Prop} {w0 : World} (W : WkE I se most Bd wb f caps fs Fr w0) {l : List XE} {v : Value} (h : EsAt w0 Bd l v) :
    ∀ (d : Int) (a : σ) (w : World), I a w → 0 ≤ d → d ≤ 101 → Calls Tryd.prog 20 #[.pointer (some ⟨wb, 0, none⟩), v, .int .i64 d] w fun en w' => en = .returned (.tuple #[]) ∧ I (foldEs se most l d a) w' ∧ Tur Fr w w' := by
  induction h with
  | @mk l A cap kv hc hm hat hok hk ih =>
    intro d a w hI h0 h1
    have HI := Lib.hid hI
    have HAT := Lib.hid hat
    have HOK := Lib.hid hok
    have HK := Lib.hid hk
    have IH := Lib.hid ih
    have HW := Lib.hid W
    have hm0 := W.m0
    have hm1 := W.m1
    have hcl : cap < 9223372036854775808 := by unfold maxLen at hm; omega
    clear hI hat hok hk ih W
    go_enter Tryd.func20, Tryd.ntmps20
    go_wp2_with fail
    go_loopw [6, 9] (fun _ v9 wr => ∃ i : Nat, v9 = .int .i64 i ∧ i ≤ l.length ∧ I (foldEs se most (l.take i) d a) wr ∧ Tur Fr w wr) (fun _ v9 _ => l.length - (intOf v9).toNat)
    case atStart => exact ⟨0, rfl, Nat.zero_le _, by rw [List.take_zero, foldEs_nil]; exact HI.out, Tur.refl _ _⟩
    case round =>
      obtain ⟨i, rfl, hi, hir, htr⟩ := hrel
      have HR := Lib.hid hir
      have HT := Lib.hid htr
      clear hir htr
      by_cases hlt : i < l.length
      · obtain ⟨b, o, rfl, hbB, hcells⟩ := HAT.out (by omega)
        have HC := Lib.hid (hcells i hlt)
        have HBX := Lib.hid (HW.out.box _ _ HR.out)
        have HBB := Lib.hid hbB
        clear hcells hbB
        obtain ⟨x0, x1, x2⟩ : wr.cell? ⟨wb, 0, none⟩ = some (.func (.func f) #[] caps) ∧ wr.cell? ⟨wb, 1, none⟩ = some fs ∧ wr.cell? ⟨wb, 2, none⟩ = some (.int .i64 most) := ⟨HBX.out.cell 0, HBX.out.cell 1, HBX.out.cell 2⟩
        by_cases hd : most < d
        · clear x0 x1
          go_wp2_with fail
          ((try simp only [Exit.inBlock, Exit.then]); refine bodyPost_ret (results_none rfl _ _ _) rfl ?_)
          refine ⟨rfl, ?_, HT.out⟩
          have h2 := HR.out
          rw [foldEs_deep _ _ hd] at h2 ⊢
          exact h2
        · clear x0 x1
          go_upto_region 4 with (fail)
          clear x2
          have HRD := Lib.hid (HW.out.drew _ _ HR.out)
          have HBD := Lib.hid (HW.out.box _ _ HRD.out)
          have HCD := Lib.hid (HC.out.keep (HW.out.below _ _ HRD.out) HBB.out)
          refine wp_region_noPanic ?_
          refine wp_region_ord (fun wd => Blk wd wb 59 #[.func (.func f) #[] caps, fs, .int .i64 most]) (.read 0 (.read 1 (.read 2 (.read 3 (.read 4 (.read 5 (.read 6 (.read 7 (.alone 8 .done))))))))) (by kernel_rfl) (by kernel_rfl) (fun _ _ _ _ _ h => h) HBD.out ?_
          simp only [Ord.ops, List.getElem?_toArray, List.getElem?_cons_zero, List.getElem?_cons_succ]
          have HTD : Hid (Tur Fr w wr.drew) := HT.out.trans ((Tur.of_below (Below.refl wr.heap.size wr).drew).mono (fun i h1 h2 => absurd h2 (by omega))) (fun _ _ h => h)
          generalize wr.drew = wq at *
          iterate 8 (
            refine ord_read ?_ (fun wd hS M hM => ?_) ?_ ?_
            rotate_left
            · have HM := Lib.hid hM
              have x0 : wd.cell? ⟨wb, 0, none⟩ = some (.func (.func f) #[] caps) := hS.cell 0
              clear hM hS
              repeat (first | go_values | go_skip | go_guarded | go_step | go_upon)
              exact HM.out
            · rfl)
          refine ord_alone (fun M hM => ?_)
          have HM := Lib.hid hM
          clear hM
          have hrun := HW.out.run
          repeat (first | go_values | go_skip | go_guarded | go_step | go_upon)
          refine (HW.out.call _ _ b (o + i * 4) l[i] (kv i) d HRD.out HCD.out ((HK.out i hlt).keep (HW.out.below _ _ HRD.out)) HBB.out (HOK.out i hlt) h0 (by omega)).mono ?_
          rintro en w4 ⟨rfl, hI4, ht4⟩
          have HI4 := Lib.hid hI4
          have HT4 := Lib.hid (HTD.out.trans ht4 (fun _ _ h => h))
          clear ht4
          have HC4 := Lib.hid (HC.out.keep (HW.out.below _ _ hI4) HBB.out)
          clear hI4
          dsimp only
          repeat (first | go_values | go_skip | go_guarded | go_step | go_upon)
          refine HM.out _ _ (HW.out.box _ _ HI4.out) ?_
          clear HM M
          refine NoPanic.normal (?_ : _)
          have x3 := HC4.out.2.2.2
          clear hrun
          go_wp2_with fail
          refine (IH.out i hlt (d + 1) _ w4 HI4.out (by omega) (by omega)).mono ?_
          rintro en w5 ⟨rfl, hI5, ht5⟩
          have HT5 := Lib.hid (HT4.out.trans ht5 (fun _ _ h => h))
          clear ht5
          have HI5 : Hid (I (foldEs se most (l.take (i + 1)) d a) w5) := by
            unfold Hid
            rw [foldEs_take _ _ (by omega) l i hlt, foldE_eq]
            exact hI5
          clear hI5 x3
          go_wp2_with fail
          go_roundw
          case rel => exact ⟨i + 1, by go_num, by omega, HI5.out, HT5.out⟩
          case measure => simp [intOf]; omega
      · rw [List.take_of_length_le (by omega)] at HR
        go_wp2_with fail
        go_end0
        exact ⟨rfl, HR.out, HT.out⟩
theorem scellsT.keep {w w' : World} {Bd b o : Nat} {e : XS} {x y z : Value} (h : scellsT w b o e x y z) (hb : Below Bd w w') (hlt : b < Bd) : scellsT w' b o e x y z := by
  unfold scellsT at h ⊢
  simp only [cell_keep hb hlt]
  exact h
/-- .. and of its closure on statements. -/
structure WkS {σ : Type} (I : σ → World → Prop) (se : σ → XE → Int → σ) (ss : σ → XS → Int → σ) (most : Int) (Bd wb f : Nat) (caps : Array Value) (fg : Nat) (cs : Array Value) (Fr : Nat → Prop) (w0 : World) : Prop where
  e : WkE I se most Bd wb f caps (.func (.func fg) #[] cs) Fr w0
  run : ∀ (args : Array Value) (w : World), (callFunc fg args).run Tryd.prog w = .ok (.enter fg args) w
  call : ∀ (a : σ) (w : World) (b o : Nat) (e : XS) (ev bv lv : Value) (d : Int), I a w → scellsT w b o e ev bv lv → EsAt w Bd e.exprs ev → SsAt w Bd e.body bv → SsAt w Bd e.els lv → b < Bd → e.Ok → 0 ≤ d → d ≤ most →
    Calls Tryd.prog fg (#[.pointer (some ⟨b, o, none⟩), .int .i64 d] ++ cs) w fun en w' => en = .returned (.tuple #[]) ∧ I (ss a e d) w' ∧ Tur Fr w w'
set_option maxRecDepth 20000 in
set_option maxHeartbeats 4000000 in
theorem w_stmts {σ : Type} {I : σ → World → Prop} {se : σ → XE → Int → σ} {ss : σ → XS → Int → σ} {most : Int} {Bd wb f : Nat} {caps : Array Value} {fg : Nat} {cs : Array Value} {Fr : Nat → Prop} {w0 : World} (W : WkS I se ss most Bd wb f caps fg cs Fr w0) {l : List XS} {v : Value} (h : SsAt w0 Bd l v) :
    ∀ (d : Int) (a : σ) (w : World), I a w → 0 ≤ d → d ≤ 101 → Calls Tryd.prog 21 #[.pointer (some ⟨wb, 0, none⟩), v, .int .i64 d] w fun en w' => en = .returned (.tuple #[]) ∧ I (foldSs se ss most l d a) w' ∧ Tur Fr w w' := by
  induction h with
  | @mk l A cap ev bv lv hc hm hat hok he hb hl ih1 ih2 =>
    intro d a w hI h0 h1
    have HI := Lib.hid hI
    have HAT := Lib.hid hat
    have HOK := Lib.hid hok
    have HE := Lib.hid he
    have HB := Lib.hid hb
    have HL := Lib.hid hl
    have IH1 := Lib.hid ih1
    have IH2 := Lib.hid ih2
    have HW := Lib.hid W
    have hm0 := W.e.m0
    have hm1 := W.e.m1
    have hcl : cap < 9223372036854775808 := by unfold maxLen at hm; omega
    clear hI hat hok he hb hl ih1 ih2 W
    go_enter Tryd.func21, Tryd.ntmps21
    go_wp2_with fail
    go_loopw [6, 9] (fun _ v9 wr => ∃ i : Nat, v9 = .int .i64 i ∧ i ≤ l.length ∧ I (foldSs se ss most (l.take i) d a) wr ∧ Tur Fr w wr) (fun _ v9 _ => l.length - (intOf v9).toNat)
    case atStart => exact ⟨0, rfl, Nat.zero_le _, by rw [List.take_zero, foldSs_nil]; exact HI.out, Tur.refl _ _⟩
    case round =>
      obtain ⟨i, rfl, hi, hir, htr⟩ := hrel
      have HR := Lib.hid hir
      have HT := Lib.hid htr
      clear hir htr
      by_cases hlt : i < l.length
      · obtain ⟨b, o, rfl, hbB, hcells⟩ := HAT.out (by omega)
        have HC := Lib.hid (hcells i hlt)
        have HBX := Lib.hid (HW.out.e.box _ _ HR.out)
        have HBB := Lib.hid hbB
        clear hcells hbB
        have x2 : wr.cell? ⟨wb, 2, none⟩ = some (.int .i64 most) := HBX.out.cell 2
        by_cases hd : most < d
        · go_wp2_with fail
          ((try simp only [Exit.inBlock, Exit.then]); refine bodyPost_ret (results_none rfl _ _ _) rfl ?_)
          refine ⟨rfl, ?_, HT.out⟩
          have h2 := HR.out
          rw [foldSs_deep _ _ _ hd] at h2 ⊢
          exact h2
        · go_upto_region 4 with (fail)
          clear x2
          have HRD := Lib.hid (HW.out.e.drew _ _ HR.out)
          have HBD := Lib.hid (HW.out.e.box _ _ HRD.out)
          have HCD := Lib.hid (HC.out.keep (HW.out.e.below _ _ HRD.out) HBB.out)
          refine wp_region_noPanic ?_
          refine wp_region_ord (fun wd => Blk wd wb 59 #[.func (.func f) #[] caps, .func (.func fg) #[] cs, .int .i64 most]) (.read 0 (.read 1 (.read 2 (.read 3 (.read 4 (.read 5 (.read 6 (.read 7 (.alone 8 .done))))))))) (by kernel_rfl) (by kernel_rfl) (fun _ _ _ _ _ h => h) HBD.out ?_
          simp only [Ord.ops, List.getElem?_toArray, List.getElem?_cons_zero, List.getElem?_cons_succ]
          have HTD : Hid (Tur Fr w wr.drew) := HT.out.trans ((Tur.of_below (Below.refl wr.heap.size wr).drew).mono (fun i h1 h2 => absurd h2 (by omega))) (fun _ _ h => h)
          generalize wr.drew = wq at *
          iterate 8 (
            refine ord_read ?_ (fun wd hS M hM => ?_) ?_ ?_
            rotate_left
            · have HM := Lib.hid hM
              have x1 : wd.cell? ⟨wb, 1, none⟩ = some (.func (.func fg) #[] cs) := hS.cell 1
              clear hM hS
              repeat (first | go_values | go_skip | go_guarded | go_step | go_upon)
              exact HM.out
            · rfl)
          refine ord_alone (fun M hM => ?_)
          have HM := Lib.hid hM
          clear hM
          have hrun := HW.out.run
          repeat (first | go_values | go_skip | go_guarded | go_step | go_upon)
          have hbk := HW.out.e.below _ _ HRD.out
          refine (HW.out.call _ _ b (o + i * 7) l[i] (ev i) (bv i) (lv i) d HRD.out HCD.out ((HE.out i hlt).keep hbk) ((HB.out i hlt).keep hbk) ((HL.out i hlt).keep hbk) HBB.out (HOK.out i hlt) h0 (by omega)).mono ?_
          clear hbk
          rintro en w4 ⟨rfl, hI4, ht4⟩
          have HI4 := Lib.hid hI4
          have HT4 := Lib.hid (HTD.out.trans ht4 (fun _ _ h => h))
          clear ht4
          have HC4 := Lib.hid (HC.out.keep (HW.out.e.below _ _ hI4) HBB.out)
          clear hI4
          dsimp only
          repeat (first | go_values | go_skip | go_guarded | go_step | go_upon)
          refine HM.out _ _ (HW.out.e.box _ _ HI4.out) ?_
          clear HM M
          refine NoPanic.normal (?_ : _)
          have x3 := HC4.out.2.2.2.1
          clear hrun
          go_wp2_with fail
          refine (w_exprs HW.out.e (HE.out i hlt) (d + 1) _ w4 HI4.out (by omega) (by omega)).mono ?_
          rintro en w5 ⟨rfl, hI5, ht5⟩
          have HT5 := Lib.hid (HT4.out.trans ht5 (fun _ _ h => h))
          clear ht5
          have HI5 := Lib.hid hI5
          have HC5 := Lib.hid (HC.out.keep (HW.out.e.below _ _ hI5) HBB.out)
          clear hI5 x3
          have x4 := HC5.out.2.2.2.2.1
          go_wp2_with fail
          refine (IH1.out i hlt (d + 1) _ w5 HI5.out (by omega) (by omega)).mono ?_
          rintro en w6 ⟨rfl, hI6, ht6⟩
          have HT6 := Lib.hid (HT5.out.trans ht6 (fun _ _ h => h))
          clear ht6
          have HI6 := Lib.hid hI6
          have HC6 := Lib.hid (HC.out.keep (HW.out.e.below _ _ hI6) HBB.out)
          clear hI6 x4
          have x5 := HC6.out.2.2.2.2.2.1
          go_wp2_with fail
          refine (IH2.out i hlt (d + 1) _ w6 HI6.out (by omega) (by omega)).mono ?_
          rintro en w7 ⟨rfl, hI7, ht7⟩
          have HT7 := Lib.hid (HT6.out.trans ht7 (fun _ _ h => h))
          clear ht7
          have HI7 : Hid (I (foldSs se ss most (l.take (i + 1)) d a) w7) := by
            unfold Hid
            rw [foldSs_take _ _ _ (by omega) l i hlt, foldS_eq]
            exact hI7
          clear hI7 x5
          go_wp2_with fail
          go_roundw
          case rel => exact ⟨i + 1, by go_num, by omega, HI7.out, HT7.out⟩
          case measure => simp [intOf]; omega
      · rw [List.take_of_length_le (by omega)] at HR
        go_wp2_with fail
        go_end0
        exact ⟨rfl, HR.out, HT.out⟩
end Go.Proofs.YtmapjahpjolmnaaDoor
