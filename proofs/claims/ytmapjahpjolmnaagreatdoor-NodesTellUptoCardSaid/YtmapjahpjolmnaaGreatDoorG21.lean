/- Trees, plain: how many, how deep, without a limit; parts of a right program are right. -/
import Derived.Test.YtmapjahpjolmnaaGreatDoorG20
import Derived.Test.YtmapjahpjolmnaaGreatDoorRows
import Derived.Test.YtmapjahpjolmnaaGreatDoorProg
import Derived.Deep.Slices
import Derived.OpenShut
import Derived.SliceStrings
import Derived.WideShapes
set_option linter.unusedVariables false
set_option linter.unusedSimpArgs false
namespace Go.Proofs.YtmapjahpjolmnaaGreatDoor
open Go.RowKit
namespace Tr
mutual
def numE : XE → Nat
  | .mk _ _ _ l => numEs l + 1
def numEs : List XE → Nat
  | [] => 0
  | e :: r => numE e + numEs r
end
mutual
def depE : XE → Nat
  | .mk _ _ _ l => depEs l + 1
def depEs : List XE → Nat
  | [] => 0
  | e :: r => max (depE e) (depEs r)
end
mutual
def numS : XS → Nat
  | .mk _ _ _ l b o _ => numEs l + numSs b + numSs o + 1
def numSs : List XS → Nat
  | [] => 0
  | e :: r => numS e + numSs r
end
mutual
def depS : XS → Nat
  | .mk _ _ _ l b o _ => max (depEs l) (max (depSs b) (depSs o)) + 1
def depSs : List XS → Nat
  | [] => 0
  | e :: r => max (depS e) (depSs r)
end
theorem numE_eq (e : XE) : numE e = numEs e.kids + 1 := by cases e; rw [numE]; rfl
theorem depE_eq (e : XE) : depE e = depEs e.kids + 1 := by cases e; rw [depE]; rfl
theorem numS_eq (e : XS) : numS e = numEs e.exprs + numSs e.body + numSs e.els + 1 := by cases e; rw [numS]; rfl
theorem depS_eq (e : XS) : depS e = max (depEs e.exprs) (max (depSs e.body) (depSs e.els)) + 1 := by cases e; rw [depS]; rfl
theorem numEs_nil : numEs [] = 0 := by rw [numEs]
theorem numEs_cons (e : XE) (r : List XE) : numEs (e :: r) = numE e + numEs r := by rw [numEs]
theorem depEs_nil : depEs [] = 0 := by rw [depEs]
theorem depEs_cons (e : XE) (r : List XE) : depEs (e :: r) = max (depE e) (depEs r) := by rw [depEs]
theorem numSs_nil : numSs [] = 0 := by rw [numSs]
theorem numSs_cons (e : XS) (r : List XS) : numSs (e :: r) = numS e + numSs r := by rw [numSs]
theorem depSs_nil : depSs [] = 0 := by rw [depSs]
theorem depSs_cons (e : XS) (r : List XS) : depSs (e :: r) = max (depS e) (depSs r) := by rw [depSs]
mutual
theorem sizeE_num : ∀ (e : XE) (m : Int), (depEs e.kids : Int) ≤ m → sizeE e m = ((numEs e.kids : Int), (depEs e.kids : Int))
  | .mk k s n l, m, h => by rw [sizeE_eq]; exact sizeEs_num l m h
theorem sizeEs_num : ∀ (l : List XE) (m : Int), (depEs l : Int) ≤ m → sizeEs l m = ((numEs l : Int), (depEs l : Int))
  | [], m, _ => by rw [sizeEs_nil, numEs_nil, depEs_nil]; rfl
  | e :: r, m, h => by
    rw [depEs_cons, depE_eq] at h
    rw [sizeEs_cons, if_neg (by omega), sizeE_num e (m - 1) (by omega), sizeEs_num r m (by omega), numEs_cons, numE_eq, depEs_cons, depE_eq]
    refine Prod.ext ?_ ?_
    · simp only; omega
    · simp only; omega
end
mutual
theorem sizeE_dep : ∀ (e : XE) (m : Int), 0 ≤ m → (sizeE e m).2 = min (depEs e.kids : Int) m
  | .mk k s n l, m, h => by rw [sizeE_eq]; exact sizeEs_dep l m h
theorem sizeEs_dep : ∀ (l : List XE) (m : Int), 0 ≤ m → (sizeEs l m).2 = min (depEs l : Int) m
  | [], m, h => by rw [sizeEs_nil, depEs_nil]; simp only; omega
  | e :: r, m, h => by
    rw [sizeEs_cons, depEs_cons, depE_eq]
    split
    · simp only; omega
    · have h1 := sizeE_dep e (m - 1) (by omega)
      have h2 := sizeEs_dep r m h
      simp only
      omega
end
mutual
theorem sizeS_num : ∀ (e : XS) (m : Int), ((depS e : Int)) ≤ m + 1 → sizeS e m = (((numS e : Int) - 1), (depS e : Int) - 1)
  | .mk k s n l b o ln, m, h => by
    rw [depS_eq] at h
    have h' : ((max (depEs l) (max (depSs b) (depSs o)) + 1 : Nat) : Int) ≤ m + 1 := h
    rw [sizeS_eq, numS_eq, depS_eq]
    show ((sizeEs l m).1 + (sizeSs b m).1 + (sizeSs o m).1, max (sizeEs l m).2 (max (sizeSs b m).2 (sizeSs o m).2)) = (((numEs l + numSs b + numSs o + 1 : Nat) : Int) - 1, ((max (depEs l) (max (depSs b) (depSs o)) + 1 : Nat) : Int) - 1)
    rw [sizeEs_num l m (by omega), sizeSs_num b m (by omega), sizeSs_num o m (by omega)]
    refine Prod.ext ?_ ?_
    · simp only; omega
    · simp only; omega
theorem sizeSs_num : ∀ (l : List XS) (m : Int), (depSs l : Int) ≤ m → sizeSs l m = ((numSs l : Int), (depSs l : Int))
  | [], m, _ => by rw [sizeSs_nil, numSs_nil, depSs_nil]; rfl
  | e :: r, m, h => by
    rw [depSs_cons] at h
    have hd : 1 ≤ depS e := by rw [depS_eq]; omega
    have hn : 1 ≤ numS e := by rw [numS_eq]; omega
    rw [sizeSs_cons, if_neg (by omega), sizeS_num e (m - 1) (by omega), sizeSs_num r m (by omega), numSs_cons, depSs_cons]
    refine Prod.ext ?_ ?_
    · simp only; omega
    · simp only; omega
end
mutual
theorem sizeS_dep : ∀ (e : XS) (m : Int), 0 ≤ m → (sizeS e m).2 = min ((depS e : Int) - 1) m
  | .mk k s n l b o ln, m, h => by
    rw [sizeS_eq, depS_eq]
    have h1 := sizeEs_dep l m h
    have h2 := sizeSs_dep b m h
    have h3 := sizeSs_dep o m h
    show max (sizeEs l m).2 (max (sizeSs b m).2 (sizeSs o m).2) = min (((max (depEs l) (max (depSs b) (depSs o)) + 1 : Nat) : Int) - 1) m
    omega
theorem sizeSs_dep : ∀ (l : List XS) (m : Int), 0 ≤ m → (sizeSs l m).2 = min (depSs l : Int) m
  | [], m, h => by rw [sizeSs_nil, depSs_nil]; simp only; omega
  | e :: r, m, h => by
    have hd : 1 ≤ depS e := by rw [depS_eq]; omega
    rw [sizeSs_cons, depSs_cons]
    split
    · simp only; omega
    · have h1 := sizeS_dep e (m - 1) (by omega)
      have h2 := sizeSs_dep r m h
      simp only
      omega
end
def numI (x : XI) : Nat := numEs x.exprs + numSs x.body
def numP (l : List XI) : Nat := (l.map numI).sum
theorem foldI_num : ∀ (l : List XI) (a : Int × Int), (∀ x ∈ l, depEs x.exprs ≤ 61 ∧ depSs x.body ≤ 61) → (l.foldl sizeI a).1 = a.1 + numP l
  | [], a, _ => by simp [numP]
  | x :: l, a, h => by
    have h1 := h x (List.mem_cons_self ..)
    rw [List.foldl_cons, foldI_num l _ (fun y hy => h y (List.mem_cons_of_mem _ hy))]
    unfold sizeI numP
    rw [sizeEs_num x.exprs 61 (by omega), sizeSs_num x.body 61 (by omega), List.map_cons, List.sum_cons]
    simp only [numI]
    omega
theorem foldI_dep : ∀ (l : List XI) (a : Int × Int) (B : Int), a.2 ≤ B → (∀ x ∈ l, (sizeEs x.exprs 61).2 ≤ B ∧ (sizeSs x.body 61).2 ≤ B) → (l.foldl sizeI a).2 ≤ B
  | [], a, B, h, _ => h
  | x :: l, a, B, h, hx => by
    have h1 := hx x (List.mem_cons_self ..)
    rw [List.foldl_cons]
    refine foldI_dep l _ B ?_ (fun y hy => hx y (List.mem_cons_of_mem _ hy))
    unfold sizeI
    simp only
    omega
/-- Within the limits, told without levels. -/
theorem fit_iff (l : List XI) : ((sizeP l).1 ≤ 4000 ∧ (sizeP l).2 ≤ 60) ↔ (numP l ≤ 4000 ∧ ∀ x ∈ l, depEs x.exprs ≤ 60 ∧ depSs x.body ≤ 60) := by
  constructor
  · rintro ⟨h1, h2⟩
    have hd : ∀ x ∈ l, depEs x.exprs ≤ 60 ∧ depSs x.body ≤ 60 := fun x hx => by
      have h3 := sizeP_le hx
      rw [sizeEs_dep _ _ (by decide), sizeSs_dep _ _ (by decide)] at h3
      omega
    have h4 := foldI_num l (0, 0) (fun x hx => by have := hd x hx; omega)
    refine ⟨?_, hd⟩
    have h5 : (sizeP l).1 = (0 : Int) + numP l := h4
    omega
  · rintro ⟨h1, hd⟩
    have h4 := foldI_num l (0, 0) (fun x hx => by have := hd x hx; omega)
    have h5 : (sizeP l).1 = (0 : Int) + numP l := h4
    refine ⟨by omega, foldI_dep l (0, 0) 60 (by decide) (fun x hx => ?_)⟩
    have h6 := hd x hx
    rw [sizeEs_dep _ _ (by decide), sizeSs_dep _ _ (by decide)]
    omega
theorem numI_le {l : List XI} {x : XI} (h : x ∈ l) : numI x ≤ numP l := by
  unfold numP
  induction l with
  | nil => cases h
  | cons y l ih =>
    rw [List.map_cons, List.sum_cons]
    rcases List.mem_cons.1 h with rfl | h
    · omega
    · have := ih h; omega
section
variable (nm : ByteArray → Bool) (al : XE → Bool)
theorem right_iff (l : List XI) : rightB nm al l = true ↔ (numP l ≤ 4000 ∧ ∀ x ∈ l, depEs x.exprs ≤ 60 ∧ depSs x.body ≤ 60) ∧ ∀ x ∈ l, itemB nm x = true ∧ insideB nm al x = true := by
  unfold rightB
  rw [Bool.and_eq_true, decide_eq_true_eq, fit_iff, List.all_eq_true]
  simp only [Bool.and_eq_true]
theorem right_item {l : List XI} {x : XI} (h : rightB nm al l = true) (hx : x ∈ l) : rightB nm al [x] = true := by
  rw [right_iff] at h ⊢
  obtain ⟨⟨h1, h2⟩, h3⟩ := h
  have h4 := numI_le hx
  refine ⟨⟨?_, fun y hy => ?_⟩, fun y hy => ?_⟩
  · simp only [numP, List.map_cons, List.map_nil, List.sum_cons, List.sum_nil]
    omega
  · rw [List.mem_singleton.1 hy]; exact h2 x hx
  · rw [List.mem_singleton.1 hy]; exact h3 x hx
theorem numP_take (l : List XI) : ∀ n, numP (l.take n) ≤ numP l := by
  induction l with
  | nil => intro n; simp
  | cons y l ih =>
    intro n
    cases n with
    | zero => simp [numP]
    | succ n =>
      have := ih n
      rw [List.take_succ_cons]
      simp only [numP, List.map_cons, List.sum_cons] at this ⊢
      omega
theorem right_take {l : List XI} (h : rightB nm al l = true) (n : Nat) : rightB nm al (l.take n) = true := by
  rw [right_iff] at h ⊢
  obtain ⟨⟨h1, h2⟩, h3⟩ := h
  exact ⟨⟨Nat.le_trans (numP_take l n) h1, fun x hx => h2 x (List.mem_of_mem_take hx)⟩, fun x hx => h3 x (List.mem_of_mem_take hx)⟩
mutual
theorem exprR_mono : ∀ (e : XE) (m m' : Int), m ≤ m' → exprR al e m = true → exprR al e m' = true
  | .mk k s n l, m, m', h, hr => by
    rw [exprR_eq] at hr ⊢
    split at hr
    · cases hr
    · rw [if_neg (by omega)]
      rw [Bool.and_eq_true] at hr ⊢
      exact ⟨hr.1, exprsR_mono l (m - 1) (m' - 1) (by omega) hr.2⟩
theorem exprsR_mono : ∀ (l : List XE) (m m' : Int), m ≤ m' → exprsR al l m = true → exprsR al l m' = true
  | [], m, m', _, _ => by rw [exprsR_nil]
  | e :: r, m, m', h, hr => by
    rw [exprsR_cons, Bool.and_eq_true] at hr ⊢
    exact ⟨exprR_mono e m m' h hr.1, exprsR_mono r m m' h hr.2⟩
end
mutual
theorem stmtR_mono : ∀ (e : XS) (m m' : Int), m ≤ m' → stmtR al (shapeB nm) e m = true → stmtR al (shapeB nm) e m' = true
  | .mk k s n l b o ln, m, m', h, hr => by
    rw [stmtR_eq] at hr ⊢
    simp only [Bool.and_eq_true] at hr ⊢
    exact ⟨hr.1, exprsR_mono al l (m - 1) (m' - 1) (by omega) hr.2.1, stmtsR_mono b (m - 1) (m' - 1) (by omega) hr.2.2.1, stmtsR_mono o (m - 1) (m' - 1) (by omega) hr.2.2.2⟩
theorem stmtsR_mono : ∀ (l : List XS) (m m' : Int), m ≤ m' → stmtsR al (shapeB nm) l m = true → stmtsR al (shapeB nm) l m' = true
  | [], m, m', _, _ => by rw [stmtsR_nil]
  | e :: r, m, m', h, hr => by
    rw [stmtsR_cons] at hr ⊢
    split at hr
    · cases hr
    · rw [if_neg (by omega)]
      rw [Bool.and_eq_true] at hr ⊢
      exact ⟨stmtR_mono e m m' h hr.1, stmtsR_mono r m m' h hr.2⟩
end
/-- What the law's 'exprs' asks. -/
inductive ExprsA : List XE → Prop
  | mk {l : List XE} (h : ∀ e ∈ l, exprR al e 60 = true) (h2 : ∀ e ∈ l, ExprsA e.kids) : ExprsA l
/-- A statement in a program of its own. -/
def oneS (s : XS) : List XI := [⟨2, e0, [], [], false, [s], 0⟩]
inductive WithinA : List XS → Prop
  | mk {l : List XS} (h : ∀ s ∈ l, rightB nm al (oneS s) = true) (h2 : ∀ s ∈ l, ExprsA al s.exprs) (h3 : ∀ s ∈ l, WithinA s.body) (h4 : ∀ s ∈ l, WithinA s.els) : WithinA l
theorem ExprsA.at {l : List XE} (h : ExprsA al l) {e : XE} (he : e ∈ l) : exprR al e 60 = true ∧ ExprsA al e.kids := by
  cases h with
  | mk h h2 => exact ⟨h e he, h2 e he⟩
theorem WithinA.at {l : List XS} (h : WithinA nm al l) {s : XS} (hs : s ∈ l) : rightB nm al (oneS s) = true ∧ ExprsA al s.exprs ∧ WithinA nm al s.body ∧ WithinA nm al s.els := by
  cases h with
  | mk h h2 h3 h4 => exact ⟨h s hs, h2 s hs, h3 s hs, h4 s hs⟩
theorem exprsR_mem {l : List XE} {m : Int} (h : exprsR al l m = true) {e : XE} (he : e ∈ l) : exprR al e m = true := by
  induction l with
  | nil => cases he
  | cons x r ih =>
    rw [exprsR_cons, Bool.and_eq_true] at h
    rcases List.mem_cons.1 he with rfl | he
    · exact h.1
    · exact ih h.2 he
theorem stmtsR_mem {l : List XS} {m : Int} (h : stmtsR al (shapeB nm) l m = true) {e : XS} (he : e ∈ l) : 1 ≤ m ∧ stmtR al (shapeB nm) e m = true := by
  induction l with
  | nil => cases he
  | cons x r ih =>
    rw [stmtsR_cons] at h
    split at h
    · cases h
    · rw [Bool.and_eq_true] at h
      rcases List.mem_cons.1 he with rfl | he
      · exact ⟨by omega, h.1⟩
      · exact ih h.2 he
mutual
theorem exprA_of : ∀ (e : XE) (m : Int), m ≤ 60 → exprR al e m = true → exprR al e 60 = true ∧ ExprsA al e.kids
  | .mk k s n l, m, hm, h => by
    refine ⟨exprR_mono al _ _ _ hm h, ?_⟩
    rw [exprR_eq] at h
    by_cases hm1 : m < 1
    · rw [if_pos hm1] at h; cases h
    · rw [if_neg hm1, Bool.and_eq_true] at h
      exact exprsA_of l (m - 1) (by omega) h.2
theorem exprsA_of : ∀ (l : List XE) (m : Int), m ≤ 60 → exprsR al l m = true → ExprsA al l
  | [], m, _, _ => .mk (fun e he => by cases he) (fun e he => by cases he)
  | e :: r, m, hm, h => by
    rw [exprsR_cons, Bool.and_eq_true] at h
    have h1 := exprA_of e m hm h.1
    have h2 := exprsA_of r m hm h.2
    have hh : ∀ x ∈ e :: r, exprR al x 60 = true ∧ ExprsA al x.kids := fun x hx => by
      rcases List.mem_cons.1 hx with rfl | hx
      · exact h1
      · exact ExprsA.at al h2 hx
    exact .mk (fun x hx => (hh x hx).1) (fun x hx => (hh x hx).2)
end
theorem one_right {s : XS} {m : Int} (hm : m ≤ 60) (h1 : 1 ≤ m) (h : stmtR al (shapeB nm) s m = true) (hd : depS s ≤ 60) (hn : numS s ≤ 4000) : rightB nm al (oneS s) = true := by
  rw [right_iff]
  unfold oneS
  refine ⟨⟨?_, fun x hx => ?_⟩, fun x hx => ?_⟩
  · simp only [numP, numI, List.map_cons, List.map_nil, List.sum_cons, List.sum_nil, numEs_nil, numSs_cons, numSs_nil]
    omega
  · rw [List.mem_singleton.1 hx]
    simp only [depEs_nil, depSs_cons, depSs_nil]
    omega
  · rw [List.mem_singleton.1 hx]
    refine ⟨rfl, ?_⟩
    unfold insideB
    simp only [exprsR_nil, stmtsR_cons, stmtsR_nil, Bool.true_and, Bool.and_true]
    rw [if_neg (by decide)]
    exact stmtR_mono nm al s m 60 hm h
mutual
theorem stmtA_of : ∀ (s : XS) (m : Int), m ≤ 60 → 1 ≤ m → stmtR al (shapeB nm) s m = true → depS s ≤ 60 → numS s ≤ 4000 → rightB nm al (oneS s) = true ∧ ExprsA al s.exprs ∧ WithinA nm al s.body ∧ WithinA nm al s.els
  | .mk k s n l b o ln, m, hm, h1, h, hd, hn => by
    refine ⟨one_right nm al hm h1 h hd hn, ?_⟩
    rw [stmtR_eq] at h
    simp only [Bool.and_eq_true] at h
    rw [depS_eq] at hd
    rw [numS_eq] at hn
    have hd' : max (depEs l) (max (depSs b) (depSs o)) + 1 ≤ 60 := hd
    have hn' : numEs l + numSs b + numSs o + 1 ≤ 4000 := hn
    exact ⟨exprsA_of al l (m - 1) (by omega) h.2.1, withinA_of b (m - 1) (by omega) h.2.2.1 (by omega) (by omega), withinA_of o (m - 1) (by omega) h.2.2.2 (by omega) (by omega)⟩
theorem withinA_of : ∀ (l : List XS) (m : Int), m ≤ 60 → stmtsR al (shapeB nm) l m = true → depSs l ≤ 60 → numSs l ≤ 4000 → WithinA nm al l
  | [], m, _, _, _, _ => .mk (fun e he => by cases he) (fun e he => by cases he) (fun e he => by cases he) (fun e he => by cases he)
  | e :: r, m, hm, h, hd, hn => by
    rw [stmtsR_cons] at h
    rw [depSs_cons] at hd
    rw [numSs_cons] at hn
    split at h
    · cases h
    · rw [Bool.and_eq_true] at h
      have h1 := stmtA_of e m hm (by omega) h.1 (by omega) (by omega)
      have h2 := withinA_of r m hm h.2 (by omega) (by omega)
      have hh : ∀ x ∈ e :: r, rightB nm al (oneS x) = true ∧ ExprsA al x.exprs ∧ WithinA nm al x.body ∧ WithinA nm al x.els := fun x hx => by
        rcases List.mem_cons.1 hx with rfl | hx
        · exact h1
        · exact WithinA.at nm al h2 hx
      exact .mk (fun x hx => (hh x hx).1) (fun x hx => (hh x hx).2.1) (fun x hx => (hh x hx).2.2.1) (fun x hx => (hh x hx).2.2.2)
end
/-- All parts of a right program's item. -/
theorem item_parts {l : List XI} {x : XI} (h : rightB nm al l = true) (hx : x ∈ l) : ExprsA al x.exprs ∧ WithinA nm al x.body := by
  rw [right_iff] at h
  obtain ⟨⟨h1, h2⟩, h3⟩ := h
  have h4 := numI_le hx
  unfold numI at h4
  have h5 := (h3 x hx).2
  unfold insideB at h5
  rw [Bool.and_eq_true] at h5
  exact ⟨exprsA_of al _ 60 (Int.le_refl _) h5.1, withinA_of nm al _ 60 (Int.le_refl _) h5.2 (h2 x hx).2 (by omega)⟩
end
end Tr
end Go.Proofs.YtmapjahpjolmnaaGreatDoor
namespace Go.Proofs.YtmapjahpjolmnaaGreatDoor
open Go.RowKit Go.ChangeShapes Go.WideShapes Go.Deep Tr
set_option maxRecDepth 100000
theorem bulk_one {H : Type} (d : DataW H) : 1 ≤ Rows.uptoBulk d := by
  cases d with
  | lit l => cases l <;> simp [Rows.uptoBulk]
  | nil => simp [Rows.uptoBulk]
  | ptr d => simp [Rows.uptoBulk]
  | slice elems spare => simp [Rows.uptoBulk]
  | agg parts => simp [Rows.uptoBulk]
  | iface t d => simp [Rows.uptoBulk]
  | map entries => simp [Rows.uptoBulk]
  | held h => simp [Rows.uptoBulk]
theorem bulk_part {H : Type} {d : DataW H} {l : List (DataW H)} (h : d ∈ l) : Rows.uptoBulk d ≤ Rows.uptoBulkAll l := by
  induction l with
  | nil => cases h
  | cons x r ih =>
    simp only [Rows.uptoBulkAll]
    cases List.mem_cons.1 h with
    | inl e => subst e; omega
    | inr e => have := ih e; omega
theorem bulk_sum {H R : Type} (μ : R → Nat) (D : R → DataW H → Prop) (hD : ∀ r d, D r d → μ r ≤ Rows.uptoBulk d) : ∀ (rs : List R) (ds : List (DataW H)), rs.length = ds.length → (∀ i (h : i < rs.length) (h2 : i < ds.length), D rs[i] ds[i]) → (rs.map μ).sum ≤ Rows.uptoBulkAll ds
  | [], [], _, _ => by simp [Rows.uptoBulkAll]
  | [], _ :: _, h, _ => by simp at h
  | _ :: _, [], h, _ => by simp at h
  | r :: rs, d :: ds, h, hh => by
    have h1 := hD r d (hh 0 (Nat.succ_pos _) (Nat.succ_pos _))
    have h2 := bulk_sum μ D hD rs ds (by simpa using h) (fun i hi hj => by have := hh (i + 1) (Nat.succ_lt_succ hi) (Nat.succ_lt_succ hj); simpa using this)
    rw [List.map_cons, List.sum_cons]
    simp only [Rows.uptoBulkAll]
    omega
theorem add_offT (b o i : Nat) : (⟨b, o, none⟩ : Addr).add i = ⟨b, o + i, none⟩ := by unfold Addr.add; split <;> simp_all
section
variable {H : Type} {enc : TypeId × Value → H} {w : World} {spare : Nat → Bool} {held : Bool}
theorem lt_of_cellT {b o : Nat} {v : Value} (h : w.cell? ⟨b, o, none⟩ = some v) : b < w.heap.size := by
  by_cases hb : b < w.heap.size
  · exact hb
  · simp [World.cell?, Array.getElem?_eq_none (Nat.le_of_not_lt hb)] at h
theorem pick_list {R : Type} {p : Nat → R → Prop} : ∀ {len : Nat}, (∀ i, i < len → ∃ r, p i r) → ∃ rs : List R, rs.length = len ∧ ∀ i (hi : i < rs.length), p i rs[i]
  | 0, _ => ⟨[], rfl, fun i hi => absurd hi (Nat.not_lt_zero i)⟩
  | len + 1, h => by
    obtain ⟨rs, h1, h2⟩ := pick_list (len := len) (fun i hi => h i (by omega))
    obtain ⟨r, hr⟩ := h len (by omega)
    refine ⟨rs ++ [r], by simp [h1], fun i hi => ?_⟩
    rw [List.getElem_append]
    split
    · exact h2 i _
    · rename_i hn
      have : i = len := by simp at hi; omega
      subst this
      simpa using hr
/-- A slice, opened: something about each element. -/
theorem t_each {fuel : Nat} {cs : List Value} {x : DataW H × List MemPlace} {t e : TypeId} {R : Type} (sz : Nat) (hz : 0 < sz) (vals : R → List Value) (hvl : ∀ r, (vals r).length = sz) (ok : R → Prop) (μ : R → Nat) (hu : Tryz.prog.underlying t = some (.slice e)) (hc : Tryz.prog.cellsOf e = sz)
    (each0 : ∀ n, n < fuel → ∀ (cs : List Value) (x : DataW H × List MemPlace), DataW.trod enc Tryz.prog w 0 spare held n e cs = some x → ∃ r, (ok r ∧ μ r ≤ Rows.uptoBulk x.1) ∧ cs = vals r)
    (h : DataW.trod enc Tryz.prog w 0 spare held fuel t cs = some x) : ∃ A cap, ∃ rs : List R, cs = [.slice A rs.length cap] ∧ rs.length ≤ cap ∧ cap ≤ maxLen ∧ (rs.map μ).sum + 1 ≤ Rows.uptoBulk x.1 ∧ (∀ i (h : i < rs.length), ok rs[i]) ∧
      (0 < rs.length → ∃ b o, A = some ⟨b, o, none⟩ ∧ b < w.heap.size ∧ ∀ i (h : i < rs.length) j, j < sz → w.cell? ⟨b, o + i * sz + j, none⟩ = (vals rs[i])[j]?) := by
  rcases DataW.trod_slice hu h with ⟨hcs, hx⟩ | ⟨a, len, cap, elems, rest, n, hn, hcs, hx, hb, hl, hm, hlen, hel, -, -⟩
  · exact ⟨none, 0, [], hcs, Nat.le_refl _, Nat.zero_le _, (by rw [hx]; simp [Rows.uptoBulk]), (fun i h => absurd h (Nat.not_lt_zero i)), fun h => absurd h (Nat.lt_irrefl 0)⟩
  · have each : ∀ i, i < len → ∃ r : R, (ok r ∧ ∀ (h2 : i < elems.length), μ r ≤ Rows.uptoBulk elems[i].1) ∧ w.cells? 0 (a.add (i * sz)) sz = some (vals r) := fun i hi => by
      have h1 := hel i hi
      rw [hc, List.getElem?_eq_getElem (by omega : i < elems.length)] at h1
      obtain ⟨cs', h2, h3⟩ := Option.bind_eq_some_iff.1 h1
      obtain ⟨r, h4, rfl⟩ := each0 n (by omega) _ _ h3
      exact ⟨r, ⟨h4.1, fun _ => h4.2⟩, h2⟩
    obtain ⟨rs, hln, hsp⟩ := pick_list each
    refine ⟨some a, cap, rs, by rw [hln]; exact hcs, by omega, hm, ?_, fun i h => (hsp i h).1.1, fun h0 => ?_⟩
    · rw [hx]
      have hsum := bulk_sum μ (fun r d => μ r ≤ Rows.uptoBulk d) (fun r d h => h) rs (elems.map (·.1)) (by rw [List.length_map]; omega) (fun i hi hj => by rw [List.getElem_map]; exact (hsp i hi).1.2 (by omega))
      simp only [Rows.uptoBulk]
      omega
    · obtain ⟨b, o, s⟩ := a
      have h1 := (World.cells?_some (hsp 0 (by omega)).2).2.2 0 hz
      have hv0 : ∃ v, (vals rs[0])[0]? = some v := ⟨_, List.getElem?_eq_getElem (by rw [hvl]; exact hz)⟩
      obtain ⟨v0, hv0⟩ := hv0
      rw [hv0] at h1
      have hs : s = none := by simpa [Addr.add] using World.cell?_spot h1
      subst hs
      have hlt : b < w.heap.size := by
        simp only [Nat.zero_mul, add_offT, Nat.add_zero] at h1
        exact lt_of_cellT h1
      refine ⟨b, o, rfl, hlt, fun i hi j hj => ?_⟩
      have h2 := (World.cells?_some (hsp i hi).2).2.2 j hj
      rw [add_offT, add_offT] at h2
      exact h2
theorem numEs_sum : ∀ l : List XE, numEs l = (l.map numE).sum
  | [] => by rw [numEs_nil]; rfl
  | e :: r => by rw [numEs_cons, numEs_sum r, List.map_cons, List.sum_cons]
theorem numSs_sum : ∀ l : List XS, numSs l = (l.map numS).sum
  | [] => by rw [numSs_nil]; rfl
  | e :: r => by rw [numSs_cons, numSs_sum r, List.map_cons, List.sum_cons]
def kv2 {R : Type} (rs : List R) (f : R → Value) (i : Nat) : Value := match rs[i]? with
  | some r => f r
  | none => .tuple #[]
theorem kv2_at {R : Type} {rs : List R} {f : R → Value} {i : Nat} (h : i < rs.length) : kv2 rs f i = f rs[i] := by
  unfold kv2
  rw [List.getElem?_eq_getElem h]
theorem t_texts {fuel : Nat} {cs : List Value} {x : DataW H × List MemPlace} (h : DataW.trod enc Tryz.prog w 0 spare held fuel 42 cs = some x) : ∃ l v, cs = [v] ∧ TsAt w w.heap.size l v ∧ ∀ p ∈ l, p.size ≤ maxLen := by
  obtain ⟨A, cap, rs, hcs, hl, hm, hsum, hok, hat⟩ := t_each (R := ByteArray) 1 (by decide) (fun r => [.string r]) (fun _ => rfl) (fun r => r.size ≤ maxLen) (fun _ => 0) Tryz.underlying42 (by kernel_rfl) (fun n _ cs x h => by
    obtain ⟨s, a, -, h1⟩ := DataW.trod_string Tryz.underlying9 h
    exact ⟨s, ⟨h1, Nat.zero_le _⟩, a⟩) h
  refine ⟨rs, _, hcs, ⟨A, cap, rfl, hl, hm, fun h0 => ?_⟩, fun p hp => ?_⟩
  · obtain ⟨b, o, e1, e2, e3⟩ := hat h0
    refine ⟨b, o, e1, e2, fun i hi => ?_⟩
    have := e3 i hi 0 (by decide)
    rw [Nat.mul_one, Nat.add_zero] at this
    exact this
  · obtain ⟨i, hi, rfl⟩ := List.getElem_of_mem hp
    exact hok i hi
/-- Four cells of an expression, opened. -/
theorem t_exprG {fuel : Nat} {cs : List Value} {x : DataW H × List MemPlace} (ih : ∀ n, n < fuel → ∀ (cs : List Value) (x : DataW H × List MemPlace), DataW.trod enc Tryz.prog w 0 spare held n 27 cs = some x → ∃ l v, cs = [v] ∧ EsAt w w.heap.size l v ∧ numEs l ≤ Rows.uptoBulk x.1)
    (h : DataW.trod enc Tryz.prog w 0 spare held fuel 29 cs = some x) : ∃ r : XE × Value, ((r.1.Ok ∧ EsAt w w.heap.size r.1.kids r.2) ∧ numE r.1 ≤ Rows.uptoBulk x.1) ∧ cs = [.int .u8 r.1.k, .string r.1.s, .int .u64 r.1.n, r.2] := by
  obtain ⟨ys, n, hn, hy, hlen, hyl, hf⟩ := DataW.trod_struct Tryz.underlying29 h
  have hc5 : Tryz.prog.cellsOf 29 = 4 := by kernel_rfl
  rw [hc5] at hlen
  have k0 : Tryz.prog.cellsOf 25 = 1 := by kernel_rfl
  have k1 : Tryz.prog.cellsOf 9 = 1 := by kernel_rfl
  have k2 : Tryz.prog.cellsOf 26 = 1 := by kernel_rfl
  have k3 : Tryz.prog.cellsOf 27 = 1 := by kernel_rfl
  match cs, hlen, ys, hyl with
  | [v0, v1, v2, v3], _, [y0, y1, y2, y3], _ =>
    have e0 : DataW.trod enc Tryz.prog w 0 spare held n 25 (([v0, v1, v2, v3].drop 0).take (Tryz.prog.cellsOf 25)) = some y0 := hf 0 _ rfl
    have e1 : DataW.trod enc Tryz.prog w 0 spare held n 9 (([v0, v1, v2, v3].drop 1).take (Tryz.prog.cellsOf 9)) = some y1 := hf 1 _ rfl
    have e2 : DataW.trod enc Tryz.prog w 0 spare held n 26 (([v0, v1, v2, v3].drop 2).take (Tryz.prog.cellsOf 26)) = some y2 := hf 2 _ rfl
    have e3 : DataW.trod enc Tryz.prog w 0 spare held n 27 (([v0, v1, v2, v3].drop 3).take (Tryz.prog.cellsOf 27)) = some y3 := hf 3 _ rfl
    rw [k0] at e0
    rw [k1] at e1
    rw [k2] at e2
    rw [k3] at e3
    obtain ⟨m0, a0, -, h0⟩ := DataW.trod_int Tryz.underlying25 e0
    obtain ⟨m1, a1, -, h1⟩ := DataW.trod_string Tryz.underlying9 e1
    obtain ⟨m2, a2, -, h2⟩ := DataW.trod_int Tryz.underlying26 e2
    obtain ⟨l, v, a3, h3, h4⟩ := ih n (by omega) _ _ e3
    simp at a0 a1 a2 a3
    subst a0 a1 a2 a3
    refine ⟨(.mk m0 m1 m2 l, v3), ⟨⟨⟨h0, h1, h2⟩, h3⟩, ?_⟩, rfl⟩
    have hb0 := bulk_one y0.1
    have hb1 := bulk_one y1.1
    rw [numE_eq, hy]
    show numEs l + 1 ≤ Rows.uptoBulk (.agg ([y0, y1, y2, y3].map (·.1)))
    simp only [List.map_cons, List.map_nil, Rows.uptoBulk, Rows.uptoBulkAll]
    omega
theorem t_exprs : ∀ (fuel : Nat) (cs : List Value) (x : DataW H × List MemPlace), DataW.trod enc Tryz.prog w 0 spare held fuel 27 cs = some x → ∃ l v, cs = [v] ∧ EsAt w w.heap.size l v ∧ numEs l ≤ Rows.uptoBulk x.1 := by
  intro fuel
  induction fuel using Nat.strongRecOn with
  | _ fuel ih =>
    intro cs x h
    obtain ⟨A, cap, rs, hcs, hl, hm, hsum, hok, hat⟩ := t_each (R := XE × Value) 4 (by decide) (fun r => [.int .u8 r.1.k, .string r.1.s, .int .u64 r.1.n, r.2]) (fun _ => rfl) (fun r => r.1.Ok ∧ EsAt w w.heap.size r.1.kids r.2) (fun r => numE r.1) Tryz.underlying27 (by kernel_rfl) (fun n hn cs x h => t_exprG (fun m hm => ih m (by omega)) h) h
    have hlm : (rs.map (·.1)).length = rs.length := List.length_map ..
    refine ⟨rs.map (·.1), _, hcs, ?_, ?_⟩
    rotate_left
    · rw [numEs_sum, List.map_map]
      exact Nat.le_of_succ_le hsum
    rw [← hlm]
    refine EsAt.mk (kv2 rs (·.2)) (by omega) hm (fun h0 => ?_) (fun i h => ?_) (fun i h => ?_)
    · obtain ⟨b, o, e1, e2, e3⟩ := hat (by omega)
      refine ⟨b, o, e1, e2, fun i hi => ?_⟩
      have hi2 : i < rs.length := by omega
      rw [kv2_at hi2, List.getElem_map]
      exact ⟨e3 i hi2 0 (by decide), e3 i hi2 1 (by decide), e3 i hi2 2 (by decide), e3 i hi2 3 (by decide)⟩
    · rw [List.getElem_map]
      exact (hok i (by omega)).1
    · rw [kv2_at (by omega), List.getElem_map]
      exact (hok i (by omega)).2
/-- Seven cells of a statement, opened. -/
theorem t_stmtG {fuel : Nat} {cs : List Value} {x : DataW H × List MemPlace} (ih : ∀ n, n < fuel → ∀ (cs : List Value) (x : DataW H × List MemPlace), DataW.trod enc Tryz.prog w 0 spare held n 43 cs = some x → ∃ l v, cs = [v] ∧ SsAt w w.heap.size l v ∧ numSs l ≤ Rows.uptoBulk x.1)
    (h : DataW.trod enc Tryz.prog w 0 spare held fuel 50 cs = some x) : ∃ r : XS × Value × Value × Value, ((r.1.Ok ∧ EsAt w w.heap.size r.1.exprs r.2.1 ∧ SsAt w w.heap.size r.1.body r.2.2.1 ∧ SsAt w w.heap.size r.1.els r.2.2.2) ∧ numS r.1 ≤ Rows.uptoBulk x.1) ∧ cs = [.int .u8 r.1.k, .string r.1.s, .int .i64 r.1.n, r.2.1, r.2.2.1, r.2.2.2, .int .i64 r.1.line] := by
  obtain ⟨ys, n, hn, hy, hlen, hyl, hf⟩ := DataW.trod_struct Tryz.underlying50 h
  have hc5 : Tryz.prog.cellsOf 50 = 7 := by kernel_rfl
  rw [hc5] at hlen
  have k0 : Tryz.prog.cellsOf 48 = 1 := by kernel_rfl
  have k1 : Tryz.prog.cellsOf 9 = 1 := by kernel_rfl
  have k2 : Tryz.prog.cellsOf 3 = 1 := by kernel_rfl
  have k3 : Tryz.prog.cellsOf 27 = 1 := by kernel_rfl
  have k4 : Tryz.prog.cellsOf 43 = 1 := by kernel_rfl
  match cs, hlen, ys, hyl with
  | [v0, v1, v2, v3, v4, v5, v6], _, [y0, y1, y2, y3, y4, y5, y6], _ =>
    have e0 : DataW.trod enc Tryz.prog w 0 spare held n 48 (([v0, v1, v2, v3, v4, v5, v6].drop 0).take (Tryz.prog.cellsOf 48)) = some y0 := hf 0 _ rfl
    have e1 : DataW.trod enc Tryz.prog w 0 spare held n 9 (([v0, v1, v2, v3, v4, v5, v6].drop 1).take (Tryz.prog.cellsOf 9)) = some y1 := hf 1 _ rfl
    have e2 : DataW.trod enc Tryz.prog w 0 spare held n 3 (([v0, v1, v2, v3, v4, v5, v6].drop 2).take (Tryz.prog.cellsOf 3)) = some y2 := hf 2 _ rfl
    have e3 : DataW.trod enc Tryz.prog w 0 spare held n 27 (([v0, v1, v2, v3, v4, v5, v6].drop 3).take (Tryz.prog.cellsOf 27)) = some y3 := hf 3 _ rfl
    have e4 : DataW.trod enc Tryz.prog w 0 spare held n 43 (([v0, v1, v2, v3, v4, v5, v6].drop 4).take (Tryz.prog.cellsOf 43)) = some y4 := hf 4 _ rfl
    have e5 : DataW.trod enc Tryz.prog w 0 spare held n 43 (([v0, v1, v2, v3, v4, v5, v6].drop 5).take (Tryz.prog.cellsOf 43)) = some y5 := hf 5 _ rfl
    have e6 : DataW.trod enc Tryz.prog w 0 spare held n 3 (([v0, v1, v2, v3, v4, v5, v6].drop 6).take (Tryz.prog.cellsOf 3)) = some y6 := hf 6 _ rfl
    rw [k0] at e0
    rw [k1] at e1
    rw [k2] at e2 e6
    rw [k3] at e3
    rw [k4] at e4 e5
    obtain ⟨m0, a0, -, h0⟩ := DataW.trod_int Tryz.underlying48 e0
    obtain ⟨m1, a1, -, h1⟩ := DataW.trod_string Tryz.underlying9 e1
    obtain ⟨m2, a2, -, h2⟩ := DataW.trod_int Tryz.underlying3 e2
    obtain ⟨l3, w3, a3, h3, g3⟩ := t_exprs n _ _ e3
    obtain ⟨l4, w4, a4, h4, g4⟩ := ih n (by omega) _ _ e4
    obtain ⟨l5, w5, a5, h5, g5⟩ := ih n (by omega) _ _ e5
    obtain ⟨m6, a6, -, h6⟩ := DataW.trod_int Tryz.underlying3 e6
    simp at a0 a1 a2 a3 a4 a5 a6
    subst a0 a1 a2 a3 a4 a5 a6
    refine ⟨(.mk m0 m1 m2 l3 l4 l5 m6, v3, v4, v5), ⟨⟨⟨h0, h1, h2, h6⟩, h3, h4, h5⟩, ?_⟩, rfl⟩
    have hb0 := bulk_one y0.1
    rw [numS_eq, hy]
    show numEs l3 + numSs l4 + numSs l5 + 1 ≤ Rows.uptoBulk (.agg ([y0, y1, y2, y3, y4, y5, y6].map (·.1)))
    simp only [List.map_cons, List.map_nil, Rows.uptoBulk, Rows.uptoBulkAll]
    omega
theorem t_stmts : ∀ (fuel : Nat) (cs : List Value) (x : DataW H × List MemPlace), DataW.trod enc Tryz.prog w 0 spare held fuel 43 cs = some x → ∃ l v, cs = [v] ∧ SsAt w w.heap.size l v ∧ numSs l ≤ Rows.uptoBulk x.1 := by
  intro fuel
  induction fuel using Nat.strongRecOn with
  | _ fuel ih =>
    intro cs x h
    obtain ⟨A, cap, rs, hcs, hl, hm, hsum, hok, hat⟩ := t_each (R := XS × Value × Value × Value) 7 (by decide) (fun r => [.int .u8 r.1.k, .string r.1.s, .int .i64 r.1.n, r.2.1, r.2.2.1, r.2.2.2, .int .i64 r.1.line]) (fun _ => rfl) (fun r => r.1.Ok ∧ EsAt w w.heap.size r.1.exprs r.2.1 ∧ SsAt w w.heap.size r.1.body r.2.2.1 ∧ SsAt w w.heap.size r.1.els r.2.2.2) (fun r => numS r.1) Tryz.underlying43 (by kernel_rfl) (fun n hn cs x h => t_stmtG (fun m hm => ih m (by omega)) h) h
    have hlm : (rs.map (·.1)).length = rs.length := List.length_map ..
    refine ⟨rs.map (·.1), _, hcs, ?_, ?_⟩
    rotate_left
    · rw [numSs_sum, List.map_map]
      exact Nat.le_of_succ_le hsum
    rw [← hlm]
    refine SsAt.mk (kv2 rs (·.2.1)) (kv2 rs (·.2.2.1)) (kv2 rs (·.2.2.2)) (by omega) hm (fun h0 => ?_) (fun i h => ?_) (fun i h => ?_) (fun i h => ?_) (fun i h => ?_)
    · obtain ⟨b, o, e1, e2, e3⟩ := hat (by omega)
      refine ⟨b, o, e1, e2, fun i hi => ?_⟩
      have hi2 : i < rs.length := by omega
      rw [kv2_at hi2, kv2_at hi2, kv2_at hi2, List.getElem_map]
      exact ⟨e3 i hi2 0 (by decide), e3 i hi2 1 (by decide), e3 i hi2 2 (by decide), e3 i hi2 3 (by decide), e3 i hi2 4 (by decide), e3 i hi2 5 (by decide), e3 i hi2 6 (by decide)⟩
    · rw [List.getElem_map]
      exact (hok i (by omega)).1
    · rw [kv2_at (by omega), List.getElem_map]
      exact (hok i (by omega)).2.1
    · rw [kv2_at (by omega), List.getElem_map]
      exact (hok i (by omega)).2.2.1
    · rw [kv2_at (by omega), List.getElem_map]
      exact (hok i (by omega)).2.2.2
/-- Seven cells of an item, opened. -/
theorem t_itemG {fuel : Nat} {cs : List Value} {x : DataW H × List MemPlace} (h : DataW.trod enc Tryz.prog w 0 spare held fuel 45 cs = some x) : ∃ r : XI × Value × Value × Value, ((r.1.Ok ∧ TsAt w w.heap.size r.1.params r.2.1 ∧ EsAt w w.heap.size r.1.exprs r.2.2.1 ∧ SsAt w w.heap.size r.1.body r.2.2.2) ∧ numI r.1 ≤ Rows.uptoBulk x.1) ∧ cs = [.int .u8 r.1.k, .string r.1.name, r.2.1, r.2.2.1, .bool r.1.has, r.2.2.2, .int .i64 r.1.line] := by
  obtain ⟨ys, n, hn, hy, hlen, hyl, hf⟩ := DataW.trod_struct Tryz.underlying45 h
  have hc5 : Tryz.prog.cellsOf 45 = 7 := by kernel_rfl
  rw [hc5] at hlen
  have k0 : Tryz.prog.cellsOf 41 = 1 := by kernel_rfl
  have k1 : Tryz.prog.cellsOf 9 = 1 := by kernel_rfl
  have k2 : Tryz.prog.cellsOf 42 = 1 := by kernel_rfl
  have k3 : Tryz.prog.cellsOf 27 = 1 := by kernel_rfl
  have k4 : Tryz.prog.cellsOf 4 = 1 := by kernel_rfl
  have k5 : Tryz.prog.cellsOf 43 = 1 := by kernel_rfl
  have k6 : Tryz.prog.cellsOf 3 = 1 := by kernel_rfl
  match cs, hlen, ys, hyl with
  | [v0, v1, v2, v3, v4, v5, v6], _, [y0, y1, y2, y3, y4, y5, y6], _ =>
    have e0 : DataW.trod enc Tryz.prog w 0 spare held n 41 (([v0, v1, v2, v3, v4, v5, v6].drop 0).take (Tryz.prog.cellsOf 41)) = some y0 := hf 0 _ rfl
    have e1 : DataW.trod enc Tryz.prog w 0 spare held n 9 (([v0, v1, v2, v3, v4, v5, v6].drop 1).take (Tryz.prog.cellsOf 9)) = some y1 := hf 1 _ rfl
    have e2 : DataW.trod enc Tryz.prog w 0 spare held n 42 (([v0, v1, v2, v3, v4, v5, v6].drop 2).take (Tryz.prog.cellsOf 42)) = some y2 := hf 2 _ rfl
    have e3 : DataW.trod enc Tryz.prog w 0 spare held n 27 (([v0, v1, v2, v3, v4, v5, v6].drop 3).take (Tryz.prog.cellsOf 27)) = some y3 := hf 3 _ rfl
    have e4 : DataW.trod enc Tryz.prog w 0 spare held n 4 (([v0, v1, v2, v3, v4, v5, v6].drop 4).take (Tryz.prog.cellsOf 4)) = some y4 := hf 4 _ rfl
    have e5 : DataW.trod enc Tryz.prog w 0 spare held n 43 (([v0, v1, v2, v3, v4, v5, v6].drop 5).take (Tryz.prog.cellsOf 43)) = some y5 := hf 5 _ rfl
    have e6 : DataW.trod enc Tryz.prog w 0 spare held n 3 (([v0, v1, v2, v3, v4, v5, v6].drop 6).take (Tryz.prog.cellsOf 3)) = some y6 := hf 6 _ rfl
    rw [k0] at e0
    rw [k1] at e1
    rw [k2] at e2
    rw [k3] at e3
    rw [k4] at e4
    rw [k5] at e5
    rw [k6] at e6
    obtain ⟨m0, a0, -, h0⟩ := DataW.trod_int Tryz.underlying41 e0
    obtain ⟨m1, a1, -, h1⟩ := DataW.trod_string Tryz.underlying9 e1
    obtain ⟨l2, w2, a2, h2, h2'⟩ := t_texts e2
    obtain ⟨l3, w3, a3, h3, g3⟩ := t_exprs n _ _ e3
    obtain ⟨m4, a4, -⟩ := DataW.trod_bool Tryz.underlying4 e4
    obtain ⟨l5, w5, a5, h5, g5⟩ := t_stmts n _ _ e5
    obtain ⟨m6, a6, -, h6⟩ := DataW.trod_int Tryz.underlying3 e6
    simp at a0 a1 a2 a3 a4 a5 a6
    subst a0 a1 a2 a3 a4 a5 a6
    refine ⟨(⟨m0, m1, l2, l3, m4, l5, m6⟩, v2, v3, v5), ⟨⟨⟨h0, h1, h6, h2'⟩, h2, h3, h5⟩, ?_⟩, rfl⟩
    rw [hy]
    show numEs l3 + numSs l5 ≤ Rows.uptoBulk (.agg ([y0, y1, y2, y3, y4, y5, y6].map (·.1)))
    simp only [List.map_cons, List.map_nil, Rows.uptoBulk, Rows.uptoBulkAll]
    omega
theorem t_items {fuel : Nat} {cs : List Value} {x : DataW H × List MemPlace} (h : DataW.trod enc Tryz.prog w 0 spare held fuel 22 cs = some x) : ∃ l v, cs = [v] ∧ IsAt w w.heap.size l v ∧ numP l ≤ Rows.uptoBulk x.1 := by
  obtain ⟨A, cap, rs, hcs, hl, hm, hsum, hok, hat⟩ := t_each (R := XI × Value × Value × Value) 7 (by decide) (fun r => [.int .u8 r.1.k, .string r.1.name, r.2.1, r.2.2.1, .bool r.1.has, r.2.2.2, .int .i64 r.1.line]) (fun _ => rfl) (fun r => r.1.Ok ∧ TsAt w w.heap.size r.1.params r.2.1 ∧ EsAt w w.heap.size r.1.exprs r.2.2.1 ∧ SsAt w w.heap.size r.1.body r.2.2.2) (fun r => numI r.1) Tryz.underlying22 (by kernel_rfl) (fun n hn cs x h => t_itemG h) h
  have hlm : (rs.map (·.1)).length = rs.length := List.length_map ..
  refine ⟨rs.map (·.1), _, hcs, ?_, ?_⟩
  rotate_left
  · unfold numP
    rw [List.map_map]
    exact Nat.le_of_succ_le hsum
  rw [← hlm]
  refine ⟨A, cap, kv2 rs (·.2.1), kv2 rs (·.2.2.1), kv2 rs (·.2.2.2), rfl, by omega, hm, fun h0 => ?_, fun i h => ?_⟩
  · obtain ⟨b, o, e1, e2, e3⟩ := hat (by omega)
    refine ⟨b, o, e1, e2, fun i hi => ?_⟩
    have hi2 : i < rs.length := by omega
    rw [kv2_at hi2, kv2_at hi2, kv2_at hi2, List.getElem_map]
    exact ⟨e3 i hi2 0 (by decide), e3 i hi2 1 (by decide), e3 i hi2 2 (by decide), e3 i hi2 3 (by decide), e3 i hi2 4 (by decide), e3 i hi2 5 (by decide), e3 i hi2 6 (by decide)⟩
  · rw [kv2_at (by omega), kv2_at (by omega), kv2_at (by omega), List.getElem_map]
    exact hok i (by omega)
theorem t_program {fuel : Nat} {cs : List Value} {x : DataW H × List MemPlace} (h : DataW.trod enc Tryz.prog w 0 spare held fuel 24 cs = some x) : ∃ l v, cs = [v] ∧ IsAt w w.heap.size l v ∧ numP l ≤ Rows.uptoBulk x.1 := by
  obtain ⟨ys, n, hn, hy, hlen, hyl, hf⟩ := DataW.trod_struct Tryz.underlying24 h
  have hc5 : Tryz.prog.cellsOf 24 = 1 := by kernel_rfl
  rw [hc5] at hlen
  have k0 : Tryz.prog.cellsOf 22 = 1 := by kernel_rfl
  match cs, hlen, ys, hyl with
  | [v0], _, [y0], _ =>
    have e0 : DataW.trod enc Tryz.prog w 0 spare held n 22 (([v0].drop 0).take (Tryz.prog.cellsOf 22)) = some y0 := hf 0 _ rfl
    rw [k0] at e0
    have e1 : DataW.trod enc Tryz.prog w 0 spare held n 22 [v0] = some y0 := e0
    obtain ⟨l, v, h1, h2, h3⟩ := t_items e1
    refine ⟨l, v, h1, h2, ?_⟩
    rw [hy]
    show numP l ≤ Rows.uptoBulk (.agg ([y0].map (·.1)))
    simp only [List.map_cons, List.map_nil, Rows.uptoBulk, Rows.uptoBulkAll]
    omega
theorem t_expr {fuel : Nat} {cs : List Value} {x : DataW H × List MemPlace} (h : DataW.trod enc Tryz.prog w 0 spare held fuel 29 cs = some x) : ∃ r : XE × Value, ((r.1.Ok ∧ EsAt w w.heap.size r.1.kids r.2) ∧ numE r.1 ≤ Rows.uptoBulk x.1) ∧ cs = [.int .u8 r.1.k, .string r.1.s, .int .u64 r.1.n, r.2] := t_exprG (fun n _ => t_exprs n) h
end
end Go.Proofs.YtmapjahpjolmnaaGreatDoor
namespace Go.Proofs.YtmapjahpjolmnaaGreatDoor
open Go.RowKit Tr
set_option maxRecDepth 20000
def numK (l : List XE) : Nat := (l.map fun e => numEs e.kids).sum
theorem numEs_K : ∀ l : List XE, numEs l = l.length + numK l
  | [] => by rw [numEs_nil]; rfl
  | e :: r => by
    rw [numEs_cons, numE_eq, numEs_K r]
    simp only [numK, List.map_cons, List.sum_cons, List.length_cons]
    omega
theorem sum_take {α : Type} (f : α → Nat) (l : List α) (i : Nat) (h : i < l.length) : ((l.take (i + 1)).map f).sum = ((l.take i).map f).sum + f l[i] := by
  rw [List.take_succ_eq_append_getElem h, List.map_append, List.sum_append]
  simp
theorem sum_take_le {α : Type} (f : α → Nat) (l : List α) : ∀ i, ((l.take i).map f).sum ≤ (l.map f).sum := by
  induction l with
  | nil => intro i; simp
  | cons x l ih =>
    intro i
    cases i with
    | zero => simp
    | succ i => have := ih i; simp only [List.take_succ_cons, List.map_cons, List.sum_cons]; omega
/-- What a count of parts leaves. -/
structure HgP (nb : Nat) (a : Int) (k : Nat) (mn : Int) (w : World) (hb : Bool) (a' : Int) (w' : World) : Prop where
  blk : Blk w' nb 3 #[.int .i64 a']
  tur : Tur (· = nb) w w'
  lo : a ≤ a'
  hi : a' ≤ a + k
  no : hb = false → a' = a + k ∧ a' ≤ mn
def HugePost (nb : Nat) (a : Int) (k : Nat) (mn : Int) (w : World) (e : Ending) (w' : World) : Prop := ∃ hb a', e = .returned (.bool hb) ∧ HgP nb a k mn w hb a' w'
set_option maxHeartbeats 4000000 in
theorem w_hugeE {w0 : World} {Bd : Nat} {l : List XE} {v : Value} (h : EsAt w0 Bd l v) : ∀ (lv mn a : Int) (w : World) (nb : Nat), Below Bd w0 w → Bd ≤ w0.heap.size → Blk w nb 3 #[.int .i64 a] → Bd ≤ nb → 0 ≤ a → a + numEs l ≤ 2000000 → 0 ≤ lv → lv ≤ 1000 → 0 ≤ mn → mn ≤ 100000 →
    Calls Tryz.prog 15 #[v, .int .i64 lv, .int .i64 mn, .pointer (some ⟨nb, 0, none⟩)] w (HugePost nb a (numEs l) mn w) := by
  induction h with
  | @mk l A cap kv hc hm hat hok hk ih =>
    intro lv mn a w nb hbl hB0 hnb hBn ha hsum hl0 hl1 hm0 hm1
    have hnk := numEs_K l
    have HAT := Lib.hid hat
    have HIH := Lib.hid ih
    have HOK := Lib.hid hok
    have HBL := Lib.hid hbl
    have HBN := Lib.hid hBn
    have HB0 := Lib.hid hB0
    have hcl : cap < 9223372036854775808 := by unfold maxLen at hm; omega
    have hN1 := hnb.set 0 (.int .i64 (a + l.length))
    have HN1 : Hid (Blk (w.setCell ⟨nb, 0, none⟩ (.int .i64 (a + l.length))) nb 3 #[.int .i64 (a + l.length)]) := by unfold Hid; simpa using hN1
    have HT1 : Hid (Tur (· = nb) w (w.setCell ⟨nb, 0, none⟩ (.int .i64 (a + l.length)))) := Tur.of_set ⟨nb, 0, none⟩ _
    have x0 : w.cell? ⟨nb, 0, none⟩ = some (.int .i64 a) := hnb.cell 0
    have f0 := hnb.free 0
    have hHL : l.length ≤ numEs l := by omega
    have HNK := Lib.hid hnk
    have HSUM := Lib.hid hsum
    clear hat ih hok hbl hBn hB0 hnb hN1 hk hnk
    have hlen : a + (l.length : Int) ≤ 2000000 := by omega
    go_enter Tryz.func15, Tryz.ntmps15
    by_cases h1 : mn < a + l.length
    · have HR : Hid (HgP nb a (numEs l) mn w true (a + l.length) (w.setCell ⟨nb, 0, none⟩ (.int .i64 (a + l.length)))) := ⟨HN1.out, HT1.out, by omega, by omega, fun h => by cases h⟩
      clear hsum
      go_wp2_with fail
      go_ret
      exact ⟨true, _, rfl, HR.out⟩
    by_cases h2 : 0 < l.length ∧ lv < 1
    · have HR : Hid (HgP nb a (numEs l) mn w true (a + l.length) (w.setCell ⟨nb, 0, none⟩ (.int .i64 (a + l.length)))) := ⟨HN1.out, HT1.out, by omega, by omega, fun h => by cases h⟩
      obtain ⟨h3, h4⟩ := h2
      clear hsum
      go_wp2_with fail
      go_ret
      exact ⟨true, _, rfl, HR.out⟩
    have hways : l.length = 0 ∨ (0 < l.length ∧ 1 ≤ lv) := by omega
    have HW := Lib.hid hways
    clear hsum h2 hways
    have h1' : a + (l.length : Int) ≤ mn := by omega
    have HI1 := Lib.hid h1'
    rcases (show l.length = 0 ∨ (0 < l.length ∧ 1 ≤ lv) from HW.out) with hz | ⟨hp, hlv⟩
    · obtain rfl : l = [] := List.eq_nil_of_length_eq_zero hz
      have HE0 : Hid (HgP nb a (numEs []) mn w false a (w.setCell ⟨nb, 0, none⟩ (.int .i64 a))) := by
        have h2 := HN1.out
        have h3 := HT1.out
        have h4 := HI1.out
        simp only [List.length_nil, Int.natCast_zero, Int.add_zero] at h2 h3 h4
        exact ⟨h2, h3, Int.le_refl _, by omega, fun _ => ⟨by rw [numEs_nil]; simp, h4⟩⟩
      clear hz
      go_upto_region 4 with (fail)
      go_wp2_with fail
      go_loopw [9] (fun v wr => v = .int .i64 0 ∧ wr = w.setCell ⟨nb, 0, none⟩ (.int .i64 a)) (fun _ _ => 0)
      case atStart => exact ⟨rfl, rfl⟩
      case round =>
        obtain ⟨rfl, hwr⟩ := hrel
        have HWR := Lib.hid hwr
        clear hwr
        go_wp2_with fail
        go_ret
        rw [HWR.out]
        exact ⟨false, _, rfl, HE0.out⟩
    · have hlv1 : ¬ lv < 1 := by omega
      go_upto_region 4 with (fail)
      generalize w.setCell ⟨nb, 0, none⟩ (.int .i64 (a + l.length)) = w1 at *
      clear x0 f0
      go_wp2_with fail
      go_loopw [9] (fun v wr => ∃ i : Nat, v = .int .i64 i ∧ i ≤ l.length ∧ Blk wr nb 3 #[.int .i64 (a + l.length + ((l.take i).map fun e => numEs e.kids).sum)] ∧ Tur (· = nb) w wr ∧ a + l.length + ((l.take i).map fun e => numEs e.kids).sum ≤ mn) (fun v _ => l.length - (intOf v).toNat)
      case atStart => exact ⟨0, rfl, Nat.zero_le _, by simpa using HN1.out, HT1.out, by simpa using HI1.out⟩
      case round =>
        obtain ⟨i, rfl, hi, hbr, htr, hmr⟩ := hrel
        have hsl := sum_take_le (fun e : XE => numEs e.kids) l i
        have hnk := HNK.out
        unfold numK at hnk
        have HBR := Lib.hid hbr
        have HTR := Lib.hid htr
        have HBW : Hid (Below Bd w0 wr) := HBL.out.trans (htr.below Bd (Nat.le_trans HB0.out HBL.out.size) (fun k hk e => by have := HBN.out; omega))
        by_cases hlt : i < l.length
        · have hst := sum_take (fun e : XE => numEs e.kids) l i hlt
          have hsl2 := sum_take_le (fun e : XE => numEs e.kids) l (i + 1)
          have hlv : 1 ≤ lv := by have := HW.out; omega
          obtain ⟨b, o, rfl, hbB, hcells⟩ := HAT.out (by omega)
          obtain ⟨y0, y1, y2, y3⟩ := (hcells i hlt).keep HBW.out hbB
          have hs := (HOK.out i hlt).2.1
          have hss : l[i].s.size < 9223372036854775808 := by unfold maxLen at hs; omega
          generalize hc0 : ((l.take i).map fun e : XE => numEs e.kids).sum = c0 at *
          generalize hc1 : ((l.take (i + 1)).map fun e : XE => numEs e.kids).sum = c1 at *
          have HC1 := Lib.hid hc1
          have hsum := HSUM.out
          have hst' : c1 = c0 + numEs l[i].kids := hst
          have HCALL := Lib.hid (HIH.out i hlt (lv - 1) mn (a + l.length + c0) wr nb HBW.out HB0.out HBR.out HBN.out (by omega) (by omega) (by omega) (by omega) hm0 hm1)
          have HBIG : Hid (HgP nb a (numEs l) mn w true (a + l.length + c0) wr) := ⟨HBR.out, HTR.out, by omega, by omega, fun h => by cases h⟩
          have HAR := Lib.hid (show c1 = c0 + numEs l[i].kids ∧ (a : Int) + l.length + c1 ≤ a + numEs l from ⟨hst', by omega⟩)
          clear hbr htr hcells hst hst' hsl hsl2 hnk hs hsum hc0 hc1 hmr
          by_cases hsz : 2000 < l[i].s.size
          · go_wp2_with fail
            go_ret
            exact ⟨true, _, rfl, HBIG.out⟩
          · go_wp2_with fail
            refine HCALL.out.mono ?_
            rintro en w2 ⟨hb, a2, rfl, hg⟩
            have HG := Lib.hid hg
            have HT2 : Hid (Tur (· = nb) w w2) := HTR.out.trans hg.tur (fun _ _ h => h)
            clear hg y0 y1 y2 y3
            cases hb
            · have HNO := Lib.hid (HG.out.no rfl)
              have HBN2 : Hid (Blk w2 nb 3 #[.int .i64 (a + l.length + c1)]) := by
                unfold Hid
                have e : (a : Int) + l.length + c1 = a2 := by have := HNO.out.1; have := HAR.out.1; omega
                rw [e]; exact HG.out.blk
              go_wp2_with fail
              go_roundw
              case rel => exact ⟨i + 1, by go_num, by omega, by rw [HC1.out]; exact HBN2.out, HT2.out, by rw [HC1.out]; have := HNO.out; have := HAR.out.1; omega⟩
              case measure => simp [intOf]; omega
            · have HEN : Hid (HgP nb a (numEs l) mn w true a2 w2) := ⟨HG.out.blk, HT2.out, by have := HG.out.lo; omega, by have := HG.out.hi; have := HAR.out; omega, fun h => by cases h⟩
              go_wp2_with fail
              go_ret
              exact ⟨true, _, rfl, HEN.out⟩
        · have HEN : Hid (HgP nb a (numEs l) mn w false (a + numEs l) wr) := by
            rw [List.take_of_length_le (by omega)] at hbr hmr
            have e : (a : Int) + l.length + ((l.map fun e => numEs e.kids).sum : Nat) = a + numEs l := by omega
            rw [e] at hbr hmr
            exact ⟨hbr, htr, by omega, Int.le_refl _, fun _ => ⟨rfl, hmr⟩⟩
          clear hbr htr hmr hsl hnk
          go_wp2_with fail
          go_ret
          exact ⟨false, _, rfl, HEN.out⟩
end Go.Proofs.YtmapjahpjolmnaaGreatDoor
namespace Go.Proofs.YtmapjahpjolmnaaGreatDoor
open Go.RowKit Tr
set_option maxRecDepth 20000
def sK (e : XS) : Nat := numEs e.exprs + numSs e.body + numSs e.els
def numL (l : List XS) : Nat := (l.map sK).sum
theorem numSs_K : ∀ l : List XS, numSs l = l.length + numL l
  | [] => by rw [numSs_nil]; rfl
  | e :: r => by
    rw [numSs_cons, numS_eq, numSs_K r]
    simp only [numL, sK, List.map_cons, List.sum_cons, List.length_cons]
    omega
set_option maxHeartbeats 4000000 in
theorem w_hugeS {w0 : World} {Bd : Nat} {l : List XS} {v : Value} (h : SsAt w0 Bd l v) : ∀ (lv mn a : Int) (w : World) (nb : Nat), Below Bd w0 w → Bd ≤ w0.heap.size → Blk w nb 3 #[.int .i64 a] → Bd ≤ nb → 0 ≤ a → a + numSs l ≤ 2000000 → 0 ≤ lv → lv ≤ 1000 → 0 ≤ mn → mn ≤ 100000 →
    Calls Tryz.prog 16 #[v, .int .i64 lv, .int .i64 mn, .pointer (some ⟨nb, 0, none⟩)] w (HugePost nb a (numSs l) mn w) := by
  induction h with
  | @mk l A cap ev bv lvv hc hm hat hok hee hbb hll ih1 ih2 =>
    intro lv mn a w nb hbl hB0 hnb hBn ha hsum hl0 hl1 hm0 hm1
    have hnk := numSs_K l
    have HAT := Lib.hid hat
    have HIH1 := Lib.hid ih1
    have HIH2 := Lib.hid ih2
    have HEE := Lib.hid hee
    have HOK := Lib.hid hok
    have HBL := Lib.hid hbl
    have HBN := Lib.hid hBn
    have HB0 := Lib.hid hB0
    have hcl : cap < 9223372036854775808 := by unfold maxLen at hm; omega
    have hN1 := hnb.set 0 (.int .i64 (a + l.length))
    have HN1 : Hid (Blk (w.setCell ⟨nb, 0, none⟩ (.int .i64 (a + l.length))) nb 3 #[.int .i64 (a + l.length)]) := by unfold Hid; simpa using hN1
    have HT1 : Hid (Tur (· = nb) w (w.setCell ⟨nb, 0, none⟩ (.int .i64 (a + l.length)))) := Tur.of_set ⟨nb, 0, none⟩ _
    have x0 : w.cell? ⟨nb, 0, none⟩ = some (.int .i64 a) := hnb.cell 0
    have f0 := hnb.free 0
    have hHL : l.length ≤ numSs l := by omega
    have HNK := Lib.hid hnk
    have HSUM := Lib.hid hsum
    clear hat ih1 ih2 hok hbl hBn hB0 hnb hN1 hee hbb hll hnk
    have hlen : a + (l.length : Int) ≤ 2000000 := by omega
    go_enter Tryz.func16, Tryz.ntmps16
    by_cases h1 : mn < a + l.length
    · have HR : Hid (HgP nb a (numSs l) mn w true (a + l.length) (w.setCell ⟨nb, 0, none⟩ (.int .i64 (a + l.length)))) := ⟨HN1.out, HT1.out, by omega, by omega, fun h => by cases h⟩
      clear hsum
      go_wp2_with fail
      go_ret
      exact ⟨true, _, rfl, HR.out⟩
    by_cases h2 : 0 < l.length ∧ lv < 1
    · have HR : Hid (HgP nb a (numSs l) mn w true (a + l.length) (w.setCell ⟨nb, 0, none⟩ (.int .i64 (a + l.length)))) := ⟨HN1.out, HT1.out, by omega, by omega, fun h => by cases h⟩
      obtain ⟨h3, h4⟩ := h2
      clear hsum
      go_wp2_with fail
      go_ret
      exact ⟨true, _, rfl, HR.out⟩
    have hways : l.length = 0 ∨ (0 < l.length ∧ 1 ≤ lv) := by omega
    have HW := Lib.hid hways
    clear hsum h2 hways
    have h1' : a + (l.length : Int) ≤ mn := by omega
    have HI1 := Lib.hid h1'
    rcases (show l.length = 0 ∨ (0 < l.length ∧ 1 ≤ lv) from HW.out) with hz | ⟨hp, hlv⟩
    · obtain rfl : l = [] := List.eq_nil_of_length_eq_zero hz
      have HE0 : Hid (HgP nb a (numSs []) mn w false a (w.setCell ⟨nb, 0, none⟩ (.int .i64 a))) := by
        have h2 := HN1.out
        have h3 := HT1.out
        have h4 := HI1.out
        simp only [List.length_nil, Int.natCast_zero, Int.add_zero] at h2 h3 h4
        exact ⟨h2, h3, Int.le_refl _, by omega, fun _ => ⟨by rw [numSs_nil]; simp, h4⟩⟩
      clear hz
      go_upto_region 4 with (fail)
      go_wp2_with fail
      go_loopw [9] (fun v wr => v = .int .i64 0 ∧ wr = w.setCell ⟨nb, 0, none⟩ (.int .i64 a)) (fun _ _ => 0)
      case atStart => exact ⟨rfl, rfl⟩
      case round =>
        obtain ⟨rfl, hwr⟩ := hrel
        have HWR := Lib.hid hwr
        clear hwr
        go_wp2_with fail
        go_ret
        rw [HWR.out]
        exact ⟨false, _, rfl, HE0.out⟩
    · have hlv1 : ¬ lv < 1 := by omega
      go_upto_region 4 with (fail)
      generalize w.setCell ⟨nb, 0, none⟩ (.int .i64 (a + l.length)) = w1 at *
      clear x0 f0
      go_wp2_with fail
      go_loopw [9] (fun v wr => ∃ i : Nat, v = .int .i64 i ∧ i ≤ l.length ∧ Blk wr nb 3 #[.int .i64 (a + l.length + ((l.take i).map sK).sum)] ∧ Tur (· = nb) w wr ∧ a + l.length + ((l.take i).map sK).sum ≤ mn) (fun v _ => l.length - (intOf v).toNat)
      case atStart => exact ⟨0, rfl, Nat.zero_le _, by simpa using HN1.out, HT1.out, by simpa using HI1.out⟩
      case round =>
        obtain ⟨i, rfl, hi, hbr, htr, hmr⟩ := hrel
        have hsl := sum_take_le sK l i
        have hnk := HNK.out
        unfold numL at hnk
        have HBR := Lib.hid hbr
        have HTR := Lib.hid htr
        have HBW : Hid (Below Bd w0 wr) := HBL.out.trans (htr.below Bd (Nat.le_trans HB0.out HBL.out.size) (fun k hk e => by have := HBN.out; omega))
        by_cases hlt : i < l.length
        · have hst := sum_take sK l i hlt
          have hsl2 := sum_take_le sK l (i + 1)
          have hlv : 1 ≤ lv := by have := HW.out; omega
          obtain ⟨b, o, rfl, hbB, hcells⟩ := HAT.out (by omega)
          have HCC := Lib.hid (hcells i hlt)
          have HBB := Lib.hid hbB
          generalize hc0 : ((l.take i).map sK).sum = c0 at *
          generalize hc1 : ((l.take (i + 1)).map sK).sum = c1 at *
          have HC1 := Lib.hid hc1
          have hsum := HSUM.out
          have hst' : c1 = c0 + (numEs l[i].exprs + numSs l[i].body + numSs l[i].els) := hst
          have HCALL := Lib.hid (w_hugeE ((HEE.out i hlt).keep HBW.out) (lv - 1) mn (a + l.length + c0) wr nb (Below.refl Bd wr) (Nat.le_trans HB0.out HBW.out.size) HBR.out HBN.out (by omega) (by omega) (by omega) (by omega) hm0 hm1)
          have HAR := Lib.hid (show c1 = c0 + (numEs l[i].exprs + numSs l[i].body + numSs l[i].els) ∧ (a : Int) + l.length + c1 ≤ a + numSs l ∧ (a : Int) + numSs l ≤ 2000000 from ⟨hst', by omega, by omega⟩)
          obtain ⟨y0, y1, y2, y3, y4, y5, y6⟩ := HCC.out.keep HBW.out HBB.out
          clear hbr htr hcells hst hst' hsl hsl2 hnk hsum hc0 hc1 hmr hbB
          go_wp2_with fail
          refine HCALL.out.mono ?_
          rintro en w2 ⟨hb, a2, rfl, hg⟩
          have HG := Lib.hid hg
          have HT2 : Hid (Tur (· = nb) w w2) := HTR.out.trans hg.tur (fun _ _ h => h)
          have HBW2 : Hid (Below Bd w0 w2) := HBL.out.trans (HT2.out.below Bd (Nat.le_trans HB0.out HBL.out.size) (fun k hk e => by have := HBN.out; omega))
          clear hg y0 y1 y2 y3 y4 y5 y6
          cases hb
          rotate_left
          · have HEN : Hid (HgP nb a (numSs l) mn w true a2 w2) := ⟨HG.out.blk, HT2.out, by have := HG.out.lo; omega, by have := HG.out.hi; have := HAR.out; omega, fun h => by cases h⟩
            go_wp2_with fail
            go_ret
            exact ⟨true, _, rfl, HEN.out⟩
          have HNO := Lib.hid (HG.out.no rfl)
          have HCALL2 := Lib.hid (HIH1.out i hlt (lv - 1) mn a2 w2 nb HBW2.out HB0.out HG.out.blk HBN.out (by have := HG.out.lo; omega) (by have := HNO.out.1; have := HAR.out; omega) (by omega) (by omega) hm0 hm1)
          obtain ⟨y0, y1, y2, y3, y4, y5, y6⟩ := HCC.out.keep HBW2.out HBB.out
          go_wp2_with fail
          refine HCALL2.out.mono ?_
          rintro en w3 ⟨hb, a3, rfl, hg⟩
          have HG3 := Lib.hid hg
          have HT3 : Hid (Tur (· = nb) w w3) := HT2.out.trans hg.tur (fun _ _ h => h)
          have HBW3 : Hid (Below Bd w0 w3) := HBL.out.trans (HT3.out.below Bd (Nat.le_trans HB0.out HBL.out.size) (fun k hk e => by have := HBN.out; omega))
          clear hg y0 y1 y2 y3 y4 y5 y6
          cases hb
          rotate_left
          · have HEN : Hid (HgP nb a (numSs l) mn w true a3 w3) := ⟨HG3.out.blk, HT3.out, by have := HG.out.lo; have := HG3.out.lo; omega, by have := HG.out.hi; have := HG3.out.hi; have := HAR.out; omega, fun h => by cases h⟩
            go_wp2_with fail
            go_ret
            exact ⟨true, _, rfl, HEN.out⟩
          have HNO3 := Lib.hid (HG3.out.no rfl)
          have HCALL3 := Lib.hid (HIH2.out i hlt (lv - 1) mn a3 w3 nb HBW3.out HB0.out HG3.out.blk HBN.out (by have := HG.out.lo; have := HG3.out.lo; omega) (by have := HNO.out.1; have := HNO3.out.1; have := HAR.out; omega) (by omega) (by omega) hm0 hm1)
          obtain ⟨y0, y1, y2, y3, y4, y5, y6⟩ := HCC.out.keep HBW3.out HBB.out
          go_wp2_with fail
          refine HCALL3.out.mono ?_
          rintro en w4 ⟨hb, a4, rfl, hg⟩
          have HG4 := Lib.hid hg
          have HT4 : Hid (Tur (· = nb) w w4) := HT3.out.trans hg.tur (fun _ _ h => h)
          clear hg y0 y1 y2 y3 y4 y5 y6
          cases hb
          rotate_left
          · have HEN : Hid (HgP nb a (numSs l) mn w true a4 w4) := ⟨HG4.out.blk, HT4.out, by have := HG.out.lo; have := HG3.out.lo; have := HG4.out.lo; omega, by have := HG.out.hi; have := HG3.out.hi; have := HG4.out.hi; have := HAR.out; omega, fun h => by cases h⟩
            go_wp2_with fail
            go_ret
            exact ⟨true, _, rfl, HEN.out⟩
          have HNO4 := Lib.hid (HG4.out.no rfl)
          have HEQ : Hid ((a : Int) + l.length + c1 = a4 ∧ a4 ≤ mn) := ⟨by have := HNO.out.1; have := HNO3.out.1; have := HNO4.out.1; have := HAR.out.1; omega, HNO4.out.2⟩
          have HBN2 : Hid (Blk w4 nb 3 #[.int .i64 (a + l.length + c1)]) := by
            unfold Hid
            rw [HEQ.out.1]; exact HG4.out.blk
          go_wp2_with fail
          go_roundw
          case rel => exact ⟨i + 1, by go_num, by omega, by rw [HC1.out]; exact HBN2.out, HT4.out, by rw [HC1.out, HEQ.out.1]; exact HEQ.out.2⟩
          case measure => simp [intOf]; omega
        · have HEN : Hid (HgP nb a (numSs l) mn w false (a + numSs l) wr) := by
            rw [List.take_of_length_le (by omega)] at hbr hmr
            have e : (a : Int) + l.length + ((l.map sK).sum : Nat) = a + numSs l := by omega
            rw [e] at hbr hmr
            exact ⟨hbr, htr, by omega, Int.le_refl _, fun _ => ⟨rfl, hmr⟩⟩
          clear hbr htr hmr hsl hnk
          go_wp2_with fail
          go_ret
          exact ⟨false, _, rfl, HEN.out⟩
end Go.Proofs.YtmapjahpjolmnaaGreatDoor
