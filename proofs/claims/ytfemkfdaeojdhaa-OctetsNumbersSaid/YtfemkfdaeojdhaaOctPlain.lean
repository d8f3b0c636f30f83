/- The plain mathematics of octets: what the functions of bytes and texts tell, as functions on lists; no program in sight. -/
import Derived.Lib.Index
import Derived.Lib.IndexBytes
namespace Go.Proofs.Ytfemkfdaeojdhaa.Oct

def blank (b : Int) : Bool := b == 32 || b == 9
def space (b : Int) : Bool := b == 32 || (decide (9 ≤ b) && decide (b ≤ 13))
def digit (b : Int) : Bool := decide (48 ≤ b) && decide (b ≤ 57)
def letter (b : Int) : Bool := (decide (97 ≤ b) && decide (b ≤ 122)) || (decide (65 ≤ b) && decide (b ≤ 90))
def low (b : UInt8) : UInt8 := if 65 ≤ b ∧ b ≤ 90 then b + 32 else b
def upp (b : UInt8) : UInt8 := if 97 ≤ b ∧ b ≤ 122 then b - 32 else b
def mapS (g : UInt8 → UInt8) (s : ByteArray) : ByteArray := ⟨(s.data.toList.map g).toArray⟩

theorem low_nat (b : UInt8) : ((low b).toNat : Int) = if 65 ≤ (b.toNat : Int) ∧ (b.toNat : Int) ≤ 90 then (b.toNat : Int) + 32 else b.toNat := by
  unfold low
  by_cases h : 65 ≤ b ∧ b ≤ 90
  · have h' := h
    simp only [UInt8.le_iff_toNat_le] at h'
    rw [if_pos h, if_pos (by simp at h'; omega), UInt8.toNat_add]
    simp at h' ⊢; omega
  · have h' := h
    simp only [UInt8.le_iff_toNat_le] at h'
    rw [if_neg h, if_neg (by simp at h'; omega)]
theorem upp_nat (b : UInt8) : ((upp b).toNat : Int) = if 97 ≤ (b.toNat : Int) ∧ (b.toNat : Int) ≤ 122 then (b.toNat : Int) - 32 else b.toNat := by
  unfold upp
  by_cases h : 97 ≤ b ∧ b ≤ 122
  · have h' := h
    simp only [UInt8.le_iff_toNat_le] at h'
    rw [if_pos h, if_pos (by simp at h'; omega), UInt8.toNat_sub]
    simp at h' ⊢; omega
  · have h' := h
    simp only [UInt8.le_iff_toNat_le] at h'
    rw [if_neg h, if_neg (by simp at h'; omega)]

def half (f : UInt8 → UInt8) (l : List UInt8) (k : Nat) : List UInt8 := (l.take k).map f ++ l.drop k
theorem half_length (f : UInt8 → UInt8) (l : List UInt8) (k : Nat) : (half f l k).length = l.length := by simp [half]; omega
theorem half_zero (f : UInt8 → UInt8) (l : List UInt8) : half f l 0 = l := by simp [half]
theorem half_all (f : UInt8 → UInt8) (l : List UInt8) : half f l l.length = l.map f := by simp [half]
theorem half_get (f : UInt8 → UInt8) (l : List UInt8) (k : Nat) (h : k < l.length) (h2 : k < (half f l k).length) : (half f l k)[k] = l[k] := by
  simp only [half]
  rw [List.getElem_append_right (by simp; omega)]
  simp; congr 1; omega
theorem half_set (f : UInt8 → UInt8) (l : List UInt8) (k : Nat) (h : k < l.length) : (half f l k).set k (f l[k]) = half f l (k+1) := by
  apply List.ext_getElem
  · simp [half_length]
  · intro i h1 h2
    simp only [half, List.getElem_set, List.getElem_append]
    simp only [List.length_set, half_length] at h1
    simp only [List.length_map, List.length_take, List.getElem_map, List.getElem_take, List.getElem_drop]
    by_cases hik : k = i
    · subst hik; simp; omega
    · by_cases hlt : i < k
      · simp [hik]; rw [dif_pos (by omega), dif_pos (by omega)]
      · simp [hik]; rw [dif_neg (by omega), dif_neg (by omega)]; congr 1; omega
theorem take_map_succ (f : UInt8 → UInt8) (l : List UInt8) (k : Nat) (h : k < l.length) : (l.take (k+1)).map f = (l.take k).map f ++ [f l[k]] := by
  rw [List.take_succ_eq_append_getElem h, List.map_append]; rfl

/-- Cut: the bytes whose places (from 1 on) are from 'from' on and below 'from + n'. -/
def inCut (f n : Int) (p : Nat) : Bool := decide (f ≤ (p : Int)) && decide (0 < n) && decide ((p : Int) < f + n)
def cutTo (l : List UInt8) (f n : Int) : Nat → List UInt8
  | 0 => []
  | k + 1 => cutTo l f n k ++ (if inCut f n (k + 1) then [l.getD k 0] else [])
def cutL (l : List UInt8) (f n : Int) : List UInt8 := cutTo l f n l.length
def cut (s : ByteArray) (f n : Int) : ByteArray := ⟨(cutL s.data.toList f n).toArray⟩
theorem cutTo_length_le (l : List UInt8) (f n : Int) : ∀ k, (cutTo l f n k).length ≤ k
  | 0 => by simp [cutTo]
  | k + 1 => by
    have := cutTo_length_le l f n k
    simp only [cutTo, List.length_append]; split <;> simp <;> omega
theorem cutTo_eq (l : List UInt8) (f n : Int) (hn : 0 < n) : ∀ k, k ≤ l.length → cutTo l f n k = (l.take (min k (f + n - 1).toNat)).drop (f - 1).toNat
  | 0, _ => by simp [cutTo]
  | k + 1, hk => by
    rw [cutTo, cutTo_eq l f n hn k (by omega)]
    by_cases h : inCut f n (k + 1) = true
    · rw [if_pos h]
      simp only [inCut, Bool.and_eq_true, decide_eq_true_eq] at h
      rw [show min (k + 1) (f + n - 1).toNat = k + 1 from by omega, show min k (f + n - 1).toNat = k from by omega, List.take_succ_eq_append_getElem (by omega), List.drop_append_of_le_length (by simp; omega)]
      simp [List.getD, show k < l.length from by omega]
    · rw [if_neg h, List.append_nil]
      simp only [inCut, Bool.and_eq_true, decide_eq_true_eq] at h
      by_cases h2 : (f + n - 1).toNat ≤ k
      · rw [show min (k + 1) (f + n - 1).toNat = min k (f + n - 1).toNat from by omega]
      · rw [show min (k + 1) (f + n - 1).toNat = k + 1 from by omega, show min k (f + n - 1).toNat = k from by omega, List.drop_eq_nil_of_le (by simp; omega), List.drop_eq_nil_of_le (by simp; omega)]
theorem cutTo_none (l : List UInt8) (f n : Int) (hn : n ≤ 0) : ∀ k, cutTo l f n k = []
  | 0 => rfl
  | k + 1 => by rw [cutTo, cutTo_none l f n hn k, if_neg (by simp [inCut]; omega)]; rfl
theorem cutL_none (l : List UInt8) (f n : Int) (hn : n ≤ 0) : cutL l f n = [] := cutTo_none l f n hn _
theorem cutL_eq (l : List UInt8) (f n : Int) (hn : 0 < n) : cutL l f n = (l.take (f + n - 1).toNat).drop (f - 1).toNat := by
  rw [cutL, cutTo_eq l f n hn _ (Nat.le_refl _)]
  by_cases h : (f + n - 1).toNat ≤ l.length
  · rw [Nat.min_eq_right h]
  · rw [Nat.min_eq_left (by omega), List.take_of_length_le (Nat.le_refl _), List.take_of_length_le (by omega)]

/-- Index: from 1 on; 0: nowhere, or an empty text. -/
def idx (s t : List UInt8) : Int := if t = [] then 0 else Lib.index s t + 1
end Go.Proofs.Ytfemkfdaeojdhaa.Oct
