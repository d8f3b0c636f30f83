/- The plain laws of octets that the stage's theorem asks for. -/
import Derived.Test.YtfemkfdaeojdhaaOctPlain
import Derived.Lib.Strings
namespace Go.Proofs.Ytfemkfdaeojdhaa.Oct

theorem pieces (l : List UInt8) (a b c : Nat) (hab : a ≤ b) (hbc : b ≤ c) : (l.take b).drop a ++ (l.take c).drop b = (l.take c).drop a := by
  have h1 : l.take b = (l.take c).take b := by rw [List.take_take, Nat.min_eq_left hbc]
  rw [h1]
  generalize l.take c = x
  by_cases h : a ≤ (x.take b).length
  · rw [← List.drop_append_of_le_length h, List.take_append_drop]
  · rw [List.length_take] at h
    rw [List.drop_eq_nil_of_le (by rw [List.length_take]; omega), List.drop_eq_nil_of_le (by omega), List.drop_eq_nil_of_le (by omega)]; rfl
theorem cutL_parts (l : List UInt8) (f m n : Int) (hm : 0 ≤ m) (hn : 0 < n) : cutL l f m ++ cutL l (f + m) n = cutL l f (m + n) := by
  rw [cutL_eq l (f + m) n hn, cutL_eq l f (m + n) (by omega)]
  by_cases h : m = 0
  · subst h
    rw [cutL_none _ _ _ (by omega), List.nil_append]
    simp
  · rw [cutL_eq l f m (by omega), show f + (m + n) - 1 = f + m + n - 1 from by omega]
    exact pieces l _ _ _ (by omega) (by omega)
theorem cut_parts (s : ByteArray) (f m n : Int) (hm : 0 ≤ m) (hn : 0 < n) : cut s f m ++ cut s (f + m) n = cut s f (m + n) := by
  apply ByteArray.ext
  simp only [cut, ByteArray.data_append]
  rw [← cutL_parts _ _ _ _ hm hn]; simp
theorem cut_size (s : ByteArray) (f n : Int) : (cut s f n).size ≤ s.size := by
  show (cutL s.data.toList f n).toArray.size ≤ s.data.size
  rw [List.size_toArray]
  exact cutTo_length_le _ _ _ _
theorem cut_whole (s : ByteArray) : cut s 1 s.size = s := by
  by_cases h : s.size = 0
  · have e : s.data.toList = [] := List.length_eq_zero_iff.1 h
    rw [cut, cutL_none _ _ _ (by omega)]
    apply ByteArray.ext
    simp only
    rw [← e]
  · have hl : s.data.toList.length = s.size := rfl
    rw [cut, cutL_eq _ _ _ (by omega), show (1 - 1 : Int).toNat = 0 from rfl, List.drop_zero, List.take_of_length_le (by omega)]
theorem cut_occ (s t : ByteArray) (i : Nat) (h : i < s.size) (ht : 0 < t.size) : cut s (i + 1) t.size = t ↔ Lib.occAt s.data.toList t.data.toList i = true := by
  have hl : s.data.toList.length = s.size := rfl
  have htl : t.data.toList.length = t.size := rfl
  have e : (cut s (i + 1) t.size).data.toList = (s.data.toList.drop i).take t.data.toList.length := by
    rw [cut]; simp only
    rw [cutL_eq _ _ _ (by omega), show ((i : Int) + 1 + t.size - 1).toNat = i + t.size from by omega, show ((i : Int) + 1 - 1).toNat = i from by omega, List.drop_take, htl]
    simp
  constructor
  · intro h1
    rw [h1] at e
    have h2 : i + t.data.toList.length ≤ s.data.toList.length := by
      have := congrArg List.length e
      rw [List.length_take, List.length_drop] at this
      omega
    rw [Lib.occAt_iff_take _ _ _ h2, ← e]
    simp
  · intro h1
    have h2 : i + t.data.toList.length ≤ s.data.toList.length := by
      rcases Lib.occAt_room h1 with h3 | h3
      · exact h3
      · rw [h3] at htl; simp at htl; omega
    rw [Lib.occAt_iff_take _ _ _ h2] at h1
    simp at h1
    rw [htl] at e
    rw [h1] at e
    apply ByteArray.ext
    exact Array.toList_inj.1 e
theorem idx_range (s t : List UInt8) : 0 ≤ idx s t ∧ idx s t ≤ s.length + 1 := by
  unfold idx
  split
  · omega
  · have := Lib.index_ge s t; have := Lib.index_le s t; omega
theorem idx_empty (s : List UInt8) : idx s [] = 0 := rfl
theorem idx_first (s t : List UInt8) (k : Nat) (ht : t ≠ []) (hk : k ≤ s.length) (h : Lib.occAt s t k = true) (hno : ∀ j, j < k → Lib.occAt s t j = false) : idx s t = k + 1 := by
  rw [idx, if_neg ht, Lib.index_first hk h hno]
theorem idx_none (s t : List UInt8) (ht : t ≠ []) (hno : ∀ j, j < s.length → Lib.occAt s t j = false) : idx s t = 0 := by
  rw [idx, if_neg ht, Lib.index_none]; rfl
  intro j hj
  by_cases h : j < s.length
  · exact hno j h
  · cases hb : Lib.occAt s t j
    · rfl
    · rcases Lib.occAt_room hb with h3 | h3
      · have : 0 < t.length := List.length_pos_iff.2 ht
        omega
      · exact absurd h3 ht
theorem idx_cases (s t : List UInt8) (ht : t ≠ []) : (∃ k : Nat, k < s.length ∧ Lib.occAt s t k = true ∧ (∀ j, j < k → Lib.occAt s t j = false) ∧ idx s t = k + 1) ∨ ((∀ j, j < s.length → Lib.occAt s t j = false) ∧ idx s t = 0) := by
  by_cases h : ∃ k, k < s.length ∧ Lib.occAt s t k = true
  · left
    have : ∀ n k, k ≤ n → k < s.length → Lib.occAt s t k = true → ∃ k, k < s.length ∧ Lib.occAt s t k = true ∧ (∀ j, j < k → Lib.occAt s t j = false) := by
      intro n
      induction n with
      | zero => intro k h0 h1 h2; exact ⟨k, h1, h2, fun j hj => by omega⟩
      | succ n ih =>
        intro k h0 h1 h2
        by_cases hj : ∃ j, j < k ∧ Lib.occAt s t j = true
        · obtain ⟨j, hj, hb⟩ := hj
          exact ih j (by omega) (by omega) hb
        · refine ⟨k, h1, h2, fun j hj' => ?_⟩
          cases hb : Lib.occAt s t j
          · rfl
          · exact absurd ⟨j, hj', hb⟩ hj
    obtain ⟨k0, h1, h2⟩ := h
    obtain ⟨k, a, b, c⟩ := this k0 k0 (Nat.le_refl _) h1 h2
    exact ⟨k, a, b, c, idx_first s t k ht (by omega) b c⟩
  · right
    have hno : ∀ j, j < s.length → Lib.occAt s t j = false := fun j hj => by
      cases hb : Lib.occAt s t j
      · rfl
      · exact absurd ⟨j, hj, hb⟩ h
    exact ⟨hno, idx_none s t ht hno⟩
theorem low_upp (b : UInt8) : low (upp b) = low b := by
  apply UInt8.toNat_inj.1
  have h1 := low_nat (upp b); have h2 := upp_nat b; have h3 := low_nat b
  rw [h2] at h1
  have := b.toNat_lt
  by_cases c1 : 97 ≤ (b.toNat : Int) ∧ (b.toNat : Int) ≤ 122
  · rw [if_pos c1, if_pos (by omega)] at h1; rw [if_neg (by omega)] at h3; omega
  · rw [if_neg c1] at h1; omega
theorem upp_low (b : UInt8) : upp (low b) = upp b := by
  apply UInt8.toNat_inj.1
  have h1 := upp_nat (low b); have h2 := low_nat b; have h3 := upp_nat b
  rw [h2] at h1
  have := b.toNat_lt
  by_cases c1 : 65 ≤ (b.toNat : Int) ∧ (b.toNat : Int) ≤ 90
  · rw [if_pos c1, if_pos (by omega)] at h1; rw [if_neg (by omega)] at h3; omega
  · rw [if_neg c1] at h1; omega
theorem mapS_size (g : UInt8 → UInt8) (s : ByteArray) : (mapS g s).size = s.size := by
  show (List.map g s.data.toList).toArray.size = s.data.size
  simp
theorem mapS_comp (g h : UInt8 → UInt8) (s : ByteArray) : mapS g (mapS h s) = mapS (fun b => g (h b)) s := by simp [mapS]
theorem low_upper (s : ByteArray) : mapS low (mapS upp s) = mapS low s := by rw [mapS_comp]; simp [low_upp]
theorem upp_lower (s : ByteArray) : mapS upp (mapS low s) = mapS upp s := by rw [mapS_comp]; simp [upp_low]
theorem mapS_append (g : UInt8 → UInt8) (s t : ByteArray) : mapS g s ++ mapS g t = mapS g (s ++ t) := by
  apply ByteArray.ext
  simp [mapS, ByteArray.data_append]
/-- A place out of any number. -/
def pick (x n : Int) : Int := if n ≤ 0 then 0 else x % n
theorem pick_range (x n : Int) (h : 0 < n) : 0 ≤ pick x n ∧ pick x n < n := by
  rw [pick, if_neg (by omega)]
  exact ⟨Int.emod_nonneg _ (by omega), Int.emod_lt_of_pos _ h⟩
theorem tmod_bounds (x n : Int) (h : 0 < n) : -n < x.tmod n ∧ x.tmod n < n := by
  have h1 := Int.emod_nonneg x (show n ≠ 0 by omega)
  have h2 := Int.emod_lt_of_pos x h
  rw [Int.tmod_eq_emod]
  split
  · omega
  · rename_i h3
    have h4 : x % n ≠ 0 := fun e => h3 (Or.inr (Int.dvd_of_emod_eq_zero e))
    omega
theorem pick_tmod (x n : Int) (h : 0 < n) : pick x n = if x.tmod n < 0 then x.tmod n + n else x.tmod n := by
  have h1 := Int.emod_nonneg x (show n ≠ 0 by omega)
  have h2 := Int.emod_lt_of_pos x h
  rw [pick, if_neg (by omega), Int.tmod_eq_emod]
  by_cases h3 : 0 ≤ x ∨ n ∣ x
  · rw [if_pos h3]; simp; omega
  · rw [if_neg h3]
    have h4 : x % n ≠ 0 := fun e => h3 (Or.inr (Int.dvd_of_emod_eq_zero e))
    rw [if_pos (by omega)]; omega
end Go.Proofs.Ytfemkfdaeojdhaa.Oct
