/- What a text or a pattern says. -/
import Derived.Test.YtpgegmnapankpaaLexR4
namespace Go.Proofs.Ytpgegmnapankpaa.Lex
open Go

theorem markL_ge (l : List UInt8) : 2 ≤ (markL l).2 := by
  unfold markL
  split
  · exact Nat.le_refl _
  · split
    · exact Nat.le_refl _
    · simp; omega
theorem markL_le {l : List UInt8} (h : 2 ≤ l.length) : (markL l).2 ≤ l.length ∧ (markL l).1.size ≤ (markL l).2 := by
  unfold markL
  split
  · rename_i k hk
    refine ⟨h, ?_⟩
    show (saysB.extract k (k + 1)).size ≤ 2
    simp
    omega
  · split
    · refine ⟨h, ?_⟩
      show (l.take 2).toArray.size ≤ 2
      simp
      omega
    · have := runL_le oct (l.drop 1)
      rw [List.length_drop] at this
      refine ⟨?_, ?_⟩
      · show octN l + 1 ≤ l.length
        unfold octN; omega
      · show 1 ≤ octN l + 1
        omega
/-- What a mark says within a text (34) or a pattern. -/
def say (q : UInt8) (l : List UInt8) : List UInt8 × Nat := if q.toNat = 34 then ((markL l).1.data.toList, (markL l).2) else if byteN l 1 = 47 then ([47], 2) else (l.take 2, 2)
theorem say_ge (q : UInt8) (l : List UInt8) : 2 ≤ (say q l).2 := by
  unfold say
  split
  · exact markL_ge l
  · split <;> exact Nat.le_refl _
theorem say_le (q : UInt8) {l : List UInt8} (h : 2 ≤ l.length) : (say q l).2 ≤ l.length ∧ (say q l).1.length ≤ (say q l).2 := by
  unfold say
  split
  · exact ⟨(markL_le h).1, (markL_le h).2⟩
  · split
    · exact ⟨h, by simp⟩
    · exact ⟨h, by simp; omega⟩
/-- What stands up to the closing mark, and how many bytes that is with it. -/
def quotL (q : UInt8) (l : List UInt8) : Option (List UInt8 × Nat) := match l with
  | [] => none
  | c :: r =>
    if c.toNat = 10 then none
    else if c.toNat = q.toNat then some ([], 1)
    else if c.toNat = 92 then (if r = [] ∨ byteN r 0 = 10 then none else (quotL q ((c :: r).drop (say q (c :: r)).2)).map fun p => ((say q (c :: r)).1 ++ p.1, (say q (c :: r)).2 + p.2))
    else (quotL q r).map fun p => (c :: p.1, 1 + p.2)
termination_by l.length
decreasing_by
  · have := say_ge q (c :: r)
    simp
    omega
  · simp
theorem quot_nil (q : UInt8) : quotL q [] = none := by rw [quotL]
theorem quot_line {q c : UInt8} {r : List UInt8} (h : c.toNat = 10) : quotL q (c :: r) = none := by rw [quotL]; simp [h]
theorem quot_end {q c : UInt8} {r : List UInt8} (h : ¬ c.toNat = 10) (h2 : c.toNat = q.toNat) : quotL q (c :: r) = some ([], 1) := by rw [quotL, if_neg h, if_pos h2]
theorem quot_byte {q c : UInt8} {r : List UInt8} (h : ¬ c.toNat = 10) (h2 : ¬ c.toNat = q.toNat) (h3 : ¬ c.toNat = 92) : quotL q (c :: r) = (quotL q r).map fun p => (c :: p.1, 1 + p.2) := by rw [quotL, if_neg h, if_neg h2, if_neg h3]
theorem quot_bad {q c : UInt8} {r : List UInt8} (h : ¬ c.toNat = 10) (h2 : ¬ c.toNat = q.toNat) (h3 : c.toNat = 92) (h4 : r = [] ∨ byteN r 0 = 10) : quotL q (c :: r) = none := by rw [quotL, if_neg h, if_neg h2, if_pos h3, if_pos h4]
theorem quot_mark {q c : UInt8} {r : List UInt8} (h : ¬ c.toNat = 10) (h2 : ¬ c.toNat = q.toNat) (h3 : c.toNat = 92) (h4 : ¬ (r = [] ∨ byteN r 0 = 10)) : quotL q (c :: r) = (quotL q ((c :: r).drop (say q (c :: r)).2)).map fun p => ((say q (c :: r)).1 ++ p.1, (say q (c :: r)).2 + p.2) := by rw [quotL, if_neg h, if_neg h2, if_pos h3, if_neg h4]
/-- A whole text or pattern: what it says, and how long it is; none: it does not end. -/
def quoted (l : List UInt8) : Option (List UInt8 × Nat) := match l with
  | [] => none
  | q :: r => (quotL q r).map fun p => (p.1, 1 + p.2)
/-- Gone some way. -/
def Gone (R : Option (List UInt8 × Nat)) (q : UInt8) (l : List UInt8) (n : Nat) (acc : List UInt8) : Prop := (quotL q (l.drop n)).map (fun p => (acc ++ p.1, n + p.2)) = R
section
variable {R : Option (List UInt8 × Nat)} {q : UInt8} {l : List UInt8} {n : Nat} {acc : List UInt8}
theorem Gone.over (h : Gone R q l n acc) (hn : l.length ≤ n) : R = none := by
  unfold Gone at h
  rw [List.drop_eq_nil_of_le hn, quot_nil] at h
  exact h.symm
theorem Gone.line (h : Gone R q l n acc) (hn : n < l.length) (h1 : l[n].toNat = 10) : R = none := by
  unfold Gone at h
  rw [List.drop_eq_getElem_cons hn, quot_line h1] at h
  exact h.symm
theorem Gone.done (h : Gone R q l n acc) (hn : n < l.length) (h1 : ¬ l[n].toNat = 10) (h2 : l[n].toNat = q.toNat) : R = some (acc, n + 1) := by
  unfold Gone at h
  rw [List.drop_eq_getElem_cons hn, quot_end h1 h2] at h
  simpa using h.symm
theorem Gone.byte (h : Gone R q l n acc) (hn : n < l.length) (h1 : ¬ l[n].toNat = 10) (h2 : ¬ l[n].toNat = q.toNat) (h3 : ¬ l[n].toNat = 92) : Gone R q l (n + 1) (acc ++ [l[n]]) := by
  unfold Gone at h ⊢
  rw [List.drop_eq_getElem_cons hn, quot_byte h1 h2 h3] at h
  rw [← h, Option.map_map]
  congr 1
  funext p
  simp [Nat.add_assoc]
theorem drop_byteN (l : List UInt8) (n : Nat) (h : n + 1 < l.length) : l.drop (n + 1) ≠ [] ∧ byteN (l.drop (n + 1)) 0 = byteN l (n + 1) := by
  refine ⟨fun e => ?_, by rw [byteN_drop]⟩
  have := congrArg List.length e
  rw [List.length_drop] at this
  simp at this
  omega
theorem Gone.bad (h : Gone R q l n acc) (hn : n < l.length) (h1 : ¬ l[n].toNat = 10) (h2 : ¬ l[n].toNat = q.toNat) (h3 : l[n].toNat = 92) (h4 : l.length ≤ n + 1 ∨ byteN l (n + 1) = 10) : R = none := by
  unfold Gone at h
  rw [List.drop_eq_getElem_cons hn, quot_bad h1 h2 h3] at h
  · exact h.symm
  · rcases h4 with h4 | h4
    · exact .inl (List.drop_eq_nil_of_le h4)
    · right; rw [byteN_drop]; exact h4
theorem Gone.mark (h : Gone R q l n acc) (hn : n + 1 < l.length) (h1 : ¬ l[n].toNat = 10) (h2 : ¬ l[n].toNat = q.toNat) (h3 : l[n].toNat = 92) (h4 : ¬ byteN l (n + 1) = 10) : Gone R q l (n + (say q (l.drop n)).2) (acc ++ (say q (l.drop n)).1) := by
  unfold Gone at h ⊢
  obtain ⟨g1, g2⟩ := drop_byteN l n hn
  have hd := List.drop_eq_getElem_cons (show n < l.length by omega)
  rw [hd, quot_mark h1 h2 h3 (by rintro (h5 | h5); exact g1 h5; rw [g2] at h5; exact h4 h5), ← hd] at h
  rw [← h, Option.map_map, List.drop_drop]
  congr 1
  funext p
  simp [Nat.add_assoc]
end
end Go.Proofs.Ytpgegmnapankpaa.Lex
