/- What the token that a text begins with is: within the text, and of a kind. -/
import Derived.Test.YtpgegmnapankpaaLexR8
namespace Go.Proofs.Ytpgegmnapankpaa.Lex
open Go
theorem quotL_le (q : UInt8) : ∀ n (l : List UInt8) p, l.length ≤ n → quotL q l = some p → p.2 ≤ l.length ∧ 0 < p.2 := by
  intro n
  induction n with
  | zero =>
    intro l p hn h
    cases l with
    | nil => rw [quot_nil] at h; simp at h
    | cons c r => simp at hn
  | succ n ih =>
    intro l p hn h
    cases l with
    | nil => rw [quot_nil] at h; simp at h
    | cons c r =>
      have hl : (c :: r).length = r.length + 1 := rfl
      rw [hl] at hn ⊢
      by_cases h10 : c.toNat = 10
      · rw [quot_line h10] at h; simp at h
      · by_cases hq : c.toNat = q.toNat
        · rw [quot_end h10 hq] at h
          obtain rfl : ([], 1) = p := by simpa using h
          exact ⟨by show 1 ≤ _; omega, by decide⟩
        · by_cases h92 : c.toNat = 92
          · by_cases hb : r = [] ∨ byteN r 0 = 10
            · rw [quot_bad h10 hq h92 hb] at h; simp at h
            · rw [quot_mark h10 hq h92 hb] at h
              obtain ⟨x, hx, rfl⟩ := Option.map_eq_some_iff.1 h
              have hr : r ≠ [] := fun e => hb (.inl e)
              have hr2 : 0 < r.length := List.length_pos_iff.2 hr
              have h1 := (say_le q (l := c :: r) (by rw [hl]; omega)).1
              have h2 := say_ge q (c :: r)
              have h3 := ih _ x (by rw [List.length_drop, hl]; omega) hx
              rw [List.length_drop, hl] at h3
              rw [hl] at h1
              exact ⟨by show _ + x.2 ≤ _; omega, by show 0 < _ + x.2; omega⟩
          · rw [quot_byte h10 hq h92] at h
            obtain ⟨x, hx, rfl⟩ := Option.map_eq_some_iff.1 h
            have h3 := ih r x (by omega) hx
            exact ⟨by show 1 + x.2 ≤ _; omega, by show 0 < 1 + x.2; omega⟩
theorem quoted_le (l : List UInt8) : (quotV (quoted l)).2 ≤ l.length := by
  cases h : quoted l with
  | none => exact Nat.zero_le _
  | some p =>
    cases l with
    | nil => simp [quoted] at h
    | cons q r =>
      obtain ⟨x, hx, rfl⟩ := Option.map_eq_some_iff.1 h
      have := (quotL_le q _ r x (Nat.le_refl _) hx).1
      show 1 + x.2 ≤ r.length + 1
      omega
theorem byteN_nil (k : Nat) : byteN [] k = 0 := by unfold byteN; simp
theorem numL_none {l : List UInt8} (h1 : dig (byteN l 0) = false) (h2 : byteN l 0 ≠ 46) : numL l = 0 := by
  apply numL_zero
  have h0 : runL dig l = 0 := by simpa using run_not (p := dig) (l := l) (k := 0) h1
  rw [num1_no, h0]
  rintro ⟨r, hr⟩
  rw [h0, List.drop_zero] at hr
  exact h2 (by rw [hr]; rfl)
theorem oneL_line {l : List UInt8} {re : Bool} (h : byteN l 0 = 10) : oneL l re = (8, ⟨#[]⟩, 1) := by
  unfold oneL
  rw [h, if_neg (by decide), numL_none (by rw [h]; decide) (by rw [h]; decide), if_neg (by decide)]
  unfold oneRest
  rw [if_pos h]
theorem oneSign_le (l : List UInt8) : (oneSign l).2.2 ≤ l.length := by
  unfold oneSign
  split
  · rename_i x hx
    have := List.find?_some hx
    unfold Lib.hasPrefix at this
    exact (List.isPrefixOf_iff_prefix.1 this).length_le
  · exact Nat.zero_le _
theorem oneL_le {l : List UInt8} {re : Bool} : (oneL l re).2.2 ≤ l.length := by
  unfold oneL
  split
  · exact runL_le _ _
  · split
    · exact numL_le l
    · unfold oneRest
      split
      · rename_i h
        cases l with
        | nil => rw [byteN_nil] at h; exact absurd h (by decide)
        | cons c r => show 1 ≤ r.length + 1; omega
      · split
        · exact quoted_le l
        · split
          · exact quoted_le l
          · exact oneSign_le l
theorem oneL_kind {l : List UInt8} {re : Bool} (h : (oneL l re).2.2 ≠ 0) : (oneL l re).1 ≠ 0 := by
  revert h
  unfold oneL
  split
  · intro _
    unfold oneName
    dsimp only
    split
    · decide
    · split <;> decide
  · split
    · intro _; show (1 : Int) ≠ 0; decide
    · unfold oneRest
      split
      · intro _; show (8 : Int) ≠ 0; decide
      · split
        · intro _; show (2 : Int) ≠ 0; decide
        · split
          · intro _; show (3 : Int) ≠ 0; decide
          · unfold oneSign
            split
            · intro _; show (7 : Int) ≠ 0; decide
            · intro h; exact absurd rfl h
theorem oneName_pos {l : List UInt8} (h : let_ (byteN l 0) = true) : (oneName l).2.2 ≠ 0 := by
  have := (run_yes (p := word) (by decide) (l := l) (k := 0) (by simp [word, h])).2
  rw [List.drop_zero] at this
  show runL word l ≠ 0
  omega
end Go.Proofs.Ytpgegmnapankpaa.Lex
namespace Go.Proofs.Ytpgegmnapankpaa
open Go.RowKit
theorem r_one (s : ByteArray) (a : Nat) (re : Bool) (w : World) (hs : s.size ≤ 4294967) (h0 : a < s.size) (h10 : Lex.byteN s.data.toList a ≠ 10) :
    Calls Try.prog 14 #[.string s, .int .i64 a, .bool re] w fun e w' => e = .returned (rres a (Lex.oneL (s.data.toList.drop a) re)) ∧ Below w.heap.size w w' := by
  unfold Lex.oneL
  rw [Lex.byteN_drop, Nat.add_zero]
  cases hlet : Lex.let_ (Lex.byteN s.data.toList a)
  · rw [if_neg (by decide)]
    by_cases hn : 0 < Lex.numL (s.data.toList.drop a)
    · rw [if_pos hn]
      have h := r_one_num s a re w hs h0 hlet hn
      rw [show rres a (1, bsA ((s.data.toList.drop a).take (Lex.numL (s.data.toList.drop a))), Lex.numL (s.data.toList.drop a)) = rtok a (1, bsA ((s.data.toList.drop a).take (Lex.numL (s.data.toList.drop a))), Lex.numL (s.data.toList.drop a)) from if_neg (by show ¬ Lex.numL (s.data.toList.drop a) = 0; omega)]
      exact h
    · rw [if_neg hn]
      exact r_one_rest s a re w hs h0 hlet (by omega) h10
  · rw [if_pos rfl]
    rw [show rres a (Lex.oneName (s.data.toList.drop a)) = rtok a (Lex.oneName (s.data.toList.drop a)) from if_neg (Lex.oneName_pos (by rw [Lex.byteN_drop, Nat.add_zero]; exact hlet))]
    exact r_one_name s a re w hs h0 hlet
theorem x_one (s : ByteArray) (re : Bool) (w : World) (hs : s.size ≤ 4294967) (h0 : 0 < s.size) :
    Calls Try.prog 12 #[.string s, .bool re] w fun e w' => e = .returned (tokV (Lex.oneL s.data.toList re)) ∧ Below w.heap.size w w' := by
  unfold Lex.oneL
  cases hlet : Lex.let_ (Lex.byteN s.data.toList 0)
  · rw [if_neg (by decide)]
    by_cases hn : 0 < Lex.numL s.data.toList
    · rw [if_pos hn]
      exact x_one_num s re w hs h0 hlet hn
    · rw [if_neg hn]
      exact x_one_rest s re w hs h0 hlet (by omega)
  · rw [if_pos rfl]
    exact x_one_name s re w hs h0 hlet
theorem x_Next (s : ByteArray) (at_ : Int) (re : Bool) (w : World) (hs : s.size ≤ 4294967296) :
    Calls Try.prog 6 #[.string s, .int .i64 at_, .bool re] w fun e w' => e = .returned (.tuple #[(Lex.nextL Lex.oneL s.data.toList at_ re).tok, (Lex.nextL Lex.oneL s.data.toList at_ re).fault]) ∧ Below w.heap.size w w' := by
  refine x_next Lex.oneL s at_ re w hs fun h1 h2 h3 h4 w => ?_
  generalize at_.toNat + Lex.passL (s.data.toList.drop at_.toNat) = a at *
  have hsz : (s.extract a s.size).size = s.size - a := ext_size s a
  have h := x_one (s.extract a s.size) re w (by omega) (by omega)
  rw [ext_drop] at h
  refine h.mono ?_
  rintro e w' ⟨rfl, hb⟩
  refine ⟨rfl, hb, ?_⟩
  have := Lex.oneL_le (l := s.data.toList.drop a) (re := re)
  rw [List.length_drop, show s.data.toList.length = s.size from rfl] at this
  omega
end Go.Proofs.Ytpgegmnapankpaa
