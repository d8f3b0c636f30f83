/- What tokens are, in plain words: lists of bytes. -/
import Derived.Test.YtmapjahpjolmnaaDoorG1
set_option linter.unusedVariables false
set_option linter.unusedSimpArgs false
namespace Go.Proofs.YtmapjahpjolmnaaDoor.Lex
open Go

def dig (b : Int) : Bool := decide (48 ≤ b) && decide (b ≤ 57)
def let_ (b : Int) : Bool := (decide (97 ≤ b) && decide (b ≤ 122)) || (decide (65 ≤ b) && decide (b ≤ 90)) || decide (b = 95)
def word (b : Int) : Bool := let_ b || dig b
def blank (b : Int) : Bool := decide (b = 32) || decide (b = 9) || decide (b = 13)
def noLine (b : Int) : Bool := !decide (b = 10)

def runL (p : Int → Bool) (l : List UInt8) : Nat := (l.takeWhile fun c => p c.toNat).length
theorem runL_le (p : Int → Bool) (l : List UInt8) : runL p l ≤ l.length := by
  unfold runL
  exact (List.takeWhile_prefix _).length_le
theorem runL_nil (p : Int → Bool) : runL p [] = 0 := rfl
theorem runL_cons (p : Int → Bool) (c : UInt8) (l : List UInt8) : runL p (c :: l) = if p c.toNat then 1 + runL p l else 0 := by
  unfold runL
  rw [List.takeWhile_cons]
  split <;> simp [Nat.add_comm]
theorem runL_is {p : Int → Bool} {l : List UInt8} {n : Nat} (hn : n ≤ l.length) (h1 : ∀ j, (hj : j < l.length) → j < n → p l[j].toNat = true) (h2 : ∀ h : n < l.length, p l[n].toNat = false) : runL p l = n := by
  induction l generalizing n with
  | nil => simp at hn; simp [runL_nil, hn]
  | cons c l ih =>
    rw [runL_cons]
    cases n with
    | zero => have := h2 (by simp); simp at this; simp [this]
    | succ n =>
      have h0 := h1 0 (by simp) (by omega)
      simp at h0
      rw [if_pos h0, ih (n := n) (by simpa using hn) (fun j hj hjn => by have := h1 (j + 1) (by simpa using hj) (by omega); simpa using this) (fun h => by have := h2 (by simpa using h); simpa using this)]
      omega
theorem runL_all {p : Int → Bool} {l : List UInt8} {j : Nat} (hj : j < l.length) (h : j < runL p l) : p l[j].toNat = true := by
  induction l generalizing j with
  | nil => simp at hj
  | cons c l ih =>
    rw [runL_cons] at h
    split at h
    · rename_i hc
      cases j with
      | zero => simpa using hc
      | succ j => simpa using ih (by simpa using hj) (by omega)
    · omega
theorem runL_end {p : Int → Bool} {l : List UInt8} (h : runL p l < l.length) : p (l[runL p l]'h).toNat = false := by
  induction l with
  | nil => simp [runL_nil] at h
  | cons c l ih =>
    by_cases hc : p c.toNat = true
    · have e : runL p (c :: l) = runL p l + 1 := by rw [runL_cons, if_pos hc, Nat.add_comm]
      have h' : runL p l < l.length := by rw [e] at h; simpa using h
      have := ih h'
      simp only [e, List.getElem_cons_succ]
      exact this
    · have e : runL p (c :: l) = 0 := by rw [runL_cons, if_neg hc]
      simp only [e, List.getElem_cons_zero]
      simpa using hc
/-- What is passed over: outside (false) and within (true) a remark. -/
def passM : Bool → List UInt8 → Nat
  | _, [] => 0
  | true, c :: r => if c.toNat = 10 then 0 else 1 + passM true r
  | false, c :: r => if blank c.toNat then 1 + passM false r else if c.toNat = 35 then 1 + passM true r else if c.toNat = 92 then (match r with | [] => 0 | d :: r' => if d.toNat = 10 then 2 + passM false r' else 0) else 0
abbrev passL : List UInt8 → Nat := passM false
theorem passM_true (l : List UInt8) : passM true l = runL noLine l := by
  induction l with
  | nil => rfl
  | cons c l ih =>
    rw [runL_cons]
    unfold passM
    rw [ih]
    by_cases h : c.toNat = 10
    · rw [if_pos h, if_neg (by simp [noLine, h])]
    · rw [if_neg h, if_pos (by simp [noLine]; omega)]
theorem passM_le (b : Bool) (l : List UInt8) : passM b l ≤ l.length := by
  fun_induction passM b l with
  | case1 => simp
  | case2 => simp
  | case3 => simp; omega
  | case4 => simp; omega
  | case5 => simp; omega
  | case6 => simp
  | case7 => simp; omega
  | case8 => simp
  | case9 => simp
theorem passL_nil : passL [] = 0 := rfl
theorem passL_cons (c : UInt8) (r : List UInt8) : passL (c :: r) = if blank c.toNat then 1 + passL r else if c.toNat = 35 then 1 + runL noLine r else if c.toNat = 92 then (match r with | [] => 0 | d :: r' => if d.toNat = 10 then 2 + passL r' else 0) else 0 := by
  rw [← passM_true]
  unfold passL
  cases r with
  | nil => simp only [passM]
  | cons d r' => simp only [passM]
/-- By blanks: one behind the other. -/
theorem passL_blanks (l : List UInt8) : passL l = runL blank l + passL (l.drop (runL blank l)) := by
  induction l with
  | nil => rfl
  | cons c l ih =>
    rw [runL_cons]
    by_cases h : blank c.toNat = true
    · rw [if_pos h, passL_cons, if_pos h, ih, Nat.add_comm 1 (runL blank l), List.drop_succ_cons]; omega
    · rw [if_neg h]; simp
theorem passL_remark {c : UInt8} {r : List UInt8} (h : c.toNat = 35) : passL (c :: r) = 1 + runL noLine r ∧ passL ((c :: r).drop (1 + runL noLine r)) = 0 := by
  refine ⟨by rw [passL_cons, if_neg (by simp [blank, h]), if_pos h], ?_⟩
  rw [Nat.add_comm, List.drop_succ_cons]
  cases hd : r.drop (runL noLine r) with
  | nil => rfl
  | cons d r' =>
    have hlt : runL noLine r < r.length := by
      by_cases hlt : runL noLine r < r.length
      · exact hlt
      · rw [List.drop_eq_nil_of_le (by omega)] at hd; cases hd
    have h2 := runL_end hlt
    rw [List.drop_eq_getElem_cons hlt] at hd
    injection hd with hd1 hd2
    rw [hd1] at h2
    have h3 : d.toNat = 10 := by simp [noLine] at h2; omega
    rw [passL_cons]
    simp [blank, h3]
theorem passL_two {c d : UInt8} {r : List UInt8} (hc : c.toNat = 92) (hd : d.toNat = 10) : passL (c :: d :: r) = 2 + passL r := by
  rw [passL_cons, if_neg (by simp [blank, hc]), if_neg (by omega), if_pos hc]
  simp [hd]
theorem passL_stop {l : List UInt8} (h0 : runL blank l = 0) (h1 : ¬ (∃ r, l = 35 :: r)) (h2 : ¬ ∃ r, l = 92 :: 10 :: r) : passL l = 0 := by
  cases l with
  | nil => rfl
  | cons c r =>
    rw [runL_cons] at h0
    have hb : ¬ blank c.toNat = true := by intro hb; rw [if_pos hb] at h0; omega
    have hc : ¬ c.toNat = 35 := fun e => h1 ⟨r, by rw [show c = 35 from UInt8.toNat_inj.1 e]⟩
    rw [passL_cons, if_neg hb, if_neg hc]
    split
    · rename_i h92
      cases r with
      | nil => rfl
      | cons d r' =>
        have hd : ¬ d.toNat = 10 := fun e => h2 ⟨r', by rw [show c = 92 from UInt8.toNat_inj.1 h92, show d = 10 from UInt8.toNat_inj.1 e]⟩
        simp [hd]
    · rfl
/-- How many lines: ends of lines ahead. -/
def lines (l : List UInt8) : Nat := l.count 10
def lineL (l : List UInt8) (at_ : Int) : Int := if at_ < 0 ∨ (l.length : Int) < at_ then 0 else 1 + (lines (l.take at_.toNat) : Int)
/-- How long the number is that a text begins with. -/
def num1 (l : List UInt8) : Nat :=
  let n := runL dig l
  match l.drop n with
  | [] => n
  | c :: r => if c.toNat = 46 ∧ 0 < n + runL dig r then n + 1 + runL dig r else n
def signL (r : List UInt8) : Nat := match r with
  | [] => 0
  | d :: _ => if d.toNat = 43 ∨ d.toNat = 45 then 1 else 0
def numL (l : List UInt8) : Nat :=
  let n := num1 l
  if n = 0 then 0 else match l.drop n with
  | [] => n
  | c :: r => if c.toNat = 101 ∨ c.toNat = 69 then (let k := runL dig (r.drop (signL r)); if 0 < k then n + 1 + signL r + k else n) else n
end Go.Proofs.YtmapjahpjolmnaaDoor.Lex
