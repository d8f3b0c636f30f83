/- LexBlanks: tokens said again are the same (plain lists); the walk of the law, for every text, no condition. -/
import Derived.Test.YtpgegmnapankpaaLexP2
import Derived.Test.YtpgegmnapankpaaAwake
namespace Go.Proofs.Ytpgegmnapankpaa.Lex
open Go

theorem byteN_head (c : UInt8) (r : List UInt8) : byteN (c :: r) 0 = c.toNat := rfl
theorem runL_take (p : Int → Bool) : ∀ (l : List UInt8) (n : Nat), runL p (l.take n) = min n (runL p l) := by
  intro l
  induction l with
  | nil => intro n; simp [runL_nil]
  | cons c l ih =>
    intro n
    cases n with
    | zero => simp [runL_nil]
    | succ n =>
      rw [List.take_succ_cons, runL_cons, runL_cons, ih n]
      split <;> omega
theorem runL_agree {p : Int → Bool} {l m : List UInt8} {n : Nat} (h : m.take n = l.take n) : min n (runL p m) = min n (runL p l) := by
  rw [← runL_take, ← runL_take, h]
theorem byteN_take {l : List UInt8} {n k : Nat} (h : k < n) : byteN (l.take n) k = byteN l k := by
  simp [byteN, List.getD, h]
theorem byteN_agree {l m : List UInt8} {n k : Nat} (h : m.take n = l.take n) (hk : k < n) : byteN m k = byteN l k := by
  exact (byteN_take hk).symm.trans (by rw [h]; exact byteN_take hk)
theorem take_app (l z : List UInt8) (n : Nat) (h : n ≤ l.length) : (l.take n ++ z).take n = l.take n := by
  rw [List.take_append_of_le_length (by rw [List.length_take]; omega), List.take_take, Nat.min_self]
theorem drop_app (l z : List UInt8) (n k : Nat) (h : n ≤ l.length) (hk : k ≤ n) : (l.take n ++ z).drop k = (l.drop k).take (n - k) ++ z := by
  rw [List.drop_append_of_le_length (by rw [List.length_take]; omega), List.drop_take]
theorem drop_app_all (l z : List UInt8) (n : Nat) (h : n ≤ l.length) : (l.take n ++ z).drop n = z := by
  rw [drop_app l z n n h (Nat.le_refl _), Nat.sub_self, List.take_zero]; rfl
theorem runL_stop {p : Int → Bool} {l : List UInt8} {n : Nat} {c : UInt8} {r : List UInt8} (hn : n ≤ l.length) (hc : p c.toNat = false) (h : runL p l ≤ n) : runL p (l.take n ++ c :: r) = runL p l := by
  have ha := runL_agree (p := p) (take_app l (c :: r) n hn)
  by_cases hlt : runL p l < n
  · omega
  · have he : runL p l = n := by omega
    rcases Nat.lt_or_ge n (runL p (l.take n ++ c :: r)) with hg | hg
    · have hlen : n < (l.take n ++ c :: r).length := by simp; omega
      have := runL_all hlen hg
      have hx : (l.take n ++ c :: r)[n] = c := by
        rw [List.getElem_append_right (by rw [List.length_take]; omega)]
        simp [List.length_take, Nat.min_eq_left hn]
      rw [hx, hc] at this
      cases this
    · omega
/-- Signs: what they are made of. -/
theorem signs_are9 : ∀ k : Fin signsB.length, (signsB[k]).data.toList.head? ≠ none ∧ (∀ c ∈ (signsB[k]).data.toList, let_ c.toNat = false ∧ dig c.toNat = false ∧ blank c.toNat = false ∧ ((c.toNat : Nat) : Int) ≠ 46 ∧ ((c.toNat : Nat) : Int) ≠ 10 ∧ ((c.toNat : Nat) : Int) ≠ 34 ∧ ((c.toNat : Nat) : Int) ≠ 35 ∧ ((c.toNat : Nat) : Int) ≠ 92 ∧ c ≠ 32) := by decide +kernel
theorem signs_are {x : ByteArray} (h : x ∈ signsB) : (∃ c d, x.data.toList = c :: d) ∧ (∀ c ∈ x.data.toList, let_ c.toNat = false ∧ dig c.toNat = false ∧ blank c.toNat = false ∧ ((c.toNat : Nat) : Int) ≠ 46 ∧ ((c.toNat : Nat) : Int) ≠ 10 ∧ ((c.toNat : Nat) : Int) ≠ 34 ∧ ((c.toNat : Nat) : Int) ≠ 35 ∧ ((c.toNat : Nat) : Int) ≠ 92 ∧ c ≠ 32) := by
  obtain ⟨k, hk, rfl⟩ := List.mem_iff_getElem.1 h
  obtain ⟨h1, h2⟩ := signs_are9 ⟨k, hk⟩
  refine ⟨?_, h2⟩
  cases e : (signsB[k]).data.toList with
  | nil => exact absurd (by show (signsB[k]).data.toList.head? = none; rw [e]; rfl) h1
  | cons c d => exact ⟨c, d, rfl⟩
theorem prefix_iff {l : List UInt8} {x : List UInt8} : Lib.hasPrefix l x = true ↔ x <+: l := by
  unfold Lib.hasPrefix
  exact List.isPrefixOf_iff_prefix
theorem oneSign_some {l : List UInt8} (h : (oneSign l).2.2 ≠ 0) : ∃ x, oneSign l = (7, x, x.size) ∧ x ∈ signsB ∧ x.data.toList <+: l ∧ l.take x.size = x.data.toList ∧ 0 < x.size := by
  revert h
  unfold oneSign
  split
  · rename_i x hx
    intro _
    have h1 := List.find?_some hx
    have h2 := List.mem_of_find?_eq_some hx
    have h3 := prefix_iff.1 h1
    refine ⟨x, rfl, h2, h3, ?_, ?_⟩
    · obtain ⟨r, rfl⟩ := h3
      rw [show x.size = x.data.toList.length from rfl, List.take_left]
    · obtain ⟨⟨c, d, e⟩, -⟩ := signs_are h2
      show 0 < x.data.toList.length
      rw [e]; exact Nat.succ_pos _
  · intro h; exact absurd rfl h
/-- A sign that stands first is that sign, whatever comes behind a blank. -/
theorem oneSign_blank {l : List UInt8} {x : ByteArray} {r : List UInt8} (h : signsB.find? (fun y => Lib.hasPrefix l y.data.toList) = some x) : signsB.find? (fun y => Lib.hasPrefix (x.data.toList ++ 32 :: r) y.data.toList) = some x := by
  rw [List.find?_eq_some_iff_getElem] at h ⊢
  obtain ⟨h1, k, hk, hx, h2⟩ := h
  refine ⟨prefix_iff.2 (List.prefix_append _ _), k, hk, hx, fun j hj => ?_⟩
  have h3 := h2 j hj
  obtain ⟨S, hS⟩ : ∃ S, S = signsB[j] := ⟨_, rfl⟩
  have hjm : S ∈ signsB := by rw [hS]; exact List.getElem_mem _
  rw [← hS] at h3 ⊢
  have h3' : Lib.hasPrefix l S.data.toList = false := by simpa using h3
  cases h4 : Lib.hasPrefix (x.data.toList ++ 32 :: r) S.data.toList
  · rfl
  · exfalso
    have hp := prefix_iff.1 h4
    have hxp := prefix_iff.1 h1
    rcases Nat.lt_or_ge x.data.toList.length S.data.toList.length with hlt | hge
    · have hpx : x.data.toList ++ [32] <+: S.data.toList := by
        apply List.prefix_of_prefix_length_le (l₃ := x.data.toList ++ 32 :: r) _ hp (by rw [List.length_append]; exact hlt)
        exact ⟨r, by simp⟩
      have hm : (32 : UInt8) ∈ S.data.toList := hpx.subset (by simp)
      exact (signs_are hjm).2 32 hm |>.2.2.2.2.2.2.2.2 rfl
    · have : S.data.toList <+: x.data.toList := List.prefix_of_prefix_length_le hp (List.prefix_append _ _) hge
      rw [prefix_iff.2 (this.trans hxp)] at h3'
      cases h3'
theorem cons_of {l : List UInt8} (h : l ≠ []) : ∃ c r, l = c :: r := by
  cases l with
  | nil => exact absurd rfl h
  | cons c r => exact ⟨c, r, rfl⟩
theorem oneL_nil (re : Bool) : (oneL [] re).2.2 = 0 := by
  have := oneL_le (l := []) (re := re)
  simpa using this
/-- What a token begins with. -/
theorem one_first {l : List UInt8} (h : (oneL l false).2.2 ≠ 0) : blank (byteN l 0) = false ∧ byteN l 0 ≠ 35 ∧ byteN l 0 ≠ 92 := by
  by_cases hb : blank (byteN l 0) = true ∨ byteN l 0 = 35 ∨ byteN l 0 = 92
  · exfalso
    obtain ⟨c, hc⟩ : ∃ c, c = byteN l 0 := ⟨_, rfl⟩
    have hv : c = 32 ∨ c = 9 ∨ c = 13 ∨ c = 35 ∨ c = 92 := by
      rw [← hc] at hb
      simp [blank] at hb
      omega
    have hlet : let_ (byteN l 0) = false := by rw [← hc]; rcases hv with rfl | rfl | rfl | rfl | rfl <;> decide
    have hdig : dig (byteN l 0) = false := by rw [← hc]; rcases hv with rfl | rfl | rfl | rfl | rfl <;> decide
    have h46 : byteN l 0 ≠ 46 := by omega
    unfold oneL at h
    rw [hlet, if_neg (by decide), numL_none hdig h46, if_neg (by decide)] at h
    unfold oneRest at h
    rw [if_neg (by omega), if_neg (by omega), if_neg (by rintro ⟨_, h⟩; cases h)] at h
    obtain ⟨x, -, hm, hp, -, -⟩ := oneSign_some h
    obtain ⟨⟨d, r, e⟩, h2⟩ := signs_are hm
    have h3 := h2 d (by rw [e]; simp)
    rw [e] at hp
    obtain ⟨z, rfl⟩ := hp
    have hcd : c = d.toNat := hc
    obtain ⟨-, -, h4, -, -, -, h5, h6, -⟩ := h3
    rw [← hcd] at h4 h5 h6
    rcases hv with rfl | rfl | rfl | rfl | rfl
    · revert h4; decide
    · revert h4; decide
    · revert h4; decide
    · exact h5 rfl
    · exact h6 rfl
  · simp only [not_or] at hb
    exact ⟨by simpa using hb.1, hb.2.1, hb.2.2⟩
theorem pass_none {l : List UInt8} (h : blank (byteN l 0) = false ∧ byteN l 0 ≠ 35 ∧ byteN l 0 ≠ 92) : passL l = 0 := by
  cases l with
  | nil => rfl
  | cons c r =>
    obtain ⟨h1, h2, h3⟩ := h
    rw [byteN_head] at h1 h2 h3
    rw [passL_cons, if_neg (by rw [h1]; decide), if_neg (by omega), if_neg (by omega)]
theorem pass_tok {l : List UInt8} (h : (oneL l false).2.2 ≠ 0) : passL l = 0 := pass_none (one_first h)
end Go.Proofs.Ytpgegmnapankpaa.Lex
namespace Go.Proofs.Ytpgegmnapankpaa.Lex
open Go

theorem num1_bd (l : List UInt8) : runL dig l ≤ num1 l ∧ num1 l ≤ l.length := by
  have h0 := runL_le dig l
  unfold num1
  simp only []
  cases hd : l.drop (runL dig l) with
  | nil => exact ⟨Nat.le_refl _, h0⟩
  | cons c r =>
    simp only []
    have hl : (l.drop (runL dig l)).length = r.length + 1 := by rw [hd]; rfl
    rw [List.length_drop] at hl
    have h1 := runL_le dig r
    split <;> constructor <;> omega
theorem num1_stop {l z : List UInt8} {n : Nat} (hn : n ≤ l.length) (h : num1 l ≤ n) (h0 : num1 l ≠ 0) : num1 (l.take n ++ 32 :: z) = num1 l := by
  obtain ⟨h1, h2⟩ := num1_bd l
  have hr : runL dig (l.take n ++ 32 :: z) = runL dig l := runL_stop hn (by decide) (by omega)
  obtain ⟨d, hd⟩ : ∃ d, d = runL dig l := ⟨_, rfl⟩
  have hda := drop_app l (32 :: z) n d hn (by omega)
  unfold num1 at h h0 ⊢
  simp only [hr] at h h0 ⊢
  rw [← hd] at h h0 ⊢
  rw [hda]
  cases hx : l.drop d with
  | nil =>
    rw [hx] at h h0
    simp only [List.take_nil, List.nil_append]
    rw [if_neg (by rintro ⟨h, -⟩; revert h; decide)]
  | cons c r =>
    rw [hx] at h h0
    simp only [] at h h0 ⊢
    have hl : (l.drop d).length = r.length + 1 := by rw [hx]; rfl
    rw [List.length_drop] at hl
    by_cases hc : c.toNat = 46 ∧ 0 < d + runL dig r
    · rw [if_pos hc] at h h0 ⊢
      obtain ⟨m, hm⟩ : ∃ m, n - d = m + 1 := ⟨n - d - 1, by omega⟩
      have e : runL dig (r.take m ++ 32 :: z) = runL dig r := runL_stop (by omega) (by decide) (by omega)
      rw [hm, List.take_succ_cons, List.cons_append]
      simp only [e]
      rw [if_pos hc]
    · rw [if_neg hc] at h h0 ⊢
      cases hm : n - d with
      | zero =>
        simp only [List.take_zero, List.nil_append]
        rw [if_neg (by rintro ⟨h, -⟩; revert h; decide)]
      | succ m =>
        rw [List.take_succ_cons, List.cons_append]
        simp only []
        rw [if_neg]
        rintro ⟨h46, -⟩
        exact hc ⟨h46, by omega⟩
theorem numL_ge (l : List UInt8) : num1 l ≤ numL l ∧ (num1 l = 0 → numL l = 0) := by
  unfold numL
  simp only []
  split
  · rename_i h; exact ⟨by omega, fun _ => rfl⟩
  · rename_i h
    refine ⟨?_, fun e => absurd e h⟩
    split
    · exact Nat.le_refl _
    · split
      · split <;> omega
      · exact Nat.le_refl _
theorem numL_stop {l z : List UInt8} (h0 : numL l ≠ 0) : numL (l.take (numL l) ++ 32 :: z) = numL l := by
  have hle := numL_le l
  obtain ⟨hg, hz⟩ := numL_ge l
  have hm0 : num1 l ≠ 0 := fun e => h0 (hz e)
  obtain ⟨n, hn⟩ : ∃ n, n = numL l := ⟨_, rfl⟩
  rw [← hn] at hle hg h0 ⊢
  have h1 := num1_stop (z := z) hle hg hm0
  have hda := drop_app l (32 :: z) n (num1 l) hle hg
  unfold numL at hn ⊢
  simp only [h1] at hn ⊢
  generalize num1 l = m at *
  rw [if_neg hm0] at hn ⊢
  rw [hda]
  cases hx : l.drop m with
  | nil =>
    rw [hx] at hn
    simp only [List.take_nil, List.nil_append] at hn ⊢
    rw [if_neg (by decide)]
    exact hn.symm
  | cons c r =>
    rw [hx] at hn
    simp only [] at hn
    have hl : (l.drop m).length = r.length + 1 := by rw [hx]; rfl
    rw [List.length_drop] at hl
    have hsame : n = m → (match (c :: r).take (n - m) ++ 32 :: z with
        | [] => m
        | c :: r => if c.toNat = 101 ∨ c.toNat = 69 then (let k := runL dig (r.drop (signL r)); if 0 < k then m + 1 + signL r + k else m) else m) = n := by
      intro e
      rw [e, Nat.sub_self, List.take_zero, List.nil_append]
      simp only []
      rw [if_neg (by decide)]
    by_cases hc : c.toNat = 101 ∨ c.toNat = 69
    · rw [if_pos hc] at hn
      by_cases hk : 0 < runL dig (r.drop (signL r))
      · rw [if_pos hk] at hn
        obtain ⟨j, hj⟩ : ∃ j, n - m = j + 1 := ⟨n - m - 1, by omega⟩
        have hjr : j ≤ r.length := by omega
        have hj1 : j = signL r + runL dig (r.drop (signL r)) := by omega
        have hsg : signL (r.take j ++ 32 :: z) = signL r := by
          cases r with
          | nil => simp [runL_nil] at hk
          | cons d r' =>
            obtain ⟨i, hi⟩ : ∃ i, j = i + 1 := ⟨j - 1, by omega⟩
            rw [hi, List.take_succ_cons, List.cons_append]
            rfl
        have hdr : (r.take j ++ 32 :: z).drop (signL r) = (r.drop (signL r)).take (j - signL r) ++ 32 :: z := drop_app r _ _ _ hjr (by omega)
        have hrun : runL dig ((r.drop (signL r)).take (j - signL r) ++ 32 :: z) = runL dig (r.drop (signL r)) := runL_stop (by rw [List.length_drop]; omega) (by decide) (by omega)
        rw [hj, List.take_succ_cons, List.cons_append]
        simp only [hsg, hdr, hrun]
        rw [if_pos hc, if_pos hk]
        omega
      · rw [if_neg hk] at hn
        exact hsame hn
    · rw [if_neg hc] at hn
      exact hsame hn
/-- A name stays a name before a byte that is none of its own. -/
theorem name_stop {l z : List UInt8} {c : UInt8} (hc : word c.toNat = false) : runL word (l.take (runL word l) ++ c :: z) = runL word l :=
  runL_stop (runL_le _ _) hc (Nat.le_refl _)
/-- What a mark says is said by the bytes up to its end, if one more is there. -/
theorem markL_agree {l m : List UInt8} {n : Nat} (h : m.take n = l.take n) (hn : (markL l).2 + 1 ≤ n) : markL m = markL l := by
  have h2 := markL_ge l
  have h1 : byteN m 1 = byteN l 1 := byteN_agree h (by omega)
  have htk : m.take 2 = l.take 2 := by
    have := congrArg (List.take 2) h
    rwa [List.take_take, List.take_take, Nat.min_eq_left (by omega)] at this
  unfold markL at hn ⊢
  rw [h1]
  cases he : escI (byteN l 1) with
  | some k => rfl
  | none =>
    rw [he] at hn
    simp only [] at hn ⊢
    have hd : (m.drop 1).take (n - 1) = (l.drop 1).take (n - 1) := by rw [← List.drop_take, ← List.drop_take, h]
    have ha := runL_agree (p := oct) hd
    have ho : octN m = octN l := by
      by_cases h0 : octN l = 0
      · rw [if_pos h0] at hn
        simp only [] at hn
        unfold octN at h0 ⊢
        omega
      · rw [if_neg h0] at hn
        simp only [] at hn
        unfold octN at hn h0 ⊢
        omega
    rw [ho, htk]
    by_cases h0 : octN l = 0
    · rw [if_pos h0, if_pos h0]
    · rw [if_neg h0, if_neg h0]
      rw [if_neg h0] at hn
      simp only [] at hn
      have hv : ∀ k, k ≤ octN l → octV m k = octV l k := by
        intro k
        induction k with
        | zero => intro _; rfl
        | succ k ih =>
          intro hk
          show octV m k * 8 + _ = octV l k * 8 + _
          rw [ih (by omega), byteN_agree h (by omega)]
      rw [hv _ (Nat.le_refl _)]
theorem quotL_agree : ∀ (N : Nat) (l m : List UInt8) (p : List UInt8 × Nat), l.length ≤ N → quotL 34 l = some p → m.take p.2 = l.take p.2 → quotL 34 m = some p := by
  intro N
  induction N with
  | zero =>
    intro l m p hl h
    cases l with
    | nil => rw [quot_nil] at h; cases h
    | cons c r => simp at hl
  | succ N ih =>
    intro l m p hl h hm
    obtain ⟨hp1, hp2⟩ := quotL_le 34 _ l p (Nat.le_refl _) h
    cases l with
    | nil => rw [quot_nil] at h; cases h
    | cons c r =>
      obtain ⟨j, hj⟩ : ∃ j, p.2 = j + 1 := ⟨p.2 - 1, by omega⟩
      cases m with
      | nil => rw [hj, List.take_succ_cons] at hm; simp at hm
      | cons c' r' =>
        have hm0 := hm
        rw [hj, List.take_succ_cons, List.take_succ_cons] at hm
        injection hm with hc hm
        subst hc
        have hlr : r.length ≤ N := by simpa using hl
        by_cases h10 : c'.toNat = 10
        · rw [quot_line h10] at h; cases h
        · by_cases hq : c'.toNat = (34 : UInt8).toNat
          · rw [quot_end h10 hq] at h ⊢
            exact h
          · by_cases h92 : c'.toNat = 92
            · by_cases hb : r = [] ∨ byteN r 0 = 10
              · rw [quot_bad h10 hq h92 hb] at h; cases h
              · rw [quot_mark h10 hq h92 hb] at h
                obtain ⟨x, hx, rfl⟩ := Option.map_eq_some_iff.1 h
                have h34 : (34 : UInt8).toNat = 34 := rfl
                have hsay : say 34 (c' :: r) = ((markL (c' :: r)).1.data.toList, (markL (c' :: r)).2) := by unfold say; rw [if_pos h34]
                have hge := markL_ge (c' :: r)
                obtain ⟨hx1, hx2⟩ := quotL_le 34 _ _ x (Nat.le_refl _) hx
                have hmark : markL (c' :: r') = markL (c' :: r) := by
                  apply markL_agree hm0
                  show _ ≤ (say 34 (c' :: r)).2 + x.2
                  rw [hsay]
                  show (markL (c' :: r)).2 + 1 ≤ (markL (c' :: r)).2 + x.2
                  omega
                have hsay2 : say 34 (c' :: r') = say 34 (c' :: r) := by unfold say; rw [if_pos h34, if_pos h34, hmark]
                have hs2 := say_ge 34 (c' :: r)
                have hj2 : j = (say 34 (c' :: r)).2 + x.2 - 1 := by
                  have : (say 34 (c' :: r)).2 + x.2 = j + 1 := hj
                  omega
                have hj1 : 1 ≤ j := by omega
                have hb' : ¬ (r' = [] ∨ byteN r' 0 = 10) := by
                  rintro (e | e)
                  · rw [e] at hm
                    apply hb
                    left
                    cases r with
                    | nil => rfl
                    | cons d r2 =>
                      obtain ⟨i, hi⟩ : ∃ i, j = i + 1 := ⟨j - 1, by omega⟩
                      rw [hi, List.take_succ_cons] at hm
                      simp at hm
                  · exact hb (.inr (by rw [← byteN_agree hm (by omega)]; exact e))
                rw [quot_mark h10 hq h92 hb', hsay2]
                rw [ih _ ((c' :: r').drop (say 34 (c' :: r)).2) x (by rw [List.length_drop]; simp only [List.length_cons]; omega) hx]
                · rfl
                · have h3 := congrArg (List.drop (say 34 (c' :: r)).2) hm0
                  rw [List.drop_take, List.drop_take] at h3
                  have he : ((say 34 (c' :: r)).1 ++ x.1, (say 34 (c' :: r)).2 + x.2).2 - (say 34 (c' :: r)).2 = x.2 := by show _ + _ - _ = _; omega
                  rwa [he] at h3
            · rw [quot_byte h10 hq h92] at h
              obtain ⟨x, hx, rfl⟩ := Option.map_eq_some_iff.1 h
              have hj3 : x.2 = j := by
                have : 1 + x.2 = j + 1 := hj
                omega
              rw [quot_byte h10 hq h92, ih r r' x hlr hx (by rw [hj3]; exact hm)]
              rfl
theorem quoted_stop {l z : List UInt8} (h34 : byteN l 0 = 34) (h : (quotV (quoted l)).2 ≠ 0) : quoted (l.take (quotV (quoted l)).2 ++ z) = quoted l := by
  cases hq : quoted l with
  | none => rw [hq] at h; exact absurd rfl h
  | some p =>
    cases l with
    | nil => simp [quoted] at hq
    | cons q r =>
      have hq34 : q = 34 := UInt8.toNat_inj.1 (by rw [byteN_head] at h34; show q.toNat = 34; omega)
      subst hq34
      obtain ⟨x, hx, rfl⟩ := Option.map_eq_some_iff.1 hq
      show quoted ((34 :: r).take (1 + x.2) ++ z) = _
      obtain ⟨hx1, hx2⟩ := quotL_le 34 _ _ x (Nat.le_refl _) hx
      rw [Nat.add_comm 1 x.2, List.take_succ_cons, List.cons_append]
      show (quotL 34 (r.take x.2 ++ z)).map _ = _
      rw [quotL_agree _ r (r.take x.2 ++ z) x (Nat.le_refl _) hx (take_app r z x.2 hx1)]
      show some (x.1, 1 + x.2) = some (x.1, x.2 + 1)
      rw [Nat.add_comm]
/-- A token that is neither a line's end nor a call's name is the same before a blank. -/
theorem oneL_stop {l z : List UInt8} (h0 : (oneL l false).2.2 ≠ 0) (h5 : (oneL l false).1 ≠ 5) (h8 : (oneL l false).1 ≠ 8) :
    oneL (l.take (oneL l false).2.2 ++ 32 :: z) false = oneL l false := by
  have hle := oneL_le (l := l) (re := false)
  have h00 : byteN (l.take (oneL l false).2.2 ++ 32 :: z) 0 = byteN l 0 := byteN_agree (take_app l (32 :: z) _ hle) (by omega)
  unfold oneL at h0 h5 h8 hle h00 ⊢
  by_cases hlet : let_ (byteN l 0) = true
  · rw [if_pos hlet] at h0 h5 h8 hle h00 ⊢
    have hn : (oneName l).2.2 = runL word l := rfl
    rw [hn] at h0 h00 hle ⊢
    rw [h00, if_pos hlet]
    have hr := name_stop (l := l) (z := z) (c := 32) (by decide)
    have ht := take_app l (32 :: z) _ hle
    have hb : byteN (l.take (runL word l) ++ 32 :: z) (runL word l) = 32 := by
      have := byteN_drop (l.take (runL word l) ++ 32 :: z) (runL word l) 0
      rw [drop_app_all l _ _ hle, Nat.add_zero] at this
      rw [← this]; rfl
    unfold oneName at h5 ⊢
    rw [hr, ht, hb]
    by_cases hw : Lib.containsS wordsB (bsA (l.take (runL word l))) = true
    · rw [if_pos hw, if_pos hw]
    · rw [if_neg hw, if_neg hw]
      rw [if_neg hw] at h5
      by_cases h40 : byteN l (runL word l) = 40
      · rw [if_pos h40] at h5; exact absurd rfl h5
      · rw [if_neg h40, if_neg (by decide)]
  · rw [if_neg hlet] at h0 h5 h8 hle h00 ⊢
    by_cases hnum : 0 < numL l
    · rw [if_pos hnum] at h0 h5 h8 hle h00 ⊢
      have hs := numL_stop (l := l) (z := z) (by omega)
      have hle' : numL l ≤ l.length := hle
      have h00' : byteN (l.take (numL l) ++ 32 :: z) 0 = byteN l 0 := h00
      show (if let_ (byteN (l.take (numL l) ++ 32 :: z) 0) = true then _ else if 0 < numL (l.take (numL l) ++ 32 :: z) then _ else _) = _
      rw [h00', if_neg hlet, hs, if_pos hnum, take_app l _ _ hle']
    · rw [if_neg hnum] at h0 h5 h8 hle h00 ⊢
      have hrest : oneRest l false = if byteN l 0 = 10 then (8, ⟨#[]⟩, 1) else if byteN l 0 = 34 then (2, (quotV (quoted l)).1, (quotV (quoted l)).2) else oneSign l := by
        unfold oneRest
        split
        · rfl
        · split
          · rfl
          · rw [if_neg (by rintro ⟨_, h⟩; cases h)]
      have h10 : byteN l 0 ≠ 10 := fun e => by
        rw [hrest, if_pos e] at h8; exact h8 rfl
      rw [if_neg h10] at hrest
      by_cases h34 : byteN l 0 = 34
      · rw [if_pos h34] at hrest
        rw [hrest] at h0 h00 hle ⊢
        have hq := quoted_stop (z := 32 :: z) h34 h0
        have h00' : byteN (l.take (quotV (quoted l)).2 ++ 32 :: z) 0 = byteN l 0 := h00
        show (if let_ (byteN (l.take (quotV (quoted l)).2 ++ 32 :: z) 0) = true then _ else if 0 < numL (l.take (quotV (quoted l)).2 ++ 32 :: z) then _ else oneRest (l.take (quotV (quoted l)).2 ++ 32 :: z) false) = _
        rw [h00', if_neg hlet, numL_none (by rw [h00', h34]; decide) (by rw [h00', h34]; decide), if_neg (by decide)]
        unfold oneRest
        rw [h00', if_neg h10, if_pos h34, hq]
      · rw [if_neg h34] at hrest
        rw [hrest] at h0 h00 hle ⊢
        obtain ⟨x, hx, hm, hp, htk, hpos⟩ := oneSign_some h0
        have hfind : signsB.find? (fun y => Lib.hasPrefix l y.data.toList) = some x := by
          unfold oneSign at hx
          split at hx
          · rename_i y hy
            have : y = x := by injection hx with _ h; injection h
            rw [← this]; exact hy
          · injection hx with h _; exact absurd h (by decide)
        rw [hx] at h00 ⊢
        have h00' : byteN (l.take x.size ++ 32 :: z) 0 = byteN l 0 := h00
        obtain ⟨⟨c, d, e⟩, hall⟩ := signs_are hm
        have hcx : byteN l 0 = c.toNat := by
          obtain ⟨y, rfl⟩ := hp
          rw [e]; rfl
        obtain ⟨-, hdg, -, h46, -⟩ := hall c (by rw [e]; simp)
        show (if let_ (byteN (l.take x.size ++ 32 :: z) 0) = true then _ else if 0 < numL (l.take x.size ++ 32 :: z) then _ else oneRest (l.take x.size ++ 32 :: z) false) = _
        rw [h00', if_neg hlet, numL_none (by rw [h00', hcx]; exact hdg) (by rw [h00', hcx]; exact h46), if_neg (by decide)]
        unfold oneRest
        rw [h00', if_neg h10, if_neg h34, if_neg (by rintro ⟨_, h⟩; cases h), htk]
        unfold oneSign
        rw [oneSign_blank hfind]
/-- A call's name before its bracket. -/
theorem oneL_func {l z : List UInt8} (h5 : (oneL l false).1 = 5) : oneL (l.take (oneL l false).2.2 ++ 40 :: z) false = oneL l false ∧ byteN l (oneL l false).2.2 = 40 := by
  have hlet : let_ (byteN l 0) = true := by
    cases hlet : let_ (byteN l 0)
    · exfalso
      unfold oneL at h5
      rw [hlet, if_neg (by decide)] at h5
      split at h5
      · revert h5; show ¬ (1 : Int) = 5; decide
      · unfold oneRest at h5
        split at h5
        · revert h5; show ¬ (8 : Int) = 5; decide
        · split at h5
          · revert h5; show ¬ (2 : Int) = 5; decide
          · split at h5
            · revert h5; show ¬ (3 : Int) = 5; decide
            · unfold oneSign at h5
              split at h5
              · revert h5; show ¬ (7 : Int) = 5; decide
              · revert h5; show ¬ (0 : Int) = 5; decide
    · rfl
  have he : oneL l false = oneName l := by unfold oneL; rw [if_pos hlet]
  rw [he] at h5 ⊢
  have hpos := oneName_pos hlet
  have hn : (oneName l).2.2 = runL word l := rfl
  rw [hn] at hpos ⊢
  have hle := runL_le word l
  have h00 : byteN (l.take (runL word l) ++ 40 :: z) 0 = byteN l 0 := byteN_agree (take_app l (40 :: z) _ hle) (by omega)
  have hr := name_stop (l := l) (z := z) (c := 40) (by decide)
  have ht := take_app l (40 :: z) _ hle
  have hb : byteN (l.take (runL word l) ++ 40 :: z) (runL word l) = 40 := by
    have := byteN_drop (l.take (runL word l) ++ 40 :: z) (runL word l) 0
    rw [drop_app_all l _ _ hle, Nat.add_zero] at this
    rw [← this]; rfl
  unfold oneL
  rw [h00, if_pos hlet]
  unfold oneName at h5 ⊢
  rw [hr, ht, hb]
  by_cases hw : Lib.containsS wordsB (bsA (l.take (runL word l))) = true
  · rw [if_pos hw] at h5; exact absurd h5 (by show ¬ (6 : Int) = 5; decide)
  · rw [if_neg hw] at h5 ⊢
    by_cases h40 : byteN l (runL word l) = 40
    · rw [if_pos h40]
      exact ⟨by rw [if_neg hw]; rfl, h40⟩
    · rw [if_neg h40] at h5; exact absurd h5 (by show ¬ (4 : Int) = 5; decide)
/-- The opening bracket. -/
theorem oneL_open (z : List UInt8) : oneL (40 :: z) false = (7, ⟨#[40]⟩, 1) := by
  unfold oneL
  rw [byteN_head, if_neg (by decide), numL_none (by rw [byteN_head]; decide) (by rw [byteN_head]; decide), if_neg (by decide)]
  unfold oneRest
  rw [byteN_head, if_neg (by decide), if_neg (by decide), if_neg (by rintro ⟨h, _⟩; revert h; decide)]
  have hk : (signsB[18]?) = some ⟨#[40]⟩ := by decide +kernel
  have hall : ∀ j : Fin 18, (signsB[j.val]'(by have := j.isLt; have : signsB.length = 39 := (by decide +kernel); omega)).data.toList.head? ≠ some 40 ∧ (signsB[j.val]'(by have := j.isLt; have : signsB.length = 39 := (by decide +kernel); omega)).data.toList ≠ [] := by decide +kernel
  have hfind : signsB.find? (fun y => Lib.hasPrefix (40 :: z) y.data.toList) = some ⟨#[40]⟩ := by
    rw [List.find?_eq_some_iff_getElem]
    refine ⟨prefix_iff.2 ⟨z, rfl⟩, 18, by decide +kernel, ?_, fun j hj => ?_⟩
    · have := List.getElem?_eq_some_iff.1 hk
      exact this.2
    · obtain ⟨h1, h2⟩ := hall ⟨j, hj⟩
      cases e : (signsB[j]'(by have : signsB.length = 39 := (by decide +kernel); omega)).data.toList with
      | nil => exact absurd e h2
      | cons c d =>
        have hc : c ≠ 40 := fun hc => h1 (by show (signsB[j]'_).data.toList.head? = _; rw [e, hc]; rfl)
        simp [Lib.hasPrefix, List.isPrefixOf, hc]
  unfold oneSign
  rw [hfind]
  rfl
end Go.Proofs.Ytpgegmnapankpaa.Lex
namespace Go.Proofs.Ytpgegmnapankpaa.Lex
open Go

structure Tk where
  k : Int
  s : ByteArray
  x : List UInt8
def Tk.ok (t : Tk) : Prop := ∃ l, oneL l false = (t.k, t.s, t.x.length) ∧ t.x = l.take t.x.length ∧ 0 < t.x.length
def remL : List UInt8 := [32, 35, 32, 97, 32, 34, 32, 114, 101, 109, 97, 114, 107, 10]
def postL : List UInt8 := [32, 9, 92, 10, 32]
def preL : List UInt8 := [32, 92, 10, 32]
def piece (t : Tk) : List UInt8 := if t.k = 8 then remL else if t.k = 5 then preL ++ t.x else t.x ++ postL
def said (ts : List Tk) : List UInt8 := ts.flatMap piece
theorem said_nil : said [] = [] := rfl
theorem said_cons (t : Tk) (r : List Tk) : said (t :: r) = piece t ++ said r := rfl
theorem said_snoc (ts : List Tk) (t : Tk) : said (ts ++ [t]) = said ts ++ piece t := by simp [said]
theorem piece_le (t : Tk) (h : 0 < t.x.length) : (piece t).length ≤ 14 * t.x.length := by
  unfold piece
  split
  · show 14 ≤ _; omega
  · split
    · rw [List.length_append]; show 4 + _ ≤ _; omega
    · rw [List.length_append]; show _ + 5 ≤ _; omega
def Ch : List Tk → Prop → Prop
  | [], _ => True
  | [t], b => t.k = 5 → b
  | t :: u :: r, b => (t.k = 5 → u.k = 7 ∧ u.x = [40]) ∧ Ch (u :: r) b
theorem Ch.mono {ts : List Tk} {b c : Prop} (h : Ch ts b) (hb : b → c) : Ch ts c := by
  induction ts with
  | nil => trivial
  | cons t r ih =>
    cases r with
    | nil => exact fun h5 => hb (h h5)
    | cons u r => exact ⟨h.1, ih h.2⟩
theorem Ch.snoc {ts : List Tk} {t : Tk} {b c : Prop} (h : Ch ts b) (hb : b → t.k = 7 ∧ t.x = [40]) (hc : t.k = 5 → c) : Ch (ts ++ [t]) c := by
  induction ts with
  | nil => exact hc
  | cons u r ih =>
    cases r with
    | nil => exact ⟨fun h5 => hb (h h5), hc⟩
    | cons v r => exact ⟨h.1, ih h.2⟩
theorem Ch.tail {t : Tk} {r : List Tk} (h : Ch (t :: r) False) : (t.k = 5 → ∃ z, said r = 40 :: z) ∧ Ch r False := by
  cases r with
  | nil => exact ⟨fun h5 => absurd (h h5) id, trivial⟩
  | cons u r =>
    refine ⟨fun h5 => ?_, h.2⟩
    obtain ⟨h7, hx⟩ := h.1 h5
    refine ⟨postL ++ said r, ?_⟩
    rw [said_cons]
    unfold piece
    rw [h7, if_neg (by decide), if_neg (by decide), hx]
    rfl
theorem pass_post (y : List UInt8) : passL (postL ++ y) = 5 + passL y := by
  show passL (32 :: 9 :: 92 :: 10 :: 32 :: y) = _
  rw [passL_cons, if_pos (by decide), passL_cons, if_pos (by decide), passL_two (by decide) (by decide), passL_cons, if_pos (by decide)]
  omega
theorem pass_pre (y : List UInt8) : passL (preL ++ y) = 4 + passL y := by
  show passL (32 :: 92 :: 10 :: 32 :: y) = _
  rw [passL_cons, if_pos (by decide), passL_two (by decide) (by decide), passL_cons, if_pos (by decide)]
  omega
theorem pass_rem (y : List UInt8) : passL (remL ++ y) = 13 := by
  show passL (32 :: 35 :: 32 :: 97 :: 32 :: 34 :: 32 :: 114 :: 101 :: 109 :: 97 :: 114 :: 107 :: 10 :: y) = _
  rw [passL_cons, if_pos (by decide), (passL_remark (by decide)).1]
  rw [runL_cons, if_pos (by decide), runL_cons, if_pos (by decide), runL_cons, if_pos (by decide), runL_cons, if_pos (by decide), runL_cons, if_pos (by decide), runL_cons, if_pos (by decide), runL_cons, if_pos (by decide), runL_cons, if_pos (by decide), runL_cons, if_pos (by decide), runL_cons, if_pos (by decide), runL_cons, if_pos (by decide), runL_cons, if_neg (by decide)]
theorem pass_gap {g : List UInt8} (hg : g = [] ∨ g = postL) (y : List UInt8) : passL (g ++ y) = g.length + passL y := by
  rcases hg with rfl | rfl
  · simp
  · exact pass_post y
theorem oneL_eight {l : List UInt8} (h : (oneL l false).1 = 8) : oneL l false = (8, ⟨#[]⟩, 1) := by
  revert h
  unfold oneL
  split
  · unfold oneName
    dsimp only
    split
    · intro h; exact absurd (show (6 : Int) = 8 from h) (by decide)
    · split
      · intro h; exact absurd (show (5 : Int) = 8 from h) (by decide)
      · intro h; exact absurd (show (4 : Int) = 8 from h) (by decide)
  · split
    · intro h; exact absurd (show (1 : Int) = 8 from h) (by decide)
    · unfold oneRest
      split
      · intro _; rfl
      · split
        · intro h; exact absurd (show (2 : Int) = 8 from h) (by decide)
        · split
          · intro h; exact absurd (show (3 : Int) = 8 from h) (by decide)
          · unfold oneSign
            split
            · intro h; exact absurd (show (7 : Int) = 8 from h) (by decide)
            · intro h; exact absurd (show (0 : Int) = 8 from h) (by decide)
theorem line_pos {l : List UInt8} {a : Nat} (h : a ≤ l.length) : 1 ≤ lineL l a := by
  unfold lineL
  rw [if_neg (by omega)]
  omega
/-- What Next tells within a text. -/
theorem next_of {S : List UInt8} {p m : Nat} {y : List UInt8} (hS : S.length ≤ 65536) (hp : p ≤ S.length) (hm : passL (S.drop p) = m) (hy : S.drop (p + m) = y) (hone : (oneL y false).2.2 ≠ 0) :
    nextL oneL S p false = ⟨(oneL y false).1, (oneL y false).2.1, lineL S ((p + m : Nat) : Int), ((p + m : Nat) : Int), ((p + m : Nat) : Int) + ((oneL y false).2.2 : Nat), 0, 0⟩ ∧ p + m + (oneL y false).2.2 ≤ S.length := by
  have hle := oneL_le (l := y) (re := false)
  have hyl : y.length = S.length - (p + m) := by rw [← hy, List.length_drop]
  refine ⟨?_, by omega⟩
  unfold nextL
  rw [if_neg (by omega), if_neg (by omega)]
  simp only [Int.toNat_natCast, hm, hy]
  rw [if_neg (by omega), if_neg hone]
theorem next_end {S : List UInt8} {p : Nat} (hS : S.length ≤ 65536) (hp : p ≤ S.length) (hm : passL (S.drop p) = S.length - p) :
    (nextL oneL S p false).k = 9 ∧ (nextL oneL S p false).err = 0 := by
  unfold nextL
  rw [if_neg (by omega), if_neg (by omega)]
  simp only [Int.toNat_natCast, hm]
  rw [if_pos (by omega)]
  exact ⟨rfl, rfl⟩
/-- The three ends. -/
theorem next_cases {S : List UInt8} {p : Nat} (hS : S.length ≤ 65536) (hp : p ≤ S.length) :
    (nextL oneL S p false = ⟨9, ⟨#[]⟩, lineL S (S.length : Nat), (S.length : Nat), (S.length : Nat), 0, 0⟩ ∧ byteN (S.drop p) 0 ≠ 40) ∨
    (∃ ln : Int, 1 ≤ ln ∧ nextL oneL S p false = none_ 100 ln ∧ byteN (S.drop p) 0 ≠ 40) ∨
    (∃ (t : Tk) (a : Nat), p ≤ a ∧ a + t.x.length ≤ S.length ∧ t.ok ∧ t.k ≠ 0 ∧ t.k ≠ 9 ∧ t.x = (S.drop a).take t.x.length ∧ nextL oneL S p false = ⟨t.k, t.s, lineL S (a : Nat), (a : Nat), ((a + t.x.length : Nat) : Int), 0, 0⟩ ∧
      (byteN (S.drop p) 0 = 40 → t.k = 7 ∧ t.x = [40]) ∧ (t.k = 5 → byteN (S.drop (a + t.x.length)) 0 = 40)) := by
  obtain ⟨m, hm⟩ : ∃ m, m = passL (S.drop p) := ⟨_, rfl⟩
  have hml : m ≤ S.length - p := by
    have : passL (S.drop p) ≤ (S.drop p).length := passM_le false (S.drop p)
    rw [List.length_drop] at this; omega
  have h40 : byteN (S.drop p) 0 = 40 → m = 0 ∧ ∃ z, S.drop p = 40 :: z := by
    intro h
    refine ⟨?_, ?_⟩
    · rw [hm, pass_none]
      rw [h]; exact ⟨by decide, by decide, by decide⟩
    · cases hd : S.drop p with
      | nil => rw [hd, byteN_nil] at h; exact absurd h (by decide)
      | cons c r =>
        rw [hd, byteN_head] at h
        exact ⟨r, by rw [show c = 40 from UInt8.toNat_inj.1 (by show c.toNat = 40; omega)]⟩
  by_cases he : p + m = S.length
  · left
    refine ⟨?_, fun h => ?_⟩
    · unfold nextL
      rw [if_neg (by omega), if_neg (by omega)]
      simp only [Int.toNat_natCast, ← hm, he]
      rw [if_pos trivial]
    · obtain ⟨h0, z, hz⟩ := h40 h
      have := congrArg List.length hz
      rw [List.length_drop] at this
      simp at this
      omega
  · right
    by_cases h0 : (oneL (S.drop (p + m)) false).2.2 = 0
    · left
      refine ⟨lineL S ((p + m : Nat) : Int), line_pos (by omega), ?_, fun h => ?_⟩
      · unfold nextL
        rw [if_neg (by omega), if_neg (by omega)]
        simp only [Int.toNat_natCast, ← hm]
        rw [if_neg he, if_pos h0]
      · obtain ⟨hm0, z, hz⟩ := h40 h
        rw [hm0, Nat.add_zero, hz, oneL_open] at h0
        exact absurd h0 (by decide)
    · right
      obtain ⟨hn, hle⟩ := next_of hS hp hm.symm rfl h0
      have hlen : ((S.drop (p + m)).take (oneL (S.drop (p + m)) false).2.2).length = (oneL (S.drop (p + m)) false).2.2 := by
        rw [List.length_take, List.length_drop]; omega
      refine ⟨⟨(oneL (S.drop (p + m)) false).1, (oneL (S.drop (p + m)) false).2.1, (S.drop (p + m)).take (oneL (S.drop (p + m)) false).2.2⟩, p + m, by omega, ?_, ?_, oneL_kind h0, ?_, ?_, ?_, ?_, ?_⟩
      · show p + m + ((S.drop (p + m)).take _).length ≤ _
        rw [hlen]; exact hle
      · refine ⟨S.drop (p + m), ?_, ?_, ?_⟩
        · show _ = (_, _, ((S.drop (p + m)).take _).length)
          rw [hlen]
        · show (S.drop (p + m)).take _ = (S.drop (p + m)).take ((S.drop (p + m)).take _).length
          rw [hlen]
        · show 0 < ((S.drop (p + m)).take _).length
          rw [hlen]; omega
      · show ¬ (oneL (S.drop (p + m)) false).1 = 9
        generalize S.drop (p + m) = l
        unfold oneL
        split
        · unfold oneName
          dsimp only
          split
          · decide
          · split <;> decide
        · split
          · show ¬ (1 : Int) = 9; decide
          · unfold oneRest
            split
            · show ¬ (8 : Int) = 9; decide
            · split
              · show ¬ (2 : Int) = 9; decide
              · split
                · show ¬ (3 : Int) = 9; decide
                · unfold oneSign
                  split
                  · show ¬ (7 : Int) = 9; decide
                  · show ¬ (0 : Int) = 9; decide
      · show (S.drop (p + m)).take _ = (S.drop (p + m)).take ((S.drop (p + m)).take _).length
        rw [hlen]
      · show _ = Out.mk _ _ _ _ (((p + m) + ((S.drop (p + m)).take _).length : Nat) : Int) 0 0
        rw [hlen, hn]
        congr 1
      · intro h
        obtain ⟨hm0, z, hz⟩ := h40 h
        show (oneL (S.drop (p + m)) false).1 = 7 ∧ (S.drop (p + m)).take (oneL (S.drop (p + m)) false).2.2 = [40]
        rw [hm0, Nat.add_zero, hz, oneL_open]
        exact ⟨rfl, rfl⟩
      · intro h5
        show byteN (S.drop (p + m + ((S.drop (p + m)).take _).length)) 0 = 40
        rw [hlen]
        have := (oneL_func (l := S.drop (p + m)) (z := []) h5).2
        rw [← List.drop_drop, byteN_drop, Nat.add_zero]
        exact this
/-- One token of the said text. -/
theorem next_said {S : List UInt8} {p : Nat} {g : List UInt8} {t : Tk} {r : List Tk} (hS : S.length ≤ 65536) (hp : p ≤ S.length) (hg : g = [] ∨ g = postL) (hd : S.drop p = g ++ said (t :: r)) (hok : t.ok) (hch : Ch (t :: r) False) :
    ∃ e : Nat, (nextL oneL S p false).k = t.k ∧ (nextL oneL S p false).s = t.s ∧ (nextL oneL S p false).err = 0 ∧ (nextL oneL S p false).end_ = e ∧ e ≤ S.length ∧ ∃ g', (g' = [] ∨ g' = postL) ∧ S.drop e = g' ++ said r := by
  obtain ⟨l, hl, hx, hpos⟩ := hok
  obtain ⟨h5, -⟩ := hch.tail
  have hv0 : (oneL l false).2.2 ≠ 0 := by rw [hl]; show t.x.length ≠ 0; omega
  have hx' : l.take (oneL l false).2.2 = t.x := by rw [hl]; exact hx.symm
  -- from where it stands and what it is to what is told
  have key : ∀ (b : Nat) (y : List UInt8) (g' : List UInt8), passL (S.drop p) = g.length + b → S.drop (p + (g.length + b)) = y → oneL y false = (t.k, t.s, t.x.length) → (g' = [] ∨ g' = postL) → y.drop t.x.length = g' ++ said r →
      ∃ e : Nat, (nextL oneL S p false).k = t.k ∧ (nextL oneL S p false).s = t.s ∧ (nextL oneL S p false).err = 0 ∧ (nextL oneL S p false).end_ = e ∧ e ≤ S.length ∧ ∃ g', (g' = [] ∨ g' = postL) ∧ S.drop e = g' ++ said r := by
    intro b y g' h1 h2 h3 h4 h6
    have hone : (oneL y false).2.2 ≠ 0 := by rw [h3]; show t.x.length ≠ 0; omega
    obtain ⟨hn, hle⟩ := next_of hS hp h1 h2 hone
    rw [h3] at hn hle
    refine ⟨p + (g.length + b) + t.x.length, by rw [hn], by rw [hn], by rw [hn], by rw [hn]; show ((p + (g.length + b) : Nat) : Int) + (t.x.length : Nat) = _; omega, hle, g', h4, ?_⟩
    rw [← List.drop_drop, h2, h6]
  have hdd : ∀ b, S.drop (p + (g.length + b)) = (said (t :: r)).drop b := by
    intro b
    rw [← List.drop_drop, hd, ← List.drop_drop, List.drop_left]
  have hsc := said_cons t r
  by_cases h8 : t.k = 8
  · have h1 := oneL_eight (l := l) (by rw [hl]; exact h8)
    rw [hl] at h1
    have hpc : piece t = remL := by unfold piece; rw [if_pos h8]
    rw [hpc] at hsc
    refine key 13 (10 :: said r) [] ?_ ?_ ?_ (.inl rfl) ?_
    · rw [hd, pass_gap hg, hsc, pass_rem]
    · rw [hdd, hsc]; rfl
    · rw [oneL_line (by rfl), h1]
    · have : t.x.length = 1 := by injection h1 with _ h; injection h
      rw [this]; rfl
  · by_cases h55 : t.k = 5
    · obtain ⟨z, hz⟩ := h5 h55
      have hpc : piece t = preL ++ t.x := by unfold piece; rw [if_neg h8, if_pos h55]
      rw [hpc, List.append_assoc] at hsc
      have hf := (oneL_func (l := l) (z := z) (by rw [hl]; exact h55)).1
      rw [hx', ← hz, hl] at hf
      refine key 4 (t.x ++ said r) [] ?_ ?_ hf (.inl rfl) ?_
      · rw [hd, pass_gap hg, hsc, pass_pre, pass_tok (by rw [hf]; show t.x.length ≠ 0; omega)]
      · rw [hdd, hsc]; rfl
      · rw [List.drop_left]; rfl
    · have hpc : piece t = t.x ++ postL := by unfold piece; rw [if_neg h8, if_neg h55]
      rw [hpc, List.append_assoc] at hsc
      have hf := oneL_stop (l := l) (z := 9 :: 92 :: 10 :: 32 :: said r) hv0 (by rw [hl]; exact h55) (by rw [hl]; exact h8)
      rw [hx', hl] at hf
      have hf' : oneL (t.x ++ (postL ++ said r)) false = (t.k, t.s, t.x.length) := hf
      refine key 0 (t.x ++ (postL ++ said r)) postL ?_ ?_ hf' (.inr rfl) ?_
      · rw [hd, pass_gap hg, hsc, pass_tok (by rw [hf']; show t.x.length ≠ 0; omega)]
      · rw [hdd, hsc]; rfl
      · rw [List.drop_left]
theorem next_last {S : List UInt8} {p : Nat} {g : List UInt8} (hS : S.length ≤ 65536) (hp : p ≤ S.length) (hg : g = [] ∨ g = postL) (hd : S.drop p = g) :
    (nextL oneL S p false).k = 9 ∧ (nextL oneL S p false).err = 0 := by
  refine next_end hS hp ?_
  have h := pass_gap hg []
  rw [List.append_nil] at h
  rw [hd, h, passL_nil]
  have := congrArg List.length hd
  rw [List.length_drop] at this
  omega
end Go.Proofs.Ytpgegmnapankpaa.Lex
namespace Go.Proofs.Ytpgegmnapankpaa
open Go.RowKit
theorem x_line_s (s : ByteArray) (at_ : Int) (ln : Int) (h : Lex.lineL s.data.toList at_ = ln) (w : World) (hs : s.size ≤ 4294967296) :
    Calls Try.prog 8 #[.string s, .int .i64 at_] w fun e w' => e = .returned (.int .i64 ln) ∧ w' = w := (x_line s at_ w hs).mono fun _ _ ⟨h1, h2⟩ => ⟨by rw [h1, h], h2.symm⟩
theorem info_tok : (Try.prog.info? 24).map (fun i => (i.zero, i.size, i.bytes)) = some (some (.agg #[.int .u8 0, .string ⟨#[]⟩, .int .i64 0, .int .i64 0, .int .i64 0]), 5, 48) := by kernel_rfl
theorem one_tok {k a b c : Int} {s : ByteArray} : ∀ u ∈ [Value.int .u8 k, .string s, .int .i64 a, .int .i64 b, .int .i64 c], u.oneCell' = true := by
  intro u hu; simp at hu; rcases hu with rfl | rfl | rfl | rfl | rfl <;> rfl
theorem Lex.ok_pos {t : Lex.Tk} (h : t.ok) : 0 < t.x.length := by obtain ⟨_, _, _, h⟩ := h; exact h
theorem ch_drop {ts : List Lex.Tk} (h : Lex.Ch ts False) : ∀ k, Lex.Ch (ts.drop k) False := by
  intro k
  induction k generalizing ts with
  | zero => rw [List.drop_zero]; exact h
  | succ k ih =>
    cases ts with
    | nil => exact h
    | cons t r => exact ih h.tail.2
/-- The cells of tokens. -/
def Row (cs : List Value) (ts : List Lex.Tk) : Prop := ∀ i, (h : i < ts.length) → cs[i * 5]? = some (.int .u8 ts[i].k) ∧ cs[i * 5 + 1]? = some (.string ts[i].s)
theorem Row.snoc {cs : List Value} {ts : List Lex.Tk} {t : Lex.Tk} {a b c : Int} (h : Row cs ts) (hl : cs.length = ts.length * 5) : Row (cs ++ [.int .u8 t.k, .string t.s, .int .i64 a, .int .i64 b, .int .i64 c]) (ts ++ [t]) := by
  intro i hi
  rw [List.length_append] at hi
  by_cases hlt : i < ts.length
  · rw [List.getElem?_append_left (by omega), List.getElem?_append_left (by omega), List.getElem_append_left hlt]
    exact h i hlt
  · obtain rfl : i = ts.length := by simp at hi; omega
    rw [List.getElem?_append_right (by omega), List.getElem?_append_right (by omega), hl, Nat.sub_self, Nat.add_sub_cancel_left]
    simp
def Toks (w : World) (B : Nat) (A : Option Addr) (ts : List Lex.Tk) : Prop := 0 < ts.length → ∃ b, A = some ⟨b, 0, none⟩ ∧ b < B ∧ ∀ i, (hi : i < ts.length) → w.cell? ⟨b, i * 5, none⟩ = some (.int .u8 ts[i].k) ∧ w.cell? ⟨b, i * 5 + 1, none⟩ = some (.string ts[i].s)
theorem toks_form {w : World} {base : Nat} {u : Value} {cs : List Value} {ts : List Lex.Tk} (h : w.ownsRow base 24 5 u ts.length cs) (hr : Row cs ts) : ∃ A cap, u = .slice A ts.length cap ∧ ts.length ≤ cap ∧ cap ≤ maxLen ∧ Toks w w.heap.size A ts := by
  have h' := h
  rcases h.2 with ⟨h1, h0⟩ | ⟨g, cap, cur, h1, _, hg, h4, h5, _⟩
  · exact ⟨none, 0, by rw [h1, h0], by omega, Nat.zero_le _, fun hn => by omega⟩
  · subst h1
    refine ⟨_, cap, rfl, h4, h5, fun _ => ⟨g, rfl, (Array.getElem?_eq_some_iff.1 hg).1, fun i hi => ?_⟩⟩
    obtain ⟨r1, r2⟩ := hr i hi
    rw [h'.cellAt (i * 5) (by omega), h'.cellAt (i * 5 + 1) (by omega)]
    exact ⟨r1, r2⟩
theorem own_lt {w : World} {base e n : Nat} {v : Value} {cs : List Value} (h : w.ownsRow base e 5 v n cs) {g : Nat} (hg : v.ownBlock = some g) : g < w.heap.size := by
  rcases h.2 with ⟨h1, -⟩ | ⟨g', cap, cur, h1, _, hh, _⟩
  · rw [h1] at hg; cases hg
  · rw [h1] at hg; injection hg with hg; change g' = g at hg; subst hg; exact (Array.getElem?_eq_some_iff.1 hh).1
theorem said_text {T Y : ByteArray} {ts : List Lex.Tk} {t : Lex.Tk} (hT : T.data.toList = Lex.said ts) (hY : Y.data.toList = Lex.piece t) : (T ++ Y).data.toList = Lex.said (ts ++ [t]) := by
  rw [Lex.said_snoc, ← hT, ← hY, ByteArray.data_append, Array.toList_append]
theorem said_size {T Y : ByteArray} {t : Lex.Tk} {p a e : Nat} (hY : Y.data.toList = Lex.piece t) (hT : T.size ≤ 14 * p) (hpa : p ≤ a) (he : e = a + t.x.length) (h0 : 0 < t.x.length) : (T ++ Y).size ≤ 14 * e := by
  have h1 := Lex.piece_le t h0
  have h2 : Y.size = (Lex.piece t).length := by rw [← hY]; rfl
  rw [ByteArray.size_append]
  omega
theorem piece_rem {t : Lex.Tk} (h : t.k = 8) : (⟨#[32, 35, 32, 97, 32, 34, 32, 114, 101, 109, 97, 114, 107, 10]⟩ : ByteArray).data.toList = Lex.piece t := by
  unfold Lex.piece; rw [if_pos h]; rfl
theorem piece_func {t : Lex.Tk} (h : t.k = 5) : ((⟨#[32, 92, 10, 32]⟩ : ByteArray) ++ bsA t.x).data.toList = Lex.piece t := by
  unfold Lex.piece; rw [if_neg (by omega), if_pos h, ByteArray.data_append, Array.toList_append]; rfl
theorem piece_else {t : Lex.Tk} (h8 : ¬ t.k = 8) (h5 : ¬ t.k = 5) : (bsA t.x ++ (⟨#[32, 9, 92, 10, 32]⟩ : ByteArray)).data.toList = Lex.piece t := by
  unfold Lex.piece; rw [if_neg h8, if_neg h5, ByteArray.data_append, Array.toList_append]; rfl
set_option maxRecDepth 100000 in
set_option maxHeartbeats 8000000 in
theorem l_blanks (s : ByteArray) (w : World) (hsh : w.ShapedOpen Try.prog) (hs : s.size ≤ maxLen) :
    Calls Try.prog 5 #[.string s] w fun e w' => e = .returned (.bool true) ∧ Below w.heap.size w w' := by
  have hsl : s.size < 9223372036854775808 := by unfold maxLen at hs; omega
  obtain ⟨S, hSS⟩ : ∃ S, S = if 1500 < s.size then s.extract 0 1500 else s := ⟨_, rfl⟩
  have hS1 : S.size ≤ 1500 := by rw [hSS]; split <;> first | (simp; omega) | omega
  have HSS := Lib.hid hSS
  obtain ⟨l, hl⟩ : ∃ l, l = S.data.toList := ⟨_, rfl⟩
  have hll : l.length = S.size := by rw [hl]; rfl
  have HL := Lib.hid hl
  have HLL := Lib.hid hll
  clear hs hSS hl hll hsh
  by_cases hc : 1500 < s.size
  all_goals
    have hSe := HSS.out
    first
      | (rw [if_pos hc] at hSe; have hcA : decide ((1500 : Int) < (s.size : Int)) = true := decide_eq_true (by omega); have hcB : decide (1500 < s.size) = true := decide_eq_true hc)
      | (rw [if_neg hc] at hSe; have hcA : decide ((1500 : Int) < (s.size : Int)) = false := decide_eq_false (by omega); have hcB : decide (1500 < s.size) = false := decide_eq_false hc)
    have HSE := Lib.hid hSe.symm
    clear hSe HSS
    go_enter Try.func5, Try.ntmps5
    go_wp2_with fail
    rw [HSE.out]
    clear hc HSE
    go_loopw [3, 4, 5, 6] (fun u t a n wr => ∃ (ts : List Lex.Tk) (p : Nat) (T : ByteArray) (cs : List Value), ts.length ≤ p ∧ p ≤ S.size ∧ n = .int .i64 ts.length ∧ a = .int .i64 p ∧ t = .string T ∧ T.data.toList = Lex.said ts ∧ T.size ≤ 14 * p ∧ (∀ t ∈ ts, t.ok) ∧ Lex.Ch ts (Lex.byteN (l.drop p) 0 = 40) ∧ wr.ownsRow w.heap.size 24 5 u ts.length cs ∧ Row cs ts ∧ Below w.heap.size w wr) (fun _ _ a _ _ => S.size - (intOf a).toNat)
    case atStart => exact ⟨[], 0, ⟨#[]⟩, [], Nat.zero_le _, Nat.zero_le _, rfl, rfl, rfl, rfl, Nat.zero_le _, (fun t h => by cases h), trivial, World.ownsRow_nil _ _ _ _, (fun i h => by cases h), Below.refl _ _⟩
    case round =>
      obtain ⟨ts, p, T, cs, htp, hp, rfl, rfl, rfl, hT, hTl, hoks, hch, hown, hrow, hbr⟩ := hrel
      have hc := Lex.next_cases (S := l) (p := p) (by rw [HLL.out]; omega) (by rw [HLL.out]; exact hp)
      rw [HLL.out] at hc
      have HT := Lib.hid hT
      have HOKS0 := Lib.hid hoks
      have HROW := Lib.hid hrow
      clear hT hoks hrow
      go_wp2_with fail
      refine (x_Next S p false _ (by omega)).mono ?_
      rintro _ w1 ⟨rfl, hb1⟩
      rw [← HL.out]
      rcases hc with hc | hc | hc
      · -- the end
        obtain ⟨hn, h40⟩ := hc
        rw [hn]
        have hch2 : Lex.Ch ts False := hch.mono fun h => absurd h h40
        clear hn h40 hch
        simp only [Lex.Out.tok, Lex.Out.fault, Lex.none_]
        obtain ⟨hX, hY, hB7⟩ := fin2 w1 (.int .u8 9) (.string ⟨#[]⟩) (.int .i64 (Lex.lineL l (S.size : Nat))) (.int .i64 (S.size : Nat)) (.int .i64 (S.size : Nat)) (.int .i64 0) (.int .i64 0)
        have hg2 := hb1.trans (hB7.mono hb1.size)
        have hown2 := own_of_block hown (fun g hg => hg2.block g (own_lt hown hg))
        have HBZ := Lib.hid (hbr.trans (hg2.mono hbr.size))
        have HXX := Lib.hid hX
        clear hb1 hB7 hg2 hbr hown hX
        have hown := hown2
        clear hown2
        go_wp2_with fail
        generalize (w1.alloc (.cells #[.int .u8 9, .string ⟨#[]⟩, .int .i64 (Lex.lineL l (S.size : Nat)), .int .i64 (S.size : Nat), .int .i64 (S.size : Nat)] 24)).alloc (.cells #[.int .i64 0, .int .i64 0] 27) = w2 at *
        obtain ⟨⟨c0, c1, c2, c3, c4⟩, f0, f1, f2, f3, f4⟩ := HXX.out.five
        obtain ⟨⟨d0, d1⟩, f5, f6⟩ := hY.two
        clear hY
        have hA1 : decide ((S.size : Int) < (p : Int)) = false := decide_eq_false (by omega)
        have hA1' : decide (S.size < p) = false := decide_eq_false (by omega)
        generalize hln : Lex.lineL l (S.size : Nat) = ln at *
        have HLN := Lib.hid hln
        clear hln
        have HQ := Lib.hid (fun w : World => x_line_s S (S.size : Nat) ln (by rw [← HL.out]; exact HLN.out) w (by omega))
        go_wp2_with fail
        go_quiet ((go_at_call 8; exact Calls.quiet_of_same (HQ.out _)))
        have hX9 : Blk (w2.drewN nq) w1.heap.size 24 #[.int .u8 9, .string ⟨#[]⟩, .int .i64 ln, .int .i64 (S.size : Nat), .int .i64 (S.size : Nat)] := HXX.out
        have HB9 := Lib.hid (below_drewN nq HBZ.out)
        have hown9 : (w2.drewN nq).ownsRow w.heap.size 24 5 u3 ts.length cs := hown
        clear hown
        have hown := hown9
        clear hown9
        generalize w2.drewN nq = w3 at *
        clear c0 c1 c2 c3 c4 f0 f1 f2 f3 f4 d0 d1 f5 f6
        have HX9 := Lib.hid hX9
        obtain ⟨⟨c0, c1, c2, c3, c4⟩, f0, f1, f2, f3, f4⟩ := hX9.five
        clear hX9
        have hTs : T.size ≤ 21000 := by omega
        have hTm : ¬ (65536 : Int) < (T.size : Int) := by omega
        obtain ⟨A, cap, rfl, hcap1, hcap2, -⟩ := toks_form hown HROW.out
        obtain ⟨N, hN⟩ : ∃ N, N = ts.length := ⟨_, rfl⟩
        rw [← hN] at hown hcap1 htp ⊢
        have HNN := Lib.hid hN
        have hN2 : N ≤ 1500 := by omega
        have HCH := Lib.hid hch2
        clear hch2 hN
        go_wp2_with fail
        obtain ⟨A', cap', hA', -, -, htk⟩ := toks_form (by have h := hown; rw [HNN.out] at h; exact h) HROW.out
        obtain ⟨rfl, -, -⟩ := Value.slice.inj hA'
        have HTK := Lib.hid htk
        have HBW := Lib.hid HB9.out
        clear htk hown hA'
        go_loopw [5, 115] (fun a i wq => ∃ (k q : Nat) (g : List UInt8), k ≤ N ∧ q ≤ T.size ∧ i = .int .i64 k ∧ a = .int .i64 q ∧ (g = [] ∨ g = Lex.postL) ∧ T.data.toList.drop q = g ++ Lex.said (ts.drop k) ∧ Below w3.heap.size w3 wq) (fun _ i _ => N - (intOf i).toNat)
        case atStart => exact ⟨0, 0, [], Nat.zero_le _, Nat.zero_le _, rfl, rfl, .inl rfl, by rw [List.drop_zero, List.drop_zero, HT.out]; rfl, Below.refl _ _⟩
        case round =>
          obtain ⟨k, q, g, hk, hq, rfl, rfl, hg, hdr, hbq⟩ := hrel
          have HG := Lib.hid hg
          have HDR := Lib.hid hdr
          have hTl : T.data.toList.length = T.size := rfl
          have HTL := Lib.hid hTl
          clear hg hdr hTl
          by_cases hlt : k < N
          · have hkt : k < ts.length := by have := HNN.out; omega
            obtain ⟨t, ht⟩ : ∃ t, t = ts[k] := ⟨_, rfl⟩
            have hdc : ts.drop k = t :: ts.drop (k + 1) := by rw [ht]; exact List.drop_eq_getElem_cons hkt
            have hok : t.ok := HOKS0.out t (by rw [ht]; exact List.getElem_mem _)
            have hns := Lex.next_said (S := T.data.toList) (p := q) (t := t) (r := ts.drop (k + 1)) (by rw [HTL.out]; omega) (by rw [HTL.out]; exact hq) HG.out (by rw [← hdc]; exact HDR.out) hok (by rw [← hdc]; exact ch_drop HCH.out k)
            obtain ⟨e, ek, es, eerr, eend, hee, g', hg', hd'⟩ := hns
            rw [HTL.out] at hee
            obtain ⟨b, hA, hbB, hcl⟩ := HTK.out (by omega)
            obtain ⟨k0, k1⟩ := hcl k hkt
            rw [← ht] at k0 k1
            subst hA
            have k0' := (hbq.cell (p := ⟨b, k * 5, none⟩) hbB).trans k0
            have k1' := (hbq.cell (p := ⟨b, k * 5 + 1, none⟩) hbB).trans k1
            have HG' := Lib.hid hg'
            have HD' := Lib.hid hd'
            have HBB := Lib.hid hbB
            clear hcl k0 k1 hdc hok ht hg' hd' hbB
            go_wp2_with fail
            refine (x_Next T q false _ (by omega)).mono ?_
            rintro _ w6 ⟨rfl, hb6⟩
            generalize Lex.nextL Lex.oneL T.data.toList q false = o at *
            obtain ⟨ok, os, ol, oa, oe, oer, oel⟩ := o
            simp only [] at ek es eerr eend
            subst ek es eerr eend
            simp only [Lex.Out.tok, Lex.Out.fault]
            obtain ⟨hX, hY, hB7⟩ := fin2 w6 (.int .u8 t.k) (.string t.s) (.int .i64 ol) (.int .i64 oa) (.int .i64 e) (.int .i64 0) (.int .i64 oel)
            have hBB := hbq.trans ((hb6.trans (hB7.mono hb6.size)).mono hbq.size)
            have k2 := (hb6.cell (p := ⟨b, k * 5, none⟩) (by have := HBB.out; have := hbq.size; show b < _; omega)).trans k0'
            have k3 := (hb6.cell (p := ⟨b, k * 5 + 1, none⟩) (by have := HBB.out; have := hbq.size; show b < _; omega)).trans k1'
            have k4 := (hB7.cell (p := ⟨b, k * 5, none⟩) (by have := HBB.out; have := hbq.size; have := hb6.size; show b < _; omega)).trans k2
            have k5 := (hB7.cell (p := ⟨b, k * 5 + 1, none⟩) (by have := HBB.out; have := hbq.size; have := hb6.size; show b < _; omega)).trans k3
            have HBZ := Lib.hid hBB
            have HXX := Lib.hid hX
            clear hbq hb6 hB7 hBB k0' k1' k2 k3
            go_wp2_with fail
            generalize (w6.alloc (.cells #[.int .u8 t.k, .string t.s, .int .i64 ol, .int .i64 oa, .int .i64 e] 24)).alloc (.cells #[.int .i64 0, .int .i64 oel] 27) = w7 at *
            obtain ⟨⟨c0, c1, c2, c3, c4⟩, f0, f1, f2, f3, f4⟩ := HXX.out.five
            obtain ⟨⟨d0, d1⟩, f5, f6⟩ := hY.two
            clear hX hY
            go_wp2_with fail
            go_quiet (fail)
            have hX9 : Blk (w7.drewN nq) w6.heap.size 24 #[.int .u8 t.k, .string t.s, .int .i64 ol, .int .i64 oa, .int .i64 e] := HXX.out
            have HB9 := Lib.hid (below_drewN nq HBZ.out)
            generalize w7.drewN nq = w8 at *
            clear c0 c1 c2 c3 c4 f0 f1 f2 f3 f4 d0 d1 f5 f6 k4 k5
            obtain ⟨⟨c0, c1, c2, c3, c4⟩, f0, f1, f2, f3, f4⟩ := hX9.five
            clear hX9
            go_wp2_with fail
            go_roundw
            case rel => exact ⟨k + 1, e, g', by omega, hee, by go_num, rfl, HG'.out, HD'.out, HB9.out⟩
            case measure => simp [intOf]; omega
          · obtain rfl : k = N := by omega
            have hlast := Lex.next_last (S := T.data.toList) (p := q) (g := g) (by rw [HTL.out]; omega) (by rw [HTL.out]; exact hq) HG.out (by rw [HDR.out, HNN.out, List.drop_length]; show g ++ [] = g; exact List.append_nil g)
            obtain ⟨ek, eer⟩ := hlast
            go_wp2_with fail
            refine (x_Next T q false _ (by omega)).mono ?_
            rintro _ w6 ⟨rfl, hb6⟩
            generalize Lex.nextL Lex.oneL T.data.toList q false = o at *
            obtain ⟨ok, os, ol, oa, oe, oer, oel⟩ := o
            simp only [] at ek eer
            subst ek eer
            simp only [Lex.Out.tok, Lex.Out.fault]
            obtain ⟨hX, hY, hB7⟩ := fin2 w6 (.int .u8 9) (.string os) (.int .i64 ol) (.int .i64 oa) (.int .i64 oe) (.int .i64 0) (.int .i64 oel)
            have HBZ := Lib.hid (HBW.out.trans ((hbq.trans ((hb6.trans (hB7.mono hb6.size)).mono hbq.size)).mono HBW.out.size))
            clear hbq hb6 hB7
            go_wp2_with fail
            generalize (w6.alloc (.cells #[.int .u8 9, .string os, .int .i64 ol, .int .i64 oa, .int .i64 oe] 24)).alloc (.cells #[.int .i64 0, .int .i64 oel] 27) = w7 at *
            obtain ⟨⟨c0, c1, c2, c3, c4⟩, f0, f1, f2, f3, f4⟩ := hX.five
            obtain ⟨⟨d0, d1⟩, f5, f6⟩ := hY.two
            clear hX hY
            go_wp2_with fail
            refine (Awake.walk _).mono ?_
            rintro _ w9 ⟨rfl, hb9⟩
            go_wp2_with fail
            go_ret
            exact ⟨by simp [go_sem], HBZ.out.trans (hb9.mono HBZ.out.size)⟩
      · -- a fault
        obtain ⟨ln, hln, hn, h40⟩ := hc
        rw [hn]
        have hch2 : Lex.Ch ts False := hch.mono fun h => absurd h h40
        clear hn h40 hch
        have hln1 : ¬ ln < 1 := by omega
        have hTs : T.size ≤ 21000 := by omega
        have hTm : ¬ (65536 : Int) < (T.size : Int) := by omega
        obtain ⟨A, cap, rfl, hcap1, hcap2, -⟩ := toks_form hown HROW.out
        obtain ⟨N, hN⟩ : ∃ N, N = ts.length := ⟨_, rfl⟩
        rw [← hN] at hown hcap1 htp ⊢
        have HNN := Lib.hid hN
        have hN2 : N ≤ 1500 := by omega
        have HCH := Lib.hid hch2
        clear hch2 hN
        simp only [Lex.Out.tok, Lex.Out.fault, Lex.none_]
        obtain ⟨hX, hY, hB7⟩ := fin2 w1 (.int .u8 0) (.string ⟨#[]⟩) (.int .i64 0) (.int .i64 0) (.int .i64 0) (.int .i64 100) (.int .i64 ln)
        have hg2 := hb1.trans (hB7.mono hb1.size)
        have hown2 := own_of_block hown (fun g hg => hg2.block g (own_lt hown hg))
        have HBZ := Lib.hid (hbr.trans (hg2.mono hbr.size))
        have HXX := Lib.hid hX
        clear hb1 hB7 hg2 hbr hown hX
        have hown := hown2
        clear hown2
        go_wp2_with fail
        generalize (w1.alloc (.cells #[.int .u8 0, .string ⟨#[]⟩, .int .i64 0, .int .i64 0, .int .i64 0] 24)).alloc (.cells #[.int .i64 100, .int .i64 ln] 27) = w2 at *
        obtain ⟨⟨c0, c1, c2, c3, c4⟩, f0, f1, f2, f3, f4⟩ := HXX.out.five
        obtain ⟨⟨d0, d1⟩, f5, f6⟩ := hY.two
        clear hY
        obtain ⟨A', cap', hA', -, -, htk⟩ := toks_form (by have h := hown; rw [HNN.out] at h; exact h) HROW.out
        obtain ⟨rfl, -, -⟩ := Value.slice.inj hA'
        have HTK := Lib.hid htk
        have HBW := Lib.hid HBZ.out
        clear htk hown hA'
        go_loopw [5, 115] (fun a i wq => ∃ (k q : Nat) (g : List UInt8), k ≤ N ∧ q ≤ T.size ∧ i = .int .i64 k ∧ a = .int .i64 q ∧ (g = [] ∨ g = Lex.postL) ∧ T.data.toList.drop q = g ++ Lex.said (ts.drop k) ∧ Below w2.heap.size w2 wq) (fun _ i _ => N - (intOf i).toNat)
        case atStart => exact ⟨0, 0, [], Nat.zero_le _, Nat.zero_le _, rfl, rfl, .inl rfl, by rw [List.drop_zero, List.drop_zero, HT.out]; rfl, Below.refl _ _⟩
        case round =>
          obtain ⟨k, q, g, hk, hq, rfl, rfl, hg, hdr, hbq⟩ := hrel
          have HG := Lib.hid hg
          have HDR := Lib.hid hdr
          have hTl : T.data.toList.length = T.size := rfl
          have HTL := Lib.hid hTl
          clear hg hdr hTl
          by_cases hlt : k < N
          · have hkt : k < ts.length := by have := HNN.out; omega
            obtain ⟨t, ht⟩ : ∃ t, t = ts[k] := ⟨_, rfl⟩
            have hdc : ts.drop k = t :: ts.drop (k + 1) := by rw [ht]; exact List.drop_eq_getElem_cons hkt
            have hok : t.ok := HOKS0.out t (by rw [ht]; exact List.getElem_mem _)
            have hns := Lex.next_said (S := T.data.toList) (p := q) (t := t) (r := ts.drop (k + 1)) (by rw [HTL.out]; omega) (by rw [HTL.out]; exact hq) HG.out (by rw [← hdc]; exact HDR.out) hok (by rw [← hdc]; exact ch_drop HCH.out k)
            obtain ⟨e, ek, es, eerr, eend, hee, g', hg', hd'⟩ := hns
            rw [HTL.out] at hee
            obtain ⟨b, hA, hbB, hcl⟩ := HTK.out (by omega)
            obtain ⟨k0, k1⟩ := hcl k hkt
            rw [← ht] at k0 k1
            subst hA
            have k0' := (hbq.cell (p := ⟨b, k * 5, none⟩) hbB).trans k0
            have k1' := (hbq.cell (p := ⟨b, k * 5 + 1, none⟩) hbB).trans k1
            have HG' := Lib.hid hg'
            have HD' := Lib.hid hd'
            have HBB := Lib.hid hbB
            clear hcl k0 k1 hdc hok ht hg' hd' hbB
            go_wp2_with fail
            refine (x_Next T q false _ (by omega)).mono ?_
            rintro _ w6 ⟨rfl, hb6⟩
            generalize Lex.nextL Lex.oneL T.data.toList q false = o at *
            obtain ⟨ok, os, ol, oa, oe, oer, oel⟩ := o
            simp only [] at ek es eerr eend
            subst ek es eerr eend
            simp only [Lex.Out.tok, Lex.Out.fault]
            obtain ⟨hX, hY, hB7⟩ := fin2 w6 (.int .u8 t.k) (.string t.s) (.int .i64 ol) (.int .i64 oa) (.int .i64 e) (.int .i64 0) (.int .i64 oel)
            have hBB := hbq.trans ((hb6.trans (hB7.mono hb6.size)).mono hbq.size)
            have k2 := (hb6.cell (p := ⟨b, k * 5, none⟩) (by have := HBB.out; have := hbq.size; show b < _; omega)).trans k0'
            have k3 := (hb6.cell (p := ⟨b, k * 5 + 1, none⟩) (by have := HBB.out; have := hbq.size; show b < _; omega)).trans k1'
            have k4 := (hB7.cell (p := ⟨b, k * 5, none⟩) (by have := HBB.out; have := hbq.size; have := hb6.size; show b < _; omega)).trans k2
            have k5 := (hB7.cell (p := ⟨b, k * 5 + 1, none⟩) (by have := HBB.out; have := hbq.size; have := hb6.size; show b < _; omega)).trans k3
            have HBZ := Lib.hid hBB
            have HXX := Lib.hid hX
            clear hbq hb6 hB7 hBB k0' k1' k2 k3
            go_wp2_with fail
            generalize (w6.alloc (.cells #[.int .u8 t.k, .string t.s, .int .i64 ol, .int .i64 oa, .int .i64 e] 24)).alloc (.cells #[.int .i64 0, .int .i64 oel] 27) = w7 at *
            obtain ⟨⟨c0, c1, c2, c3, c4⟩, f0, f1, f2, f3, f4⟩ := HXX.out.five
            obtain ⟨⟨d0, d1⟩, f5, f6⟩ := hY.two
            clear hX hY
            go_wp2_with fail
            go_quiet (fail)
            have hX9 : Blk (w7.drewN nq) w6.heap.size 24 #[.int .u8 t.k, .string t.s, .int .i64 ol, .int .i64 oa, .int .i64 e] := HXX.out
            have HB9 := Lib.hid (below_drewN nq HBZ.out)
            generalize w7.drewN nq = w8 at *
            clear c0 c1 c2 c3 c4 f0 f1 f2 f3 f4 d0 d1 f5 f6 k4 k5
            obtain ⟨⟨c0, c1, c2, c3, c4⟩, f0, f1, f2, f3, f4⟩ := hX9.five
            clear hX9
            go_wp2_with fail
            go_roundw
            case rel => exact ⟨k + 1, e, g', by omega, hee, by go_num, rfl, HG'.out, HD'.out, HB9.out⟩
            case measure => simp [intOf]; omega
          · obtain rfl : k = N := by omega
            have hlast := Lex.next_last (S := T.data.toList) (p := q) (g := g) (by rw [HTL.out]; omega) (by rw [HTL.out]; exact hq) HG.out (by rw [HDR.out, HNN.out, List.drop_length]; show g ++ [] = g; exact List.append_nil g)
            obtain ⟨ek, eer⟩ := hlast
            go_wp2_with fail
            refine (x_Next T q false _ (by omega)).mono ?_
            rintro _ w6 ⟨rfl, hb6⟩
            generalize Lex.nextL Lex.oneL T.data.toList q false = o at *
            obtain ⟨ok, os, ol, oa, oe, oer, oel⟩ := o
            simp only [] at ek eer
            subst ek eer
            simp only [Lex.Out.tok, Lex.Out.fault]
            obtain ⟨hX, hY, hB7⟩ := fin2 w6 (.int .u8 9) (.string os) (.int .i64 ol) (.int .i64 oa) (.int .i64 oe) (.int .i64 0) (.int .i64 oel)
            have HBZ := Lib.hid (HBW.out.trans ((hbq.trans ((hb6.trans (hB7.mono hb6.size)).mono hbq.size)).mono HBW.out.size))
            clear hbq hb6 hB7
            go_wp2_with fail
            generalize (w6.alloc (.cells #[.int .u8 9, .string os, .int .i64 ol, .int .i64 oa, .int .i64 oe] 24)).alloc (.cells #[.int .i64 0, .int .i64 oel] 27) = w7 at *
            obtain ⟨⟨c0, c1, c2, c3, c4⟩, f0, f1, f2, f3, f4⟩ := hX.five
            obtain ⟨⟨d0, d1⟩, f5, f6⟩ := hY.two
            clear hX hY
            go_wp2_with fail
            refine (Awake.walk _).mono ?_
            rintro _ w9 ⟨rfl, hb9⟩
            go_wp2_with fail
            go_ret
            exact ⟨by simp [go_sem], HBZ.out.trans (hb9.mono HBZ.out.size)⟩
      · -- a token
        obtain ⟨t, a, hpa, hae, hok, hk0, hk9, htx, hn, h40, h5⟩ := hc
        rw [hn]
        have hxpos := Lex.ok_pos hok
        obtain ⟨e, he⟩ : ∃ e, e = a + t.x.length := ⟨_, rfl⟩
        rw [← he] at hae h5 ⊢
        have hea : a < e := by omega
        have HOK := Lib.hid hok
        have HTX := Lib.hid htx
        have hch2 : Lex.Ch (ts ++ [t]) (Lex.byteN (l.drop e) 0 = 40) := hch.snoc h40 h5
        have HCH2 := Lib.hid hch2
        have HE := Lib.hid he
        clear hn h40 h5 hch hok htx hch2 he
        have HLT := Lib.hid (show ∀ g, u3.ownBlock = some g → ¬ g = w1.heap.size from fun g hg => by have := own_lt hown hg; have := hb1.size; omega)
        simp only [Lex.Out.tok, Lex.Out.fault, Lex.none_]
        obtain ⟨hX, hY, hB7⟩ := fin2 w1 (.int .u8 t.k) (.string t.s) (.int .i64 (Lex.lineL l (a : Nat))) (.int .i64 (a : Nat)) (.int .i64 (e : Nat)) (.int .i64 0) (.int .i64 0)
        have hg2 := hb1.trans (hB7.mono hb1.size)
        have hown2 := own_of_block hown (fun g hg => hg2.block g (own_lt hown hg))
        have HBZ := Lib.hid (hbr.trans (hg2.mono hbr.size))
        have HXX := Lib.hid hX
        clear hb1 hB7 hg2 hbr hown hX
        have hown := hown2
        clear hown2
        go_wp2_with fail
        generalize (w1.alloc (.cells #[.int .u8 t.k, .string t.s, .int .i64 (Lex.lineL l (a : Nat)), .int .i64 (a : Nat), .int .i64 (e : Nat)] 24)).alloc (.cells #[.int .i64 0, .int .i64 0] 27) = w2 at *
        obtain ⟨⟨c0, c1, c2, c3, c4⟩, f0, f1, f2, f3, f4⟩ := HXX.out.five
        obtain ⟨⟨d0, d1⟩, f5, f6⟩ := hY.two
        clear hY
        have hA1 : decide ((a : Int) < (p : Int)) = false := decide_eq_false (by omega)
        have hA1' : decide (a < p) = false := decide_eq_false (by omega)
        have hA2 : decide ((e : Int) < (a : Int)) = false := decide_eq_false (by omega)
        have hA2' : decide (e < a) = false := decide_eq_false (by omega)
        have hA3 : decide ((S.size : Int) < (e : Int)) = false := decide_eq_false (by omega)
        have hA3' : decide (S.size < e) = false := decide_eq_false (by omega)
        have hA4 : ¬ ((a : Int) = (e : Int)) := by omega
        have hk9b : (t.k == 9) = false := by simp [hk9]
        generalize hln : Lex.lineL l (a : Nat) = ln at *
        have HLN := Lib.hid hln
        clear hln
        have HQ := Lib.hid (fun w : World => x_line_s S (a : Nat) ln (by rw [← HL.out]; exact HLN.out) w (by omega))
        go_wp2_with fail
        go_quiet ((go_at_call 8; exact Calls.quiet_of_same (HQ.out _)))
        have hX9 : Blk (w2.drewN nq) w1.heap.size 24 #[.int .u8 t.k, .string t.s, .int .i64 ln, .int .i64 (a : Nat), .int .i64 (e : Nat)] := HXX.out
        have HB9 := Lib.hid (below_drewN nq HBZ.out)
        have hown9 : (w2.drewN nq).ownsRow w.heap.size 24 5 u3 ts.length cs := hown
        clear hown
        have hown := hown9
        clear hown9
        generalize w2.drewN nq = w3 at *
        clear c0 c1 c2 c3 c4 f0 f1 f2 f3 f4 d0 d1 f5 f6
        have HX9 := Lib.hid hX9
        obtain ⟨⟨c0, c1, c2, c3, c4⟩, f0, f1, f2, f3, f4⟩ := hX9.five
        clear hX9
        clear hA1 hA1' hA2 hA2' hA3 hA3'
        have hz1 : ts.length + 1 ≤ maxLen := by unfold maxLen; omega
        have hz2 : (ts.length + 1) * 48 ≤ 140737488355328 := by omega
        have hbs := HB9.out.size
        have hsl2 : (0 : Int) ≤ (a : Int) := by omega
        have HXE := Lib.hid (show S.extract a e = bsA t.x by rw [ext_mid, ← HL.out, show e - a = t.x.length by have := HE.out; omega, ← HTX.out])
        have hbsl : (a : Int) ≤ (e : Int) := by omega
        have hesl : (e : Int) ≤ (S.size : Int) := by omega
        have hk58 : t.k = 8 ∨ t.k = 5 ∨ (t.k ≠ 8 ∧ t.k ≠ 5) := by omega
        rcases hk58 with hk | hk | hk
        · have hb8 : (t.k == 8) = true := by simp [hk]
          have HK := Lib.hid hk
          clear hk
          go_wp2_with (at_builtin; refine wp_app1 rfl _ _ _ rfl 24 5 48 _ Try.underlying35 info_tok rfl (by decide) w.heap.size _ _ _ rfl hown [.int .u8 t.k, .string t.s, .int .i64 ln, .int .i64 a, .int .i64 e] rfl rfl one_tok hz1 hz2 hbs ?_; intro v9 w5 hown9 hgrow hne9; have hX5 := HX9.out.keep (Tur.of_grown hgrow) (fun e => HLT.out _ e.symm rfl); clear c0 c1 c2 c3 c4 f0 f1 f2 f3 f4; obtain ⟨⟨c0, c1, c2, c3, c4⟩, f0, f1, f2, f3, f4⟩ := hX5.five; clear hX5)
          have hB5 := HB9.out.trans (below_grown hown hgrow hbs)
          have hpc := piece_rem HK.out
          have hrow9 := (HROW.out).snoc (t := t) (a := ln) (b := a) (c := e) hown.1
          go_roundw
          case rel => exact ⟨ts ++ [t], e, T ++ (⟨#[32, 35, 32, 97, 32, 34, 32, 114, 101, 109, 97, 114, 107, 10]⟩ : ByteArray), _, by rw [List.length_append]; show _ + 1 ≤ _; omega, hae, by rw [List.length_append]; go_num, rfl, rfl, said_text HT.out hpc, said_size hpc hTl hpa HE.out hxpos, (fun u hu => by
            rcases List.mem_append.1 hu with h | h
            · exact HOKS0.out u h
            · rw [List.mem_singleton.1 h]; exact HOK.out), HCH2.out, by rw [List.length_append]; exact hown9, hrow9, hB5⟩
          case measure => simp [intOf]; omega
        · have hb8 : (t.k == 8) = false := by simp [hk]
          have hb5 : (t.k == 5) = true := by simp [hk]
          have HK := Lib.hid hk
          clear hk
          go_wp2_with (at_builtin; refine wp_app1 rfl _ _ _ rfl 24 5 48 _ Try.underlying35 info_tok rfl (by decide) w.heap.size _ _ _ rfl hown [.int .u8 t.k, .string t.s, .int .i64 ln, .int .i64 a, .int .i64 e] rfl rfl one_tok hz1 hz2 hbs ?_; intro v9 w5 hown9 hgrow hne9; have hX5 := HX9.out.keep (Tur.of_grown hgrow) (fun e => HLT.out _ e.symm rfl); clear c0 c1 c2 c3 c4 f0 f1 f2 f3 f4; obtain ⟨⟨c0, c1, c2, c3, c4⟩, f0, f1, f2, f3, f4⟩ := hX5.five; clear hX5)
          have hB5 := HB9.out.trans (below_grown hown hgrow hbs)
          have hpc := piece_func HK.out
          have hrow9 := (HROW.out).snoc (t := t) (a := ln) (b := a) (c := e) hown.1
          rw [HXE.out]
          go_roundw
          case rel => exact ⟨ts ++ [t], e, T ++ ((⟨#[32, 92, 10, 32]⟩ : ByteArray) ++ bsA t.x), _, by rw [List.length_append]; show _ + 1 ≤ _; omega, hae, by rw [List.length_append]; go_num, rfl, rfl, said_text HT.out hpc, said_size hpc hTl hpa HE.out hxpos, (fun u hu => by
            rcases List.mem_append.1 hu with h | h
            · exact HOKS0.out u h
            · rw [List.mem_singleton.1 h]; exact HOK.out), HCH2.out, by rw [List.length_append]; exact hown9, hrow9, hB5⟩
          case measure => simp [intOf]; omega
        · have hb8 : (t.k == 8) = false := by simp [hk]
          have hb5 : (t.k == 5) = false := by simp [hk]
          have HK := Lib.hid hk
          clear hk
          go_wp2_with (at_builtin; refine wp_app1 rfl _ _ _ rfl 24 5 48 _ Try.underlying35 info_tok rfl (by decide) w.heap.size _ _ _ rfl hown [.int .u8 t.k, .string t.s, .int .i64 ln, .int .i64 a, .int .i64 e] rfl rfl one_tok hz1 hz2 hbs ?_; intro v9 w5 hown9 hgrow hne9; have hX5 := HX9.out.keep (Tur.of_grown hgrow) (fun e => HLT.out _ e.symm rfl); clear c0 c1 c2 c3 c4 f0 f1 f2 f3 f4; obtain ⟨⟨c0, c1, c2, c3, c4⟩, f0, f1, f2, f3, f4⟩ := hX5.five; clear hX5)
          have hB5 := HB9.out.trans (below_grown hown hgrow hbs)
          have hpc := piece_else HK.out.1 HK.out.2
          have hrow9 := (HROW.out).snoc (t := t) (a := ln) (b := a) (c := e) hown.1
          rw [HXE.out]
          go_roundw
          case rel => exact ⟨ts ++ [t], e, T ++ (bsA t.x ++ (⟨#[32, 9, 92, 10, 32]⟩ : ByteArray)), _, by rw [List.length_append]; show _ + 1 ≤ _; omega, hae, by rw [List.length_append]; go_num, rfl, rfl, said_text HT.out hpc, said_size hpc hTl hpa HE.out hxpos, (fun u hu => by
            rcases List.mem_append.1 hu with h | h
            · exact HOKS0.out u h
            · rw [List.mem_singleton.1 h]; exact HOK.out), HCH2.out, by rw [List.length_append]; exact hown9, hrow9, hB5⟩
          case measure => simp [intOf]; omega
end Go.Proofs.Ytpgegmnapankpaa
