/- The walks of lex: classes of bytes, runs, what is passed over. -/
import Derived.Test.YtmapjahpjolmnaaDoorRows
import Derived.Test.YtmapjahpjolmnaaDoorG1
import Derived.Test.YtmapjahpjolmnaaDoorG3
import Derived.Test.YtmapjahpjolmnaaDoorShelf
import Derived.Lib.Strings
import Derived.Deep.Cut
set_option linter.unusedVariables false
set_option linter.unusedSimpArgs false
namespace Go.Proofs.YtmapjahpjolmnaaDoor
open Go.RowKit

theorem x_digit (b : Int) (w : World) : Calls Tryd.prog 54 #[.int .u8 b] w fun e w' => e = .returned (.bool (Lex.dig b)) ∧ w = w' := by
  go_enter Tryd.func54, Tryd.ntmps54
  go_wp2
  all_goals (go_ret; exact ⟨ret_bool (by rw [Bool.eq_iff_iff]; simp [Lex.dig, *]; try omega), rfl⟩)
theorem x_letter (b : Int) (w : World) : Calls Tryd.prog 52 #[.int .u8 b] w fun e w' => e = .returned (.bool (Lex.let_ b)) ∧ w = w' := by
  go_enter Tryd.func52, Tryd.ntmps52
  go_wp2
  all_goals (go_ret; exact ⟨ret_bool (by rw [Bool.eq_iff_iff]; simp [Lex.let_, *]; try omega), rfl⟩)
theorem x_noLine (b : Int) (w : World) : Calls Tryd.prog 49 #[.int .u8 b] w fun e w' => e = .returned (.bool (Lex.noLine b)) ∧ w = w' := by
  go_enter Tryd.func49, Tryd.ntmps49
  go_wp2
  all_goals (go_ret; exact ⟨ret_bool (by rw [Bool.eq_iff_iff]; simp [Lex.noLine, *]; try omega), rfl⟩)
theorem x_blank (b : Int) (w : World) : Calls Tryd.prog 50 #[.int .u8 b] w fun e w' => e = .returned (.bool (Lex.blank b)) ∧ w = w' := by
  go_enter Tryd.func50, Tryd.ntmps50
  go_wp2
  all_goals (go_ret; exact ⟨ret_bool (by rw [Bool.eq_iff_iff]; simp [Lex.blank, *]; try omega), rfl⟩)
theorem x_word (b : Int) (w : World) : Calls Tryd.prog 53 #[.int .u8 b] w fun e w' => e = .returned (.bool (Lex.word b)) ∧ w = w' := by
  go_enter Tryd.func53, Tryd.ntmps53
  go_wp2_with fail
  refine (x_letter b w).mono ?_
  rintro e w2 ⟨rfl, rfl⟩
  cases hl : Lex.let_ b
  · go_wp2_with fail
    refine (x_digit b w).mono ?_
    rintro e w2 ⟨rfl, rfl⟩
    go_wp2_with fail
    go_ret
    exact ⟨ret_bool (by simp [Lex.word, hl]), rfl⟩
  · go_wp2_with fail
    go_ret
    exact ⟨ret_bool (by simp [Lex.word, hl]), rfl⟩
theorem x_run (s : ByteArray) (p : Int → Bool) (g : Nat) (hc : ∀ (args : Array Value) (w : World), (callFunc g args).run Tryd.prog w = .ok (.enter g args) w) (hg : ∀ (b : Int) (w : World), Calls Tryd.prog g #[.int .u8 b] w fun e w' => e = .returned (.bool (p b)) ∧ w = w') (w : World) (hs : s.size ≤ 4294967296) :
    Calls Tryd.prog 48 #[.string s, .func (.func g) #[] #[]] w fun e w' => e = .returned (.int .i64 (Lex.runL p s.data.toList)) ∧ w = w' := by
  have hl : s.data.toList.length = s.size := rfl
  go_enter Tryd.func48, Tryd.ntmps48
  go_wp2_with fail
  go_loop [5] (fun i => ∃ k : Nat, k ≤ s.size ∧ i = .int .i64 k ∧ ∀ j, (hj : j < s.data.toList.length) → j < k → p (s.data.toList[j]).toNat = true) (fun i => s.size - (intOf i).toNat)
  case atStart => exact ⟨0, Nat.zero_le _, rfl, fun j _ h => by omega⟩
  case round =>
    obtain ⟨k, hk, rfl, hno⟩ := hrel
    have HNO := Lib.hid hno
    clear hno
    by_cases hlt : k < s.size
    · go_wp2_with fail
      refine (hg _ w).mono ?_
      rintro e w2 ⟨rfl, rfl⟩
      have HL : Hid (s.data.toList[k]'(by omega) = s[k]) := rfl
      cases hp : p s[k].toNat
      · go_wp2_with fail
        go_ret
        exact ⟨ret_int (by rw [Lex.runL_is (n := k) (by omega) HNO.out (fun h => by rw [HL.out]; exact hp)]), rfl⟩
      · go_wp2_with fail
        go_round
        case rel => exact ⟨k + 1, by omega, by go_num, fun j hj h => by
          rcases Nat.lt_or_ge j k with h | h
          · exact HNO.out j hj h
          · obtain rfl : j = k := by omega
            rw [HL.out]; exact hp⟩
        case measure => simp [intOf]; omega
    · obtain rfl : k = s.size := by omega
      go_wp2_with fail
      go_ret
      exact ⟨ret_int (by rw [Lex.runL_is (n := s.size) (by omega) HNO.out (fun h => by omega)]), rfl⟩
theorem enters_digit (args : Array Value) (w : World) : (callFunc 54 args).run Tryd.prog w = .ok (.enter 54 args) w := by kernel_rfl
theorem enters_noLine (args : Array Value) (w : World) : (callFunc 49 args).run Tryd.prog w = .ok (.enter 49 args) w := by kernel_rfl
theorem enters_blank (args : Array Value) (w : World) : (callFunc 50 args).run Tryd.prog w = .ok (.enter 50 args) w := by kernel_rfl
theorem enters_word (args : Array Value) (w : World) : (callFunc 53 args).run Tryd.prog w = .ok (.enter 53 args) w := by kernel_rfl
end Go.Proofs.YtmapjahpjolmnaaDoor
namespace Go.Proofs.YtmapjahpjolmnaaDoor
open Go.RowKit

theorem ext_drop (s : ByteArray) (k : Nat) : (s.extract k s.size).data.toList = s.data.toList.drop k := by
  rw [ByteArray.data_extract, Array.toList_extract]
  simp only [List.extract]
  exact List.take_of_length_le (by simp)
theorem ext_size (s : ByteArray) (k : Nat) : (s.extract k s.size).size = s.size - k := by simp
theorem ext_take (s : ByteArray) (k : Nat) : (s.extract 0 k).data.toList = s.data.toList.take k := by
  rw [ByteArray.data_extract, Array.toList_extract]
  simp [List.extract]
theorem pre1 (l : List UInt8) (c : UInt8) : Lib.hasPrefix l [c] = true ↔ ∃ r, l = c :: r := by
  cases l with
  | nil => simp [Lib.hasPrefix]
  | cons d r => simp [Lib.hasPrefix, List.isPrefixOf]; exact ⟨fun h => h.symm, fun h => h.symm⟩
theorem pre2 (l : List UInt8) (c c' : UInt8) : Lib.hasPrefix l [c, c'] = true ↔ ∃ r, l = c :: c' :: r := by
  match l with
  | [] => simp [Lib.hasPrefix]
  | [d] => simp [Lib.hasPrefix, List.isPrefixOf]
  | d :: d' :: r => simp [Lib.hasPrefix, List.isPrefixOf]; exact ⟨fun h => ⟨h.1.symm, h.2.symm⟩, fun h => ⟨h.1.symm, h.2.symm⟩⟩
set_option maxHeartbeats 1000000 in
theorem x_pass (s : ByteArray) (w : World) (hs : s.size ≤ 4294967296) :
    Calls Tryd.prog 43 #[.string s] w fun e w' => e = .returned (.int .i64 (Lex.passL s.data.toList)) ∧ w = w' := by
  obtain ⟨l, hl⟩ : ∃ l, l = s.data.toList := ⟨_, rfl⟩
  have hl' : l.length = s.size := by subst hl; rfl
  rw [← hl]
  have HL := Lib.hid hl
  have HLL := Lib.hid hl'
  clear hl hl'
  go_enter Tryd.func43, Tryd.ntmps43
  go_wp2_with fail
  go_loop [3] (fun i => ∃ k : Nat, k ≤ s.size ∧ i = .int .i64 k ∧ k + Lex.passL (l.drop k) = Lex.passL l) (fun i => s.size - (intOf i).toNat)
  case atStart => exact ⟨0, Nat.zero_le _, rfl, by simp⟩
  case round =>
    obtain ⟨k, hk, rfl, hno⟩ := hrel
    have HNO := Lib.hid hno
    clear hno
    go_wp2_with fail
    have hr1 := ext_drop s k
    have hr2 := ext_size s k
    rw [← HL.out] at hr1
    generalize s.extract k s.size = r at *
    have HR := Lib.hid hr1
    clear hr1
    refine (Tryd.strings_HasPrefix r ⟨#[92, 10]⟩ w).mono ?_
    rintro e w2 ⟨rfl, rfl⟩
    rw [HR.out]
    cases hp : Lib.hasPrefix (l.drop k) (⟨#[92, 10]⟩ : ByteArray).data.toList
    · go_wp2_with fail
      refine (Tryd.strings_HasPrefix r ⟨#[35]⟩ w2).mono ?_
      rintro e w2 ⟨rfl, rfl⟩
      rw [HR.out]
      cases hq : Lib.hasPrefix (l.drop k) (⟨#[35]⟩ : ByteArray).data.toList
      · go_wp2_with fail
        refine (x_run r Lex.blank 50 enters_blank x_blank w2 (by omega)).mono ?_
        rintro e w2 ⟨rfl, rfl⟩
        rw [HR.out]
        have hb := Lex.passL_blanks (l.drop k)
        have hbl := Lex.runL_le Lex.blank (l.drop k)
        rw [List.length_drop, HLL.out] at hbl
        rw [List.drop_drop] at hb
        have hst := fun h0 => Lex.passL_stop (l := l.drop k) h0 (fun h => by rw [← pre1] at h; rw [h] at hq; cases hq) (fun h => by rw [← pre2] at h; rw [h] at hp; cases hp)
        have HST := Lib.hid hst
        have HB := Lib.hid hb
        clear hb hst hp hq
        generalize Lex.runL Lex.blank (l.drop k) = m at *
        cases m with
        | zero =>
          go_wp2_with fail
          go_ret
          exact ⟨ret_int (by have := HNO.out; have := HST.out trivial; omega), rfl⟩
        | succ m =>
          go_wp2_with fail
          go_round
          case rel => exact ⟨k + (m + 1), by omega, by go_num, by have := HNO.out; have := HB.out; omega⟩
          case measure => simp [intOf]; omega
      · have hq' := (pre1 _ _).1 (show Lib.hasPrefix (l.drop k) [35] = true from hq)
        obtain ⟨r', hr'⟩ := hq'
        obtain ⟨h1, h2⟩ := Lex.passL_remark (c := 35) (r := r') rfl
        have h3 : Lex.runL Lex.noLine (l.drop k) = 1 + Lex.runL Lex.noLine r' := by rw [hr', Lex.runL_cons, if_pos (by rfl)]
        rw [← hr', ← h3] at h1 h2
        have hbl := Lex.runL_le Lex.noLine (l.drop k)
        rw [List.length_drop, HLL.out] at hbl
        rw [List.drop_drop] at h2
        have H12 := Lib.hid (And.intro h1 h2)
        have hpos : 0 < Lex.runL Lex.noLine (l.drop k) := by omega
        clear h1 h2 h3 hr' hp hq
        go_wp2_with fail
        refine (x_run r Lex.noLine 49 enters_noLine x_noLine w2 (by omega)).mono ?_
        rintro e w2 ⟨rfl, rfl⟩
        rw [HR.out]
        generalize Lex.runL Lex.noLine (l.drop k) = m at *
        go_wp2_with fail
        go_round
        case rel => exact ⟨k + m, by omega, by go_num, by have := HNO.out; have := H12.out; omega⟩
        case measure => simp [intOf]; omega
    · obtain ⟨r', hr'⟩ := (pre2 _ _ _).1 (show Lib.hasPrefix (l.drop k) [92, 10] = true from hp)
      have h1 := Lex.passL_two (c := 92) (d := 10) (r := r') rfl rfl
      have hlen : (l.drop k).length = r'.length + 2 := by rw [hr']; rfl
      rw [List.length_drop, HLL.out] at hlen
      have h2 : l.drop (k + 2) = r' := by rw [← List.drop_drop, hr']; rfl
      rw [← hr', ← h2] at h1
      have H1 := Lib.hid h1
      clear h1 h2 hr' hp
      go_wp2_with fail
      go_round
      case rel => exact ⟨k + 2, by omega, by go_num, by have := HNO.out; have := H1.out; omega⟩
      case measure => simp [intOf]; omega
theorem x_line (s : ByteArray) (at_ : Int) (w : World) (hs : s.size ≤ 4294967296) :
    Calls Tryd.prog 44 #[.string s, .int .i64 at_] w fun e w' => e = .returned (.int .i64 (Lex.lineL s.data.toList at_)) ∧ w = w' := by
  have hl : s.data.toList.length = s.size := rfl
  by_cases h1 : at_ < 0
  · go_enter Tryd.func44, Tryd.ntmps44
    go_wp2_with fail
    go_ret
    exact ⟨ret_int (by simp [Lex.lineL, h1]), rfl⟩
  · by_cases h2 : (s.size : Int) < at_
    · go_enter Tryd.func44, Tryd.ntmps44
      go_wp2_with fail
      go_ret
      exact ⟨ret_int (by simp only [Lex.lineL, hl, h2, or_true, if_true]), rfl⟩
    · have h3 := ext_take s at_.toNat
      have HL : Hid (Lex.lineL s.data.toList at_ = 1 + (Lex.lines (s.data.toList.take at_.toNat) : Int)) := by simp only [Hid, Lex.lineL, hl, h1, h2, or_self, if_false]
      have hle : Lex.lines (s.data.toList.take at_.toNat) ≤ s.size := by
        unfold Lex.lines
        exact Nat.le_trans List.count_le_length (by simp; omega)
      have h0 : 0 ≤ at_ := by omega
      have h4 : at_ ≤ (s.size : Int) := by omega
      clear h1 h2
      go_enter Tryd.func44, Tryd.ntmps44
      go_wp2_with fail
      generalize s.extract 0 at_.toNat = r at *
      refine (Tryd.strings_Count_one r 10 w).mono ?_
      rintro e w2 ⟨rfl, rfl⟩
      rw [h3, show Lib.countByte (s.data.toList.take at_.toNat) 10 = Lex.lines (s.data.toList.take at_.toNat) from rfl]
      generalize Lex.lines (s.data.toList.take at_.toNat) = m at *
      go_wp2_with fail
      go_ret
      exact ⟨ret_int (by rw [HL.out]), rfl⟩
end Go.Proofs.YtmapjahpjolmnaaDoor
namespace Go.Proofs.YtmapjahpjolmnaaDoor
open Go.RowKit

namespace Lex
def byteN (l : List UInt8) (k : Nat) : Int := ((l.getD k 0).toNat : Int)
theorem byteN_in {l : List UInt8} {k : Nat} (h : k < l.length) : byteN l k = (l[k].toNat : Int) := by simp [byteN, List.getD, h]
theorem byteN_out {l : List UInt8} {k : Nat} (h : l.length ≤ k) : byteN l k = 0 := by simp [byteN, List.getD, List.getElem?_eq_none h]
theorem byteN_range (l : List UInt8) (k : Nat) : 0 ≤ byteN l k ∧ byteN l k < 256 := by
  have := (l.getD k 0).toNat_lt
  unfold byteN; omega
theorem run_yes {p : Int → Bool} (hp : p 0 = false) {l : List UInt8} {k : Nat} (h : p (byteN l k) = true) : k < l.length ∧ runL p (l.drop k) = 1 + runL p (l.drop (k + 1)) := by
  have hk : k < l.length := by
    rcases Nat.lt_or_ge k l.length with h1 | h1
    · exact h1
    · rw [byteN_out h1, hp] at h; cases h
  refine ⟨hk, ?_⟩
  rw [byteN_in hk] at h
  rw [List.drop_eq_getElem_cons hk, runL_cons, if_pos h]
theorem run_not {p : Int → Bool} {l : List UInt8} {k : Nat} (h : p (byteN l k) = false) : runL p (l.drop k) = 0 := by
  rcases Nat.lt_or_ge k l.length with h1 | h1
  · rw [byteN_in h1] at h
    rw [List.drop_eq_getElem_cons h1, runL_cons, if_neg (by simp [h])]
  · rw [List.drop_eq_nil_of_le h1]; rfl
theorem lines_succ (l : List UInt8) (k : Nat) (h : k < l.length) : lines (l.take (k + 1)) = lines (l.take k) + (if l[k].toNat = 10 then 1 else 0) := by
  unfold lines
  rw [List.take_succ_eq_append_getElem h, List.count_append]
  congr 1
  by_cases h1 : l[k].toNat = 10
  · rw [if_pos h1]
    have : l[k] = 10 := UInt8.toNat_inj.1 h1
    simp [this]
  · rw [if_neg h1, List.count_singleton, if_neg]
    intro e
    have : l[k] = 10 := by simpa using e
    rw [this] at h1; exact h1 rfl
end Lex






end Go.Proofs.YtmapjahpjolmnaaDoor
namespace Go.Proofs.YtmapjahpjolmnaaDoor
open Go.RowKit

namespace Lex
theorem num1_no {l : List UInt8} (h : ¬ ∃ r, l.drop (runL dig l) = 46 :: r) : num1 l = runL dig l := by
  unfold num1
  dsimp only
  split
  · rfl
  · rename_i c r hd
    rw [if_neg]
    rintro ⟨h1, -⟩
    exact h ⟨r, by rw [hd, show c = 46 from UInt8.toNat_inj.1 h1]⟩
theorem num1_dot {l r : List UInt8} (h : l.drop (runL dig l) = 46 :: r) : num1 l = if 0 < runL dig l + runL dig r then runL dig l + 1 + runL dig r else runL dig l := by
  unfold num1
  simp only [h]
  rw [show (46 : UInt8).toNat = 46 from rfl]
  simp
theorem num1_le (l : List UInt8) : num1 l ≤ l.length := by
  have h := runL_le dig l
  by_cases hd : ∃ r, l.drop (runL dig l) = 46 :: r
  · obtain ⟨r, hr⟩ := hd
    rw [num1_dot hr]
    have h1 : (l.drop (runL dig l)).length = r.length + 1 := by rw [hr]; rfl
    have h2 := runL_le dig r
    rw [List.length_drop] at h1
    split <;> omega
  · rw [num1_no hd]; exact h
theorem numL_zero {l : List UInt8} (h : num1 l = 0) : numL l = 0 := by unfold numL; simp [h]
theorem numL_end {l : List UInt8} (h : num1 l ≠ 0) (h1 : num1 l = l.length) : numL l = num1 l := by
  unfold numL
  simp only [h, if_false]
  rw [List.drop_eq_nil_of_le (by omega)]
theorem numL_no {l : List UInt8} {c : UInt8} {r : List UInt8} (h : num1 l ≠ 0) (h1 : l.drop (num1 l) = c :: r) (h2 : ¬ (c.toNat = 101 ∨ c.toNat = 69)) : numL l = num1 l := by
  unfold numL
  simp only [h, if_false, h1, h2]
theorem numL_yes {l : List UInt8} {c : UInt8} {r : List UInt8} (h : num1 l ≠ 0) (h1 : l.drop (num1 l) = c :: r) (h2 : c.toNat = 101 ∨ c.toNat = 69) : numL l = if 0 < runL dig (r.drop (signL r)) then num1 l + 1 + signL r + runL dig (r.drop (signL r)) else num1 l := by
  unfold numL
  simp only [h, if_false, h1, h2, if_true]
theorem signL_le (r : List UInt8) : signL r ≤ r.length := by
  unfold signL
  cases r with
  | nil => simp
  | cons d r => dsimp only; split <;> simp
theorem numL_le (l : List UInt8) : numL l ≤ l.length := by
  have h := num1_le l
  by_cases h0 : num1 l = 0
  · rw [numL_zero h0]; omega
  · cases hd : l.drop (num1 l) with
    | nil =>
      have h1 : (l.drop (num1 l)).length = 0 := by rw [hd]; rfl
      rw [List.length_drop] at h1
      rw [numL_end h0 (by omega)]; omega
    | cons c r =>
      by_cases h2 : c.toNat = 101 ∨ c.toNat = 69
      · rw [numL_yes h0 hd h2]
        have h1 : (l.drop (num1 l)).length = r.length + 1 := by rw [hd]; rfl
        rw [List.length_drop] at h1
        have h3 := signL_le r
        have h4 := runL_le dig (r.drop (signL r))
        rw [List.length_drop] at h4
        split <;> omega
      · rw [numL_no h0 hd h2]; exact h
end Lex
theorem or_lem (c : UInt8) : (bits BinOp.or IntKind.u8 (c.toNat : Int) 32 == 101) = decide (c.toNat = 101 ∨ c.toNat = 69) := by
  have h : ∀ n : Nat, n < 256 → (bits BinOp.or IntKind.u8 (n : Int) 32 == 101) = decide (n = 101 ∨ n = 69) := by decide +kernel
  exact h _ (by have := c.toNat_lt; omega)
theorem ext2 (s : ByteArray) (n k : Nat) : ((s.extract n s.size).extract k (s.size - n)).data.toList = s.data.toList.drop (n + k) := by
  have := ext_drop (s.extract n s.size) k
  rw [ext_size, ext_drop, List.drop_drop] at this
  exact this
theorem getL0 {L : List UInt8} {c : UInt8} {r : List UInt8} (e : L = c :: r) (h : 0 < L.length) : L[0] = c := by subst e; rfl
theorem getL1 {L : List UInt8} {c d : UInt8} {r : List UInt8} (e : L = c :: d :: r) (h : 1 < L.length) : L[1] = d := by subst e; rfl
theorem ext_get {s : ByteArray} {n : Nat} {c : UInt8} {r : List UInt8} (h : s.data.toList.drop n = c :: r) (h0 : 0 < (s.extract n s.size).size) : (s.extract n s.size)[0]'h0 = c := by
  have h1 := ext_drop s n
  rw [h] at h1
  exact getL0 h1 (by simpa using h0)
theorem ext_get1 {s : ByteArray} {n : Nat} {c d : UInt8} {r : List UInt8} (h : s.data.toList.drop n = c :: d :: r) (h0 : 1 < (s.extract n s.size).size) : (s.extract n s.size)[1]'h0 = d := by
  have h1 := ext_drop s n
  rw [h] at h1
  exact getL1 h1 (by simpa using h0)
theorem toList_empty (s : ByteArray) : s.toList.isEmpty = s.data.toList.isEmpty := by
  have h := tolist_beq s ⟨#[]⟩
  have h0 : (⟨#[]⟩ : ByteArray).toList = [] := by unfold ByteArray.toList; unfold ByteArray.toList.loop; rfl
  rw [h0] at h
  cases h1 : s.toList <;> cases h2 : s.data.toList <;> simp_all
set_option maxHeartbeats 1000000 in
theorem x_num (s : ByteArray) (w : World) (hs : s.size ≤ 4294967296) :
    Calls Tryd.prog 56 #[.string s] w fun e w' => e = .returned (.int .i64 (Lex.numL s.data.toList)) ∧ w = w' := by
  obtain ⟨l, hl⟩ : ∃ l, l = s.data.toList := ⟨_, rfl⟩
  have hl' : l.length = s.size := by subst hl; rfl
  rw [← hl]
  have HL := Lib.hid hl
  have HLL := Lib.hid hl'
  have hle := Lex.num1_le l
  rw [hl'] at hle
  clear hl hl'
  go_enter Tryd.func56, Tryd.ntmps56
  go_wp2_with fail
  refine (x_run s Lex.dig 54 enters_digit x_digit w (by omega)).mono ?_
  rintro e w2 ⟨rfl, rfl⟩
  rw [← HL.out]
  have hn := Lex.runL_le Lex.dig l
  rw [HLL.out] at hn
  have HN0 := Lib.hid (@Lex.num1_no l)
  have HN1 := Lib.hid (fun r => @Lex.num1_dot l r)
  have hr1 := ext_drop s (Lex.runL Lex.dig l)
  have hr2 := ext_size s (Lex.runL Lex.dig l)
  have hq1 := ext_drop s (Lex.runL Lex.dig l + 1)
  rw [← HL.out] at hr1 hq1
  have HR := Lib.hid hr1
  have HQ := Lib.hid hq1
  clear hr1 hq1
  generalize hne : Lex.runL Lex.dig l = n at *
  clear hne
  go_wp2_with fail
  refine (Tryd.strings_HasPrefix _ ⟨#[46]⟩ _).mono ?_
  rintro e w2 ⟨rfl, rfl⟩
  rw [HR.out]
  cases hp : Lib.hasPrefix (l.drop n) (⟨#[46]⟩ : ByteArray).data.toList
  · have HE : Hid (Lex.num1 l = n) := HN0.out fun h => by rw [← pre1] at h; rw [show Lib.hasPrefix (l.drop n) [46] = false from hp] at h; cases h
    clear hp HN0 HN1 HQ HR hr2
    go_upto_region 6 with fail
    generalize n = m at *
    by_cases hm0 : m = 0
    · subst hm0
      have hz := Lex.numL_zero HE.out
      go_wp2_with fail
      go_ret
      exact ⟨ret_int (by rw [hz]; rfl), rfl⟩
    have hne0 : Lex.num1 l ≠ 0 := by rw [HE.out]; exact hm0
    have HNE := Lib.hid hne0
    clear hne0
    rcases hd : l.drop m with _ | ⟨c, r⟩
    · have hlen : (l.drop m).length = 0 := by rw [hd]; rfl
      rw [List.length_drop, HLL.out] at hlen
      have hz := Lex.numL_end HNE.out (by rw [HE.out, HLL.out]; omega)
      have hx : (s.extract m s.size).toList.isEmpty = true := by rw [toList_empty, ext_drop, ← HL.out, hd]; rfl
      have HZ := Lib.hid hz
      clear hd hz
      go_wp2_with fail
      go_ret
      exact ⟨ret_int (by rw [HZ.out, HE.out]), rfl⟩
    · have hlen : (l.drop m).length = r.length + 1 := by rw [hd]; rfl
      rw [List.length_drop, HLL.out] at hlen
      have hx : (s.extract m s.size).toList.isEmpty = false := by rw [toList_empty, ext_drop, ← HL.out, hd]; rfl
      have hd' := hd
      rw [HL.out] at hd'
      have hg := ext_get hd'
      have hor := or_lem c
      have hx2 := ext2 s m
      rw [← HL.out] at hx2
      have HX2 := Lib.hid hx2
      have HY := Lib.hid (fun h => Lex.numL_yes HNE.out (by rw [HE.out]; exact hd) h)
      have HNO := Lib.hid (fun h => Lex.numL_no HNE.out (by rw [HE.out]; exact hd) h)
      clear hx2
      by_cases hc : c.toNat = 101 ∨ c.toNat = 69
      · rw [decide_eq_true hc] at hor
        have HY' := Lib.hid (HY.out hc)
        clear HY HNO hc
        rcases hr : r with _ | ⟨d, r2⟩
        · subst hr
          have hl1 : s.size - m ≤ 1 := by simp at hlen; omega
          have hl0 : 0 < s.size - m := by omega
          have HLEN := Lib.hid hlen
          clear hlen
          have HD := Lib.hid hd
          clear hd hd'
          go_wp2_with fail
          refine (x_run _ Lex.dig 54 enters_digit x_digit _ (by simp; omega)).mono ?_
          rintro e w3 ⟨rfl, rfl⟩
          rw [show ((s.extract m s.size).extract 1 (s.size - m)).data.toList = [] by rw [HX2.out, ← List.drop_drop, HD.out]; rfl]
          go_wp2_with fail
          go_ret
          exact ⟨ret_int (by rw [HY'.out, HE.out]; simp [Lex.signL, Lex.runL_nil]), rfl⟩
        · subst hr
          have hg1 := ext_get1 hd'
          have hl1 : 2 ≤ s.size - m := by simp at hlen; omega
          have hl0 : 0 < s.size - m := by omega
          have HLEN := Lib.hid hlen
          clear hlen
          have HD := Lib.hid hd
          clear hd hd'
          by_cases hs1 : d.toNat = 43
          · have hsg : Lex.signL (d :: r2) = 1 := by simp [Lex.signL, hs1]
            have hbl := Lex.runL_le Lex.dig (l.drop (m + 2))
            rw [List.length_drop, HLL.out] at hbl
            go_wp2_with fail
            refine (x_run _ Lex.dig 54 enters_digit x_digit _ (by simp; omega)).mono ?_
            rintro e w3 ⟨rfl, rfl⟩
            rw [HX2.out]
            have hdr : (d :: r2).drop (Lex.signL (d :: r2)) = l.drop (m + 2) := by rw [hsg, ← List.drop_drop, HD.out]; rfl
            have HY2 := Lib.hid HY'.out
            rw [hdr, hsg] at HY2
            clear hdr hsg HY'
            generalize Lex.runL Lex.dig (l.drop (m + 2)) = q at *
            by_cases hq : 0 < q
            · rw [if_pos hq] at HY2
              go_wp2_with fail
              go_ret
              exact ⟨ret_int (by rw [HY2.out, HE.out]; omega), rfl⟩
            · rw [if_neg hq] at HY2
              go_wp2_with fail
              go_ret
              exact ⟨ret_int (by rw [HY2.out, HE.out]), rfl⟩
          · by_cases hs2 : d.toNat = 45
            · have hsg : Lex.signL (d :: r2) = 1 := by simp [Lex.signL, hs2]
              have hbl := Lex.runL_le Lex.dig (l.drop (m + 2))
              rw [List.length_drop, HLL.out] at hbl
              go_wp2_with fail
              refine (x_run _ Lex.dig 54 enters_digit x_digit _ (by simp; omega)).mono ?_
              rintro e w3 ⟨rfl, rfl⟩
              rw [HX2.out]
              have hdr : (d :: r2).drop (Lex.signL (d :: r2)) = l.drop (m + 2) := by rw [hsg, ← List.drop_drop, HD.out]; rfl
              have HY2 := Lib.hid HY'.out
              rw [hdr, hsg] at HY2
              clear hdr hsg HY'
              generalize Lex.runL Lex.dig (l.drop (m + 2)) = q at *
              by_cases hq : 0 < q
              · rw [if_pos hq] at HY2
                go_wp2_with fail
                go_ret
                exact ⟨ret_int (by rw [HY2.out, HE.out]; omega), rfl⟩
              · rw [if_neg hq] at HY2
                go_wp2_with fail
                go_ret
                exact ⟨ret_int (by rw [HY2.out, HE.out]), rfl⟩
            · have h43 : ((d.toNat : Int) == 43) = false := by simp; omega
              have h45 : ((d.toNat : Int) == 45) = false := by simp; omega
              have hsg : Lex.signL (d :: r2) = 0 := by simp [Lex.signL, hs1, hs2]
              have hbl := Lex.runL_le Lex.dig (l.drop (m + 1))
              rw [List.length_drop, HLL.out] at hbl
              go_wp2_with fail
              refine (x_run _ Lex.dig 54 enters_digit x_digit _ (by simp; omega)).mono ?_
              rintro e w3 ⟨rfl, rfl⟩
              rw [HX2.out]
              have hdr : (d :: r2).drop (Lex.signL (d :: r2)) = l.drop (m + 1) := by rw [hsg, ← List.drop_drop, HD.out]; rfl
              have HY2 := Lib.hid HY'.out
              rw [hdr, hsg] at HY2
              clear hdr hsg HY'
              generalize Lex.runL Lex.dig (l.drop (m + 1)) = q at *
              by_cases hq : 0 < q
              · rw [if_pos hq] at HY2
                go_wp2_with fail
                go_ret
                exact ⟨ret_int (by rw [HY2.out, HE.out]; omega), rfl⟩
              · rw [if_neg hq] at HY2
                go_wp2_with fail
                go_ret
                exact ⟨ret_int (by rw [HY2.out, HE.out]), rfl⟩
      · rw [decide_eq_false hc] at hor
        have HZ := Lib.hid (HNO.out hc)
        have hl0 : 0 < s.size - m := by omega
        clear hd hd' HY HNO hc hlen
        go_wp2_with fail
        go_ret
        exact ⟨ret_int (by rw [HZ.out, HE.out]), rfl⟩
  · obtain ⟨r', hr'⟩ := (pre1 _ _).1 (show Lib.hasPrefix (l.drop n) [46] = true from hp)
    have hlen0 : (l.drop n).length = r'.length + 1 := by rw [hr']; rfl
    rw [List.length_drop, HLL.out] at hlen0
    have h2 : l.drop (n + 1) = r' := by rw [← List.drop_drop, hr']; rfl
    have HE0 : Hid (Lex.num1 l = if 0 < n + Lex.runL Lex.dig r' then n + 1 + Lex.runL Lex.dig r' else n) := HN1.out _ hr'
    rw [h2] at HQ
    have hkl := Lex.runL_le Lex.dig r'
    clear hp HN0 HN1 HR hr2 hr' h2
    go_wp2_with fail
    refine (x_run _ Lex.dig 54 enters_digit x_digit _ (by simp; omega)).mono ?_
    rintro e w3 ⟨rfl, rfl⟩
    rw [HQ.out]
    generalize Lex.runL Lex.dig r' = k at *
    by_cases hnk : 0 < n + k
    · rw [if_pos hnk] at HE0
      go_upto_region 6 with fail
      rw [show (n : Int) + (1 + (k : Int)) = ((n + 1 + k : Nat) : Int) by omega]
      have HE := Lib.hid HE0.out
      clear HE0 hnk HQ
      have hm : n + 1 + k ≤ s.size := by omega
      clear hn hkl hlen0
      generalize n + 1 + k = m at *
      by_cases hm0 : m = 0
      · subst hm0
        have hz := Lex.numL_zero HE.out
        go_wp2_with fail
        go_ret
        exact ⟨ret_int (by rw [hz]; rfl), rfl⟩
      have hne0 : Lex.num1 l ≠ 0 := by rw [HE.out]; exact hm0
      have HNE := Lib.hid hne0
      clear hne0
      rcases hd : l.drop m with _ | ⟨c, r⟩
      · have hlen : (l.drop m).length = 0 := by rw [hd]; rfl
        rw [List.length_drop, HLL.out] at hlen
        have hz := Lex.numL_end HNE.out (by rw [HE.out, HLL.out]; omega)
        have hx : (s.extract m s.size).toList.isEmpty = true := by rw [toList_empty, ext_drop, ← HL.out, hd]; rfl
        have HZ := Lib.hid hz
        clear hd hz
        go_wp2_with fail
        go_ret
        exact ⟨ret_int (by rw [HZ.out, HE.out]), rfl⟩
      · have hlen : (l.drop m).length = r.length + 1 := by rw [hd]; rfl
        rw [List.length_drop, HLL.out] at hlen
        have hx : (s.extract m s.size).toList.isEmpty = false := by rw [toList_empty, ext_drop, ← HL.out, hd]; rfl
        have hd' := hd
        rw [HL.out] at hd'
        have hg := ext_get hd'
        have hor := or_lem c
        have hx2 := ext2 s m
        rw [← HL.out] at hx2
        have HX2 := Lib.hid hx2
        have HY := Lib.hid (fun h => Lex.numL_yes HNE.out (by rw [HE.out]; exact hd) h)
        have HNO := Lib.hid (fun h => Lex.numL_no HNE.out (by rw [HE.out]; exact hd) h)
        clear hx2
        by_cases hc : c.toNat = 101 ∨ c.toNat = 69
        · rw [decide_eq_true hc] at hor
          have HY' := Lib.hid (HY.out hc)
          clear HY HNO hc
          rcases hr : r with _ | ⟨d, r2⟩
          · subst hr
            have hl1 : s.size - m ≤ 1 := by simp at hlen; omega
            have hl0 : 0 < s.size - m := by omega
            have HLEN := Lib.hid hlen
            clear hlen
            have HD := Lib.hid hd
            clear hd hd'
            go_wp2_with fail
            refine (x_run _ Lex.dig 54 enters_digit x_digit _ (by simp; omega)).mono ?_
            rintro e w3 ⟨rfl, rfl⟩
            rw [show ((s.extract m s.size).extract 1 (s.size - m)).data.toList = [] by rw [HX2.out, ← List.drop_drop, HD.out]; rfl]
            go_wp2_with fail
            go_ret
            exact ⟨ret_int (by rw [HY'.out, HE.out]; simp [Lex.signL, Lex.runL_nil]), rfl⟩
          · subst hr
            have hg1 := ext_get1 hd'
            have hl1 : 2 ≤ s.size - m := by simp at hlen; omega
            have hl0 : 0 < s.size - m := by omega
            have HLEN := Lib.hid hlen
            clear hlen
            have HD := Lib.hid hd
            clear hd hd'
            by_cases hs1 : d.toNat = 43
            · have hsg : Lex.signL (d :: r2) = 1 := by simp [Lex.signL, hs1]
              have hbl := Lex.runL_le Lex.dig (l.drop (m + 2))
              rw [List.length_drop, HLL.out] at hbl
              go_wp2_with fail
              refine (x_run _ Lex.dig 54 enters_digit x_digit _ (by simp; omega)).mono ?_
              rintro e w3 ⟨rfl, rfl⟩
              rw [HX2.out]
              have hdr : (d :: r2).drop (Lex.signL (d :: r2)) = l.drop (m + 2) := by rw [hsg, ← List.drop_drop, HD.out]; rfl
              have HY2 := Lib.hid HY'.out
              rw [hdr, hsg] at HY2
              clear hdr hsg HY'
              generalize Lex.runL Lex.dig (l.drop (m + 2)) = q at *
              by_cases hq : 0 < q
              · rw [if_pos hq] at HY2
                go_wp2_with fail
                go_ret
                exact ⟨ret_int (by rw [HY2.out, HE.out]; omega), rfl⟩
              · rw [if_neg hq] at HY2
                go_wp2_with fail
                go_ret
                exact ⟨ret_int (by rw [HY2.out, HE.out]), rfl⟩
            · by_cases hs2 : d.toNat = 45
              · have hsg : Lex.signL (d :: r2) = 1 := by simp [Lex.signL, hs2]
                have hbl := Lex.runL_le Lex.dig (l.drop (m + 2))
                rw [List.length_drop, HLL.out] at hbl
                go_wp2_with fail
                refine (x_run _ Lex.dig 54 enters_digit x_digit _ (by simp; omega)).mono ?_
                rintro e w3 ⟨rfl, rfl⟩
                rw [HX2.out]
                have hdr : (d :: r2).drop (Lex.signL (d :: r2)) = l.drop (m + 2) := by rw [hsg, ← List.drop_drop, HD.out]; rfl
                have HY2 := Lib.hid HY'.out
                rw [hdr, hsg] at HY2
                clear hdr hsg HY'
                generalize Lex.runL Lex.dig (l.drop (m + 2)) = q at *
                by_cases hq : 0 < q
                · rw [if_pos hq] at HY2
                  go_wp2_with fail
                  go_ret
                  exact ⟨ret_int (by rw [HY2.out, HE.out]; omega), rfl⟩
                · rw [if_neg hq] at HY2
                  go_wp2_with fail
                  go_ret
                  exact ⟨ret_int (by rw [HY2.out, HE.out]), rfl⟩
              · have h43 : ((d.toNat : Int) == 43) = false := by simp; omega
                have h45 : ((d.toNat : Int) == 45) = false := by simp; omega
                have hsg : Lex.signL (d :: r2) = 0 := by simp [Lex.signL, hs1, hs2]
                have hbl := Lex.runL_le Lex.dig (l.drop (m + 1))
                rw [List.length_drop, HLL.out] at hbl
                go_wp2_with fail
                refine (x_run _ Lex.dig 54 enters_digit x_digit _ (by simp; omega)).mono ?_
                rintro e w3 ⟨rfl, rfl⟩
                rw [HX2.out]
                have hdr : (d :: r2).drop (Lex.signL (d :: r2)) = l.drop (m + 1) := by rw [hsg, ← List.drop_drop, HD.out]; rfl
                have HY2 := Lib.hid HY'.out
                rw [hdr, hsg] at HY2
                clear hdr hsg HY'
                generalize Lex.runL Lex.dig (l.drop (m + 1)) = q at *
                by_cases hq : 0 < q
                · rw [if_pos hq] at HY2
                  go_wp2_with fail
                  go_ret
                  exact ⟨ret_int (by rw [HY2.out, HE.out]; omega), rfl⟩
                · rw [if_neg hq] at HY2
                  go_wp2_with fail
                  go_ret
                  exact ⟨ret_int (by rw [HY2.out, HE.out]), rfl⟩
        · rw [decide_eq_false hc] at hor
          have HZ := Lib.hid (HNO.out hc)
          have hl0 : 0 < s.size - m := by omega
          clear hd hd' HY HNO hc hlen
          go_wp2_with fail
          go_ret
          exact ⟨ret_int (by rw [HZ.out, HE.out]), rfl⟩
    · rw [if_neg hnk] at HE0
      obtain rfl : n = 0 := by omega
      have hz := Lex.numL_zero HE0.out
      go_wp2_with fail
      go_ret
      exact ⟨ret_int (by rw [hz]; rfl), rfl⟩
end Go.Proofs.YtmapjahpjolmnaaDoor
namespace Go.Proofs.YtmapjahpjolmnaaDoor
open Go.RowKit

namespace Lex
theorem byteN_cons {l : List UInt8} {k : Nat} (h : byteN l k ≠ 0) : k < l.length ∧ ∃ c : UInt8, (c.toNat : Int) = byteN l k ∧ l.drop k = c :: l.drop (k + 1) := by
  rcases Nat.lt_or_ge k l.length with h1 | h1
  · exact ⟨h1, l[k], (byteN_in h1).symm, List.drop_eq_getElem_cons h1⟩
  · exact absurd (byteN_out h1) h
theorem byteN_of {l : List UInt8} {k : Nat} {c : UInt8} {r : List UInt8} (h : l.drop k = c :: r) : byteN l k = (c.toNat : Int) := by
  rcases Nat.lt_or_ge k l.length with h1 | h1
  · rw [byteN_in h1]
    rw [List.drop_eq_getElem_cons h1] at h
    injection h with h2 h3
    rw [h2]
  · rw [List.drop_eq_nil_of_le h1] at h; cases h
theorem rnum_a {l : List UInt8} {n e : Nat} (he : e = n + runL dig (l.drop n)) (h : ¬ byteN l e = 46) : num1 (l.drop n) + n = e := by
  rw [num1_no, he, Nat.add_comm]
  rintro ⟨r, hr⟩
  rw [List.drop_drop, ← he] at hr
  exact h (byteN_of hr)
theorem rnum_b {l : List UInt8} {n e : Nat} (he : e = n + runL dig (l.drop n)) (h : byteN l e = 46) : num1 (l.drop n) + n = if n < e ∨ 0 < runL dig (l.drop (e + 1)) then e + 1 + runL dig (l.drop (e + 1)) else e := by
  obtain ⟨h1, c, hc, hd⟩ := byteN_cons (l := l) (k := e) (by rw [h]; decide)
  have hc46 : c = 46 := UInt8.toNat_inj.1 (by rw [h] at hc; show c.toNat = 46; omega)
  rw [hc46] at hd
  have := num1_dot (l := l.drop n) (r := l.drop (e + 1)) (by rw [List.drop_drop, ← he]; exact hd)
  rw [this]
  split <;> split <;> omega
theorem rtail_0 {l : List UInt8} {n e : Nat} (h : num1 (l.drop n) + n = e) (he : e = n) : n + numL (l.drop n) = n := by rw [numL_zero (by omega)]; rfl
theorem rtail_no {l : List UInt8} {n e : Nat} (h : num1 (l.drop n) + n = e) (he : ¬ e = n) (hb : ¬ (byteN l e = 101 ∨ byteN l e = 69)) : n + numL (l.drop n) = e := by
  have hx : n + num1 (l.drop n) = e := by omega
  cases hd : l.drop e with
  | nil =>
    rw [numL_end (by omega)]
    · omega
    · have := num1_le (l.drop n)
      have h1 : (l.drop e).length = 0 := by rw [hd]; rfl
      rw [List.length_drop] at h1
      rw [List.length_drop] at this ⊢
      omega
  | cons c r =>
    rw [numL_no (c := c) (r := r) (by omega) (by rw [List.drop_drop, hx]; exact hd)]
    · omega
    · have := byteN_of hd
      omega
theorem sign_at (l : List UInt8) (k : Nat) : signL (l.drop k) = if byteN l k = 43 ∨ byteN l k = 45 then 1 else 0 := by
  cases hd : l.drop k with
  | nil =>
    have h1 : l.length ≤ k := by
      rcases Nat.lt_or_ge k l.length with h | h
      · rw [List.drop_eq_getElem_cons h] at hd; cases hd
      · exact h
    rw [byteN_out h1]; rfl
  | cons c r =>
    rw [byteN_of hd]
    unfold signL
    dsimp only
    split <;> split <;> omega
theorem rtail_yes {l : List UInt8} {n e : Nat} (h : num1 (l.drop n) + n = e) (he : ¬ e = n) (hb : byteN l e = 101 ∨ byteN l e = 69) :
    n + numL (l.drop n) = if 0 < runL dig (l.drop (e + 1 + (if byteN l (e + 1) = 43 ∨ byteN l (e + 1) = 45 then 1 else 0))) then e + 1 + (if byteN l (e + 1) = 43 ∨ byteN l (e + 1) = 45 then 1 else 0) + runL dig (l.drop (e + 1 + (if byteN l (e + 1) = 43 ∨ byteN l (e + 1) = 45 then 1 else 0))) else e := by
  have hx : n + num1 (l.drop n) = e := by omega
  obtain ⟨h1, c, hc, hd⟩ := byteN_cons (l := l) (k := e) (by omega)
  rw [numL_yes (c := c) (r := l.drop (e + 1)) (by omega) (by rw [List.drop_drop, hx]; exact hd) (by omega), sign_at, List.drop_drop]
  generalize (if byteN l (e + 1) = 43 ∨ byteN l (e + 1) = 45 then 1 else 0) = sg
  generalize runL dig (l.drop (e + 1 + sg)) = q
  split <;> omega
theorem dig_pos {l : List UInt8} {k : Nat} : dig (byteN l k) = true → 0 < runL dig (l.drop k) := fun h => by have := (run_yes (p := dig) (by decide) h).2; omega
theorem dig_not {l : List UInt8} {k : Nat} : dig (byteN l k) = false → runL dig (l.drop k) = 0 := fun h => run_not h
end Lex

end Go.Proofs.YtmapjahpjolmnaaDoor
namespace Go.Proofs.YtmapjahpjolmnaaDoor
open Go.RowKit

namespace Lex
def plainB : ByteArray := ⟨#[34, 92, 47, 97, 98, 102, 110, 114, 116, 118]⟩
def saysB : ByteArray := ⟨#[34, 92, 47, 7, 8, 12, 10, 13, 9, 11]⟩
def escI (c : Int) : Option Nat := plainB.data.toList.findIdx? (fun b => (b.toNat : Int) == c)
def oct (b : Int) : Bool := decide (48 ≤ b) && decide (b ≤ 55)
def octV (l : List UInt8) : Nat → Nat
  | 0 => 0
  | k + 1 => octV l k * 8 + ((byteN l (k + 1)).toNat - 48)
def octN (l : List UInt8) : Nat := min 3 (runL oct (l.drop 1))
/-- What a mark says, and how long it is. -/
def markL (l : List UInt8) : ByteArray × Nat := match escI (byteN l 1) with
  | some k => (saysB.extract k (k + 1), 2)
  | none => if octN l = 0 then (⟨(l.take 2).toArray⟩, 2) else (⟨#[UInt8.ofNat (octV l (octN l) % 256)]⟩, octN l + 1)
theorem byteN_drop (l : List UInt8) (n k : Nat) : byteN (l.drop n) k = byteN l (n + k) := by simp [byteN, List.getD]
theorem escI_some {c : Int} {k : Nat} (hk : k < 10) (h1 : ((plainB[k]'hk).toNat : Int) = c) (h2 : ∀ j, (hj : j < 10) → j < k → ¬ ((plainB[j]'hj).toNat : Int) = c) : escI c = some k := by
  unfold escI
  rw [List.findIdx?_eq_some_iff_getElem]
  refine ⟨hk, ?_, fun j hj => ?_⟩
  · have e : plainB.data.toList[k]'hk = plainB[k]'hk := rfl
    rw [e, h1]; simp
  · intro hh
    exact h2 j (by omega) hj (eq_of_beq hh)
theorem escI_none {c : Int} (h2 : ∀ j, (hj : j < 10) → ¬ ((plainB[j]'hj).toNat : Int) = c) : escI c = none := by
  unfold escI
  rw [List.findIdx?_eq_none_iff]
  intro b hb
  obtain ⟨j, hj, rfl⟩ := List.mem_iff_getElem.1 hb
  exact beq_eq_false_iff_ne.2 (h2 j hj)
theorem octN_is {l : List UInt8} {k : Nat} (hk : k ≤ 3) (h1 : ∀ j, j < k → oct (byteN l (j + 1)) = true) (h2 : k = 3 ∨ oct (byteN l (k + 1)) = false) : octN l = k := by
  have hle : ∀ m, m ≤ k → m + runL oct (l.drop (m + 1)) = runL oct (l.drop 1) := by
    intro m
    induction m with
    | zero => intro _; simp
    | succ m ih =>
      intro hm
      have := ih (by omega)
      have h3 := (run_yes (p := oct) (by decide) (h1 m (by omega))).2
      rw [h3] at this
      omega
  have hk' := hle k (Nat.le_refl _)
  unfold octN
  rcases h2 with h2 | h2
  · omega
  · have := run_not h2
    omega
theorem octV_le (l : List UInt8) : ∀ k, (∀ j, j < k → oct (byteN l (j + 1)) = true) → octV l k < 8 ^ k
  | 0, _ => by simp [octV]
  | k + 1, h => by
    have := octV_le l k (fun j hj => h j (by omega))
    have h1 := h k (by omega)
    simp [oct] at h1
    unfold octV
    rw [Nat.pow_succ]
    omega
end Lex
theorem ret_tup {s t : ByteArray} {a b : Int} (h1 : s = t) (h2 : a = b) : Ending.returned (.tuple #[.string s, .int .i64 a]) = .returned (.tuple #[.string t, .int .i64 b]) := by rw [h1, h2]
/-- A text of one byte. -/
theorem byte_back (w : World) (x : Nat) (hx : x < 256) : (convert 123 9 (.slice (some ⟨w.heap.size, 0, none⟩) 1 1)).run Tryd.prog (w.alloc (.cells #[.int .u8 (x : Int)] 5)) = .ok (.string ⟨#[UInt8.ofNat x]⟩) (w.alloc (.cells #[.int .u8 (x : Int)] 5)) := by
  refine run_convert_bytes_back _ 123 9 5 ⟨w.heap.size, 0, none⟩ 1 [UInt8.ofNat x] Tryd.underlying123 Tryd.underlying5 Tryd.underlying9 (fun j hj => ?_)
  obtain rfl : j = 0 := by simp at hj; exact hj
  rw [add_off, World.cell?_alloc_at _ _ _ _ rfl]
  simp
  omega

end Go.Proofs.YtmapjahpjolmnaaDoor
namespace Go.Proofs.YtmapjahpjolmnaaDoor.Lex
open Go

theorem markL_ge (l : List UInt8) : 2 ≤ (markL l).2 := by
  unfold markL
  split
  · exact Nat.le_refl _
  · split
    · exact Nat.le_refl _
    · simp; omega
theorem markL_le {l : List UInt8} (h : 2 ≤ l.length) : (markL l).2 ≤ l.length ∧ (markL l).1.size ≤ (markL l).2 := by
  unfold markL
  split
  · rename_i k hk
    refine ⟨h, ?_⟩
    show (saysB.extract k (k + 1)).size ≤ 2
    simp
    omega
  · split
    · refine ⟨h, ?_⟩
      show (l.take 2).toArray.size ≤ 2
      simp
      omega
    · have := runL_le oct (l.drop 1)
      rw [List.length_drop] at this
      refine ⟨?_, ?_⟩
      · show octN l + 1 ≤ l.length
        unfold octN; omega
      · show 1 ≤ octN l + 1
        omega
/-- What a mark says within a text (34) or a pattern. -/
def say (q : UInt8) (l : List UInt8) : List UInt8 × Nat := if q.toNat = 34 then ((markL l).1.data.toList, (markL l).2) else if byteN l 1 = 47 then ([47], 2) else (l.take 2, 2)
theorem say_ge (q : UInt8) (l : List UInt8) : 2 ≤ (say q l).2 := by
  unfold say
  split
  · exact markL_ge l
  · split <;> exact Nat.le_refl _
theorem say_le (q : UInt8) {l : List UInt8} (h : 2 ≤ l.length) : (say q l).2 ≤ l.length ∧ (say q l).1.length ≤ (say q l).2 := by
  unfold say
  split
  · exact ⟨(markL_le h).1, (markL_le h).2⟩
  · split
    · exact ⟨h, by simp⟩
    · exact ⟨h, by simp; omega⟩
/-- What stands up to the closing mark, and how many bytes that is with it. -/
def quotL (q : UInt8) (l : List UInt8) : Option (List UInt8 × Nat) := match l with
  | [] => none
  | c :: r =>
    if c.toNat = 10 then none
    else if c.toNat = q.toNat then some ([], 1)
    else if c.toNat = 92 then (if r = [] ∨ byteN r 0 = 10 then none else (quotL q ((c :: r).drop (say q (c :: r)).2)).map fun p => ((say q (c :: r)).1 ++ p.1, (say q (c :: r)).2 + p.2))
    else (quotL q r).map fun p => (c :: p.1, 1 + p.2)
termination_by l.length
decreasing_by
  · have := say_ge q (c :: r)
    simp
    omega
  · simp
theorem quot_nil (q : UInt8) : quotL q [] = none := by rw [quotL]
theorem quot_line {q c : UInt8} {r : List UInt8} (h : c.toNat = 10) : quotL q (c :: r) = none := by rw [quotL]; simp [h]
theorem quot_end {q c : UInt8} {r : List UInt8} (h : ¬ c.toNat = 10) (h2 : c.toNat = q.toNat) : quotL q (c :: r) = some ([], 1) := by rw [quotL, if_neg h, if_pos h2]
theorem quot_byte {q c : UInt8} {r : List UInt8} (h : ¬ c.toNat = 10) (h2 : ¬ c.toNat = q.toNat) (h3 : ¬ c.toNat = 92) : quotL q (c :: r) = (quotL q r).map fun p => (c :: p.1, 1 + p.2) := by rw [quotL, if_neg h, if_neg h2, if_neg h3]
theorem quot_bad {q c : UInt8} {r : List UInt8} (h : ¬ c.toNat = 10) (h2 : ¬ c.toNat = q.toNat) (h3 : c.toNat = 92) (h4 : r = [] ∨ byteN r 0 = 10) : quotL q (c :: r) = none := by rw [quotL, if_neg h, if_neg h2, if_pos h3, if_pos h4]
theorem quot_mark {q c : UInt8} {r : List UInt8} (h : ¬ c.toNat = 10) (h2 : ¬ c.toNat = q.toNat) (h3 : c.toNat = 92) (h4 : ¬ (r = [] ∨ byteN r 0 = 10)) : quotL q (c :: r) = (quotL q ((c :: r).drop (say q (c :: r)).2)).map fun p => ((say q (c :: r)).1 ++ p.1, (say q (c :: r)).2 + p.2) := by rw [quotL, if_neg h, if_neg h2, if_pos h3, if_neg h4]
/-- A whole text or pattern: what it says, and how long it is; none: it does not end. -/
def quoted (l : List UInt8) : Option (List UInt8 × Nat) := match l with
  | [] => none
  | q :: r => (quotL q r).map fun p => (p.1, 1 + p.2)
/-- Gone some way. -/
def Gone (R : Option (List UInt8 × Nat)) (q : UInt8) (l : List UInt8) (n : Nat) (acc : List UInt8) : Prop := (quotL q (l.drop n)).map (fun p => (acc ++ p.1, n + p.2)) = R
section
variable {R : Option (List UInt8 × Nat)} {q : UInt8} {l : List UInt8} {n : Nat} {acc : List UInt8}
theorem Gone.over (h : Gone R q l n acc) (hn : l.length ≤ n) : R = none := by
  unfold Gone at h
  rw [List.drop_eq_nil_of_le hn, quot_nil] at h
  exact h.symm
theorem Gone.line (h : Gone R q l n acc) (hn : n < l.length) (h1 : l[n].toNat = 10) : R = none := by
  unfold Gone at h
  rw [List.drop_eq_getElem_cons hn, quot_line h1] at h
  exact h.symm
theorem Gone.done (h : Gone R q l n acc) (hn : n < l.length) (h1 : ¬ l[n].toNat = 10) (h2 : l[n].toNat = q.toNat) : R = some (acc, n + 1) := by
  unfold Gone at h
  rw [List.drop_eq_getElem_cons hn, quot_end h1 h2] at h
  simpa using h.symm
theorem Gone.byte (h : Gone R q l n acc) (hn : n < l.length) (h1 : ¬ l[n].toNat = 10) (h2 : ¬ l[n].toNat = q.toNat) (h3 : ¬ l[n].toNat = 92) : Gone R q l (n + 1) (acc ++ [l[n]]) := by
  unfold Gone at h ⊢
  rw [List.drop_eq_getElem_cons hn, quot_byte h1 h2 h3] at h
  rw [← h, Option.map_map]
  congr 1
  funext p
  simp [Nat.add_assoc]
theorem drop_byteN (l : List UInt8) (n : Nat) (h : n + 1 < l.length) : l.drop (n + 1) ≠ [] ∧ byteN (l.drop (n + 1)) 0 = byteN l (n + 1) := by
  refine ⟨fun e => ?_, by rw [byteN_drop]⟩
  have := congrArg List.length e
  rw [List.length_drop] at this
  simp at this
  omega
theorem Gone.bad (h : Gone R q l n acc) (hn : n < l.length) (h1 : ¬ l[n].toNat = 10) (h2 : ¬ l[n].toNat = q.toNat) (h3 : l[n].toNat = 92) (h4 : l.length ≤ n + 1 ∨ byteN l (n + 1) = 10) : R = none := by
  unfold Gone at h
  rw [List.drop_eq_getElem_cons hn, quot_bad h1 h2 h3] at h
  · exact h.symm
  · rcases h4 with h4 | h4
    · exact .inl (List.drop_eq_nil_of_le h4)
    · right; rw [byteN_drop]; exact h4
theorem Gone.mark (h : Gone R q l n acc) (hn : n + 1 < l.length) (h1 : ¬ l[n].toNat = 10) (h2 : ¬ l[n].toNat = q.toNat) (h3 : l[n].toNat = 92) (h4 : ¬ byteN l (n + 1) = 10) : Gone R q l (n + (say q (l.drop n)).2) (acc ++ (say q (l.drop n)).1) := by
  unfold Gone at h ⊢
  obtain ⟨g1, g2⟩ := drop_byteN l n hn
  have hd := List.drop_eq_getElem_cons (show n < l.length by omega)
  rw [hd, quot_mark h1 h2 h3 (by rintro (h5 | h5); exact g1 h5; rw [g2] at h5; exact h4 h5), ← hd] at h
  rw [← h, Option.map_map, List.drop_drop]
  congr 1
  funext p
  simp [Nat.add_assoc]
end
end Go.Proofs.YtmapjahpjolmnaaDoor.Lex
namespace Go.Proofs.YtmapjahpjolmnaaDoor
set_option maxRecDepth 20000
open Go.RowKit
theorem or8 (a d : Nat) (ha : a < 64) (hd : d < 8) : bits BinOp.or IntKind.i64 ((a * 8 : Nat) : Int) (d : Int) = ((a * 8 + d : Nat) : Int) := by
  have h : ∀ a : Nat, a < 64 → ∀ d : Nat, d < 8 → bits BinOp.or IntKind.i64 ((a * 8 : Nat) : Int) (d : Int) = ((a * 8 + d : Nat) : Int) := by decide +kernel
  exact h a ha d hd
theorem plain_ascii (k : Nat) (hk : k < 10) : (Lex.plainB[k]'hk).toNat < 128 := by
  have h : ∀ k : Fin 10, (Lex.plainB[k.1]'k.2).toNat < 128 := by decide +kernel
  exact h ⟨k, hk⟩
set_option maxHeartbeats 2000000 in
theorem x_mark (s : ByteArray) (w : World) (hs : s.size ≤ 4294967) (hn : 1 < s.size) :
    Calls Tryd.prog 67 #[.string s] w fun e w' => e = .returned (.tuple #[.string (Lex.markL s.data.toList).1, .int .i64 ((Lex.markL s.data.toList).2 : Nat)]) ∧ Below w.heap.size w w' := by
  have HLN : Hid (s.data.toList.length = s.size) := rfl
  obtain ⟨l, hL⟩ : ∃ l, l = s.data.toList := ⟨_, rfl⟩
  have HLL := Lib.hid hL
  rw [← hL] at HLN ⊢
  clear hL
  obtain ⟨o, ho⟩ : ∃ o, o = Lex.markL l := ⟨_, rfl⟩
  rw [← ho]
  have HO := Lib.hid ho
  clear ho
  have HC : Hid (o = match Lex.escI (Lex.byteN l 1) with
    | some k => (Lex.saysB.extract k (k + 1), 2)
    | none => if Lex.octN l = 0 then (⟨(l.take 2).toArray⟩, 2) else (⟨#[UInt8.ofNat (Lex.octV l (Lex.octN l) % 256)]⟩, Lex.octN l + 1)) := HO.out
  have hcb : ((s[1]'hn).toNat : Int) = Lex.byteN l 1 := by rw [Lex.byteN_in (by rw [HLN.out]; exact hn)]; have := HLL.out; subst this; rfl
  have hcr := Lex.byteN_range l 1
  generalize hcc : Lex.byteN l 1 = c at *
  have HCC := Lib.hid hcc
  clear hcc
  go_enter Tryd.func67, Tryd.ntmps67
  go_wp2_with fail
  go_loopw [4] (fun _ wr => ∃ k : Nat, k ≤ 10 ∧ wr = w.iter Lex.plainB k ∧ ∀ j, (hj : j < 10) → j < k → ¬ ((Lex.plainB[j]'hj).toNat : Int) = c) (fun _ wr => 10 - wr.iterPos w.heap.size)
  case atStart => exact ⟨0, by omega, rfl, fun j _ h => by omega⟩
  case round =>
    obtain ⟨k, hk, rfl, hno⟩ := hrel
    have HNO := Lib.hid hno
    clear hno
    by_cases hlt : k < 10
    · have hnx : ∀ ty, (Instr.next (.pointer (some ⟨w.heap.size, 0, none⟩)) true ty).run Tryd.prog (w.iter Lex.plainB k) = _ := fun ty => run_next_ascii w Lex.plainB k ty hlt (plain_ascii k hlt)
      obtain ⟨p, hp⟩ : ∃ p, ((Lex.plainB[k]'hlt).toNat : Int) = p := ⟨_, rfl⟩
      have hpr : 0 ≤ p ∧ p < 128 := by have := plain_ascii k hlt; omega
      rw [show (Lex.plainB[k]'hlt).toNat = p.toNat by omega] at hnx
      rw [show ((p.toNat : Nat) : Int) = p by omega] at hnx
      have HP := Lib.hid hp
      clear hp
      by_cases hc : c = p
      · have HE : Hid (Lex.escI c = some k) := Lex.escI_some hlt (by rw [HP.out, hc]) HNO.out
        have HF := HC.out
        rw [HE.out] at HF
        have HF2 := Lib.hid HF
        clear HF HC HE HNO HO
        subst hc
        have hk2 : (k : Int) < 10 := by omega
        go_wp2_with fail
        refine bodyPost_ret (v := .tuple #[.string (Lex.saysB.extract k (k + 1)), .int .i64 2]) (by simp [results, Tryd.results67, go_sem]; rfl) rfl ⟨by rw [HF2.out]; rfl, (Below.refl _ _).alloc (Nat.le_refl _) _⟩
      · have hcb2 : (c == p) = false := by simp [hc]
        have HCN := Lib.hid hc
        clear hc
        go_wp2_with fail
        go_roundw
        case rel => exact ⟨k + 1, by omega, rfl, fun j hj h => by
          rcases Nat.lt_or_ge j k with h | h
          · exact HNO.out j hj h
          · obtain rfl : j = k := by omega
            rw [HP.out]; exact fun e => HCN.out e.symm⟩
        case measure => simp; omega
    · have hnx : ∀ ty, (Instr.next (.pointer (some ⟨w.heap.size, 0, none⟩)) true ty).run Tryd.prog (w.iter Lex.plainB k) = _ := fun ty => run_next_end w Lex.plainB k ty hlt
      have HE : Hid (Lex.escI c = none) := Lex.escI_none fun j hj => HNO.out j hj (by omega)
      have HF := HC.out
      rw [HE.out] at HF
      have HF2 := Lib.hid HF
      clear HF HC HE HNO HO
      have hbW : Below w.heap.size w (w.iter Lex.plainB k) := (Below.refl _ _).alloc (Nat.le_refl _) _
      have HBW := Lib.hid hbW
      clear hbW
      go_wp2_with fail
      generalize w.iter Lex.plainB k = W at *
      clear hnx hcb
      go_loop [6, 7] (fun v i => ∃ m : Nat, m ≤ 3 ∧ m + 1 ≤ s.size ∧ i = .int .i64 ((m : Int) + 1) ∧ v = .int .i64 (Lex.octV l m) ∧ ∀ j, j < m → Lex.oct (Lex.byteN l (j + 1)) = true) (fun _ i => 10 - (intOf i).toNat)
      case atStart => exact ⟨0, by omega, by omega, by simp, rfl, fun j h => by omega⟩
      case round =>
        obtain ⟨m, hm, hms, rfl, rfl, hoc⟩ := hrel
        have hov := Lex.octV_le l m hoc
        have hov8 : Lex.octV l m < 512 := Nat.lt_of_lt_of_le hov (Nat.pow_le_pow_right (by omega) hm)
        have hov6 : m < 3 → Lex.octV l m < 64 := fun h => Nat.lt_of_lt_of_le hov (Nat.pow_le_pow_right (n := 8) (by omega) (by omega : m ≤ 2))
        have HOC := Lib.hid hoc
        have HOV6 := Lib.hid hov6
        clear hoc hov hov6
        by_cases hm3 : m < 3
        · by_cases hsz : m + 1 < s.size
          · obtain ⟨b, hb⟩ : ∃ b, ((s[m + 1]'hsz).toNat : Int) = b := ⟨_, rfl⟩
            have hbe : Lex.byteN l (m + 1) = b := by rw [← hb, Lex.byteN_in (by rw [HLN.out]; exact hsz)]; have := HLL.out; subst this; rfl
            have HBE := Lib.hid hbe
            have hr := Lex.byteN_range l (m + 1)
            rw [hbe] at hr
            have HV : Hid (Lex.octV l (m + 1) = Lex.octV l m * 8 + ((Lex.byteN l (m + 1)).toNat - 48)) := rfl
            clear hbe
            cases hob : Lex.oct b
            · have HN : Hid (Lex.octN l = m) := Lex.octN_is hm HOC.out (.inr (by rw [HBE.out]; exact hob))
              have hbx : b < 48 ∨ 55 < b := by simp [Lex.oct] at hob; omega
              clear HOC HV hob HOV6
              rcases hbx with hbx | hbx
              · by_cases hm0 : m = 0
                · have HG := HF2.out
                  rw [HN.out, if_pos hm0] at HG
                  have hmm : ((m : Int) + 1 == 1) = true := by simp [hm0]
                  have HG2 := Lib.hid HG
                  have hx : s.extract 0 2 = (⟨(l.take 2).toArray⟩ : ByteArray) := by
                    apply bytes_ext
                    rw [HLL.out, ext_take]
                  have HX := Lib.hid hx
                  clear HG HN HF2 hx hm0
                  go_wp2_with fail
                  refine bodyPost_ret (v := .tuple #[.string (s.extract 0 2), .int .i64 2]) (by simp [results, Tryd.results67, go_sem]) rfl ⟨by rw [HG2.out, HX.out]; rfl, HBW.out⟩
                · have HG := HF2.out
                  rw [HN.out, if_neg hm0] at HG
                  have HG2 := Lib.hid HG
                  have hmm : ((m : Int) + 1 == 1) = false := by simp; omega
                  have hcv := byte_back W (Lex.octV l m % 256) (by omega)
                  rw [show ((Lex.octV l m % 256 : Nat) : Int) = (Lex.octV l m : Int) % 256 by omega] at hcv
                  have hb9 := HBW.out.alloc HBW.out.size (.cells #[.int .u8 ((Lex.octV l m : Int) % 256)] 5)
                  have HB9 := Lib.hid hb9
                  clear HG HN HF2 hb9
                  go_wp2_with fail
                  refine bodyPost_ret (v := .tuple #[.string ⟨#[UInt8.ofNat (Lex.octV l m % 256)]⟩, .int .i64 ((m : Int) + 1)]) (by simp [results, Tryd.results67, go_sem]) rfl ⟨by rw [HG2.out]; rfl, HB9.out⟩
              · by_cases hm0 : m = 0
                · have HG := HF2.out
                  rw [HN.out, if_pos hm0] at HG
                  have hmm : ((m : Int) + 1 == 1) = true := by simp [hm0]
                  have HG2 := Lib.hid HG
                  have hx : s.extract 0 2 = (⟨(l.take 2).toArray⟩ : ByteArray) := by
                    apply bytes_ext
                    rw [HLL.out, ext_take]
                  have HX := Lib.hid hx
                  clear HG HN HF2 hx hm0
                  go_wp2_with fail
                  refine bodyPost_ret (v := .tuple #[.string (s.extract 0 2), .int .i64 2]) (by simp [results, Tryd.results67, go_sem]) rfl ⟨by rw [HG2.out, HX.out]; rfl, HBW.out⟩
                · have HG := HF2.out
                  rw [HN.out, if_neg hm0] at HG
                  have HG2 := Lib.hid HG
                  have hmm : ((m : Int) + 1 == 1) = false := by simp; omega
                  have hcv := byte_back W (Lex.octV l m % 256) (by omega)
                  rw [show ((Lex.octV l m % 256 : Nat) : Int) = (Lex.octV l m : Int) % 256 by omega] at hcv
                  have hb9 := HBW.out.alloc HBW.out.size (.cells #[.int .u8 ((Lex.octV l m : Int) % 256)] 5)
                  have HB9 := Lib.hid hb9
                  clear HG HN HF2 hb9
                  go_wp2_with fail
                  refine bodyPost_ret (v := .tuple #[.string ⟨#[UInt8.ofNat (Lex.octV l m % 256)]⟩, .int .i64 ((m : Int) + 1)]) (by simp [results, Tryd.results67, go_sem]) rfl ⟨by rw [HG2.out]; rfl, HB9.out⟩
            · have hbr : 48 ≤ b ∧ b ≤ 55 := by simp [Lex.oct] at hob; omega
              obtain ⟨hb1, hb2⟩ := hbr
              have hor := or8 (Lex.octV l m) (b.toNat - 48) (HOV6.out hm3) (by omega)
              rw [show ((Lex.octV l m * 8 : Nat) : Int) = (Lex.octV l m : Int) * 8 by omega, show ((b.toNat - 48 : Nat) : Int) = b - 48 by omega] at hor
              have HOB := Lib.hid hob
              clear hob
              go_wp2_with fail
              go_round
              case rel => exact ⟨m + 1, by omega, by omega, by go_num, by rw [HV.out, HBE.out, Int.natCast_add, Int.natCast_mul]; rfl, fun j hj => by
                rcases Nat.lt_or_ge j m with h | h
                · exact HOC.out j h
                · obtain rfl : j = m := by omega
                  rw [HBE.out]; exact HOB.out⟩
              case measure => simp [intOf]; omega
          · have HN : Hid (Lex.octN l = m) := Lex.octN_is hm HOC.out (.inr (by rw [Lex.byteN_out (by rw [HLN.out]; omega)]; rfl))
            have hsz2 : s.size = m + 1 := by omega
            have hm0 : ¬ m = 0 := by omega
            have HSZ := Lib.hid hsz2
            have hsz3 : s.size ≤ m + 1 := by omega
            clear HOC HOV6 hsz hsz2
            have HG := HF2.out
            rw [HN.out, if_neg hm0] at HG
            have HG2 := Lib.hid HG
            have hmm : ((m : Int) + 1 == 1) = false := by simp; omega
            have hcv := byte_back W (Lex.octV l m % 256) (by omega)
            rw [show ((Lex.octV l m % 256 : Nat) : Int) = (Lex.octV l m : Int) % 256 by omega] at hcv
            have hb9 := HBW.out.alloc HBW.out.size (.cells #[.int .u8 ((Lex.octV l m : Int) % 256)] 5)
            have HB9 := Lib.hid hb9
            clear HG HN HF2 hb9
            go_wp2_with fail
            refine bodyPost_ret (v := .tuple #[.string ⟨#[UInt8.ofNat (Lex.octV l m % 256)]⟩, .int .i64 ((m : Int) + 1)]) (by simp [results, Tryd.results67, go_sem]) rfl ⟨by rw [HG2.out]; rfl, HB9.out⟩
        · have HN : Hid (Lex.octN l = m) := Lex.octN_is hm HOC.out (.inl (by omega))
          have hm0 : ¬ m = 0 := by omega
          clear HOC HOV6
          have HG := HF2.out
          rw [HN.out, if_neg hm0] at HG
          have HG2 := Lib.hid HG
          have hmm : ((m : Int) + 1 == 1) = false := by simp; omega
          have hcv := byte_back W (Lex.octV l m % 256) (by omega)
          rw [show ((Lex.octV l m % 256 : Nat) : Int) = (Lex.octV l m : Int) % 256 by omega] at hcv
          have hb9 := HBW.out.alloc HBW.out.size (.cells #[.int .u8 ((Lex.octV l m : Int) % 256)] 5)
          have HB9 := Lib.hid hb9
          clear HG HN HF2 hb9
          go_wp2_with fail
          refine bodyPost_ret (v := .tuple #[.string ⟨#[UInt8.ofNat (Lex.octV l m % 256)]⟩, .int .i64 ((m : Int) + 1)]) (by simp [results, Tryd.results67, go_sem]) rfl ⟨by rw [HG2.out]; rfl, HB9.out⟩
end Go.Proofs.YtmapjahpjolmnaaDoor
