/- The walks of lex: classes of bytes, runs, what is passed over. -/
import Derived.Test.YtmapjahpjolmnaaGreatDoorRows
import Derived.Test.YtmapjahpjolmnaaGreatDoorG1
import Derived.Test.YtmapjahpjolmnaaGreatDoorG2
import Derived.Test.YtmapjahpjolmnaaGreatDoorShelf
import Derived.Lib.Strings
import Derived.Deep.Cut
set_option linter.unusedVariables false
set_option linter.unusedSimpArgs false
namespace Go.Proofs.YtmapjahpjolmnaaGreatDoor
open Go.RowKit

theorem x_digit (b : Int) (w : World) : Calls Tryz.prog 81 #[.int .u8 b] w fun e w' => e = .returned (.bool (Lex.dig b)) ∧ w = w' := by
  go_enter Tryz.func81, Tryz.ntmps81
  go_wp2
  all_goals (go_ret; exact ⟨ret_bool (by rw [Bool.eq_iff_iff]; simp [Lex.dig, *]; try omega), rfl⟩)
theorem x_letter (b : Int) (w : World) : Calls Tryz.prog 79 #[.int .u8 b] w fun e w' => e = .returned (.bool (Lex.let_ b)) ∧ w = w' := by
  go_enter Tryz.func79, Tryz.ntmps79
  go_wp2
  all_goals (go_ret; exact ⟨ret_bool (by rw [Bool.eq_iff_iff]; simp [Lex.let_, *]; try omega), rfl⟩)
theorem x_noLine (b : Int) (w : World) : Calls Tryz.prog 76 #[.int .u8 b] w fun e w' => e = .returned (.bool (Lex.noLine b)) ∧ w = w' := by
  go_enter Tryz.func76, Tryz.ntmps76
  go_wp2
  all_goals (go_ret; exact ⟨ret_bool (by rw [Bool.eq_iff_iff]; simp [Lex.noLine, *]; try omega), rfl⟩)
theorem x_blank (b : Int) (w : World) : Calls Tryz.prog 77 #[.int .u8 b] w fun e w' => e = .returned (.bool (Lex.blank b)) ∧ w = w' := by
  go_enter Tryz.func77, Tryz.ntmps77
  go_wp2
  all_goals (go_ret; exact ⟨ret_bool (by rw [Bool.eq_iff_iff]; simp [Lex.blank, *]; try omega), rfl⟩)
theorem x_word (b : Int) (w : World) : Calls Tryz.prog 80 #[.int .u8 b] w fun e w' => e = .returned (.bool (Lex.word b)) ∧ w = w' := by
  go_enter Tryz.func80, Tryz.ntmps80
  go_wp2_with fail
  refine (x_letter b w).mono ?_
  rintro e w2 ⟨rfl, rfl⟩
  cases hl : Lex.let_ b
  · go_wp2_with fail
    refine (x_digit b w).mono ?_
    rintro e w2 ⟨rfl, rfl⟩
    go_wp2_with fail
    go_ret
    exact ⟨ret_bool (by simp [Lex.word, hl]), rfl⟩
  · go_wp2_with fail
    go_ret
    exact ⟨ret_bool (by simp [Lex.word, hl]), rfl⟩
theorem x_run (s : ByteArray) (p : Int → Bool) (g : Nat) (hc : ∀ (args : Array Value) (w : World), (callFunc g args).run Tryz.prog w = .ok (.enter g args) w) (hg : ∀ (b : Int) (w : World), Calls Tryz.prog g #[.int .u8 b] w fun e w' => e = .returned (.bool (p b)) ∧ w = w') (w : World) (hs : s.size ≤ 4294967296) :
    Calls Tryz.prog 75 #[.string s, .func (.func g) #[] #[]] w fun e w' => e = .returned (.int .i64 (Lex.runL p s.data.toList)) ∧ w = w' := by
  have hl : s.data.toList.length = s.size := rfl
  go_enter Tryz.func75, Tryz.ntmps75
  go_wp2_with fail
  go_loop [5] (fun i => ∃ k : Nat, k ≤ s.size ∧ i = .int .i64 k ∧ ∀ j, (hj : j < s.data.toList.length) → j < k → p (s.data.toList[j]).toNat = true) (fun i => s.size - (intOf i).toNat)
  case atStart => exact ⟨0, Nat.zero_le _, rfl, fun j _ h => by omega⟩
  case round =>
    obtain ⟨k, hk, rfl, hno⟩ := hrel
    have HNO := Lib.hid hno
    clear hno
    by_cases hlt : k < s.size
    · go_wp2_with fail
      refine (hg _ w).mono ?_
      rintro e w2 ⟨rfl, rfl⟩
      have HL : Hid (s.data.toList[k]'(by omega) = s[k]) := rfl
      cases hp : p s[k].toNat
      · go_wp2_with fail
        go_ret
        exact ⟨ret_int (by rw [Lex.runL_is (n := k) (by omega) HNO.out (fun h => by rw [HL.out]; exact hp)]), rfl⟩
      · go_wp2_with fail
        go_round
        case rel => exact ⟨k + 1, by omega, by go_num, fun j hj h => by
          rcases Nat.lt_or_ge j k with h | h
          · exact HNO.out j hj h
          · obtain rfl : j = k := by omega
            rw [HL.out]; exact hp⟩
        case measure => simp [intOf]; omega
    · obtain rfl : k = s.size := by omega
      go_wp2_with fail
      go_ret
      exact ⟨ret_int (by rw [Lex.runL_is (n := s.size) (by omega) HNO.out (fun h => by omega)]), rfl⟩
theorem enters_digit (args : Array Value) (w : World) : (callFunc 81 args).run Tryz.prog w = .ok (.enter 81 args) w := by kernel_rfl
theorem enters_noLine (args : Array Value) (w : World) : (callFunc 76 args).run Tryz.prog w = .ok (.enter 76 args) w := by kernel_rfl
theorem enters_blank (args : Array Value) (w : World) : (callFunc 77 args).run Tryz.prog w = .ok (.enter 77 args) w := by kernel_rfl
theorem enters_word (args : Array Value) (w : World) : (callFunc 80 args).run Tryz.prog w = .ok (.enter 80 args) w := by kernel_rfl
end Go.Proofs.YtmapjahpjolmnaaGreatDoor
namespace Go.Proofs.YtmapjahpjolmnaaGreatDoor
open Go.RowKit

theorem ext_drop (s : ByteArray) (k : Nat) : (s.extract k s.size).data.toList = s.data.toList.drop k := by
  rw [ByteArray.data_extract, Array.toList_extract]
  simp only [List.extract]
  exact List.take_of_length_le (by simp)
theorem ext_size (s : ByteArray) (k : Nat) : (s.extract k s.size).size = s.size - k := by simp
theorem ext_take (s : ByteArray) (k : Nat) : (s.extract 0 k).data.toList = s.data.toList.take k := by
  rw [ByteArray.data_extract, Array.toList_extract]
  simp [List.extract]
theorem pre1 (l : List UInt8) (c : UInt8) : Lib.hasPrefix l [c] = true ↔ ∃ r, l = c :: r := by
  cases l with
  | nil => simp [Lib.hasPrefix]
  | cons d r => simp [Lib.hasPrefix, List.isPrefixOf]; exact ⟨fun h => h.symm, fun h => h.symm⟩
theorem pre2 (l : List UInt8) (c c' : UInt8) : Lib.hasPrefix l [c, c'] = true ↔ ∃ r, l = c :: c' :: r := by
  match l with
  | [] => simp [Lib.hasPrefix]
  | [d] => simp [Lib.hasPrefix, List.isPrefixOf]
  | d :: d' :: r => simp [Lib.hasPrefix, List.isPrefixOf]; exact ⟨fun h => ⟨h.1.symm, h.2.symm⟩, fun h => ⟨h.1.symm, h.2.symm⟩⟩
set_option maxHeartbeats 1000000 in
theorem x_pass (s : ByteArray) (w : World) (hs : s.size ≤ 4294967296) :
    Calls Tryz.prog 66 #[.string s] w fun e w' => e = .returned (.int .i64 (Lex.passL s.data.toList)) ∧ w = w' := by
  obtain ⟨l, hl⟩ : ∃ l, l = s.data.toList := ⟨_, rfl⟩
  have hl' : l.length = s.size := by subst hl; rfl
  rw [← hl]
  have HL := Lib.hid hl
  have HLL := Lib.hid hl'
  clear hl hl'
  go_enter Tryz.func66, Tryz.ntmps66
  go_wp2_with fail
  go_loop [3] (fun i => ∃ k : Nat, k ≤ s.size ∧ i = .int .i64 k ∧ k + Lex.passL (l.drop k) = Lex.passL l) (fun i => s.size - (intOf i).toNat)
  case atStart => exact ⟨0, Nat.zero_le _, rfl, by simp⟩
  case round =>
    obtain ⟨k, hk, rfl, hno⟩ := hrel
    have HNO := Lib.hid hno
    clear hno
    go_wp2_with fail
    have hr1 := ext_drop s k
    have hr2 := ext_size s k
    rw [← HL.out] at hr1
    generalize s.extract k s.size = r at *
    have HR := Lib.hid hr1
    clear hr1
    refine (Tryz.strings_HasPrefix r ⟨#[92, 10]⟩ w).mono ?_
    rintro e w2 ⟨rfl, rfl⟩
    rw [HR.out]
    cases hp : Lib.hasPrefix (l.drop k) (⟨#[92, 10]⟩ : ByteArray).data.toList
    · go_wp2_with fail
      refine (Tryz.strings_HasPrefix r ⟨#[35]⟩ w2).mono ?_
      rintro e w2 ⟨rfl, rfl⟩
      rw [HR.out]
      cases hq : Lib.hasPrefix (l.drop k) (⟨#[35]⟩ : ByteArray).data.toList
      · go_wp2_with fail
        refine (x_run r Lex.blank 77 enters_blank x_blank w2 (by omega)).mono ?_
        rintro e w2 ⟨rfl, rfl⟩
        rw [HR.out]
        have hb := Lex.passL_blanks (l.drop k)
        have hbl := Lex.runL_le Lex.blank (l.drop k)
        rw [List.length_drop, HLL.out] at hbl
        rw [List.drop_drop] at hb
        have hst := fun h0 => Lex.passL_stop (l := l.drop k) h0 (fun h => by rw [← pre1] at h; rw [h] at hq; cases hq) (fun h => by rw [← pre2] at h; rw [h] at hp; cases hp)
        have HST := Lib.hid hst
        have HB := Lib.hid hb
        clear hb hst hp hq
        generalize Lex.runL Lex.blank (l.drop k) = m at *
        cases m with
        | zero =>
          go_wp2_with fail
          go_ret
          exact ⟨ret_int (by have := HNO.out; have := HST.out trivial; omega), rfl⟩
        | succ m =>
          go_wp2_with fail
          go_round
          case rel => exact ⟨k + (m + 1), by omega, by go_num, by have := HNO.out; have := HB.out; omega⟩
          case measure => simp [intOf]; omega
      · have hq' := (pre1 _ _).1 (show Lib.hasPrefix (l.drop k) [35] = true from hq)
        obtain ⟨r', hr'⟩ := hq'
        obtain ⟨h1, h2⟩ := Lex.passL_remark (c := 35) (r := r') rfl
        have h3 : Lex.runL Lex.noLine (l.drop k) = 1 + Lex.runL Lex.noLine r' := by rw [hr', Lex.runL_cons, if_pos (by rfl)]
        rw [← hr', ← h3] at h1 h2
        have hbl := Lex.runL_le Lex.noLine (l.drop k)
        rw [List.length_drop, HLL.out] at hbl
        rw [List.drop_drop] at h2
        have H12 := Lib.hid (And.intro h1 h2)
        have hpos : 0 < Lex.runL Lex.noLine (l.drop k) := by omega
        clear h1 h2 h3 hr' hp hq
        go_wp2_with fail
        refine (x_run r Lex.noLine 76 enters_noLine x_noLine w2 (by omega)).mono ?_
        rintro e w2 ⟨rfl, rfl⟩
        rw [HR.out]
        generalize Lex.runL Lex.noLine (l.drop k) = m at *
        go_wp2_with fail
        go_round
        case rel => exact ⟨k + m, by omega, by go_num, by have := HNO.out; have := H12.out; omega⟩
        case measure => simp [intOf]; omega
    · obtain ⟨r', hr'⟩ := (pre2 _ _ _).1 (show Lib.hasPrefix (l.drop k) [92, 10] = true from hp)
      have h1 := Lex.passL_two (c := 92) (d := 10) (r := r') rfl rfl
      have hlen : (l.drop k).length = r'.length + 2 := by rw [hr']; rfl
      rw [List.length_drop, HLL.out] at hlen
      have h2 : l.drop (k + 2) = r' := by rw [← List.drop_drop, hr']; rfl
      rw [← hr', ← h2] at h1
      have H1 := Lib.hid h1
      clear h1 h2 hr' hp
      go_wp2_with fail
      go_round
      case rel => exact ⟨k + 2, by omega, by go_num, by have := HNO.out; have := H1.out; omega⟩
      case measure => simp [intOf]; omega
theorem x_line (s : ByteArray) (at_ : Int) (w : World) (hs : s.size ≤ 4294967296) :
    Calls Tryz.prog 67 #[.string s, .int .i64 at_] w fun e w' => e = .returned (.int .i64 (Lex.lineL s.data.toList at_)) ∧ w = w' := by
  have hl : s.data.toList.length = s.size := rfl
  by_cases h1 : at_ < 0
  · go_enter Tryz.func67, Tryz.ntmps67
    go_wp2_with fail
    go_ret
    exact ⟨ret_int (by simp [Lex.lineL, h1]), rfl⟩
  · by_cases h2 : (s.size : Int) < at_
    · go_enter Tryz.func67, Tryz.ntmps67
      go_wp2_with fail
      go_ret
      exact ⟨ret_int (by simp only [Lex.lineL, hl, h2, or_true, if_true]), rfl⟩
    · have h3 := ext_take s at_.toNat
      have HL : Hid (Lex.lineL s.data.toList at_ = 1 + (Lex.lines (s.data.toList.take at_.toNat) : Int)) := by simp only [Hid, Lex.lineL, hl, h1, h2, or_self, if_false]
      have hle : Lex.lines (s.data.toList.take at_.toNat) ≤ s.size := by
        unfold Lex.lines
        exact Nat.le_trans List.count_le_length (by simp; omega)
      have h0 : 0 ≤ at_ := by omega
      have h4 : at_ ≤ (s.size : Int) := by omega
      clear h1 h2
      go_enter Tryz.func67, Tryz.ntmps67
      go_wp2_with fail
      generalize s.extract 0 at_.toNat = r at *
      refine (Tryz.strings_Count_one r 10 w).mono ?_
      rintro e w2 ⟨rfl, rfl⟩
      rw [h3, show Lib.countByte (s.data.toList.take at_.toNat) 10 = Lex.lines (s.data.toList.take at_.toNat) from rfl]
      generalize Lex.lines (s.data.toList.take at_.toNat) = m at *
      go_wp2_with fail
      go_ret
      exact ⟨ret_int (by rw [HL.out]), rfl⟩
end Go.Proofs.YtmapjahpjolmnaaGreatDoor
namespace Go.Proofs.YtmapjahpjolmnaaGreatDoor
open Go.RowKit

namespace Lex
def byteN (l : List UInt8) (k : Nat) : Int := ((l.getD k 0).toNat : Int)
theorem byteN_in {l : List UInt8} {k : Nat} (h : k < l.length) : byteN l k = (l[k].toNat : Int) := by simp [byteN, List.getD, h]
theorem byteN_out {l : List UInt8} {k : Nat} (h : l.length ≤ k) : byteN l k = 0 := by simp [byteN, List.getD, List.getElem?_eq_none h]
theorem byteN_range (l : List UInt8) (k : Nat) : 0 ≤ byteN l k ∧ byteN l k < 256 := by
  have := (l.getD k 0).toNat_lt
  unfold byteN; omega
theorem run_yes {p : Int → Bool} (hp : p 0 = false) {l : List UInt8} {k : Nat} (h : p (byteN l k) = true) : k < l.length ∧ runL p (l.drop k) = 1 + runL p (l.drop (k + 1)) := by
  have hk : k < l.length := by
    rcases Nat.lt_or_ge k l.length with h1 | h1
    · exact h1
    · rw [byteN_out h1, hp] at h; cases h
  refine ⟨hk, ?_⟩
  rw [byteN_in hk] at h
  rw [List.drop_eq_getElem_cons hk, runL_cons, if_pos h]
theorem run_not {p : Int → Bool} {l : List UInt8} {k : Nat} (h : p (byteN l k) = false) : runL p (l.drop k) = 0 := by
  rcases Nat.lt_or_ge k l.length with h1 | h1
  · rw [byteN_in h1] at h
    rw [List.drop_eq_getElem_cons h1, runL_cons, if_neg (by simp [h])]
  · rw [List.drop_eq_nil_of_le h1]; rfl
theorem lines_succ (l : List UInt8) (k : Nat) (h : k < l.length) : lines (l.take (k + 1)) = lines (l.take k) + (if l[k].toNat = 10 then 1 else 0) := by
  unfold lines
  rw [List.take_succ_eq_append_getElem h, List.count_append]
  congr 1
  by_cases h1 : l[k].toNat = 10
  · rw [if_pos h1]
    have : l[k] = 10 := UInt8.toNat_inj.1 h1
    simp [this]
  · rw [if_neg h1, List.count_singleton, if_neg]
    intro e
    have : l[k] = 10 := by simpa using e
    rw [this] at h1; exact h1 rfl
end Lex
theorem r_digit (b : Int) (w : World) : Calls Tryz.prog 103 #[.int .u8 b] w fun e w' => e = .returned (.bool (Lex.dig b)) ∧ w = w' := by
  go_enter Tryz.func103, Tryz.ntmps103
  go_wp2
  all_goals (go_ret; exact ⟨ret_bool (by rw [Bool.eq_iff_iff]; simp [Lex.dig, *]; try omega), rfl⟩)

theorem r_letter (b : Int) (w : World) : Calls Tryz.prog 90 #[.int .u8 b] w fun e w' => e = .returned (.bool (Lex.let_ b)) ∧ w = w' := by
  go_enter Tryz.func90, Tryz.ntmps90
  go_wp2
  all_goals (go_ret; exact ⟨ret_bool (by rw [Bool.eq_iff_iff]; simp [Lex.let_, *]; try omega), rfl⟩)

theorem r_byteAt (s : ByteArray) (k : Nat) (w : World) (hs : s.size ≤ 4294967296) : Calls Tryz.prog 89 #[.string s, .int .i64 k] w fun e w' => e = .returned (.int .u8 (Lex.byteN s.data.toList k)) ∧ w = w' := by
  have hl : s.data.toList.length = s.size := rfl
  have h0 : (0 : Int) ≤ (k : Int) := Int.natCast_nonneg _
  by_cases h : k < s.size
  · have HB : Hid (Lex.byteN s.data.toList k = (s[k].toNat : Int)) := Lex.byteN_in (by omega)
    go_enter Tryz.func89, Tryz.ntmps89
    go_wp2_with fail
    go_ret
    exact ⟨ret_int (by rw [HB.out]), rfl⟩
  · have HB : Hid (Lex.byteN s.data.toList k = 0) := Lex.byteN_out (by omega)
    go_enter Tryz.func89, Tryz.ntmps89
    go_wp2_with fail
    go_ret
    exact ⟨ret_int (by rw [HB.out]), rfl⟩

set_option maxHeartbeats 1000000 in
theorem r_line (s : ByteArray) (at_ : Int) (w : World) (hs : s.size ≤ 4294967296) :
    Calls Tryz.prog 73 #[.string s, .int .i64 at_] w fun e w' => e = .returned (.int .i64 (Lex.lineL s.data.toList at_)) ∧ w = w' := by
  have hl : s.data.toList.length = s.size := rfl
  by_cases h1 : at_ < 0
  · go_enter Tryz.func73, Tryz.ntmps73
    go_wp2_with fail
    go_ret
    exact ⟨ret_int (by simp [Lex.lineL, h1]), rfl⟩
  · by_cases h2 : (s.size : Int) < at_
    · go_enter Tryz.func73, Tryz.ntmps73
      go_wp2_with fail
      go_ret
      exact ⟨ret_int (by simp only [Lex.lineL, hl, h2, or_true, if_true]), rfl⟩
    · obtain ⟨n, rfl⟩ : ∃ n : Nat, at_ = n := ⟨at_.toNat, by omega⟩
      have hn : n ≤ s.size := by omega
      have HL : Hid (Lex.lineL s.data.toList n = 1 + (Lex.lines (s.data.toList.take n) : Int)) := by simp only [Hid, Lex.lineL, hl, h1, h2, or_self, if_false, Int.toNat_natCast]
      obtain ⟨l, hL⟩ : ∃ l, l = s.data.toList := ⟨_, rfl⟩
      have HLL := Lib.hid hL
      have hll : l.length = s.size := by rw [hL]; rfl
      rw [← hL] at HL ⊢
      have HLN := Lib.hid hll
      clear hL hl h1 h2 hll
      go_enter Tryz.func73, Tryz.ntmps73
      go_wp2_with fail
      go_loop [5, 6] (fun m i => ∃ k : Nat, k ≤ n ∧ i = .int .i64 k ∧ m = .int .i64 (1 + (Lex.lines (l.take k) : Int))) (fun _ i => n - (intOf i).toNat)
      case atStart => exact ⟨0, Nat.zero_le _, rfl, by simp [Lex.lines]⟩
      case round =>
        obtain ⟨k, hk, rfl, rfl⟩ := hrel
        by_cases hlt : k < n
        · have hk2 : k < s.size := by omega
          have hs1 := Lex.lines_succ l k (by rw [HLN.out]; exact hk2)
          have hle : Lex.lines (l.take k) ≤ k := Nat.le_trans List.count_le_length (by simp; omega)
          have he : l[k]'(by rw [HLN.out]; exact hk2) = s[k] := by have := HLL.out; subst this; rfl
          rw [he] at hs1
          have HS := Lib.hid hs1
          clear hs1 he
          have hk3 : (k : Int) < (n : Int) := by omega
          by_cases hc : s[k].toNat = 10
          · have hS2 := HS.out
            rw [if_pos hc] at hS2
            have HS2 := Lib.hid hS2
            clear HS hS2
            have hcb : ((s[k].toNat : Int) == 10) = true := by simp; omega
            go_wp2_with fail
            go_round
            case rel => exact ⟨k + 1, by omega, by go_num, by rw [HS2.out]; go_num⟩
            case measure => simp [intOf]; omega
          · have hS2 := HS.out
            rw [if_neg hc] at hS2
            have HS2 := Lib.hid hS2
            clear HS hS2
            have hcb : ((s[k].toNat : Int) == 10) = false := by simp; omega
            go_wp2_with fail
            go_round
            case rel => exact ⟨k + 1, by omega, by go_num, by rw [HS2.out]; rfl⟩
            case measure => simp [intOf]; omega
        · obtain rfl : k = n := by omega
          go_wp2_with fail
          go_ret
          exact ⟨ret_int (by rw [HL.out]), rfl⟩

set_option maxHeartbeats 1000000 in
theorem r_digits (s : ByteArray) (n : Nat) (w : World) (hs : s.size ≤ 4294967296) (hn : n ≤ 4294967296) :
    Calls Tryz.prog 106 #[.string s, .int .i64 n] w fun e w' => e = .returned (.int .i64 ((n + Lex.runL Lex.dig (s.data.toList.drop n) : Nat) : Int)) ∧ w = w' := by
  have HLN : Hid (s.data.toList.length = s.size) := rfl
  obtain ⟨l, hL⟩ : ∃ l, l = s.data.toList := ⟨_, rfl⟩
  have HLL := Lib.hid hL
  rw [← hL] at HLN ⊢
  clear hL
  obtain ⟨T, hT⟩ : ∃ T, T = n + Lex.runL Lex.dig (l.drop n) := ⟨_, rfl⟩
  have hTb : T ≤ n + s.size := by have := Lex.runL_le Lex.dig (l.drop n); rw [List.length_drop, HLN.out] at this; omega
  rw [← hT]
  go_enter Tryz.func106, Tryz.ntmps106
  go_wp2_with fail
  go_loop [1] (fun i => ∃ k : Nat, k ≤ T ∧ i = .int .i64 k ∧ k + Lex.runL Lex.dig (l.drop k) = T) (fun i => T - (intOf i).toNat)
  case atStart => exact ⟨n, by omega, rfl, by omega⟩
  case round =>
    obtain ⟨k, hk, rfl, hT2⟩ := hrel
    have HT2 := Lib.hid hT2
    clear hT2
    go_wp2_with fail
    refine (r_byteAt s k _ hs).mono ?_
    rintro e w2 ⟨rfl, rfl⟩
    rw [← HLL.out]
    have hyes := @Lex.run_yes Lex.dig (by decide) l k
    have hnot := @Lex.run_not Lex.dig l k
    have HY := Lib.hid hyes
    have HN := Lib.hid hnot
    clear hyes hnot
    generalize Lex.byteN l k = b at *
    go_wp2_with fail
    refine (r_digit b _).mono ?_
    rintro e w2 ⟨rfl, rfl⟩
    cases hb : Lex.dig b
    · have h0 := HN.out hb
      have he : k = T := by have := HT2.out; omega
      subst he
      clear h0
      go_wp2_with fail
      go_ret
      exact ⟨ret_int (by omega), rfl⟩
    · obtain ⟨h1, h2⟩ := HY.out hb
      have hkT : k + 1 ≤ T := by have := HT2.out; omega
      have HT3 : Hid (k + 1 + Lex.runL Lex.dig (l.drop (k + 1)) = T) := by have := HT2.out; unfold Hid; omega
      clear h2 h1
      go_wp2_with fail
      go_round
      case rel => exact ⟨k + 1, by omega, by go_num, HT3.out⟩
      case measure => simp [intOf]; omega

set_option maxHeartbeats 1000000 in
theorem r_passed (s : ByteArray) (n : Nat) (w : World) (hs : s.size ≤ 4294967296) (hn : n ≤ s.size) :
    Calls Tryz.prog 71 #[.string s, .int .i64 n] w fun e w' => e = .returned (.int .i64 ((n + Lex.passL (s.data.toList.drop n) : Nat) : Int)) ∧ w = w' := by
  have HLN : Hid (s.data.toList.length = s.size) := rfl
  obtain ⟨l, hL⟩ : ∃ l, l = s.data.toList := ⟨_, rfl⟩
  have HLL := Lib.hid hL
  rw [← hL] at HLN ⊢
  clear hL
  obtain ⟨T, hT⟩ : ∃ T, T = n + Lex.passL (l.drop n) := ⟨_, rfl⟩
  have hTb : T ≤ s.size := by have := Lex.passM_le false (l.drop n); rw [List.length_drop, HLN.out] at this; have h2 : Lex.passL (l.drop n) = Lex.passM false (l.drop n) := rfl; omega
  rw [← hT]
  have hT1 := Lib.hid hT.symm
  clear hT
  go_enter Tryz.func71, Tryz.ntmps71
  go_wp2_with fail
  go_loop [1] (fun i => ∃ k : Nat, k ≤ T ∧ i = .int .i64 k ∧ k + Lex.passL (l.drop k) = T) (fun i => T + 1 - (intOf i).toNat)
  case atStart => exact ⟨n, by have := hT1.out; omega, rfl, hT1.out⟩
  case round =>
    obtain ⟨k, hk, rfl, hT2⟩ := hrel
    have HT2 := Lib.hid hT2
    clear hT2 hT1
    by_cases hlt : k < s.size
    · have hkl : k < l.length := by rw [HLN.out]; exact hlt
      have hd := List.drop_eq_getElem_cons hkl
      have hpc := Lex.passL_cons l[k] (l.drop (k + 1))
      rw [← hd] at hpc
      have he : l[k] = s[k] := by have := HLL.out; subst this; rfl
      rw [he] at hpc hd
      have HPC := Lib.hid hpc
      have HD := Lib.hid hd
      clear hpc hd he
      obtain ⟨c, hc⟩ : ∃ c, s[k] = c := ⟨_, rfl⟩
      rw [hc] at HPC HD
      by_cases hb : Lex.blank c.toNat = true
      · have h1 := HPC.out
        rw [if_pos hb] at h1
        have HT3 : Hid (k + 1 + Lex.passL (l.drop (k + 1)) = T) := by have := HT2.out; unfold Hid; omega
        have hkT : k + 1 ≤ T := by have := HT2.out; omega
        have hbs : (c.toNat : Int) = 32 ∨ (c.toNat : Int) = 9 ∨ (c.toNat : Int) = 13 := by simp [Lex.blank] at hb; omega
        clear h1 HPC hb HD
        rcases hbs with h | h | h
        all_goals
          go_wp2_with fail
          go_round
          case rel => exact ⟨k + 1, by omega, by go_num, HT3.out⟩
          case measure => simp [intOf]; omega
      · have h1 := HPC.out
        rw [if_neg hb] at h1
        have hnb : ((c.toNat : Int) == 32) = false ∧ ((c.toNat : Int) == 9) = false ∧ ((c.toNat : Int) == 13) = false := by simp [Lex.blank] at hb ⊢; omega
        obtain ⟨n1, n2, n3⟩ := hnb
        have HH := Lib.hid h1
        clear h1 HPC hb
        by_cases h92 : c.toNat = 92
        · have h1 := HH.out
          rw [if_neg (by omega), if_pos h92] at h1
          have e1 : ((c.toNat : Int) == 92) = true := by simp; omega
          have e2 : ((c.toNat : Int) == 35) = false := by simp; omega
          have hbo := @Lex.byteN_out l (k + 1)
          have hbi := @Lex.byteN_in l (k + 1)
          have HBO := Lib.hid hbo
          have HBI := Lib.hid (fun h => hbi h)
          have H1 := Lib.hid h1
          clear h1 HH h92 hbo hbi HD
          go_wp2_with fail
          rw [show (k : Int) + 1 = ((k + 1 : Nat) : Int) by omega]
          refine (r_byteAt s (k + 1) _ hs).mono ?_
          rintro e w2 ⟨rfl, rfl⟩
          rw [← HLL.out]
          by_cases hk1 : k + 1 < l.length
          · have hd2 := List.drop_eq_getElem_cons hk1
            have h1 := H1.out
            rw [hd2] at h1
            rw [HBI.out hk1]
            rw [HLN.out] at hk1
            generalize l[k + 1] = d at *
            dsimp only at h1
            have hk2 : (k : Int) + 1 < (s.size : Int) := by omega
            by_cases hd10 : d.toNat = 10
            · rw [if_pos hd10] at h1
              have e3 : ((d.toNat : Int) == 10) = true := by simp; omega
              have HT3 : Hid (k + 2 + Lex.passL (l.drop (k + 2)) = T) := by have := HT2.out; unfold Hid; rw [show k + 2 = k + 1 + 1 from rfl]; omega
              have hkT : k + 2 ≤ T := by have := HT2.out; omega
              clear h1 H1 HBO HBI hd2
              go_wp2_with fail
              go_round
              case rel => exact ⟨k + 2, by omega, by go_num, HT3.out⟩
              case measure => simp [intOf]; omega
            · rw [if_neg hd10] at h1
              have e3 : ((d.toNat : Int) == 10) = false := by simp; omega
              have he : k = T := by have := HT2.out; omega
              subst he
              clear h1 H1 HBO HBI hd2
              go_wp2_with fail
              go_ret
              exact ⟨ret_int (by rfl), rfl⟩
          · have hd2 : l.drop (k + 1) = [] := List.drop_eq_nil_of_le (by omega)
            have h1 := H1.out
            rw [hd2] at h1
            dsimp only at h1
            have he : k = T := by have := HT2.out; omega
            rw [HBO.out (by omega)]
            subst he
            clear h1 H1 HBO HBI hd2
            go_wp2_with fail
            go_ret
            exact ⟨ret_int (by rfl), rfl⟩
        · have e1 : ((c.toNat : Int) == 92) = false := by simp; omega
          by_cases h35 : c.toNat = 35
          · have e2 : ((c.toNat : Int) == 35) = true := by simp; omega
            obtain ⟨g1, g2⟩ := Lex.passL_remark (c := c) (r := l.drop (k + 1)) h35
            rw [← HD.out] at g1 g2
            rw [List.drop_drop] at g2
            have g3 : Lex.runL Lex.noLine (l.drop k) = 1 + Lex.runL Lex.noLine (l.drop (k + 1)) := by rw [HD.out, Lex.runL_cons, if_pos (by simp [Lex.noLine]; omega)]
            rw [← g3] at g1 g2
            obtain ⟨T2, hT2⟩ : ∃ T2, T2 = k + Lex.runL Lex.noLine (l.drop k) := ⟨_, rfl⟩
            rw [← hT2] at g2
            have he : T2 = T := by have := HT2.out; omega
            have hkT : k + 1 ≤ T := by omega
            have G2 := Lib.hid g2
            have HT4 := Lib.hid hT2.symm
            clear g1 g2 g3 HH hT2 h92 h35 HD
            go_wp2_with fail
            go_loop [1] (fun i => ∃ m : Nat, k ≤ m ∧ m ≤ T2 ∧ i = .int .i64 m ∧ m + Lex.runL Lex.noLine (l.drop m) = T2) (fun i => T2 - (intOf i).toNat)
            case atStart => exact ⟨k, Nat.le_refl _, by omega, rfl, HT4.out⟩
            case round =>
              obtain ⟨m, hkm, hm, rfl, hm2⟩ := hrel
              by_cases hml : m < s.size
              · have hml' : m < l.length := by rw [HLN.out]; exact hml
                have hdm := List.drop_eq_getElem_cons hml'
                have hem : l[m] = s[m] := by have := HLL.out; subst this; rfl
                rw [hem] at hdm
                obtain ⟨c2, hc2⟩ : ∃ c2, s[m] = c2 := ⟨_, rfl⟩
                rw [hc2] at hdm
                rw [hdm, Lex.runL_cons] at hm2
                by_cases h10 : c2.toNat = 10
                · have e3 : ((c2.toNat : Int) == 10) = true := by simp; omega
                  rw [if_neg (by simp [Lex.noLine, h10])] at hm2
                  have : m = T := by omega
                  subst this
                  clear hm2 hdm
                  go_wp2_with fail
                  go_round
                  case rel => exact ⟨m, by omega, by go_num, by rw [← he]; have := G2.out; omega⟩
                  case measure => simp [intOf]; omega
                · have e3 : ((c2.toNat : Int) == 10) = false := by simp; omega
                  rw [if_pos (by simp [Lex.noLine]; omega)] at hm2
                  have HM := Lib.hid hm2
                  have hmT : m + 1 ≤ T2 := by omega
                  clear hm2 hdm
                  go_wp2_with fail
                  go_round
                  case rel => exact ⟨m + 1, by omega, by omega, by go_num, by have := HM.out; omega⟩
                  case measure => simp [intOf]; omega
              · have hmT : m = T := by omega
                subst hmT
                clear hm2
                go_wp2_with fail
                go_round
                case rel => exact ⟨m, by omega, by go_num, by rw [← he]; have := G2.out; omega⟩
                case measure => simp [intOf]; omega
          · have e2 : ((c.toNat : Int) == 35) = false := by simp; omega
            have h1 := HH.out
            rw [if_neg h35, if_neg h92] at h1
            have he : k = T := by have := HT2.out; omega
            subst he
            clear h1 HH HD
            go_wp2_with fail
            go_ret
            exact ⟨ret_int (by rfl), rfl⟩
    · obtain rfl : k = s.size := by omega
      have : T = s.size := by omega
      subst this
      go_wp2_with fail
      go_ret
      exact ⟨ret_int (by rfl), rfl⟩

end Go.Proofs.YtmapjahpjolmnaaGreatDoor
namespace Go.Proofs.YtmapjahpjolmnaaGreatDoor
open Go.RowKit

namespace Lex
theorem num1_no {l : List UInt8} (h : ¬ ∃ r, l.drop (runL dig l) = 46 :: r) : num1 l = runL dig l := by
  unfold num1
  dsimp only
  split
  · rfl
  · rename_i c r hd
    rw [if_neg]
    rintro ⟨h1, -⟩
    exact h ⟨r, by rw [hd, show c = 46 from UInt8.toNat_inj.1 h1]⟩
theorem num1_dot {l r : List UInt8} (h : l.drop (runL dig l) = 46 :: r) : num1 l = if 0 < runL dig l + runL dig r then runL dig l + 1 + runL dig r else runL dig l := by
  unfold num1
  simp only [h]
  rw [show (46 : UInt8).toNat = 46 from rfl]
  simp
theorem num1_le (l : List UInt8) : num1 l ≤ l.length := by
  have h := runL_le dig l
  by_cases hd : ∃ r, l.drop (runL dig l) = 46 :: r
  · obtain ⟨r, hr⟩ := hd
    rw [num1_dot hr]
    have h1 : (l.drop (runL dig l)).length = r.length + 1 := by rw [hr]; rfl
    have h2 := runL_le dig r
    rw [List.length_drop] at h1
    split <;> omega
  · rw [num1_no hd]; exact h
theorem numL_zero {l : List UInt8} (h : num1 l = 0) : numL l = 0 := by unfold numL; simp [h]
theorem numL_end {l : List UInt8} (h : num1 l ≠ 0) (h1 : num1 l = l.length) : numL l = num1 l := by
  unfold numL
  simp only [h, if_false]
  rw [List.drop_eq_nil_of_le (by omega)]
theorem numL_no {l : List UInt8} {c : UInt8} {r : List UInt8} (h : num1 l ≠ 0) (h1 : l.drop (num1 l) = c :: r) (h2 : ¬ (c.toNat = 101 ∨ c.toNat = 69)) : numL l = num1 l := by
  unfold numL
  simp only [h, if_false, h1, h2]
theorem numL_yes {l : List UInt8} {c : UInt8} {r : List UInt8} (h : num1 l ≠ 0) (h1 : l.drop (num1 l) = c :: r) (h2 : c.toNat = 101 ∨ c.toNat = 69) : numL l = if 0 < runL dig (r.drop (signL r)) then num1 l + 1 + signL r + runL dig (r.drop (signL r)) else num1 l := by
  unfold numL
  simp only [h, if_false, h1, h2, if_true]
theorem signL_le (r : List UInt8) : signL r ≤ r.length := by
  unfold signL
  cases r with
  | nil => simp
  | cons d r => dsimp only; split <;> simp
theorem numL_le (l : List UInt8) : numL l ≤ l.length := by
  have h := num1_le l
  by_cases h0 : num1 l = 0
  · rw [numL_zero h0]; omega
  · cases hd : l.drop (num1 l) with
    | nil =>
      have h1 : (l.drop (num1 l)).length = 0 := by rw [hd]; rfl
      rw [List.length_drop] at h1
      rw [numL_end h0 (by omega)]; omega
    | cons c r =>
      by_cases h2 : c.toNat = 101 ∨ c.toNat = 69
      · rw [numL_yes h0 hd h2]
        have h1 : (l.drop (num1 l)).length = r.length + 1 := by rw [hd]; rfl
        rw [List.length_drop] at h1
        have h3 := signL_le r
        have h4 := runL_le dig (r.drop (signL r))
        rw [List.length_drop] at h4
        split <;> omega
      · rw [numL_no h0 hd h2]; exact h
end Lex
theorem or_lem (c : UInt8) : (bits BinOp.or IntKind.u8 (c.toNat : Int) 32 == 101) = decide (c.toNat = 101 ∨ c.toNat = 69) := by
  have h : ∀ n : Nat, n < 256 → (bits BinOp.or IntKind.u8 (n : Int) 32 == 101) = decide (n = 101 ∨ n = 69) := by decide +kernel
  exact h _ (by have := c.toNat_lt; omega)
theorem ext2 (s : ByteArray) (n k : Nat) : ((s.extract n s.size).extract k (s.size - n)).data.toList = s.data.toList.drop (n + k) := by
  have := ext_drop (s.extract n s.size) k
  rw [ext_size, ext_drop, List.drop_drop] at this
  exact this
theorem getL0 {L : List UInt8} {c : UInt8} {r : List UInt8} (e : L = c :: r) (h : 0 < L.length) : L[0] = c := by subst e; rfl
theorem getL1 {L : List UInt8} {c d : UInt8} {r : List UInt8} (e : L = c :: d :: r) (h : 1 < L.length) : L[1] = d := by subst e; rfl
theorem ext_get {s : ByteArray} {n : Nat} {c : UInt8} {r : List UInt8} (h : s.data.toList.drop n = c :: r) (h0 : 0 < (s.extract n s.size).size) : (s.extract n s.size)[0]'h0 = c := by
  have h1 := ext_drop s n
  rw [h] at h1
  exact getL0 h1 (by simpa using h0)
theorem ext_get1 {s : ByteArray} {n : Nat} {c d : UInt8} {r : List UInt8} (h : s.data.toList.drop n = c :: d :: r) (h0 : 1 < (s.extract n s.size).size) : (s.extract n s.size)[1]'h0 = d := by
  have h1 := ext_drop s n
  rw [h] at h1
  exact getL1 h1 (by simpa using h0)
theorem toList_empty (s : ByteArray) : s.toList.isEmpty = s.data.toList.isEmpty := by
  have h := tolist_beq s ⟨#[]⟩
  have h0 : (⟨#[]⟩ : ByteArray).toList = [] := by unfold ByteArray.toList; unfold ByteArray.toList.loop; rfl
  rw [h0] at h
  cases h1 : s.toList <;> cases h2 : s.data.toList <;> simp_all
set_option maxHeartbeats 1000000 in
theorem x_num (s : ByteArray) (w : World) (hs : s.size ≤ 4294967296) :
    Calls Tryz.prog 83 #[.string s] w fun e w' => e = .returned (.int .i64 (Lex.numL s.data.toList)) ∧ w = w' := by
  obtain ⟨l, hl⟩ : ∃ l, l = s.data.toList := ⟨_, rfl⟩
  have hl' : l.length = s.size := by subst hl; rfl
  rw [← hl]
  have HL := Lib.hid hl
  have HLL := Lib.hid hl'
  have hle := Lex.num1_le l
  rw [hl'] at hle
  clear hl hl'
  go_enter Tryz.func83, Tryz.ntmps83
  go_wp2_with fail
  refine (x_run s Lex.dig 81 enters_digit x_digit w (by omega)).mono ?_
  rintro e w2 ⟨rfl, rfl⟩
  rw [← HL.out]
  have hn := Lex.runL_le Lex.dig l
  rw [HLL.out] at hn
  have HN0 := Lib.hid (@Lex.num1_no l)
  have HN1 := Lib.hid (fun r => @Lex.num1_dot l r)
  have hr1 := ext_drop s (Lex.runL Lex.dig l)
  have hr2 := ext_size s (Lex.runL Lex.dig l)
  have hq1 := ext_drop s (Lex.runL Lex.dig l + 1)
  rw [← HL.out] at hr1 hq1
  have HR := Lib.hid hr1
  have HQ := Lib.hid hq1
  clear hr1 hq1
  generalize hne : Lex.runL Lex.dig l = n at *
  clear hne
  go_wp2_with fail
  refine (Tryz.strings_HasPrefix _ ⟨#[46]⟩ _).mono ?_
  rintro e w2 ⟨rfl, rfl⟩
  rw [HR.out]
  cases hp : Lib.hasPrefix (l.drop n) (⟨#[46]⟩ : ByteArray).data.toList
  · have HE : Hid (Lex.num1 l = n) := HN0.out fun h => by rw [← pre1] at h; rw [show Lib.hasPrefix (l.drop n) [46] = false from hp] at h; cases h
    clear hp HN0 HN1 HQ HR hr2
    go_upto_region 6 with fail
    generalize n = m at *
    by_cases hm0 : m = 0
    · subst hm0
      have hz := Lex.numL_zero HE.out
      go_wp2_with fail
      go_ret
      exact ⟨ret_int (by rw [hz]; rfl), rfl⟩
    have hne0 : Lex.num1 l ≠ 0 := by rw [HE.out]; exact hm0
    have HNE := Lib.hid hne0
    clear hne0
    rcases hd : l.drop m with _ | ⟨c, r⟩
    · have hlen : (l.drop m).length = 0 := by rw [hd]; rfl
      rw [List.length_drop, HLL.out] at hlen
      have hz := Lex.numL_end HNE.out (by rw [HE.out, HLL.out]; omega)
      have hx : (s.extract m s.size).toList.isEmpty = true := by rw [toList_empty, ext_drop, ← HL.out, hd]; rfl
      have HZ := Lib.hid hz
      clear hd hz
      go_wp2_with fail
      go_ret
      exact ⟨ret_int (by rw [HZ.out, HE.out]), rfl⟩
    · have hlen : (l.drop m).length = r.length + 1 := by rw [hd]; rfl
      rw [List.length_drop, HLL.out] at hlen
      have hx : (s.extract m s.size).toList.isEmpty = false := by rw [toList_empty, ext_drop, ← HL.out, hd]; rfl
      have hd' := hd
      rw [HL.out] at hd'
      have hg := ext_get hd'
      have hor := or_lem c
      have hx2 := ext2 s m
      rw [← HL.out] at hx2
      have HX2 := Lib.hid hx2
      have HY := Lib.hid (fun h => Lex.numL_yes HNE.out (by rw [HE.out]; exact hd) h)
      have HNO := Lib.hid (fun h => Lex.numL_no HNE.out (by rw [HE.out]; exact hd) h)
      clear hx2
      by_cases hc : c.toNat = 101 ∨ c.toNat = 69
      · rw [decide_eq_true hc] at hor
        have HY' := Lib.hid (HY.out hc)
        clear HY HNO hc
        rcases hr : r with _ | ⟨d, r2⟩
        · subst hr
          have hl1 : s.size - m ≤ 1 := by simp at hlen; omega
          have hl0 : 0 < s.size - m := by omega
          have HLEN := Lib.hid hlen
          clear hlen
          have HD := Lib.hid hd
          clear hd hd'
          go_wp2_with fail
          refine (x_run _ Lex.dig 81 enters_digit x_digit _ (by simp; omega)).mono ?_
          rintro e w3 ⟨rfl, rfl⟩
          rw [show ((s.extract m s.size).extract 1 (s.size - m)).data.toList = [] by rw [HX2.out, ← List.drop_drop, HD.out]; rfl]
          go_wp2_with fail
          go_ret
          exact ⟨ret_int (by rw [HY'.out, HE.out]; simp [Lex.signL, Lex.runL_nil]), rfl⟩
        · subst hr
          have hg1 := ext_get1 hd'
          have hl1 : 2 ≤ s.size - m := by simp at hlen; omega
          have hl0 : 0 < s.size - m := by omega
          have HLEN := Lib.hid hlen
          clear hlen
          have HD := Lib.hid hd
          clear hd hd'
          by_cases hs1 : d.toNat = 43
          · have hsg : Lex.signL (d :: r2) = 1 := by simp [Lex.signL, hs1]
            have hbl := Lex.runL_le Lex.dig (l.drop (m + 2))
            rw [List.length_drop, HLL.out] at hbl
            go_wp2_with fail
            refine (x_run _ Lex.dig 81 enters_digit x_digit _ (by simp; omega)).mono ?_
            rintro e w3 ⟨rfl, rfl⟩
            rw [HX2.out]
            have hdr : (d :: r2).drop (Lex.signL (d :: r2)) = l.drop (m + 2) := by rw [hsg, ← List.drop_drop, HD.out]; rfl
            have HY2 := Lib.hid HY'.out
            rw [hdr, hsg] at HY2
            clear hdr hsg HY'
            generalize Lex.runL Lex.dig (l.drop (m + 2)) = q at *
            by_cases hq : 0 < q
            · rw [if_pos hq] at HY2
              go_wp2_with fail
              go_ret
              exact ⟨ret_int (by rw [HY2.out, HE.out]; omega), rfl⟩
            · rw [if_neg hq] at HY2
              go_wp2_with fail
              go_ret
              exact ⟨ret_int (by rw [HY2.out, HE.out]), rfl⟩
          · by_cases hs2 : d.toNat = 45
            · have hsg : Lex.signL (d :: r2) = 1 := by simp [Lex.signL, hs2]
              have hbl := Lex.runL_le Lex.dig (l.drop (m + 2))
              rw [List.length_drop, HLL.out] at hbl
              go_wp2_with fail
              refine (x_run _ Lex.dig 81 enters_digit x_digit _ (by simp; omega)).mono ?_
              rintro e w3 ⟨rfl, rfl⟩
              rw [HX2.out]
              have hdr : (d :: r2).drop (Lex.signL (d :: r2)) = l.drop (m + 2) := by rw [hsg, ← List.drop_drop, HD.out]; rfl
              have HY2 := Lib.hid HY'.out
              rw [hdr, hsg] at HY2
              clear hdr hsg HY'
              generalize Lex.runL Lex.dig (l.drop (m + 2)) = q at *
              by_cases hq : 0 < q
              · rw [if_pos hq] at HY2
                go_wp2_with fail
                go_ret
                exact ⟨ret_int (by rw [HY2.out, HE.out]; omega), rfl⟩
              · rw [if_neg hq] at HY2
                go_wp2_with fail
                go_ret
                exact ⟨ret_int (by rw [HY2.out, HE.out]), rfl⟩
            · have h43 : ((d.toNat : Int) == 43) = false := by simp; omega
              have h45 : ((d.toNat : Int) == 45) = false := by simp; omega
              have hsg : Lex.signL (d :: r2) = 0 := by simp [Lex.signL, hs1, hs2]
              have hbl := Lex.runL_le Lex.dig (l.drop (m + 1))
              rw [List.length_drop, HLL.out] at hbl
              go_wp2_with fail
              refine (x_run _ Lex.dig 81 enters_digit x_digit _ (by simp; omega)).mono ?_
              rintro e w3 ⟨rfl, rfl⟩
              rw [HX2.out]
              have hdr : (d :: r2).drop (Lex.signL (d :: r2)) = l.drop (m + 1) := by rw [hsg, ← List.drop_drop, HD.out]; rfl
              have HY2 := Lib.hid HY'.out
              rw [hdr, hsg] at HY2
              clear hdr hsg HY'
              generalize Lex.runL Lex.dig (l.drop (m + 1)) = q at *
              by_cases hq : 0 < q
              · rw [if_pos hq] at HY2
                go_wp2_with fail
                go_ret
                exact ⟨ret_int (by rw [HY2.out, HE.out]; omega), rfl⟩
              · rw [if_neg hq] at HY2
                go_wp2_with fail
                go_ret
                exact ⟨ret_int (by rw [HY2.out, HE.out]), rfl⟩
      · rw [decide_eq_false hc] at hor
        have HZ := Lib.hid (HNO.out hc)
        have hl0 : 0 < s.size - m := by omega
        clear hd hd' HY HNO hc hlen
        go_wp2_with fail
        go_ret
        exact ⟨ret_int (by rw [HZ.out, HE.out]), rfl⟩
  · obtain ⟨r', hr'⟩ := (pre1 _ _).1 (show Lib.hasPrefix (l.drop n) [46] = true from hp)
    have hlen0 : (l.drop n).length = r'.length + 1 := by rw [hr']; rfl
    rw [List.length_drop, HLL.out] at hlen0
    have h2 : l.drop (n + 1) = r' := by rw [← List.drop_drop, hr']; rfl
    have HE0 : Hid (Lex.num1 l = if 0 < n + Lex.runL Lex.dig r' then n + 1 + Lex.runL Lex.dig r' else n) := HN1.out _ hr'
    rw [h2] at HQ
    have hkl := Lex.runL_le Lex.dig r'
    clear hp HN0 HN1 HR hr2 hr' h2
    go_wp2_with fail
    refine (x_run _ Lex.dig 81 enters_digit x_digit _ (by simp; omega)).mono ?_
    rintro e w3 ⟨rfl, rfl⟩
    rw [HQ.out]
    generalize Lex.runL Lex.dig r' = k at *
    by_cases hnk : 0 < n + k
    · rw [if_pos hnk] at HE0
      go_upto_region 6 with fail
      rw [show (n : Int) + (1 + (k : Int)) = ((n + 1 + k : Nat) : Int) by omega]
      have HE := Lib.hid HE0.out
      clear HE0 hnk HQ
      have hm : n + 1 + k ≤ s.size := by omega
      clear hn hkl hlen0
      generalize n + 1 + k = m at *
      by_cases hm0 : m = 0
      · subst hm0
        have hz := Lex.numL_zero HE.out
        go_wp2_with fail
        go_ret
        exact ⟨ret_int (by rw [hz]; rfl), rfl⟩
      have hne0 : Lex.num1 l ≠ 0 := by rw [HE.out]; exact hm0
      have HNE := Lib.hid hne0
      clear hne0
      rcases hd : l.drop m with _ | ⟨c, r⟩
      · have hlen : (l.drop m).length = 0 := by rw [hd]; rfl
        rw [List.length_drop, HLL.out] at hlen
        have hz := Lex.numL_end HNE.out (by rw [HE.out, HLL.out]; omega)
        have hx : (s.extract m s.size).toList.isEmpty = true := by rw [toList_empty, ext_drop, ← HL.out, hd]; rfl
        have HZ := Lib.hid hz
        clear hd hz
        go_wp2_with fail
        go_ret
        exact ⟨ret_int (by rw [HZ.out, HE.out]), rfl⟩
      · have hlen : (l.drop m).length = r.length + 1 := by rw [hd]; rfl
        rw [List.length_drop, HLL.out] at hlen
        have hx : (s.extract m s.size).toList.isEmpty = false := by rw [toList_empty, ext_drop, ← HL.out, hd]; rfl
        have hd' := hd
        rw [HL.out] at hd'
        have hg := ext_get hd'
        have hor := or_lem c
        have hx2 := ext2 s m
        rw [← HL.out] at hx2
        have HX2 := Lib.hid hx2
        have HY := Lib.hid (fun h => Lex.numL_yes HNE.out (by rw [HE.out]; exact hd) h)
        have HNO := Lib.hid (fun h => Lex.numL_no HNE.out (by rw [HE.out]; exact hd) h)
        clear hx2
        by_cases hc : c.toNat = 101 ∨ c.toNat = 69
        · rw [decide_eq_true hc] at hor
          have HY' := Lib.hid (HY.out hc)
          clear HY HNO hc
          rcases hr : r with _ | ⟨d, r2⟩
          · subst hr
            have hl1 : s.size - m ≤ 1 := by simp at hlen; omega
            have hl0 : 0 < s.size - m := by omega
            have HLEN := Lib.hid hlen
            clear hlen
            have HD := Lib.hid hd
            clear hd hd'
            go_wp2_with fail
            refine (x_run _ Lex.dig 81 enters_digit x_digit _ (by simp; omega)).mono ?_
            rintro e w3 ⟨rfl, rfl⟩
            rw [show ((s.extract m s.size).extract 1 (s.size - m)).data.toList = [] by rw [HX2.out, ← List.drop_drop, HD.out]; rfl]
            go_wp2_with fail
            go_ret
            exact ⟨ret_int (by rw [HY'.out, HE.out]; simp [Lex.signL, Lex.runL_nil]), rfl⟩
          · subst hr
            have hg1 := ext_get1 hd'
            have hl1 : 2 ≤ s.size - m := by simp at hlen; omega
            have hl0 : 0 < s.size - m := by omega
            have HLEN := Lib.hid hlen
            clear hlen
            have HD := Lib.hid hd
            clear hd hd'
            by_cases hs1 : d.toNat = 43
            · have hsg : Lex.signL (d :: r2) = 1 := by simp [Lex.signL, hs1]
              have hbl := Lex.runL_le Lex.dig (l.drop (m + 2))
              rw [List.length_drop, HLL.out] at hbl
              go_wp2_with fail
              refine (x_run _ Lex.dig 81 enters_digit x_digit _ (by simp; omega)).mono ?_
              rintro e w3 ⟨rfl, rfl⟩
              rw [HX2.out]
              have hdr : (d :: r2).drop (Lex.signL (d :: r2)) = l.drop (m + 2) := by rw [hsg, ← List.drop_drop, HD.out]; rfl
              have HY2 := Lib.hid HY'.out
              rw [hdr, hsg] at HY2
              clear hdr hsg HY'
              generalize Lex.runL Lex.dig (l.drop (m + 2)) = q at *
              by_cases hq : 0 < q
              · rw [if_pos hq] at HY2
                go_wp2_with fail
                go_ret
                exact ⟨ret_int (by rw [HY2.out, HE.out]; omega), rfl⟩
              · rw [if_neg hq] at HY2
                go_wp2_with fail
                go_ret
                exact ⟨ret_int (by rw [HY2.out, HE.out]), rfl⟩
            · by_cases hs2 : d.toNat = 45
              · have hsg : Lex.signL (d :: r2) = 1 := by simp [Lex.signL, hs2]
                have hbl := Lex.runL_le Lex.dig (l.drop (m + 2))
                rw [List.length_drop, HLL.out] at hbl
                go_wp2_with fail
                refine (x_run _ Lex.dig 81 enters_digit x_digit _ (by simp; omega)).mono ?_
                rintro e w3 ⟨rfl, rfl⟩
                rw [HX2.out]
                have hdr : (d :: r2).drop (Lex.signL (d :: r2)) = l.drop (m + 2) := by rw [hsg, ← List.drop_drop, HD.out]; rfl
                have HY2 := Lib.hid HY'.out
                rw [hdr, hsg] at HY2
                clear hdr hsg HY'
                generalize Lex.runL Lex.dig (l.drop (m + 2)) = q at *
                by_cases hq : 0 < q
                · rw [if_pos hq] at HY2
                  go_wp2_with fail
                  go_ret
                  exact ⟨ret_int (by rw [HY2.out, HE.out]; omega), rfl⟩
                · rw [if_neg hq] at HY2
                  go_wp2_with fail
                  go_ret
                  exact ⟨ret_int (by rw [HY2.out, HE.out]), rfl⟩
              · have h43 : ((d.toNat : Int) == 43) = false := by simp; omega
                have h45 : ((d.toNat : Int) == 45) = false := by simp; omega
                have hsg : Lex.signL (d :: r2) = 0 := by simp [Lex.signL, hs1, hs2]
                have hbl := Lex.runL_le Lex.dig (l.drop (m + 1))
                rw [List.length_drop, HLL.out] at hbl
                go_wp2_with fail
                refine (x_run _ Lex.dig 81 enters_digit x_digit _ (by simp; omega)).mono ?_
                rintro e w3 ⟨rfl, rfl⟩
                rw [HX2.out]
                have hdr : (d :: r2).drop (Lex.signL (d :: r2)) = l.drop (m + 1) := by rw [hsg, ← List.drop_drop, HD.out]; rfl
                have HY2 := Lib.hid HY'.out
                rw [hdr, hsg] at HY2
                clear hdr hsg HY'
                generalize Lex.runL Lex.dig (l.drop (m + 1)) = q at *
                by_cases hq : 0 < q
                · rw [if_pos hq] at HY2
                  go_wp2_with fail
                  go_ret
                  exact ⟨ret_int (by rw [HY2.out, HE.out]; omega), rfl⟩
                · rw [if_neg hq] at HY2
                  go_wp2_with fail
                  go_ret
                  exact ⟨ret_int (by rw [HY2.out, HE.out]), rfl⟩
        · rw [decide_eq_false hc] at hor
          have HZ := Lib.hid (HNO.out hc)
          have hl0 : 0 < s.size - m := by omega
          clear hd hd' HY HNO hc hlen
          go_wp2_with fail
          go_ret
          exact ⟨ret_int (by rw [HZ.out, HE.out]), rfl⟩
    · rw [if_neg hnk] at HE0
      obtain rfl : n = 0 := by omega
      have hz := Lex.numL_zero HE0.out
      go_wp2_with fail
      go_ret
      exact ⟨ret_int (by rw [hz]; rfl), rfl⟩
end Go.Proofs.YtmapjahpjolmnaaGreatDoor
