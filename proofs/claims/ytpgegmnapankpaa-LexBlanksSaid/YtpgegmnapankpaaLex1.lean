/- The walks of lex: classes of bytes, runs, what is passed over. -/
import Derived.Test.YtpgegmnapankpaaRows
import Derived.Test.YtpgegmnapankpaaBase
import Derived.Test.YtpgegmnapankpaaLexPlain
import Derived.Test.YtpgegmnapankpaaShelf
import Derived.Lib.Strings
namespace Go.Proofs.Ytpgegmnapankpaa
open Go.RowKit

theorem x_digit (b : Int) (w : World) : Calls Try.prog 22 #[.int .u8 b] w fun e w' => e = .returned (.bool (Lex.dig b)) ∧ w = w' := by
  go_enter Try.func22, Try.ntmps22
  go_wp2
  all_goals (go_ret; exact ⟨ret_bool (by rw [Bool.eq_iff_iff]; simp [Lex.dig, *]; try omega), rfl⟩)
theorem x_letter (b : Int) (w : World) : Calls Try.prog 20 #[.int .u8 b] w fun e w' => e = .returned (.bool (Lex.let_ b)) ∧ w = w' := by
  go_enter Try.func20, Try.ntmps20
  go_wp2
  all_goals (go_ret; exact ⟨ret_bool (by rw [Bool.eq_iff_iff]; simp [Lex.let_, *]; try omega), rfl⟩)
theorem x_noLine (b : Int) (w : World) : Calls Try.prog 18 #[.int .u8 b] w fun e w' => e = .returned (.bool (Lex.noLine b)) ∧ w = w' := by
  go_enter Try.func18, Try.ntmps18
  go_wp2
  all_goals (go_ret; exact ⟨ret_bool (by rw [Bool.eq_iff_iff]; simp [Lex.noLine, *]; try omega), rfl⟩)
theorem x_blank (b : Int) (w : World) : Calls Try.prog 19 #[.int .u8 b] w fun e w' => e = .returned (.bool (Lex.blank b)) ∧ w = w' := by
  go_enter Try.func19, Try.ntmps19
  go_wp2
  all_goals (go_ret; exact ⟨ret_bool (by rw [Bool.eq_iff_iff]; simp [Lex.blank, *]; try omega), rfl⟩)
theorem x_word (b : Int) (w : World) : Calls Try.prog 21 #[.int .u8 b] w fun e w' => e = .returned (.bool (Lex.word b)) ∧ w = w' := by
  go_enter Try.func21, Try.ntmps21
  go_wp2_with fail
  refine (x_letter b w).mono ?_
  rintro e w2 ⟨rfl, rfl⟩
  cases hl : Lex.let_ b
  · go_wp2_with fail
    refine (x_digit b w).mono ?_
    rintro e w2 ⟨rfl, rfl⟩
    go_wp2_with fail
    go_ret
    exact ⟨ret_bool (by simp [Lex.word, hl]), rfl⟩
  · go_wp2_with fail
    go_ret
    exact ⟨ret_bool (by simp [Lex.word, hl]), rfl⟩
theorem x_run (s : ByteArray) (p : Int → Bool) (g : Nat) (hc : ∀ (args : Array Value) (w : World), (callFunc g args).run Try.prog w = .ok (.enter g args) w) (hg : ∀ (b : Int) (w : World), Calls Try.prog g #[.int .u8 b] w fun e w' => e = .returned (.bool (p b)) ∧ w = w') (w : World) (hs : s.size ≤ 4294967296) :
    Calls Try.prog 17 #[.string s, .func (.func g) #[] #[]] w fun e w' => e = .returned (.int .i64 (Lex.runL p s.data.toList)) ∧ w = w' := by
  have hl : s.data.toList.length = s.size := rfl
  go_enter Try.func17, Try.ntmps17
  go_wp2_with fail
  go_loop [5] (fun i => ∃ k : Nat, k ≤ s.size ∧ i = .int .i64 k ∧ ∀ j, (hj : j < s.data.toList.length) → j < k → p (s.data.toList[j]).toNat = true) (fun i => s.size - (intOf i).toNat)
  case atStart => exact ⟨0, Nat.zero_le _, rfl, fun j _ h => by omega⟩
  case round =>
    obtain ⟨k, hk, rfl, hno⟩ := hrel
    have HNO := Lib.hid hno
    clear hno
    by_cases hlt : k < s.size
    · go_wp2_with fail
      refine (hg _ w).mono ?_
      rintro e w2 ⟨rfl, rfl⟩
      have HL : Hid (s.data.toList[k]'(by omega) = s[k]) := rfl
      cases hp : p s[k].toNat
      · go_wp2_with fail
        go_ret
        exact ⟨ret_int (by rw [Lex.runL_is (n := k) (by omega) HNO.out (fun h => by rw [HL.out]; exact hp)]), rfl⟩
      · go_wp2_with fail
        go_round
        case rel => exact ⟨k + 1, by omega, by go_num, fun j hj h => by
          rcases Nat.lt_or_ge j k with h | h
          · exact HNO.out j hj h
          · obtain rfl : j = k := by omega
            rw [HL.out]; exact hp⟩
        case measure => simp [intOf]; omega
    · obtain rfl : k = s.size := by omega
      go_wp2_with fail
      go_ret
      exact ⟨ret_int (by rw [Lex.runL_is (n := s.size) (by omega) HNO.out (fun h => by omega)]), rfl⟩
theorem enters_digit (args : Array Value) (w : World) : (callFunc 22 args).run Try.prog w = .ok (.enter 22 args) w := by kernel_rfl
theorem enters_noLine (args : Array Value) (w : World) : (callFunc 18 args).run Try.prog w = .ok (.enter 18 args) w := by kernel_rfl
theorem enters_blank (args : Array Value) (w : World) : (callFunc 19 args).run Try.prog w = .ok (.enter 19 args) w := by kernel_rfl
theorem enters_word (args : Array Value) (w : World) : (callFunc 21 args).run Try.prog w = .ok (.enter 21 args) w := by kernel_rfl
end Go.Proofs.Ytpgegmnapankpaa
