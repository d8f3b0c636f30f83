/- The walks of lex: what is passed over, lines, numbers. -/
import Derived.Test.YtpgegmnapankpaaLex1
namespace Go.Proofs.Ytpgegmnapankpaa
open Go.RowKit

theorem ext_drop (s : ByteArray) (k : Nat) : (s.extract k s.size).data.toList = s.data.toList.drop k := by
  rw [ByteArray.data_extract, Array.toList_extract]
  simp only [List.extract]
  exact List.take_of_length_le (by simp)
theorem ext_size (s : ByteArray) (k : Nat) : (s.extract k s.size).size = s.size - k := by simp
theorem ext_take (s : ByteArray) (k : Nat) : (s.extract 0 k).data.toList = s.data.toList.take k := by
  rw [ByteArray.data_extract, Array.toList_extract]
  simp [List.extract]
theorem pre1 (l : List UInt8) (c : UInt8) : Lib.hasPrefix l [c] = true ↔ ∃ r, l = c :: r := by
  cases l with
  | nil => simp [Lib.hasPrefix]
  | cons d r => simp [Lib.hasPrefix, List.isPrefixOf]; exact ⟨fun h => h.symm, fun h => h.symm⟩
theorem pre2 (l : List UInt8) (c c' : UInt8) : Lib.hasPrefix l [c, c'] = true ↔ ∃ r, l = c :: c' :: r := by
  match l with
  | [] => simp [Lib.hasPrefix]
  | [d] => simp [Lib.hasPrefix, List.isPrefixOf]
  | d :: d' :: r => simp [Lib.hasPrefix, List.isPrefixOf]; exact ⟨fun h => ⟨h.1.symm, h.2.symm⟩, fun h => ⟨h.1.symm, h.2.symm⟩⟩
set_option maxHeartbeats 1000000 in
theorem x_pass (s : ByteArray) (w : World) (hs : s.size ≤ 4294967296) :
    Calls Try.prog 11 #[.string s] w fun e w' => e = .returned (.int .i64 (Lex.passL s.data.toList)) ∧ w = w' := by
  obtain ⟨l, hl⟩ : ∃ l, l = s.data.toList := ⟨_, rfl⟩
  have hl' : l.length = s.size := by subst hl; rfl
  rw [← hl]
  have HL := Lib.hid hl
  have HLL := Lib.hid hl'
  clear hl hl'
  go_enter Try.func11, Try.ntmps11
  go_wp2_with fail
  go_loop [3] (fun i => ∃ k : Nat, k ≤ s.size ∧ i = .int .i64 k ∧ k + Lex.passL (l.drop k) = Lex.passL l) (fun i => s.size - (intOf i).toNat)
  case atStart => exact ⟨0, Nat.zero_le _, rfl, by simp⟩
  case round =>
    obtain ⟨k, hk, rfl, hno⟩ := hrel
    have HNO := Lib.hid hno
    clear hno
    go_wp2_with fail
    have hr1 := ext_drop s k
    have hr2 := ext_size s k
    rw [← HL.out] at hr1
    generalize s.extract k s.size = r at *
    have HR := Lib.hid hr1
    clear hr1
    refine (Try.strings_HasPrefix r ⟨#[92, 10]⟩ w).mono ?_
    rintro e w2 ⟨rfl, rfl⟩
    rw [HR.out]
    cases hp : Lib.hasPrefix (l.drop k) (⟨#[92, 10]⟩ : ByteArray).data.toList
    · go_wp2_with fail
      refine (Try.strings_HasPrefix r ⟨#[35]⟩ w2).mono ?_
      rintro e w2 ⟨rfl, rfl⟩
      rw [HR.out]
      cases hq : Lib.hasPrefix (l.drop k) (⟨#[35]⟩ : ByteArray).data.toList
      · go_wp2_with fail
        refine (x_run r Lex.blank 19 enters_blank x_blank w2 (by omega)).mono ?_
        rintro e w2 ⟨rfl, rfl⟩
        rw [HR.out]
        have hb := Lex.passL_blanks (l.drop k)
        have hbl := Lex.runL_le Lex.blank (l.drop k)
        rw [List.length_drop, HLL.out] at hbl
        rw [List.drop_drop] at hb
        have hst := fun h0 => Lex.passL_stop (l := l.drop k) h0 (fun h => by rw [← pre1] at h; rw [h] at hq; cases hq) (fun h => by rw [← pre2] at h; rw [h] at hp; cases hp)
        have HST := Lib.hid hst
        have HB := Lib.hid hb
        clear hb hst hp hq
        generalize Lex.runL Lex.blank (l.drop k) = m at *
        cases m with
        | zero =>
          go_wp2_with fail
          go_ret
          exact ⟨ret_int (by have := HNO.out; have := HST.out trivial; omega), rfl⟩
        | succ m =>
          go_wp2_with fail
          go_round
          case rel => exact ⟨k + (m + 1), by omega, by go_num, by have := HNO.out; have := HB.out; omega⟩
          case measure => simp [intOf]; omega
      · have hq' := (pre1 _ _).1 (show Lib.hasPrefix (l.drop k) [35] = true from hq)
        obtain ⟨r', hr'⟩ := hq'
        obtain ⟨h1, h2⟩ := Lex.passL_remark (c := 35) (r := r') rfl
        have h3 : Lex.runL Lex.noLine (l.drop k) = 1 + Lex.runL Lex.noLine r' := by rw [hr', Lex.runL_cons, if_pos (by rfl)]
        rw [← hr', ← h3] at h1 h2
        have hbl := Lex.runL_le Lex.noLine (l.drop k)
        rw [List.length_drop, HLL.out] at hbl
        rw [List.drop_drop] at h2
        have H12 := Lib.hid (And.intro h1 h2)
        have hpos : 0 < Lex.runL Lex.noLine (l.drop k) := by omega
        clear h1 h2 h3 hr' hp hq
        go_wp2_with fail
        refine (x_run r Lex.noLine 18 enters_noLine x_noLine w2 (by omega)).mono ?_
        rintro e w2 ⟨rfl, rfl⟩
        rw [HR.out]
        generalize Lex.runL Lex.noLine (l.drop k) = m at *
        go_wp2_with fail
        go_round
        case rel => exact ⟨k + m, by omega, by go_num, by have := HNO.out; have := H12.out; omega⟩
        case measure => simp [intOf]; omega
    · obtain ⟨r', hr'⟩ := (pre2 _ _ _).1 (show Lib.hasPrefix (l.drop k) [92, 10] = true from hp)
      have h1 := Lex.passL_two (c := 92) (d := 10) (r := r') rfl rfl
      have hlen : (l.drop k).length = r'.length + 2 := by rw [hr']; rfl
      rw [List.length_drop, HLL.out] at hlen
      have h2 : l.drop (k + 2) = r' := by rw [← List.drop_drop, hr']; rfl
      rw [← hr', ← h2] at h1
      have H1 := Lib.hid h1
      clear h1 h2 hr' hp
      go_wp2_with fail
      go_round
      case rel => exact ⟨k + 2, by omega, by go_num, by have := HNO.out; have := H1.out; omega⟩
      case measure => simp [intOf]; omega
theorem x_line (s : ByteArray) (at_ : Int) (w : World) (hs : s.size ≤ 4294967296) :
    Calls Try.prog 8 #[.string s, .int .i64 at_] w fun e w' => e = .returned (.int .i64 (Lex.lineL s.data.toList at_)) ∧ w = w' := by
  have hl : s.data.toList.length = s.size := rfl
  by_cases h1 : at_ < 0
  · go_enter Try.func8, Try.ntmps8
    go_wp2_with fail
    go_ret
    exact ⟨ret_int (by simp [Lex.lineL, h1]), rfl⟩
  · by_cases h2 : (s.size : Int) < at_
    · go_enter Try.func8, Try.ntmps8
      go_wp2_with fail
      go_ret
      exact ⟨ret_int (by simp only [Lex.lineL, hl, h2, or_true, if_true]), rfl⟩
    · have h3 := ext_take s at_.toNat
      have HL : Hid (Lex.lineL s.data.toList at_ = 1 + (Lex.lines (s.data.toList.take at_.toNat) : Int)) := by simp only [Hid, Lex.lineL, hl, h1, h2, or_self, if_false]
      have hle : Lex.lines (s.data.toList.take at_.toNat) ≤ s.size := by
        unfold Lex.lines
        exact Nat.le_trans List.count_le_length (by simp; omega)
      have h0 : 0 ≤ at_ := by omega
      have h4 : at_ ≤ (s.size : Int) := by omega
      clear h1 h2
      go_enter Try.func8, Try.ntmps8
      go_wp2_with fail
      generalize s.extract 0 at_.toNat = r at *
      refine (Try.strings_Count_one r 10 w).mono ?_
      rintro e w2 ⟨rfl, rfl⟩
      rw [h3, show Lib.countByte (s.data.toList.take at_.toNat) 10 = Lex.lines (s.data.toList.take at_.toNat) from rfl]
      generalize Lex.lines (s.data.toList.take at_.toNat) = m at *
      go_wp2_with fail
      go_ret
      exact ⟨ret_int (by rw [HL.out]), rfl⟩
end Go.Proofs.Ytpgegmnapankpaa
