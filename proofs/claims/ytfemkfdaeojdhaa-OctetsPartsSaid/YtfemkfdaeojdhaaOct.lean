/- The walks of octets' functions: what each call returns, in the words of OctPlain. -/
import Derived.Test.YtfemkfdaeojdhaaRows
import Derived.Test.YtfemkfdaeojdhaaBase
import Derived.Test.YtfemkfdaeojdhaaOctPlain
import Derived.Lib.Strings
import Derived.Test.YtfemkfdaeojdhaaShelf
namespace Go.Proofs.Ytfemkfdaeojdhaa
open Go.RowKit

theorem o_blank (b : Int) (w : World) : Calls Try.prog 12 #[.int .u8 b] w fun e w' => e = .returned (.bool (Oct.blank b)) ∧ w = w' := by
  go_enter Try.func12, Try.ntmps12
  go_wp2
  all_goals (go_ret; exact ⟨ret_bool (by rw [Bool.eq_iff_iff]; simp [Oct.blank, *]; try omega), rfl⟩)
theorem o_space (b : Int) (w : World) : Calls Try.prog 14 #[.int .u8 b] w fun e w' => e = .returned (.bool (Oct.space b)) ∧ w = w' := by
  go_enter Try.func14, Try.ntmps14
  go_wp2
  all_goals (go_ret; exact ⟨ret_bool (by rw [Bool.eq_iff_iff]; simp [Oct.space, *]; try omega), rfl⟩)
theorem o_digit (b : Int) (w : World) : Calls Try.prog 16 #[.int .u8 b] w fun e w' => e = .returned (.bool (Oct.digit b)) ∧ w = w' := by
  go_enter Try.func16, Try.ntmps16
  go_wp2
  all_goals (go_ret; exact ⟨ret_bool (by rw [Bool.eq_iff_iff]; simp [Oct.digit, *]; try omega), rfl⟩)
theorem o_letter (b : Int) (w : World) : Calls Try.prog 18 #[.int .u8 b] w fun e w' => e = .returned (.bool (Oct.letter b)) ∧ w = w' := by
  go_enter Try.func18, Try.ntmps18
  go_wp2
  all_goals (go_ret; exact ⟨ret_bool (by rw [Bool.eq_iff_iff]; simp [Oct.letter, *]; try omega), rfl⟩)
theorem o_low1 (b : UInt8) (w : World) : Calls Try.prog 26 #[.int .u8 b.toNat] w fun e w' => e = .returned (.int .u8 (Oct.low b).toNat) ∧ w = w' := by
  have h0 : (b.toNat : Int) ≤ 255 := by have := b.toNat_lt; omega
  have H := Lib.hid (Oct.low_nat b)
  go_enter Try.func26, Try.ntmps26
  go_wp2
  all_goals (go_ret; refine ⟨ret_int ?_, rfl⟩)
  all_goals rw [H.out]
  all_goals first | rw [if_pos (by omega)] | rw [if_neg (by omega)]
theorem o_upp1 (b : UInt8) (w : World) : Calls Try.prog 27 #[.int .u8 b.toNat] w fun e w' => e = .returned (.int .u8 (Oct.upp b).toNat) ∧ w = w' := by
  have h0 : (b.toNat : Int) ≤ 255 := by have := b.toNat_lt; omega
  have H := Lib.hid (Oct.upp_nat b)
  go_enter Try.func27, Try.ntmps27
  go_wp2
  all_goals (go_ret; refine ⟨ret_int ?_, rfl⟩)
  all_goals rw [H.out]
  all_goals first | rw [if_pos (by omega)] | rw [if_neg (by omega)]
set_option maxHeartbeats 400000 in
theorem o_turned_low (s : ByteArray) (w : World) (hs : s.size ≤ maxLen) :
    Calls Try.prog 25 #[.string s, .func (.func 26) #[] #[]] w fun e w' => e = .returned (.string (Oct.mapS Oct.low s)) ∧ Below w.heap.size w w' := by
  unfold maxLen at hs
  have hc := Lib.run_convert_string_bytes (P := Try.prog) w 9 32 5 s Try.underlying9 Try.underlying32 Try.underlying5
  have hb0 := Bytes.new w 5 s
  have hB0 := below_bytesWorld w 5 s
  obtain ⟨l, hl⟩ : ∃ l, l = s.data.toList := ⟨_, rfl⟩
  have hl' : l.length = s.size := by subst hl; rfl
  have HL := Lib.hid hl'
  have HLL := Lib.hid hl
  rw [← hl] at hb0
  generalize grownCap w s.size 0 5 = cap at hc
  generalize Lib.bytesWorld w 5 s = w1 at *
  obtain ⟨g, hg⟩ : ∃ g, g = w.heap.size := ⟨_, rfl⟩
  have HG := Lib.hid hg
  rw [← hg] at hc hb0 hB0
  clear hg hl' hl
  go_enter Try.func25, Try.ntmps25
  go_wp2
  go_loopw [6, 7, 12] (fun _ _ i wr => ∃ k : Nat, k ≤ s.size ∧ i = .int .i64 k ∧ Bytes wr g (Oct.half Oct.low l k) ∧ Below g w wr) (fun _ _ i _ => s.size - (intOf i).toNat)
  case atStart => exact ⟨0, Nat.zero_le _, rfl, by rw [Oct.half_zero]; exact hb0, hB0⟩
  case round =>
    obtain ⟨k, hk, rfl, hby, hbl⟩ := hrel
    by_cases hlt : k < s.size
    · have hlt1 : k < l.length := by have := HL.out; omega
      have hlt2 : k < (Oct.half Oct.low l k).length := by rw [Oct.half_length]; exact hlt1
      have c1 := hby.cell k hlt2
      have c2 := hby.free k hlt2
      have c3 := hby.set k (Oct.low l[k])
      rw [Oct.half_set _ _ _ hlt1] at c3
      rw [Oct.half_get _ _ _ hlt1] at c1
      have hbl' := hbl.setCell (p := ⟨g, k, none⟩) (Nat.le_refl _) (.int .u8 (Oct.low l[k]).toNat)
      generalize l[k] = b at *
      go_wp2_with (go_at_call 26; refine (o_low1 _ _).mono ?_; rintro e w' ⟨rfl, rfl⟩)
      go_roundw
      case rel => exact ⟨k + 1, by omega, by go_num, c3, hbl'⟩
      case measure => simp [intOf]; omega
    · obtain rfl : k = s.size := by omega
      have hbk := hby.back (P := Try.prog) 32 9 5 cap s.size Try.underlying32 Try.underlying5 Try.underlying9 (by rw [Oct.half_length]; exact HL.out)
      have HE : Hid (Oct.half Oct.low l s.size = s.data.toList.map Oct.low) := by rw [← HL.out, Oct.half_all]; exact congrArg _ HLL.out
      go_wp2
      go_ret
      exact ⟨ret_str (by rw [HE.out]; rfl), by rw [← HG.out]; exact hbl⟩
set_option maxHeartbeats 400000 in
theorem o_turned_upp (s : ByteArray) (w : World) (hs : s.size ≤ maxLen) :
    Calls Try.prog 25 #[.string s, .func (.func 27) #[] #[]] w fun e w' => e = .returned (.string (Oct.mapS Oct.upp s)) ∧ Below w.heap.size w w' := by
  unfold maxLen at hs
  have hc := Lib.run_convert_string_bytes (P := Try.prog) w 9 32 5 s Try.underlying9 Try.underlying32 Try.underlying5
  have hb0 := Bytes.new w 5 s
  have hB0 := below_bytesWorld w 5 s
  obtain ⟨l, hl⟩ : ∃ l, l = s.data.toList := ⟨_, rfl⟩
  have hl' : l.length = s.size := by subst hl; rfl
  have HL := Lib.hid hl'
  have HLL := Lib.hid hl
  rw [← hl] at hb0
  generalize grownCap w s.size 0 5 = cap at hc
  generalize Lib.bytesWorld w 5 s = w1 at *
  obtain ⟨g, hg⟩ : ∃ g, g = w.heap.size := ⟨_, rfl⟩
  have HG := Lib.hid hg
  rw [← hg] at hc hb0 hB0
  clear hg hl' hl
  go_enter Try.func25, Try.ntmps25
  go_wp2
  go_loopw [6, 7, 12] (fun _ _ i wr => ∃ k : Nat, k ≤ s.size ∧ i = .int .i64 k ∧ Bytes wr g (Oct.half Oct.upp l k) ∧ Below g w wr) (fun _ _ i _ => s.size - (intOf i).toNat)
  case atStart => exact ⟨0, Nat.zero_le _, rfl, by rw [Oct.half_zero]; exact hb0, hB0⟩
  case round =>
    obtain ⟨k, hk, rfl, hby, hbl⟩ := hrel
    by_cases hlt : k < s.size
    · have hlt1 : k < l.length := by have := HL.out; omega
      have hlt2 : k < (Oct.half Oct.upp l k).length := by rw [Oct.half_length]; exact hlt1
      have c1 := hby.cell k hlt2
      have c2 := hby.free k hlt2
      have c3 := hby.set k (Oct.upp l[k])
      rw [Oct.half_set _ _ _ hlt1] at c3
      rw [Oct.half_get _ _ _ hlt1] at c1
      have hbl' := hbl.setCell (p := ⟨g, k, none⟩) (Nat.le_refl _) (.int .u8 (Oct.upp l[k]).toNat)
      generalize l[k] = b at *
      go_wp2_with (go_at_call 27; refine (o_upp1 _ _).mono ?_; rintro e w' ⟨rfl, rfl⟩)
      go_roundw
      case rel => exact ⟨k + 1, by omega, by go_num, c3, hbl'⟩
      case measure => simp [intOf]; omega
    · obtain rfl : k = s.size := by omega
      have hbk := hby.back (P := Try.prog) 32 9 5 cap s.size Try.underlying32 Try.underlying5 Try.underlying9 (by rw [Oct.half_length]; exact HL.out)
      have HE : Hid (Oct.half Oct.upp l s.size = s.data.toList.map Oct.upp) := by rw [← HL.out, Oct.half_all]; exact congrArg _ HLL.out
      go_wp2
      go_ret
      exact ⟨ret_str (by rw [HE.out]; rfl), by rw [← HG.out]; exact hbl⟩
theorem o_lower (s : ByteArray) (w : World) (hs : s.size ≤ maxLen) :
    Calls Try.prog 10 #[.string s] w fun e w' => e = .returned (.string (Oct.mapS Oct.low s)) ∧ Below w.heap.size w w' := by
  go_enter Try.func10, Try.ntmps10
  go_wp2_with (go_at_call 25; refine (o_turned_low _ _ hs).mono ?_; rintro e w' ⟨rfl, hb⟩)
  go_ret
  exact ⟨rfl, hb⟩
theorem o_upper (s : ByteArray) (w : World) (hs : s.size ≤ maxLen) :
    Calls Try.prog 11 #[.string s] w fun e w' => e = .returned (.string (Oct.mapS Oct.upp s)) ∧ Below w.heap.size w w' := by
  go_enter Try.func11, Try.ntmps11
  go_wp2_with (go_at_call 25; refine (o_turned_upp _ _ hs).mono ?_; rintro e w' ⟨rfl, hb⟩)
  go_ret
  exact ⟨rfl, hb⟩
theorem o_index (s t : ByteArray) (w : World) (hsh : w.ShapedOpen Try.prog) (hs : s.size < 4294967281) :
    Calls Try.prog 9 #[.string s, .string t] w fun e w' => e = .returned (.int .i64 (Oct.idx s.data.toList t.data.toList)) ∧ w = w' := by
  by_cases ht : t.size = 0
  · have h1 := data_nil ht
    have h2 : t.toList.isEmpty = true := by rw [Lib.toList_data, h1]; rfl
    go_enter Try.func9, Try.ntmps9
    go_wp2_with fail
    go_ret
    exact ⟨ret_int (by simp [Oct.idx, h1]), rfl⟩
  · have h1 := data_ne ht
    have h2 : t.toList.isEmpty = false := by rw [Lib.toList_data]; simpa using h1
    have HB := Lib.hid h1; clear h1
    have hg := Lib.index_ge s.data.toList t.data.toList
    have hl := Lib.index_le s.data.toList t.data.toList
    have hl2 : s.data.toList.length = s.size := rfl
    go_enter Try.func9, Try.ntmps9
    go_wp2_with (go_at_call 24; refine (Try.strings_Index_shaped _ _ _ hsh hs).mono ?_; rintro e w' ⟨rfl, rfl⟩)
    go_ret
    exact ⟨ret_int (by simp [Oct.idx, HB.out]), rfl⟩
theorem cut_mk (s : ByteArray) (f n : Int) (a b : Nat) (h : Oct.cutL s.data.toList f n = (s.data.toList.drop a).take (b - a)) : s.extract a b = Oct.cut s f n := by
  rw [Oct.cut, h]; exact Lib.extract_eq s a b
theorem cut_none (s : ByteArray) (f n : Int) (h : Oct.cutL s.data.toList f n = []) : (⟨#[]⟩ : ByteArray) = Oct.cut s f n := by
  rw [Oct.cut, h]
set_option maxHeartbeats 400000 in
theorem o_cut (s : ByteArray) (f n : Int) (w : World) (hs : s.size ≤ maxLen) (hf0 : -9223372036854775808 ≤ f) (hf1 : f ≤ 9223372036854775807) (hn0 : -9223372036854775808 ≤ n) (hn1 : n ≤ 9223372036854775807) :
    Calls Try.prog 8 #[.string s, .int .i64 f, .int .i64 n] w fun e w' => e = .returned (.string (Oct.cut s f n)) ∧ w = w' := by
  have hl : s.data.toList.length = s.size := rfl
  unfold maxLen at hs
  by_cases c1 : n ≤ 0
  · go_enter Try.func8, Try.ntmps8
    go_wp2
    go_ret
    exact ⟨ret_str (cut_none s f n (Oct.cutL_none _ _ _ c1)), rfl⟩
  · by_cases c2 : (s.size : Int) < f
    · have HE : Hid (Oct.cutL s.data.toList f n = []) := by
        unfold Hid; rw [Oct.cutL_eq _ _ _ (by omega)]
        exact List.drop_eq_nil_of_le (by rw [List.length_take]; omega)
      go_enter Try.func8, Try.ntmps8
      go_wp2
      go_ret
      exact ⟨ret_str (cut_none s f n HE.out), rfl⟩
    · by_cases c3 : f < 1
      · by_cases c4 : f + n ≤ 1
        · have HE : Hid (Oct.cutL s.data.toList f n = []) := by
            unfold Hid; rw [Oct.cutL_eq _ _ _ (by omega), show (f + n - 1).toNat = 0 from by omega]; simp
          go_enter Try.func8, Try.ntmps8
          go_wp2
          go_ret
          exact ⟨ret_str (cut_none s f n HE.out), rfl⟩
        · have HE : Hid (Oct.cutL s.data.toList f n = s.data.toList.take (min (f + n - 1) s.size).toNat) := by
            unfold Hid; rw [Oct.cutL_eq _ _ _ (by omega), show (f - 1).toNat = 0 from by omega, List.drop_zero]
            by_cases h : f + n - 1 ≤ s.size
            · rw [Int.min_eq_left h]
            · rw [Int.min_eq_right (by omega), List.take_of_length_le (by omega), List.take_of_length_le (by omega)]
          go_enter Try.func8, Try.ntmps8
          go_wp2
          go_ret
          exact ⟨ret_str (cut_mk s f n _ _ (by rw [HE.out]; simp)), rfl⟩
      · have HE : Hid (Oct.cutL s.data.toList f n = (s.data.toList.drop (f - 1).toNat).take ((f - 1 + min n (s.size - f + 1)).toNat - (f - 1).toNat)) := by
          unfold Hid; rw [Oct.cutL_eq _ _ _ (by omega), List.drop_take]
          by_cases h : n ≤ s.size - f + 1
          · rw [Int.min_eq_left h]; congr 1; omega
          · rw [Int.min_eq_right (by omega), List.take_of_length_le (by rw [List.length_drop]; omega), List.take_of_length_le (by rw [List.length_drop]; omega)]
        go_enter Try.func8, Try.ntmps8
        go_wp2
        go_ret
        exact ⟨ret_str (cut_mk s f n _ _ (by rw [HE.out, show (f - 1).toNat = f.toNat - 1 from by omega])), rfl⟩
end Go.Proofs.Ytfemkfdaeojdhaa
