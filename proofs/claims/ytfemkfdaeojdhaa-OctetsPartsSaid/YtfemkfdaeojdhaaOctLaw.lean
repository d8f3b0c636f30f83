/- The laws of octets: the walks. -/
import Derived.Test.YtfemkfdaeojdhaaOct
import Derived.Test.YtfemkfdaeojdhaaOctRef
namespace Go.Proofs.Ytfemkfdaeojdhaa
open Go.RowKit

theorem toList_eq {s : ByteArray} {l : List UInt8} (h : s.data.toList = l) : s.toList = l := (Lib.toList_data s).trans h

set_option maxRecDepth 100000 in
set_option maxHeartbeats 1000000 in
theorem l_awake (w : World) (hsh : w.ShapedOpen Try.prog) : Calls Try.prog 6 #[] w fun e w' => e = .returned (.bool true) ∧ Below w.heap.size w w' := by
  have e1 : (Oct.mapS Oct.low ⟨#[97, 66, 91, 49]⟩).toList = [97, 98, 91, 49] := toList_eq (by decide)
  have e2 : (Oct.mapS Oct.upp ⟨#[97, 66, 123, 49]⟩).toList = [65, 66, 123, 49] := toList_eq (by decide)
  have e3 : Oct.idx [98, 97, 110, 97, 110, 97] [97, 110] = 2 := by decide
  have e4 : Oct.idx [98, 97, 110, 97, 110, 97] [120] = 0 := by decide
  have e5 : Oct.idx [97] [] = 0 := by decide
  have c1 : (Oct.cut ⟨#[104, 101, 108, 108, 111]⟩ 2 3).toList = [101, 108, 108] := toList_eq (by decide)
  have c2 : (Oct.cut ⟨#[104, 101, 108, 108, 111]⟩ 0 3).toList = [104, 101] := toList_eq (by decide)
  have c3 : (Oct.cut ⟨#[104, 101, 108, 108, 111]⟩ (-1) 3).toList = [104] := toList_eq (by decide)
  have c4 : (Oct.cut ⟨#[104, 101, 108, 108, 111]⟩ 4 100).toList = [108, 111] := toList_eq (by decide)
  have b1 : Oct.blank 9 = true := by decide
  go_enter Try.func6, Try.ntmps6
  go_wp2_with fail
  refine (o_lower _ _ (by decide)).mono ?_
  rintro e w1 ⟨rfl, hb1⟩
  go_wp2_with fail
  refine (o_upper _ _ (by decide)).mono ?_
  rintro e w2 ⟨rfl, hb2⟩
  have hb := Gr.trans hb1 hb2
  have hs2 := shaped_below hsh hb
  clear hb1 hb2 hsh
  go_wp2_with fail
  refine (o_index _ _ _ hs2 (by decide)).mono ?_
  rintro e w3 ⟨rfl, rfl⟩
  go_wp2_with fail
  refine (o_index _ _ _ hs2 (by decide)).mono ?_
  rintro e w3 ⟨rfl, rfl⟩
  go_wp2_with fail
  refine (o_index _ _ _ hs2 (by decide)).mono ?_
  rintro e w3 ⟨rfl, rfl⟩
  go_wp2_with fail
  refine (o_cut _ _ _ _ (by decide) (by decide) (by decide) (by decide) (by decide)).mono ?_
  rintro e w3 ⟨rfl, rfl⟩
  go_wp2_with fail
  refine (o_cut _ _ _ _ (by decide) (by decide) (by decide) (by decide) (by decide)).mono ?_
  rintro e w3 ⟨rfl, rfl⟩
  go_wp2_with fail
  refine (o_cut _ _ _ _ (by decide) (by decide) (by decide) (by decide) (by decide)).mono ?_
  rintro e w3 ⟨rfl, rfl⟩
  go_wp2_with fail
  refine (o_cut _ _ _ _ (by decide) (by decide) (by decide) (by decide) (by decide)).mono ?_
  rintro e w3 ⟨rfl, rfl⟩
  go_wp2_with fail
  refine (o_blank _ _).mono ?_
  rintro e w3 ⟨rfl, rfl⟩
  go_wp2_with fail
  go_ret
  exact ⟨rfl, hb⟩

set_option maxRecDepth 100000 in
set_option maxHeartbeats 1000000 in
theorem l_tells (b : Int) (s t : ByteArray) (f n : Int) (w : World) (hsh : w.ShapedOpen Try.prog) (hs : s.size ≤ maxLen) (ht : t.size ≤ maxLen)
    (hf0 : -9223372036854775808 ≤ f) (hf1 : f ≤ 9223372036854775807) (hn0 : -9223372036854775808 ≤ n) (hn1 : n ≤ 9223372036854775807) :
    Calls Try.prog 5 #[.int .u8 b, .string s, .string t, .int .i64 f, .int .i64 n] w fun e w' => e = .returned (.bool true) ∧ Below w.heap.size w w' := by
  have hs' := hs; have ht' := ht
  unfold maxLen at hs ht
  by_cases c1 : 3000 < s.size
  · go_enter Try.func5, Try.ntmps5
    go_wp2_with fail
    refine (l_awake _ hsh).mono ?_
    rintro e w1 ⟨rfl, hb1⟩
    go_wp2_with fail
    go_ret
    exact ⟨rfl, hb1⟩
  · by_cases c2 : 3000 < t.size
    · go_enter Try.func5, Try.ntmps5
      go_wp2_with fail
      refine (l_awake _ hsh).mono ?_
      rintro e w1 ⟨rfl, hb1⟩
      go_wp2_with fail
      go_ret
      exact ⟨rfl, hb1⟩
    · go_enter Try.func5, Try.ntmps5
      go_wp2_with fail
      refine (o_blank _ _).mono ?_; rintro e w1 ⟨rfl, rfl⟩
      go_wp2_with fail
      refine (r_blank _ _).mono ?_; rintro e w1 ⟨rfl, rfl⟩
      go_wp2_with fail
      refine (o_space _ _).mono ?_; rintro e w1 ⟨rfl, rfl⟩
      go_wp2_with fail
      refine (r_space _ _).mono ?_; rintro e w1 ⟨rfl, rfl⟩
      go_wp2_with fail
      refine (o_digit _ _).mono ?_; rintro e w1 ⟨rfl, rfl⟩
      go_wp2_with fail
      refine (r_digit _ _).mono ?_; rintro e w1 ⟨rfl, rfl⟩
      go_wp2_with fail
      refine (o_letter _ _).mono ?_; rintro e w1 ⟨rfl, rfl⟩
      go_wp2_with fail
      refine (r_letter _ _).mono ?_; rintro e w1 ⟨rfl, rfl⟩
      go_wp2_with fail
      refine (o_lower _ _ hs').mono ?_; rintro e w1 ⟨rfl, hb1⟩
      go_wp2_with fail
      refine (r_lower _ _ (by omega)).mono ?_; rintro e w2 ⟨rfl, hb2⟩
      have hb := Gr.trans hb1 hb2
      clear hb1 hb2
      go_wp2_with fail
      refine (o_upper _ _ hs').mono ?_; rintro e w1 ⟨rfl, hb1⟩
      have hb := Gr.trans hb hb1
      clear hb1
      go_wp2_with fail
      refine (r_upper _ _ (by omega)).mono ?_; rintro e w2 ⟨rfl, hb2⟩
      have hb := Gr.trans hb hb2
      have hs2 := shaped_below hsh hb
      clear hb2
      go_wp2_with fail
      refine (o_index _ _ _ hs2 (by omega)).mono ?_; rintro e w1 ⟨rfl, rfl⟩
      go_wp2_with fail
      refine (r_index _ _ _ (by omega) (by omega)).mono ?_; rintro e w1 ⟨rfl, rfl⟩
      go_wp2_with fail
      refine (o_cut _ _ _ _ hs' hf0 hf1 hn0 hn1).mono ?_; rintro e w1 ⟨rfl, rfl⟩
      go_wp2_with fail
      refine (r_cut _ _ _ _ (by omega) hf0 hf1 hn0 hn1).mono ?_; rintro e w3 ⟨rfl, hb3⟩
      have hb := Gr.trans hb hb3
      have hs3 := shaped_below hsh hb
      clear hb3
      go_wp2_with fail
      refine (l_awake _ hs3).mono ?_; rintro e w1 ⟨rfl, hb4⟩
      have hb := Gr.trans hb hb4
      go_wp2_with fail
      go_ret
      exact ⟨rfl, hb⟩
set_option maxRecDepth 100000 in
set_option maxHeartbeats 1000000 in
theorem l_numbers (w : World) (hsh : w.ShapedOpen Try.prog) : Calls Try.prog 4 #[] w fun e w' => e = .returned (.bool true) ∧ Below w.heap.size w w' := by
  have c0 : (Oct.cut ⟨#[104, 101, 108, 108, 111]⟩ 9 1).toList = [] := toList_eq (by decide)
  have c1 : (Oct.cut ⟨#[104, 101, 108, 108, 111]⟩ 1 (-1)).toList = [] := toList_eq (by decide)
  have c2 : (Oct.cut ⟨#[104, 101, 108, 108, 111]⟩ 2 9223372036854775807).toList = [101, 108, 108, 111] := toList_eq (by decide)
  have c3 : (Oct.cut ⟨#[104, 101, 108, 108, 111]⟩ 9223372036854775807 9223372036854775807).toList = [] := toList_eq (by decide)
  have c4 : (Oct.cut ⟨#[104, 101, 108, 108, 111]⟩ (-9223372036854775808) 9223372036854775807).toList = [] := toList_eq (by decide)
  have c5 : (Oct.cut ⟨#[104, 101, 108, 108, 111]⟩ (-3) 9223372036854775807).toList = [104, 101, 108, 108, 111] := toList_eq (by decide)
  have c6 : (Oct.cut ⟨#[104, 101, 108, 108, 111]⟩ (-9223372036854775808) (-9223372036854775808)).toList = [] := toList_eq (by decide)
  have c7 : (Oct.cut ⟨#[]⟩ 1 1).toList = [] := toList_eq (by decide)
  have i1 : Oct.idx [] [97] = 0 := by decide
  have i2 : Oct.idx [97, 97, 98] [97, 98] = 2 := by decide
  go_enter Try.func4, Try.ntmps4
  go_wp2_with fail
  go_loop [1, 2] (fun i _ => ∃ k : Nat, k ≤ 256 ∧ i = .int .i64 k) (fun i _ => 256 - (intOf i).toNat)
  case atStart => exact ⟨0, Nat.zero_le _, rfl⟩
  case round =>
    obtain ⟨k, hk, rfl⟩ := hrel
    by_cases hlt : k < 256
    · go_wp2_with (first | (go_at_call 12; refine (o_blank _ _).mono ?_; rintro e w1 ⟨rfl, rfl⟩) | (go_at_call 13; refine (r_blank _ _).mono ?_; rintro e w1 ⟨rfl, rfl⟩) | (go_at_call 14; refine (o_space _ _).mono ?_; rintro e w1 ⟨rfl, rfl⟩) | (go_at_call 15; refine (r_space _ _).mono ?_; rintro e w1 ⟨rfl, rfl⟩) | (go_at_call 16; refine (o_digit _ _).mono ?_; rintro e w1 ⟨rfl, rfl⟩) | (go_at_call 17; refine (r_digit _ _).mono ?_; rintro e w1 ⟨rfl, rfl⟩) | (go_at_call 18; refine (o_letter _ _).mono ?_; rintro e w1 ⟨rfl, rfl⟩) | (go_at_call 19; refine (r_letter _ _).mono ?_; rintro e w1 ⟨rfl, rfl⟩))
      go_round
      case rel => exact ⟨k + 1, by omega, by go_num⟩
      case measure => simp [intOf]; omega
    · obtain rfl : k = 256 := by omega
      go_wp2_with fail
      refine (o_cut _ _ _ _ (by decide) (by decide) (by decide) (by decide) (by decide)).mono ?_
      rintro e w3 ⟨rfl, rfl⟩
      go_wp2_with fail
      refine (o_cut _ _ _ _ (by decide) (by decide) (by decide) (by decide) (by decide)).mono ?_
      rintro e w3 ⟨rfl, rfl⟩
      go_wp2_with fail
      refine (o_cut _ _ _ _ (by decide) (by decide) (by decide) (by decide) (by decide)).mono ?_
      rintro e w3 ⟨rfl, rfl⟩
      go_wp2_with fail
      refine (o_cut _ _ _ _ (by decide) (by decide) (by decide) (by decide) (by decide)).mono ?_
      rintro e w3 ⟨rfl, rfl⟩
      go_wp2_with fail
      refine (o_cut _ _ _ _ (by decide) (by decide) (by decide) (by decide) (by decide)).mono ?_
      rintro e w3 ⟨rfl, rfl⟩
      go_wp2_with fail
      refine (o_cut _ _ _ _ (by decide) (by decide) (by decide) (by decide) (by decide)).mono ?_
      rintro e w3 ⟨rfl, rfl⟩
      go_wp2_with fail
      refine (o_cut _ _ _ _ (by decide) (by decide) (by decide) (by decide) (by decide)).mono ?_
      rintro e w3 ⟨rfl, rfl⟩
      go_wp2_with fail
      refine (o_cut _ _ _ _ (by decide) (by decide) (by decide) (by decide) (by decide)).mono ?_
      rintro e w3 ⟨rfl, rfl⟩
      go_wp2_with fail
      refine (o_index _ _ _ hsh (by decide)).mono ?_; rintro e w1 ⟨rfl, rfl⟩
      go_wp2_with fail
      refine (o_index _ _ _ hsh (by decide)).mono ?_; rintro e w1 ⟨rfl, rfl⟩
      go_wp2_with fail
      refine (l_awake _ hsh).mono ?_; rintro e w1 ⟨rfl, hb4⟩
      go_wp2_with fail
      go_ret
      exact ⟨rfl, hb4⟩
end Go.Proofs.Ytfemkfdaeojdhaa
