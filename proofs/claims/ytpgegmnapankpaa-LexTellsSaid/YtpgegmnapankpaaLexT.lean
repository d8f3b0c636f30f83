/- The law LexTells, walked: for every text, place and with or without patterns, no condition. -/
import Derived.Test.YtpgegmnapankpaaLexR9
import Derived.Test.YtpgegmnapankpaaAwake
namespace Go.Proofs.Ytpgegmnapankpaa
open Go.RowKit
def Lex.lineW (l : List UInt8) (at_ : Int) : Int := if at_ < 0 ∨ (l.length : Int) < at_ then 0 else wrap64 (1 + (Lex.lines (l.take at_.toNat) : Int))
theorem Lex.wrap_succ (a : Int) : wrap64 (wrap64 a + 1) = wrap64 (a + 1) := by unfold wrap64; omega
theorem x_line_any (s : ByteArray) (at_ : Int) (w : World) (hs : s.size ≤ maxLen) :
    Calls Try.prog 8 #[.string s, .int .i64 at_] w fun e w' => e = .returned (.int .i64 (Lex.lineW s.data.toList at_)) ∧ w = w' := by
  unfold maxLen at hs
  have hl : s.data.toList.length = s.size := rfl
  by_cases h1 : at_ < 0
  · go_enter Try.func8, Try.ntmps8
    go_wp2_with fail
    go_ret
    exact ⟨ret_int (by simp [Lex.lineW, h1]), rfl⟩
  · by_cases h2 : (s.size : Int) < at_
    · go_enter Try.func8, Try.ntmps8
      go_wp2_with fail
      go_ret
      exact ⟨ret_int (by simp only [Lex.lineW, hl, h2, or_true, if_true]), rfl⟩
    · have h3 := ext_take s at_.toNat
      have HL : Hid (Lex.lineW s.data.toList at_ = wrap64 (1 + (Lex.lines (s.data.toList.take at_.toNat) : Int))) := by simp only [Hid, Lex.lineW, hl, h1, h2, or_self, if_false]
      have hle : Lex.lines (s.data.toList.take at_.toNat) ≤ s.size := by
        unfold Lex.lines
        exact Nat.le_trans List.count_le_length (by simp; omega)
      have h0 : 0 ≤ at_ := by omega
      have h4 : at_ ≤ (s.size : Int) := by omega
      have HL2 := Lib.hid hle
      clear h1 h2 hl hle
      go_enter Try.func8, Try.ntmps8
      go_wp2_with fail
      generalize s.extract 0 at_.toNat = r at *
      refine (Try.strings_Count_one r 10 w).mono ?_
      rintro e w2 ⟨rfl, rfl⟩
      rw [h3, show Lib.countByte (s.data.toList.take at_.toNat) 10 = Lex.lines (s.data.toList.take at_.toNat) from rfl]
      generalize Lex.lines (s.data.toList.take at_.toNat) = m at *
      go_wp2_with fail
      go_ret
      exact ⟨ret_int (by rw [HL.out]), rfl⟩
set_option maxHeartbeats 1000000 in
theorem r_line_any (s : ByteArray) (at_ : Int) (w : World) (hs : s.size ≤ maxLen) :
    Calls Try.prog 9 #[.string s, .int .i64 at_] w fun e w' => e = .returned (.int .i64 (Lex.lineW s.data.toList at_)) ∧ w = w' := by
  unfold maxLen at hs
  have hl : s.data.toList.length = s.size := rfl
  by_cases h1 : at_ < 0
  · go_enter Try.func9, Try.ntmps9
    go_wp2_with fail
    go_ret
    exact ⟨ret_int (by simp [Lex.lineW, h1]), rfl⟩
  · by_cases h2 : (s.size : Int) < at_
    · go_enter Try.func9, Try.ntmps9
      go_wp2_with fail
      go_ret
      exact ⟨ret_int (by simp only [Lex.lineW, hl, h2, or_true, if_true]), rfl⟩
    · obtain ⟨n, rfl⟩ : ∃ n : Nat, at_ = n := ⟨at_.toNat, by omega⟩
      have hn : n ≤ s.size := by omega
      have HL : Hid (Lex.lineW s.data.toList n = wrap64 (1 + (Lex.lines (s.data.toList.take n) : Int))) := by simp only [Hid, Lex.lineW, hl, h1, h2, or_self, if_false, Int.toNat_natCast]
      obtain ⟨l, hL⟩ : ∃ l, l = s.data.toList := ⟨_, rfl⟩
      have HLL := Lib.hid hL
      have hll : l.length = s.size := by rw [hL]; rfl
      rw [← hL] at HL ⊢
      have HLN := Lib.hid hll
      clear hL hl h1 h2 hll
      obtain ⟨F, hF⟩ : ∃ F : Nat → Int, F = fun k => wrap64 (1 + (Lex.lines (l.take k) : Int)) := ⟨_, rfl⟩
      have HF := Lib.hid (fun k => congrFun hF k)
      clear hF
      go_enter Try.func9, Try.ntmps9
      go_wp2_with fail
      go_loop [5, 6] (fun m i => ∃ k : Nat, k ≤ n ∧ i = .int .i64 k ∧ m = .int .i64 (F k)) (fun _ i => n - (intOf i).toNat)
      case atStart => exact ⟨0, Nat.zero_le _, rfl, by rw [HF.out 0, List.take_zero]; unfold wrap64; rfl⟩
      case round =>
        obtain ⟨k, hk, rfl, rfl⟩ := hrel
        by_cases hlt : k < n
        · have hk2 : k < s.size := by omega
          have hs1 := Lex.lines_succ l k (by rw [HLN.out]; exact hk2)
          have he : l[k]'(by rw [HLN.out]; exact hk2) = s[k] := by have := HLL.out; subst this; rfl
          rw [he] at hs1
          have HS := Lib.hid hs1
          clear hs1 he
          have hk3 : (k : Int) < (n : Int) := by omega
          by_cases hc : s[k].toNat = 10
          · have hS2 := HS.out
            rw [if_pos hc] at hS2
            have HS2 : Hid (F (k + 1) = wrap64 (F k + 1)) := by
              unfold Hid
              have e1 : F (k + 1) = wrap64 (1 + (Lex.lines (l.take (k + 1)) : Int)) := HF.out (k + 1)
              have e0 : F k = wrap64 (1 + (Lex.lines (l.take k) : Int)) := HF.out k
              rw [e1, e0, Lex.wrap_succ, hS2, show (1 : Int) + ((Lex.lines (l.take k) + 1 : Nat) : Int) = 1 + (Lex.lines (l.take k) : Int) + 1 by omega]
            clear HS hS2
            have hcb : ((s[k].toNat : Int) == 10) = true := by simp; omega
            go_wp2_with fail
            go_round
            case rel => exact ⟨k + 1, by omega, by go_num, by rw [HS2.out]⟩
            case measure => simp [intOf]; omega
          · have hS2 := HS.out
            rw [if_neg hc] at hS2
            have HS2 : Hid (F (k + 1) = F k) := by
              unfold Hid
              have e1 : F (k + 1) = wrap64 (1 + (Lex.lines (l.take (k + 1)) : Int)) := HF.out (k + 1)
              have e0 : F k = wrap64 (1 + (Lex.lines (l.take k) : Int)) := HF.out k
              rw [e1, e0, hS2]; rfl
            clear HS hS2
            have hcb : ((s[k].toNat : Int) == 10) = false := by simp; omega
            go_wp2_with fail
            go_round
            case rel => exact ⟨k + 1, by omega, by go_num, by rw [HS2.out]⟩
            case measure => simp [intOf]; omega
        · obtain rfl : k = n := by omega
          go_wp2_with fail
          go_ret
          exact ⟨ret_int (by rw [HL.out, HF.out k]), rfl⟩
theorem x_Next_any (s : ByteArray) (at_ : Int) (re : Bool) (w : World) (hs : s.size ≤ maxLen) :
    Calls Try.prog 6 #[.string s, .int .i64 at_, .bool re] w fun e w' => e = .returned (.tuple #[(Lex.nextL Lex.oneL s.data.toList at_ re).tok, (Lex.nextL Lex.oneL s.data.toList at_ re).fault]) ∧ Below w.heap.size w w' := by
  by_cases hA : s.size ≤ 65536
  · exact x_Next s at_ re w (by omega)
  · unfold maxLen at hs
    have hsl : s.size < 9223372036854775808 := by omega
    have hsA : 65536 < s.size := by omega
    have HN : Hid (Lex.nextL Lex.oneL s.data.toList at_ re = Lex.none_ 3 0) := by unfold Hid Lex.nextL; rw [if_pos (show 65536 < s.data.toList.length from hsA)]
    rw [HN.out]
    clear hs hA
    go_enter Try.func6, Try.ntmps6
    go_wp2_with fail
    have hfin := fin2 w (.int .u8 0) (.string ⟨#[]⟩) (.int .i64 0) (.int .i64 0) (.int .i64 0) (.int .i64 3) (.int .i64 0)
    obtain ⟨hR, hF, hB'⟩ := hfin
    obtain ⟨⟨c0, c1, c2, c3, c4⟩, -⟩ := hR.five
    obtain ⟨⟨d0, d1⟩, -⟩ := hF.two
    refine bodyPost_ret (v := .tuple #[(Lex.none_ 3 0).tok, (Lex.none_ 3 0).fault]) (by simp [results, Try.results6, go_sem, c0, c1, c2, c3, c4, d0, d1, Lex.Out.tok, Lex.Out.fault, Lex.none_]) rfl ⟨rfl, hB'⟩
theorem r_Next_any (s : ByteArray) (at_ : Int) (re : Bool) (w : World) (hs : s.size ≤ maxLen) :
    Calls Try.prog 7 #[.string s, .int .i64 at_, .bool re] w fun e w' => e = .returned (.tuple #[(Lex.nextL Lex.oneL s.data.toList at_ re).tok, (Lex.nextL Lex.oneL s.data.toList at_ re).fault]) ∧ Below w.heap.size w w' := by
  by_cases hA : s.size ≤ 65536
  · exact r_Next s at_ re w (by omega)
  · unfold maxLen at hs
    have hsl : s.size < 9223372036854775808 := by omega
    have hsA : 65536 < s.size := by omega
    have HN : Hid (Lex.nextL Lex.oneL s.data.toList at_ re = Lex.none_ 3 0) := by unfold Hid Lex.nextL; rw [if_pos (show 65536 < s.data.toList.length from hsA)]
    rw [HN.out]
    clear hs hA
    go_enter Try.func7, Try.ntmps7
    go_wp2_with fail
    have hfin := fin2 w (.int .u8 0) (.string ⟨#[]⟩) (.int .i64 0) (.int .i64 0) (.int .i64 0) (.int .i64 3) (.int .i64 0)
    obtain ⟨hR, hF, hB'⟩ := hfin
    obtain ⟨⟨c0, c1, c2, c3, c4⟩, -⟩ := hR.five
    obtain ⟨⟨d0, d1⟩, -⟩ := hF.two
    refine bodyPost_ret (v := .tuple #[(Lex.none_ 3 0).tok, (Lex.none_ 3 0).fault]) (by simp [results, Try.results7, go_sem, c0, c1, c2, c3, c4, d0, d1, Lex.Out.tok, Lex.Out.fault, Lex.none_]) rfl ⟨rfl, hB'⟩
set_option maxHeartbeats 2000000 in
theorem l_tells (s : ByteArray) (at_ : Int) (re : Bool) (w : World) (hsh : w.ShapedOpen Try.prog) (hs : s.size ≤ maxLen) (hn : (Lit.int .i64 at_).wf = true) :
    Calls Try.prog 3 #[.string s, .int .i64 at_, .bool re] w fun e w' => e = .returned (.bool true) ∧ Below w.heap.size w w' := by
  obtain ⟨M, hM⟩ : ∃ M, M = maxLen := ⟨_, rfl⟩
  have hsl : s.size < 9223372036854775808 := by unfold maxLen at hs; omega
  by_cases hc : 3000 < s.size ∧ s.size ≤ 65536
  · have hS : (s.extract 0 3000).size ≤ maxLen := by unfold maxLen; simp; omega
    obtain ⟨hc1, hc2⟩ := hc
    have HS := Lib.hid hS
    clear hS hs hM hn
    go_enter Try.func3, Try.ntmps3
    go_wp2_with fail
    generalize s.extract 0 3000 = S at *
    refine (x_Next_any S at_ re _ HS.out).mono ?_
    rintro e w1 ⟨rfl, hb1⟩
    simp only [Lex.Out.tok, Lex.Out.fault]
    obtain ⟨o, ho⟩ : ∃ o, o = Lex.nextL Lex.oneL S.data.toList at_ re := ⟨_, rfl⟩
    rw [← ho]
    have HO := Lib.hid ho
    clear ho
    obtain ⟨hT1, hF1, hB1⟩ := fin2 w1 (.int .u8 o.k) (.string o.s) (.int .i64 o.line) (.int .i64 o.at_) (.int .i64 o.end_) (.int .i64 o.err) (.int .i64 o.eline)
    have HB2 := Lib.hid (hb1.trans (hB1.mono hb1.size))
    have HT1 := Lib.hid hT1
    have HF1 := Lib.hid hF1
    clear hT1 hF1 hB1 hb1
    go_wp2_with fail
    generalize (w1.alloc (.cells #[.int .u8 o.k, .string o.s, .int .i64 o.line, .int .i64 o.at_, .int .i64 o.end_] 24)).alloc (.cells #[.int .i64 o.err, .int .i64 o.eline] 27) = w2 at *
    refine (r_Next_any S at_ re _ HS.out).mono ?_
    rintro e w3 ⟨rfl, hb3⟩
    rw [← HO.out]
    simp only [Lex.Out.tok, Lex.Out.fault]
    have hT3 := below_blk HT1.out hb3 HT1.out.lt
    have hF3 := below_blk HF1.out hb3 HF1.out.lt
    obtain ⟨hU4, hG4, hB4⟩ := fin2 w3 (.int .u8 o.k) (.string o.s) (.int .i64 o.line) (.int .i64 o.at_) (.int .i64 o.end_) (.int .i64 o.err) (.int .i64 o.eline)
    have hT4 := below_blk hT3 hB4 hT3.lt
    have hF4 := below_blk hF3 hB4 hF3.lt
    have HB4 := Lib.hid (HB2.out.trans ((hb3.trans (hB4.mono hb3.size)).mono HB2.out.size))
    obtain ⟨⟨c0, c1, c2, c3, c4⟩, -⟩ := hT4.five
    obtain ⟨⟨d0, d1⟩, -⟩ := hF4.two
    obtain ⟨⟨t0, t1, t2, t3, t4⟩, -⟩ := hU4.five
    obtain ⟨⟨g0, g1⟩, -⟩ := hG4.two
    clear hT3 hF3 hT4 hF4 hU4 hG4 hB4 hb3 HT1 HF1 HB2 HO
    go_wp2_with fail
    refine (x_line_any S at_ _ HS.out).mono ?_
    rintro e w5 ⟨rfl, rfl⟩
    go_wp2_with fail
    refine (r_line_any S at_ _ HS.out).mono ?_
    rintro e w5 ⟨rfl, rfl⟩
    go_wp2_with fail
    refine (Awake.walk _).mono ?_
    rintro e w7 ⟨rfl, hb7⟩
    go_wp2_with fail
    go_ret
    exact ⟨by simp [go_sem], HB4.out.trans (hb7.mono HB4.out.size)⟩
  · have HS := Lib.hid hs
    have hc2 : s.size ≤ 3000 ∨ 65536 < s.size := by omega
    clear hs hM hn hc
    rcases hc2 with hc2 | hc2
    all_goals
      go_enter Try.func3, Try.ntmps3
      go_wp2_with fail
      refine (x_Next_any s at_ re _ HS.out).mono ?_
      rintro e w1 ⟨rfl, hb1⟩
      simp only [Lex.Out.tok, Lex.Out.fault]
      obtain ⟨o, ho⟩ : ∃ o, o = Lex.nextL Lex.oneL s.data.toList at_ re := ⟨_, rfl⟩
      rw [← ho]
      have HO := Lib.hid ho
      clear ho
      obtain ⟨hT1, hF1, hB1⟩ := fin2 w1 (.int .u8 o.k) (.string o.s) (.int .i64 o.line) (.int .i64 o.at_) (.int .i64 o.end_) (.int .i64 o.err) (.int .i64 o.eline)
      have HB2 := Lib.hid (hb1.trans (hB1.mono hb1.size))
      have HT1 := Lib.hid hT1
      have HF1 := Lib.hid hF1
      clear hT1 hF1 hB1 hb1
      go_wp2_with fail
      generalize (w1.alloc (.cells #[.int .u8 o.k, .string o.s, .int .i64 o.line, .int .i64 o.at_, .int .i64 o.end_] 24)).alloc (.cells #[.int .i64 o.err, .int .i64 o.eline] 27) = w2 at *
      refine (r_Next_any s at_ re _ HS.out).mono ?_
      rintro e w3 ⟨rfl, hb3⟩
      rw [← HO.out]
      simp only [Lex.Out.tok, Lex.Out.fault]
      have hT3 := below_blk HT1.out hb3 HT1.out.lt
      have hF3 := below_blk HF1.out hb3 HF1.out.lt
      obtain ⟨hU4, hG4, hB4⟩ := fin2 w3 (.int .u8 o.k) (.string o.s) (.int .i64 o.line) (.int .i64 o.at_) (.int .i64 o.end_) (.int .i64 o.err) (.int .i64 o.eline)
      have hT4 := below_blk hT3 hB4 hT3.lt
      have hF4 := below_blk hF3 hB4 hF3.lt
      have HB4 := Lib.hid (HB2.out.trans ((hb3.trans (hB4.mono hb3.size)).mono HB2.out.size))
      obtain ⟨⟨c0, c1, c2, c3, c4⟩, -⟩ := hT4.five
      obtain ⟨⟨d0, d1⟩, -⟩ := hF4.two
      obtain ⟨⟨t0, t1, t2, t3, t4⟩, -⟩ := hU4.five
      obtain ⟨⟨g0, g1⟩, -⟩ := hG4.two
      clear hT3 hF3 hT4 hF4 hU4 hG4 hB4 hb3 HT1 HF1 HB2 HO
      go_wp2_with fail
      refine (x_line_any s at_ _ HS.out).mono ?_
      rintro e w5 ⟨rfl, rfl⟩
      go_wp2_with fail
      refine (r_line_any s at_ _ HS.out).mono ?_
      rintro e w5 ⟨rfl, rfl⟩
      go_wp2_with fail
      refine (Awake.walk _).mono ?_
      rintro e w7 ⟨rfl, hb7⟩
      go_wp2_with fail
      go_ret
      exact ⟨by simp [go_sem], HB4.out.trans (hb7.mono HB4.out.size)⟩
end Go.Proofs.Ytpgegmnapankpaa
