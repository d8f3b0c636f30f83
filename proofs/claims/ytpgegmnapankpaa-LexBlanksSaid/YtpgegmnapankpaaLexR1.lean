/- The walks of the reference of lex: bytes, classes, lines, what is passed over, digits. -/
import Derived.Test.YtpgegmnapankpaaLex2
namespace Go.Proofs.Ytpgegmnapankpaa
open Go.RowKit

namespace Lex
def byteN (l : List UInt8) (k : Nat) : Int := ((l.getD k 0).toNat : Int)
theorem byteN_in {l : List UInt8} {k : Nat} (h : k < l.length) : byteN l k = (l[k].toNat : Int) := by simp [byteN, List.getD, h]
theorem byteN_out {l : List UInt8} {k : Nat} (h : l.length ≤ k) : byteN l k = 0 := by simp [byteN, List.getD, List.getElem?_eq_none h]
theorem byteN_range (l : List UInt8) (k : Nat) : 0 ≤ byteN l k ∧ byteN l k < 256 := by
  have := (l.getD k 0).toNat_lt
  unfold byteN; omega
theorem run_yes {p : Int → Bool} (hp : p 0 = false) {l : List UInt8} {k : Nat} (h : p (byteN l k) = true) : k < l.length ∧ runL p (l.drop k) = 1 + runL p (l.drop (k + 1)) := by
  have hk : k < l.length := by
    rcases Nat.lt_or_ge k l.length with h1 | h1
    · exact h1
    · rw [byteN_out h1, hp] at h; cases h
  refine ⟨hk, ?_⟩
  rw [byteN_in hk] at h
  rw [List.drop_eq_getElem_cons hk, runL_cons, if_pos h]
theorem run_not {p : Int → Bool} {l : List UInt8} {k : Nat} (h : p (byteN l k) = false) : runL p (l.drop k) = 0 := by
  rcases Nat.lt_or_ge k l.length with h1 | h1
  · rw [byteN_in h1] at h
    rw [List.drop_eq_getElem_cons h1, runL_cons, if_neg (by simp [h])]
  · rw [List.drop_eq_nil_of_le h1]; rfl
theorem lines_succ (l : List UInt8) (k : Nat) (h : k < l.length) : lines (l.take (k + 1)) = lines (l.take k) + (if l[k].toNat = 10 then 1 else 0) := by
  unfold lines
  rw [List.take_succ_eq_append_getElem h, List.count_append]
  congr 1
  by_cases h1 : l[k].toNat = 10
  · rw [if_pos h1]
    have : l[k] = 10 := UInt8.toNat_inj.1 h1
    simp [this]
  · rw [if_neg h1, List.count_singleton, if_neg]
    intro e
    have : l[k] = 10 := by simpa using e
    rw [this] at h1; exact h1 rfl
end Lex
theorem r_digit (b : Int) (w : World) : Calls Try.prog 43 #[.int .u8 b] w fun e w' => e = .returned (.bool (Lex.dig b)) ∧ w = w' := by
  go_enter Try.func43, Try.ntmps43
  go_wp2
  all_goals (go_ret; exact ⟨ret_bool (by rw [Bool.eq_iff_iff]; simp [Lex.dig, *]; try omega), rfl⟩)
theorem r_letter (b : Int) (w : World) : Calls Try.prog 29 #[.int .u8 b] w fun e w' => e = .returned (.bool (Lex.let_ b)) ∧ w = w' := by
  go_enter Try.func29, Try.ntmps29
  go_wp2
  all_goals (go_ret; exact ⟨ret_bool (by rw [Bool.eq_iff_iff]; simp [Lex.let_, *]; try omega), rfl⟩)
theorem r_byteAt (s : ByteArray) (k : Nat) (w : World) (hs : s.size ≤ 4294967296) : Calls Try.prog 28 #[.string s, .int .i64 k] w fun e w' => e = .returned (.int .u8 (Lex.byteN s.data.toList k)) ∧ w = w' := by
  have hl : s.data.toList.length = s.size := rfl
  have h0 : (0 : Int) ≤ (k : Int) := Int.natCast_nonneg _
  by_cases h : k < s.size
  · have HB : Hid (Lex.byteN s.data.toList k = (s[k].toNat : Int)) := Lex.byteN_in (by omega)
    go_enter Try.func28, Try.ntmps28
    go_wp2_with fail
    go_ret
    exact ⟨ret_int (by rw [HB.out]), rfl⟩
  · have HB : Hid (Lex.byteN s.data.toList k = 0) := Lex.byteN_out (by omega)
    go_enter Try.func28, Try.ntmps28
    go_wp2_with fail
    go_ret
    exact ⟨ret_int (by rw [HB.out]), rfl⟩
set_option maxHeartbeats 1000000 in
theorem r_line (s : ByteArray) (at_ : Int) (w : World) (hs : s.size ≤ 4294967296) :
    Calls Try.prog 9 #[.string s, .int .i64 at_] w fun e w' => e = .returned (.int .i64 (Lex.lineL s.data.toList at_)) ∧ w = w' := by
  have hl : s.data.toList.length = s.size := rfl
  by_cases h1 : at_ < 0
  · go_enter Try.func9, Try.ntmps9
    go_wp2_with fail
    go_ret
    exact ⟨ret_int (by simp [Lex.lineL, h1]), rfl⟩
  · by_cases h2 : (s.size : Int) < at_
    · go_enter Try.func9, Try.ntmps9
      go_wp2_with fail
      go_ret
      exact ⟨ret_int (by simp only [Lex.lineL, hl, h2, or_true, if_true]), rfl⟩
    · obtain ⟨n, rfl⟩ : ∃ n : Nat, at_ = n := ⟨at_.toNat, by omega⟩
      have hn : n ≤ s.size := by omega
      have HL : Hid (Lex.lineL s.data.toList n = 1 + (Lex.lines (s.data.toList.take n) : Int)) := by simp only [Hid, Lex.lineL, hl, h1, h2, or_self, if_false, Int.toNat_natCast]
      obtain ⟨l, hL⟩ : ∃ l, l = s.data.toList := ⟨_, rfl⟩
      have HLL := Lib.hid hL
      have hll : l.length = s.size := by rw [hL]; rfl
      rw [← hL] at HL ⊢
      have HLN := Lib.hid hll
      clear hL hl h1 h2 hll
      go_enter Try.func9, Try.ntmps9
      go_wp2_with fail
      go_loop [5, 6] (fun m i => ∃ k : Nat, k ≤ n ∧ i = .int .i64 k ∧ m = .int .i64 (1 + (Lex.lines (l.take k) : Int))) (fun _ i => n - (intOf i).toNat)
      case atStart => exact ⟨0, Nat.zero_le _, rfl, by simp [Lex.lines]⟩
      case round =>
        obtain ⟨k, hk, rfl, rfl⟩ := hrel
        by_cases hlt : k < n
        · have hk2 : k < s.size := by omega
          have hs1 := Lex.lines_succ l k (by rw [HLN.out]; exact hk2)
          have hle : Lex.lines (l.take k) ≤ k := Nat.le_trans List.count_le_length (by simp; omega)
          have he : l[k]'(by rw [HLN.out]; exact hk2) = s[k] := by have := HLL.out; subst this; rfl
          rw [he] at hs1
          have HS := Lib.hid hs1
          clear hs1 he
          have hk3 : (k : Int) < (n : Int) := by omega
          by_cases hc : s[k].toNat = 10
          · have hS2 := HS.out
            rw [if_pos hc] at hS2
            have HS2 := Lib.hid hS2
            clear HS hS2
            have hcb : ((s[k].toNat : Int) == 10) = true := by simp; omega
            go_wp2_with fail
            go_round
            case rel => exact ⟨k + 1, by omega, by go_num, by rw [HS2.out]; go_num⟩
            case measure => simp [intOf]; omega
          · have hS2 := HS.out
            rw [if_neg hc] at hS2
            have HS2 := Lib.hid hS2
            clear HS hS2
            have hcb : ((s[k].toNat : Int) == 10) = false := by simp; omega
            go_wp2_with fail
            go_round
            case rel => exact ⟨k + 1, by omega, by go_num, by rw [HS2.out]; rfl⟩
            case measure => simp [intOf]; omega
        · obtain rfl : k = n := by omega
          go_wp2_with fail
          go_ret
          exact ⟨ret_int (by rw [HL.out]), rfl⟩
set_option maxHeartbeats 1000000 in
theorem r_digits (s : ByteArray) (n : Nat) (w : World) (hs : s.size ≤ 4294967296) (hn : n ≤ 4294967296) :
    Calls Try.prog 46 #[.string s, .int .i64 n] w fun e w' => e = .returned (.int .i64 ((n + Lex.runL Lex.dig (s.data.toList.drop n) : Nat) : Int)) ∧ w = w' := by
  have HLN : Hid (s.data.toList.length = s.size) := rfl
  obtain ⟨l, hL⟩ : ∃ l, l = s.data.toList := ⟨_, rfl⟩
  have HLL := Lib.hid hL
  rw [← hL] at HLN ⊢
  clear hL
  obtain ⟨T, hT⟩ : ∃ T, T = n + Lex.runL Lex.dig (l.drop n) := ⟨_, rfl⟩
  have hTb : T ≤ n + s.size := by have := Lex.runL_le Lex.dig (l.drop n); rw [List.length_drop, HLN.out] at this; omega
  rw [← hT]
  go_enter Try.func46, Try.ntmps46
  go_wp2_with fail
  go_loop [1] (fun i => ∃ k : Nat, k ≤ T ∧ i = .int .i64 k ∧ k + Lex.runL Lex.dig (l.drop k) = T) (fun i => T - (intOf i).toNat)
  case atStart => exact ⟨n, by omega, rfl, by omega⟩
  case round =>
    obtain ⟨k, hk, rfl, hT2⟩ := hrel
    have HT2 := Lib.hid hT2
    clear hT2
    go_wp2_with fail
    refine (r_byteAt s k _ hs).mono ?_
    rintro e w2 ⟨rfl, rfl⟩
    rw [← HLL.out]
    have hyes := @Lex.run_yes Lex.dig (by decide) l k
    have hnot := @Lex.run_not Lex.dig l k
    have HY := Lib.hid hyes
    have HN := Lib.hid hnot
    clear hyes hnot
    generalize Lex.byteN l k = b at *
    go_wp2_with fail
    refine (r_digit b _).mono ?_
    rintro e w2 ⟨rfl, rfl⟩
    cases hb : Lex.dig b
    · have h0 := HN.out hb
      have he : k = T := by have := HT2.out; omega
      subst he
      clear h0
      go_wp2_with fail
      go_ret
      exact ⟨ret_int (by omega), rfl⟩
    · obtain ⟨h1, h2⟩ := HY.out hb
      have hkT : k + 1 ≤ T := by have := HT2.out; omega
      have HT3 : Hid (k + 1 + Lex.runL Lex.dig (l.drop (k + 1)) = T) := by have := HT2.out; unfold Hid; omega
      clear h2 h1
      go_wp2_with fail
      go_round
      case rel => exact ⟨k + 1, by omega, by go_num, HT3.out⟩
      case measure => simp [intOf]; omega
set_option maxHeartbeats 1000000 in
theorem r_passed (s : ByteArray) (n : Nat) (w : World) (hs : s.size ≤ 4294967296) (hn : n ≤ s.size) :
    Calls Try.prog 13 #[.string s, .int .i64 n] w fun e w' => e = .returned (.int .i64 ((n + Lex.passL (s.data.toList.drop n) : Nat) : Int)) ∧ w = w' := by
  have HLN : Hid (s.data.toList.length = s.size) := rfl
  obtain ⟨l, hL⟩ : ∃ l, l = s.data.toList := ⟨_, rfl⟩
  have HLL := Lib.hid hL
  rw [← hL] at HLN ⊢
  clear hL
  obtain ⟨T, hT⟩ : ∃ T, T = n + Lex.passL (l.drop n) := ⟨_, rfl⟩
  have hTb : T ≤ s.size := by have := Lex.passM_le false (l.drop n); rw [List.length_drop, HLN.out] at this; have h2 : Lex.passL (l.drop n) = Lex.passM false (l.drop n) := rfl; omega
  rw [← hT]
  have hT1 := Lib.hid hT.symm
  clear hT
  go_enter Try.func13, Try.ntmps13
  go_wp2_with fail
  go_loop [1] (fun i => ∃ k : Nat, k ≤ T ∧ i = .int .i64 k ∧ k + Lex.passL (l.drop k) = T) (fun i => T + 1 - (intOf i).toNat)
  case atStart => exact ⟨n, by have := hT1.out; omega, rfl, hT1.out⟩
  case round =>
    obtain ⟨k, hk, rfl, hT2⟩ := hrel
    have HT2 := Lib.hid hT2
    clear hT2 hT1
    by_cases hlt : k < s.size
    · have hkl : k < l.length := by rw [HLN.out]; exact hlt
      have hd := List.drop_eq_getElem_cons hkl
      have hpc := Lex.passL_cons l[k] (l.drop (k + 1))
      rw [← hd] at hpc
      have he : l[k] = s[k] := by have := HLL.out; subst this; rfl
      rw [he] at hpc hd
      have HPC := Lib.hid hpc
      have HD := Lib.hid hd
      clear hpc hd he
      obtain ⟨c, hc⟩ : ∃ c, s[k] = c := ⟨_, rfl⟩
      rw [hc] at HPC HD
      by_cases hb : Lex.blank c.toNat = true
      · have h1 := HPC.out
        rw [if_pos hb] at h1
        have HT3 : Hid (k + 1 + Lex.passL (l.drop (k + 1)) = T) := by have := HT2.out; unfold Hid; omega
        have hkT : k + 1 ≤ T := by have := HT2.out; omega
        have hbs : (c.toNat : Int) = 32 ∨ (c.toNat : Int) = 9 ∨ (c.toNat : Int) = 13 := by simp [Lex.blank] at hb; omega
        clear h1 HPC hb HD
        rcases hbs with h | h | h
        all_goals
          go_wp2_with fail
          go_round
          case rel => exact ⟨k + 1, by omega, by go_num, HT3.out⟩
          case measure => simp [intOf]; omega
      · have h1 := HPC.out
        rw [if_neg hb] at h1
        have hnb : ((c.toNat : Int) == 32) = false ∧ ((c.toNat : Int) == 9) = false ∧ ((c.toNat : Int) == 13) = false := by simp [Lex.blank] at hb ⊢; omega
        obtain ⟨n1, n2, n3⟩ := hnb
        have HH := Lib.hid h1
        clear h1 HPC hb
        by_cases h92 : c.toNat = 92
        · have h1 := HH.out
          rw [if_neg (by omega), if_pos h92] at h1
          have e1 : ((c.toNat : Int) == 92) = true := by simp; omega
          have e2 : ((c.toNat : Int) == 35) = false := by simp; omega
          have hbo := @Lex.byteN_out l (k + 1)
          have hbi := @Lex.byteN_in l (k + 1)
          have HBO := Lib.hid hbo
          have HBI := Lib.hid (fun h => hbi h)
          have H1 := Lib.hid h1
          clear h1 HH h92 hbo hbi HD
          go_wp2_with fail
          rw [show (k : Int) + 1 = ((k + 1 : Nat) : Int) by omega]
          refine (r_byteAt s (k + 1) _ hs).mono ?_
          rintro e w2 ⟨rfl, rfl⟩
          rw [← HLL.out]
          by_cases hk1 : k + 1 < l.length
          · have hd2 := List.drop_eq_getElem_cons hk1
            have h1 := H1.out
            rw [hd2] at h1
            rw [HBI.out hk1]
            rw [HLN.out] at hk1
            generalize l[k + 1] = d at *
            dsimp only at h1
            have hk2 : (k : Int) + 1 < (s.size : Int) := by omega
            by_cases hd10 : d.toNat = 10
            · rw [if_pos hd10] at h1
              have e3 : ((d.toNat : Int) == 10) = true := by simp; omega
              have HT3 : Hid (k + 2 + Lex.passL (l.drop (k + 2)) = T) := by have := HT2.out; unfold Hid; rw [show k + 2 = k + 1 + 1 from rfl]; omega
              have hkT : k + 2 ≤ T := by have := HT2.out; omega
              clear h1 H1 HBO HBI hd2
              go_wp2_with fail
              go_round
              case rel => exact ⟨k + 2, by omega, by go_num, HT3.out⟩
              case measure => simp [intOf]; omega
            · rw [if_neg hd10] at h1
              have e3 : ((d.toNat : Int) == 10) = false := by simp; omega
              have he : k = T := by have := HT2.out; omega
              subst he
              clear h1 H1 HBO HBI hd2
              go_wp2_with fail
              go_ret
              exact ⟨ret_int (by rfl), rfl⟩
          · have hd2 : l.drop (k + 1) = [] := List.drop_eq_nil_of_le (by omega)
            have h1 := H1.out
            rw [hd2] at h1
            dsimp only at h1
            have he : k = T := by have := HT2.out; omega
            rw [HBO.out (by omega)]
            subst he
            clear h1 H1 HBO HBI hd2
            go_wp2_with fail
            go_ret
            exact ⟨ret_int (by rfl), rfl⟩
        · have e1 : ((c.toNat : Int) == 92) = false := by simp; omega
          by_cases h35 : c.toNat = 35
          · have e2 : ((c.toNat : Int) == 35) = true := by simp; omega
            obtain ⟨g1, g2⟩ := Lex.passL_remark (c := c) (r := l.drop (k + 1)) h35
            rw [← HD.out] at g1 g2
            rw [List.drop_drop] at g2
            have g3 : Lex.runL Lex.noLine (l.drop k) = 1 + Lex.runL Lex.noLine (l.drop (k + 1)) := by rw [HD.out, Lex.runL_cons, if_pos (by simp [Lex.noLine]; omega)]
            rw [← g3] at g1 g2
            obtain ⟨T2, hT2⟩ : ∃ T2, T2 = k + Lex.runL Lex.noLine (l.drop k) := ⟨_, rfl⟩
            rw [← hT2] at g2
            have he : T2 = T := by have := HT2.out; omega
            have hkT : k + 1 ≤ T := by omega
            have G2 := Lib.hid g2
            have HT4 := Lib.hid hT2.symm
            clear g1 g2 g3 HH hT2 h92 h35 HD
            go_wp2_with fail
            go_loop [1] (fun i => ∃ m : Nat, k ≤ m ∧ m ≤ T2 ∧ i = .int .i64 m ∧ m + Lex.runL Lex.noLine (l.drop m) = T2) (fun i => T2 - (intOf i).toNat)
            case atStart => exact ⟨k, Nat.le_refl _, by omega, rfl, HT4.out⟩
            case round =>
              obtain ⟨m, hkm, hm, rfl, hm2⟩ := hrel
              by_cases hml : m < s.size
              · have hml' : m < l.length := by rw [HLN.out]; exact hml
                have hdm := List.drop_eq_getElem_cons hml'
                have hem : l[m] = s[m] := by have := HLL.out; subst this; rfl
                rw [hem] at hdm
                obtain ⟨c2, hc2⟩ : ∃ c2, s[m] = c2 := ⟨_, rfl⟩
                rw [hc2] at hdm
                rw [hdm, Lex.runL_cons] at hm2
                by_cases h10 : c2.toNat = 10
                · have e3 : ((c2.toNat : Int) == 10) = true := by simp; omega
                  rw [if_neg (by simp [Lex.noLine, h10])] at hm2
                  have : m = T := by omega
                  subst this
                  clear hm2 hdm
                  go_wp2_with fail
                  go_round
                  case rel => exact ⟨m, by omega, by go_num, by rw [← he]; have := G2.out; omega⟩
                  case measure => simp [intOf]; omega
                · have e3 : ((c2.toNat : Int) == 10) = false := by simp; omega
                  rw [if_pos (by simp [Lex.noLine]; omega)] at hm2
                  have HM := Lib.hid hm2
                  have hmT : m + 1 ≤ T2 := by omega
                  clear hm2 hdm
                  go_wp2_with fail
                  go_round
                  case rel => exact ⟨m + 1, by omega, by omega, by go_num, by have := HM.out; omega⟩
                  case measure => simp [intOf]; omega
              · have hmT : m = T := by omega
                subst hmT
                clear hm2
                go_wp2_with fail
                go_round
                case rel => exact ⟨m, by omega, by go_num, by rw [← he]; have := G2.out; omega⟩
                case measure => simp [intOf]; omega
          · have e2 : ((c.toNat : Int) == 35) = false := by simp; omega
            have h1 := HH.out
            rw [if_neg h35, if_neg h92] at h1
            have he : k = T := by have := HT2.out; omega
            subst he
            clear h1 HH HD
            go_wp2_with fail
            go_ret
            exact ⟨ret_int (by rfl), rfl⟩
    · obtain rfl : k = s.size := by omega
      have : T = s.size := by omega
      subst this
      go_wp2_with fail
      go_ret
      exact ⟨ret_int (by rfl), rfl⟩
end Go.Proofs.Ytpgegmnapankpaa
