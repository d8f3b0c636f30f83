/- The walks of the reference of lex: numbers. (Printed by gen_rnum.py.) -/
import Derived.Test.YtmapjahpjolmnaaGreatDoorG3
import Derived.Deep.Cut
set_option linter.unusedVariables false
set_option linter.unusedSimpArgs false
namespace Go.Proofs.YtmapjahpjolmnaaGreatDoor
open Go.RowKit

namespace Lex
theorem byteN_cons {l : List UInt8} {k : Nat} (h : byteN l k ≠ 0) : k < l.length ∧ ∃ c : UInt8, (c.toNat : Int) = byteN l k ∧ l.drop k = c :: l.drop (k + 1) := by
  rcases Nat.lt_or_ge k l.length with h1 | h1
  · exact ⟨h1, l[k], (byteN_in h1).symm, List.drop_eq_getElem_cons h1⟩
  · exact absurd (byteN_out h1) h
theorem byteN_of {l : List UInt8} {k : Nat} {c : UInt8} {r : List UInt8} (h : l.drop k = c :: r) : byteN l k = (c.toNat : Int) := by
  rcases Nat.lt_or_ge k l.length with h1 | h1
  · rw [byteN_in h1]
    rw [List.drop_eq_getElem_cons h1] at h
    injection h with h2 h3
    rw [h2]
  · rw [List.drop_eq_nil_of_le h1] at h; cases h
theorem rnum_a {l : List UInt8} {n e : Nat} (he : e = n + runL dig (l.drop n)) (h : ¬ byteN l e = 46) : num1 (l.drop n) + n = e := by
  rw [num1_no, he, Nat.add_comm]
  rintro ⟨r, hr⟩
  rw [List.drop_drop, ← he] at hr
  exact h (byteN_of hr)
theorem rnum_b {l : List UInt8} {n e : Nat} (he : e = n + runL dig (l.drop n)) (h : byteN l e = 46) : num1 (l.drop n) + n = if n < e ∨ 0 < runL dig (l.drop (e + 1)) then e + 1 + runL dig (l.drop (e + 1)) else e := by
  obtain ⟨h1, c, hc, hd⟩ := byteN_cons (l := l) (k := e) (by rw [h]; decide)
  have hc46 : c = 46 := UInt8.toNat_inj.1 (by rw [h] at hc; show c.toNat = 46; omega)
  rw [hc46] at hd
  have := num1_dot (l := l.drop n) (r := l.drop (e + 1)) (by rw [List.drop_drop, ← he]; exact hd)
  rw [this]
  split <;> split <;> omega
theorem rtail_0 {l : List UInt8} {n e : Nat} (h : num1 (l.drop n) + n = e) (he : e = n) : n + numL (l.drop n) = n := by rw [numL_zero (by omega)]; rfl
theorem rtail_no {l : List UInt8} {n e : Nat} (h : num1 (l.drop n) + n = e) (he : ¬ e = n) (hb : ¬ (byteN l e = 101 ∨ byteN l e = 69)) : n + numL (l.drop n) = e := by
  have hx : n + num1 (l.drop n) = e := by omega
  cases hd : l.drop e with
  | nil =>
    rw [numL_end (by omega)]
    · omega
    · have := num1_le (l.drop n)
      have h1 : (l.drop e).length = 0 := by rw [hd]; rfl
      rw [List.length_drop] at h1
      rw [List.length_drop] at this ⊢
      omega
  | cons c r =>
    rw [numL_no (c := c) (r := r) (by omega) (by rw [List.drop_drop, hx]; exact hd)]
    · omega
    · have := byteN_of hd
      omega
theorem sign_at (l : List UInt8) (k : Nat) : signL (l.drop k) = if byteN l k = 43 ∨ byteN l k = 45 then 1 else 0 := by
  cases hd : l.drop k with
  | nil =>
    have h1 : l.length ≤ k := by
      rcases Nat.lt_or_ge k l.length with h | h
      · rw [List.drop_eq_getElem_cons h] at hd; cases hd
      · exact h
    rw [byteN_out h1]; rfl
  | cons c r =>
    rw [byteN_of hd]
    unfold signL
    dsimp only
    split <;> split <;> omega
theorem rtail_yes {l : List UInt8} {n e : Nat} (h : num1 (l.drop n) + n = e) (he : ¬ e = n) (hb : byteN l e = 101 ∨ byteN l e = 69) :
    n + numL (l.drop n) = if 0 < runL dig (l.drop (e + 1 + (if byteN l (e + 1) = 43 ∨ byteN l (e + 1) = 45 then 1 else 0))) then e + 1 + (if byteN l (e + 1) = 43 ∨ byteN l (e + 1) = 45 then 1 else 0) + runL dig (l.drop (e + 1 + (if byteN l (e + 1) = 43 ∨ byteN l (e + 1) = 45 then 1 else 0))) else e := by
  have hx : n + num1 (l.drop n) = e := by omega
  obtain ⟨h1, c, hc, hd⟩ := byteN_cons (l := l) (k := e) (by omega)
  rw [numL_yes (c := c) (r := l.drop (e + 1)) (by omega) (by rw [List.drop_drop, hx]; exact hd) (by omega), sign_at, List.drop_drop]
  generalize (if byteN l (e + 1) = 43 ∨ byteN l (e + 1) = 45 then 1 else 0) = sg
  generalize runL dig (l.drop (e + 1 + sg)) = q
  split <;> omega
theorem dig_pos {l : List UInt8} {k : Nat} : dig (byteN l k) = true → 0 < runL dig (l.drop k) := fun h => by have := (run_yes (p := dig) (by decide) h).2; omega
theorem dig_not {l : List UInt8} {k : Nat} : dig (byteN l k) = false → runL dig (l.drop k) = 0 := fun h => run_not h
end Lex
set_option maxHeartbeats 2000000 in
theorem r_number (s : ByteArray) (n : Nat) (w : World) (hs : s.size ≤ 4294967) (hn : n ≤ s.size) :
    Calls Tryz.prog 92 #[.string s, .int .i64 n] w fun e w' => e = .returned (.int .i64 ((n + Lex.numL (s.data.toList.drop n) : Nat) : Int)) ∧ w = w' := by
  have HLN : Hid (s.data.toList.length = s.size) := rfl
  obtain ⟨l, hL⟩ : ∃ l, l = s.data.toList := ⟨_, rfl⟩
  have HLL := Lib.hid hL
  rw [← hL] at HLN ⊢
  clear hL
  obtain ⟨T, hT⟩ : ∃ T, T = n + Lex.numL (l.drop n) := ⟨_, rfl⟩
  rw [← hT]
  have HT := Lib.hid hT
  clear hT
  go_enter Tryz.func92, Tryz.ntmps92
  go_wp2_with fail
  refine (r_digits s n _ (by omega) (by omega)).mono ?_
  rintro e w2 ⟨rfl, rfl⟩
  rw [← HLL.out]
  have hmb := Lex.runL_le Lex.dig (l.drop n)
  rw [List.length_drop, HLN.out] at hmb
  obtain ⟨m, hm⟩ : ∃ m, m = n + Lex.runL Lex.dig (l.drop n) := ⟨_, rfl⟩
  rw [← hm]
  have hml : m ≤ s.size := by omega
  have hnm : n ≤ m := by omega
  have HM := Lib.hid hm
  clear hm hmb
  go_wp2_with fail
  refine (r_byteAt s m _ (by omega)).mono ?_
  rintro e w2 ⟨rfl, rfl⟩
  rw [← HLL.out]
  by_cases hb : Lex.byteN l m = 46
  · have HB := Lib.hid (Lex.rnum_b HM.out hb)
    rw [hb]
    clear hb
    by_cases hmn : n < m
    · have hmn2 : (n : Int) < (m : Int) := by omega
      have hB := HB.out
      rw [if_pos (.inl hmn)] at hB
      have HE := Lib.hid hB
      clear hB HB
      go_wp2_with fail
      try rw [show (m : Int) + 1 = ((m + 1 : Nat) : Int) by omega]
      refine (r_digits s (m + 1) _ (by omega) (by omega)).mono ?_
      rintro e w2 ⟨rfl, rfl⟩
      rw [← HLL.out]
      have hkb := Lex.runL_le Lex.dig (l.drop (m + 1))
      rw [List.length_drop, HLN.out] at hkb
      go_upto_region 4 with fail
      rw [show (m : Int) + 1 + (Lex.runL Lex.dig (l.drop (m + 1)) : Int) = ((m + 1 + Lex.runL Lex.dig (l.drop (m + 1)) : Nat) : Int) by omega]
      have hes : m + 1 + Lex.runL Lex.dig (l.drop (m + 1)) ≤ s.size + 1 := by omega
      have hne : n ≤ m + 1 + Lex.runL Lex.dig (l.drop (m + 1)) := by omega
      clear hkb HM
      generalize m + 1 + Lex.runL Lex.dig (l.drop (m + 1)) = e at *
      by_cases hen : e = n
      · have hf := Lex.rtail_0 HE.out hen
        rw [← HT.out] at hf
        have heb : ((e : Int) == (n : Int)) = true := by simp; omega
        clear HE HT
        go_wp2_with fail
        go_ret
        exact ⟨ret_int (by omega), rfl⟩
      · have heb : ((e : Int) == (n : Int)) = false := by simp; omega
        have HNO := Lib.hid (Lex.rtail_no HE.out hen)
        have HYES := Lib.hid (Lex.rtail_yes HE.out hen)
        have HNE := Lib.hid hen
        clear HE hen
        go_wp2_with fail
        refine (r_byteAt s e _ (by omega)).mono ?_
        rintro e' w2 ⟨rfl, rfl⟩
        rw [← HLL.out]
        by_cases hc : Lex.byteN l e = 101 ∨ Lex.byteN l e = 69
        · have hY := HYES.out hc
          rw [← HT.out] at hY
          have HY := Lib.hid hY
          have hdp := fun k => @Lex.dig_pos l k
          have hdn := fun k => @Lex.dig_not l k
          have HDP := Lib.hid hdp
          have HDN := Lib.hid hdn
          clear hY HYES HNO HT hdp hdn
          rcases hc with hc | hc
          · rw [hc]
            go_wp2_with fail
            rw [show (e : Int) + 1 = ((e + 1 : Nat) : Int) by omega]
            refine (r_byteAt s (e + 1) _ (by omega)).mono ?_
            rintro e' w2 ⟨rfl, rfl⟩
            rw [← HLL.out]
            by_cases hsg : Lex.byteN l (e + 1) = 43 ∨ Lex.byteN l (e + 1) = 45
            · have hY := HY.out
              rw [if_pos hsg] at hY
              have HY2 := Lib.hid hY
              clear hY HY
              rcases hsg with hsg | hsg
              · rw [hsg]
                go_wp2_with fail
                first | rw [show (e : Int) + 1 + 1 = ((e + 2 : Nat) : Int) by omega] | rw [show (e : Int) + 2 = ((e + 2 : Nat) : Int) by omega]
                refine (r_byteAt s (e + 2) _ (by omega)).mono ?_
                rintro e' w2 ⟨rfl, rfl⟩
                rw [← HLL.out]
                have hp := HDP.out (e + 2)
                have hq := HDN.out (e + 2)
                have HP := Lib.hid hp
                have HQ := Lib.hid hq
                clear hp hq
                generalize Lex.byteN l (e + 2) = b3 at *
                go_wp2_with fail
                refine (r_digit b3 _).mono ?_
                rintro e' w2 ⟨rfl, rfl⟩
                cases hdb : Lex.dig b3
                · have hz := HQ.out hdb
                  have hY := HY2.out
                  rw [show e + 1 + 1 = e + 2 from rfl, if_neg (by omega)] at hY
                  clear hz HY2
                  go_wp2_with fail
                  go_ret
                  exact ⟨ret_int (by omega), rfl⟩
                · have hz := HP.out hdb
                  have hY := HY2.out
                  rw [show e + 1 + 1 = e + 2 from rfl, if_pos (by omega)] at hY
                  have HY3 := Lib.hid hY
                  clear hz HY2 hY
                  go_wp2_with fail
                  first | rw [show (e : Int) + 1 + 1 = ((e + 2 : Nat) : Int) by omega] | rw [show (e : Int) + 2 = ((e + 2 : Nat) : Int) by omega]
                  refine (r_digits s (e + 2) _ (by omega) (by omega)).mono ?_
                  rintro e' w2 ⟨rfl, rfl⟩
                  rw [← HLL.out, ← HY3.out]
                  go_wp2_with fail
                  go_ret
                  exact ⟨ret_int (by rfl), rfl⟩
              · rw [hsg]
                go_wp2_with fail
                rw [show (e : Int) + 1 = ((e + 1 : Nat) : Int) by omega]
                refine (r_byteAt s (e + 1) _ (by omega)).mono ?_
                rintro e' w2 ⟨rfl, rfl⟩
                rw [← HLL.out, hsg]
                go_wp2_with fail
                first | rw [show (e : Int) + 1 + 1 = ((e + 2 : Nat) : Int) by omega] | rw [show (e : Int) + 2 = ((e + 2 : Nat) : Int) by omega]
                refine (r_byteAt s (e + 2) _ (by omega)).mono ?_
                rintro e' w2 ⟨rfl, rfl⟩
                rw [← HLL.out]
                have hp := HDP.out (e + 2)
                have hq := HDN.out (e + 2)
                have HP := Lib.hid hp
                have HQ := Lib.hid hq
                clear hp hq
                generalize Lex.byteN l (e + 2) = b3 at *
                go_wp2_with fail
                refine (r_digit b3 _).mono ?_
                rintro e' w2 ⟨rfl, rfl⟩
                cases hdb : Lex.dig b3
                · have hz := HQ.out hdb
                  have hY := HY2.out
                  rw [show e + 1 + 1 = e + 2 from rfl, if_neg (by omega)] at hY
                  clear hz HY2
                  go_wp2_with fail
                  go_ret
                  exact ⟨ret_int (by omega), rfl⟩
                · have hz := HP.out hdb
                  have hY := HY2.out
                  rw [show e + 1 + 1 = e + 2 from rfl, if_pos (by omega)] at hY
                  have HY3 := Lib.hid hY
                  clear hz HY2 hY
                  go_wp2_with fail
                  first | rw [show (e : Int) + 1 + 1 = ((e + 2 : Nat) : Int) by omega] | rw [show (e : Int) + 2 = ((e + 2 : Nat) : Int) by omega]
                  refine (r_digits s (e + 2) _ (by omega) (by omega)).mono ?_
                  rintro e' w2 ⟨rfl, rfl⟩
                  rw [← HLL.out, ← HY3.out]
                  go_wp2_with fail
                  go_ret
                  exact ⟨ret_int (by rfl), rfl⟩
            · have hY := HY.out
              rw [if_neg hsg] at hY
              have HY2 := Lib.hid hY
              have g1 : (Lex.byteN l (e + 1) == 43) = false := by simp; omega
              have g2 : (Lex.byteN l (e + 1) == 45) = false := by simp; omega
              clear hY HY hsg
              go_wp2_with fail
              rw [show (e : Int) + 1 = ((e + 1 : Nat) : Int) by omega]
              refine (r_byteAt s (e + 1) _ (by omega)).mono ?_
              rintro e' w2 ⟨rfl, rfl⟩
              rw [← HLL.out]
              go_wp2_with fail
              first | rw [show (e : Int) + 1 = ((e + 1 : Nat) : Int) by omega] | rw [show (e : Int) + 1 = ((e + 1 : Nat) : Int) by omega]
              refine (r_byteAt s (e + 1) _ (by omega)).mono ?_
              rintro e' w2 ⟨rfl, rfl⟩
              rw [← HLL.out]
              have hp := HDP.out (e + 1)
              have hq := HDN.out (e + 1)
              have HP := Lib.hid hp
              have HQ := Lib.hid hq
              clear hp hq
              generalize Lex.byteN l (e + 1) = b3 at *
              go_wp2_with fail
              refine (r_digit b3 _).mono ?_
              rintro e' w2 ⟨rfl, rfl⟩
              cases hdb : Lex.dig b3
              · have hz := HQ.out hdb
                have hY := HY2.out
                rw [show e + 1 + 0 = e + 1 from rfl, if_neg (by omega)] at hY
                clear hz HY2
                go_wp2_with fail
                go_ret
                exact ⟨ret_int (by omega), rfl⟩
              · have hz := HP.out hdb
                have hY := HY2.out
                rw [show e + 1 + 0 = e + 1 from rfl, if_pos (by omega)] at hY
                have HY3 := Lib.hid hY
                clear hz HY2 hY
                go_wp2_with fail
                first | rw [show (e : Int) + 1 = ((e + 1 : Nat) : Int) by omega] | rw [show (e : Int) + 1 = ((e + 1 : Nat) : Int) by omega]
                refine (r_digits s (e + 1) _ (by omega) (by omega)).mono ?_
                rintro e' w2 ⟨rfl, rfl⟩
                rw [← HLL.out, ← HY3.out]
                go_wp2_with fail
                go_ret
                exact ⟨ret_int (by rfl), rfl⟩
          · rw [hc]
            go_wp2_with fail
            refine (r_byteAt s e _ (by omega)).mono ?_
            rintro e' w2 ⟨rfl, rfl⟩
            rw [← HLL.out, hc]
            go_wp2_with fail
            rw [show (e : Int) + 1 = ((e + 1 : Nat) : Int) by omega]
            refine (r_byteAt s (e + 1) _ (by omega)).mono ?_
            rintro e' w2 ⟨rfl, rfl⟩
            rw [← HLL.out]
            by_cases hsg : Lex.byteN l (e + 1) = 43 ∨ Lex.byteN l (e + 1) = 45
            · have hY := HY.out
              rw [if_pos hsg] at hY
              have HY2 := Lib.hid hY
              clear hY HY
              rcases hsg with hsg | hsg
              · rw [hsg]
                go_wp2_with fail
                first | rw [show (e : Int) + 1 + 1 = ((e + 2 : Nat) : Int) by omega] | rw [show (e : Int) + 2 = ((e + 2 : Nat) : Int) by omega]
                refine (r_byteAt s (e + 2) _ (by omega)).mono ?_
                rintro e' w2 ⟨rfl, rfl⟩
                rw [← HLL.out]
                have hp := HDP.out (e + 2)
                have hq := HDN.out (e + 2)
                have HP := Lib.hid hp
                have HQ := Lib.hid hq
                clear hp hq
                generalize Lex.byteN l (e + 2) = b3 at *
                go_wp2_with fail
                refine (r_digit b3 _).mono ?_
                rintro e' w2 ⟨rfl, rfl⟩
                cases hdb : Lex.dig b3
                · have hz := HQ.out hdb
                  have hY := HY2.out
                  rw [show e + 1 + 1 = e + 2 from rfl, if_neg (by omega)] at hY
                  clear hz HY2
                  go_wp2_with fail
                  go_ret
                  exact ⟨ret_int (by omega), rfl⟩
                · have hz := HP.out hdb
                  have hY := HY2.out
                  rw [show e + 1 + 1 = e + 2 from rfl, if_pos (by omega)] at hY
                  have HY3 := Lib.hid hY
                  clear hz HY2 hY
                  go_wp2_with fail
                  first | rw [show (e : Int) + 1 + 1 = ((e + 2 : Nat) : Int) by omega] | rw [show (e : Int) + 2 = ((e + 2 : Nat) : Int) by omega]
                  refine (r_digits s (e + 2) _ (by omega) (by omega)).mono ?_
                  rintro e' w2 ⟨rfl, rfl⟩
                  rw [← HLL.out, ← HY3.out]
                  go_wp2_with fail
                  go_ret
                  exact ⟨ret_int (by rfl), rfl⟩
              · rw [hsg]
                go_wp2_with fail
                rw [show (e : Int) + 1 = ((e + 1 : Nat) : Int) by omega]
                refine (r_byteAt s (e + 1) _ (by omega)).mono ?_
                rintro e' w2 ⟨rfl, rfl⟩
                rw [← HLL.out, hsg]
                go_wp2_with fail
                first | rw [show (e : Int) + 1 + 1 = ((e + 2 : Nat) : Int) by omega] | rw [show (e : Int) + 2 = ((e + 2 : Nat) : Int) by omega]
                refine (r_byteAt s (e + 2) _ (by omega)).mono ?_
                rintro e' w2 ⟨rfl, rfl⟩
                rw [← HLL.out]
                have hp := HDP.out (e + 2)
                have hq := HDN.out (e + 2)
                have HP := Lib.hid hp
                have HQ := Lib.hid hq
                clear hp hq
                generalize Lex.byteN l (e + 2) = b3 at *
                go_wp2_with fail
                refine (r_digit b3 _).mono ?_
                rintro e' w2 ⟨rfl, rfl⟩
                cases hdb : Lex.dig b3
                · have hz := HQ.out hdb
                  have hY := HY2.out
                  rw [show e + 1 + 1 = e + 2 from rfl, if_neg (by omega)] at hY
                  clear hz HY2
                  go_wp2_with fail
                  go_ret
                  exact ⟨ret_int (by omega), rfl⟩
                · have hz := HP.out hdb
                  have hY := HY2.out
                  rw [show e + 1 + 1 = e + 2 from rfl, if_pos (by omega)] at hY
                  have HY3 := Lib.hid hY
                  clear hz HY2 hY
                  go_wp2_with fail
                  first | rw [show (e : Int) + 1 + 1 = ((e + 2 : Nat) : Int) by omega] | rw [show (e : Int) + 2 = ((e + 2 : Nat) : Int) by omega]
                  refine (r_digits s (e + 2) _ (by omega) (by omega)).mono ?_
                  rintro e' w2 ⟨rfl, rfl⟩
                  rw [← HLL.out, ← HY3.out]
                  go_wp2_with fail
                  go_ret
                  exact ⟨ret_int (by rfl), rfl⟩
            · have hY := HY.out
              rw [if_neg hsg] at hY
              have HY2 := Lib.hid hY
              have g1 : (Lex.byteN l (e + 1) == 43) = false := by simp; omega
              have g2 : (Lex.byteN l (e + 1) == 45) = false := by simp; omega
              clear hY HY hsg
              go_wp2_with fail
              rw [show (e : Int) + 1 = ((e + 1 : Nat) : Int) by omega]
              refine (r_byteAt s (e + 1) _ (by omega)).mono ?_
              rintro e' w2 ⟨rfl, rfl⟩
              rw [← HLL.out]
              go_wp2_with fail
              first | rw [show (e : Int) + 1 = ((e + 1 : Nat) : Int) by omega] | rw [show (e : Int) + 1 = ((e + 1 : Nat) : Int) by omega]
              refine (r_byteAt s (e + 1) _ (by omega)).mono ?_
              rintro e' w2 ⟨rfl, rfl⟩
              rw [← HLL.out]
              have hp := HDP.out (e + 1)
              have hq := HDN.out (e + 1)
              have HP := Lib.hid hp
              have HQ := Lib.hid hq
              clear hp hq
              generalize Lex.byteN l (e + 1) = b3 at *
              go_wp2_with fail
              refine (r_digit b3 _).mono ?_
              rintro e' w2 ⟨rfl, rfl⟩
              cases hdb : Lex.dig b3
              · have hz := HQ.out hdb
                have hY := HY2.out
                rw [show e + 1 + 0 = e + 1 from rfl, if_neg (by omega)] at hY
                clear hz HY2
                go_wp2_with fail
                go_ret
                exact ⟨ret_int (by omega), rfl⟩
              · have hz := HP.out hdb
                have hY := HY2.out
                rw [show e + 1 + 0 = e + 1 from rfl, if_pos (by omega)] at hY
                have HY3 := Lib.hid hY
                clear hz HY2 hY
                go_wp2_with fail
                first | rw [show (e : Int) + 1 = ((e + 1 : Nat) : Int) by omega] | rw [show (e : Int) + 1 = ((e + 1 : Nat) : Int) by omega]
                refine (r_digits s (e + 1) _ (by omega) (by omega)).mono ?_
                rintro e' w2 ⟨rfl, rfl⟩
                rw [← HLL.out, ← HY3.out]
                go_wp2_with fail
                go_ret
                exact ⟨ret_int (by rfl), rfl⟩
        · have hN := HNO.out hc
          rw [← HT.out] at hN
          have h1 : (Lex.byteN l e == 101) = false := by simp; omega
          have h2 : (Lex.byteN l e == 69) = false := by simp; omega
          clear HNO HYES HT hc
          subst hN
          have HLL2 := Lib.hid HLL.out
          generalize hbe : Lex.byteN l T = b1 at *
          go_wp2_with fail
          refine (r_byteAt s T _ (by omega)).mono ?_
          rintro e' w2 ⟨rfl, rfl⟩
          rw [← HLL2.out, hbe]
          go_wp2_with fail
          go_ret
          exact ⟨ret_int (by rfl), rfl⟩
    · have hmn2 : (m : Int) ≤ (n : Int) := by omega
      have hmn3 := Lib.hid (show m = n by omega)
      go_wp2_with fail
      rw [show (m : Int) + 1 = ((m + 1 : Nat) : Int) by omega]
      refine (r_byteAt s (m + 1) _ (by omega)).mono ?_
      rintro e w2 ⟨rfl, rfl⟩
      rw [← HLL.out]
      have hdp := @Lex.dig_pos l (m + 1)
      have hdn := @Lex.dig_not l (m + 1)
      have HDP := Lib.hid hdp
      have HDN := Lib.hid hdn
      clear hdp hdn
      generalize Lex.byteN l (m + 1) = b at *
      go_wp2_with fail
      refine (r_digit b _).mono ?_
      rintro e w2 ⟨rfl, rfl⟩
      cases hdb : Lex.dig b
      · have hz := HDN.out hdb
        have hB := HB.out
        rw [if_neg (by omega)] at hB
        have hf := Lib.hid (Lex.rtail_0 hB hmn3.out)
        rw [← HT.out] at hf
        have heq : ((m : Int) == (n : Int)) = true := by have := hmn3.out; simp; omega
        clear hz hB HB HT HM
        go_wp2_with fail
        go_ret
        exact ⟨ret_int (by have := hf.out; omega), rfl⟩
      · have hz := HDP.out hdb
        have hB := HB.out
        rw [if_pos (.inr hz)] at hB
        have HE := Lib.hid hB
        clear hB HB hz
        go_wp2_with fail
        try rw [show (m : Int) + 1 = ((m + 1 : Nat) : Int) by omega]
        refine (r_digits s (m + 1) _ (by omega) (by omega)).mono ?_
        rintro e w2 ⟨rfl, rfl⟩
        rw [← HLL.out]
        have hkb := Lex.runL_le Lex.dig (l.drop (m + 1))
        rw [List.length_drop, HLN.out] at hkb
        go_upto_region 4 with fail
        rw [show (m : Int) + 1 + (Lex.runL Lex.dig (l.drop (m + 1)) : Int) = ((m + 1 + Lex.runL Lex.dig (l.drop (m + 1)) : Nat) : Int) by omega]
        have hes : m + 1 + Lex.runL Lex.dig (l.drop (m + 1)) ≤ s.size + 1 := by omega
        have hne : n ≤ m + 1 + Lex.runL Lex.dig (l.drop (m + 1)) := by omega
        clear hkb HM
        generalize m + 1 + Lex.runL Lex.dig (l.drop (m + 1)) = e at *
        by_cases hen : e = n
        · have hf := Lex.rtail_0 HE.out hen
          rw [← HT.out] at hf
          have heb : ((e : Int) == (n : Int)) = true := by simp; omega
          clear HE HT
          go_wp2_with fail
          go_ret
          exact ⟨ret_int (by omega), rfl⟩
        · have heb : ((e : Int) == (n : Int)) = false := by simp; omega
          have HNO := Lib.hid (Lex.rtail_no HE.out hen)
          have HYES := Lib.hid (Lex.rtail_yes HE.out hen)
          have HNE := Lib.hid hen
          clear HE hen
          go_wp2_with fail
          refine (r_byteAt s e _ (by omega)).mono ?_
          rintro e' w2 ⟨rfl, rfl⟩
          rw [← HLL.out]
          by_cases hc : Lex.byteN l e = 101 ∨ Lex.byteN l e = 69
          · have hY := HYES.out hc
            rw [← HT.out] at hY
            have HY := Lib.hid hY
            have hdp := fun k => @Lex.dig_pos l k
            have hdn := fun k => @Lex.dig_not l k
            have HDP := Lib.hid hdp
            have HDN := Lib.hid hdn
            clear hY HYES HNO HT hdp hdn
            rcases hc with hc | hc
            · rw [hc]
              go_wp2_with fail
              rw [show (e : Int) + 1 = ((e + 1 : Nat) : Int) by omega]
              refine (r_byteAt s (e + 1) _ (by omega)).mono ?_
              rintro e' w2 ⟨rfl, rfl⟩
              rw [← HLL.out]
              by_cases hsg : Lex.byteN l (e + 1) = 43 ∨ Lex.byteN l (e + 1) = 45
              · have hY := HY.out
                rw [if_pos hsg] at hY
                have HY2 := Lib.hid hY
                clear hY HY
                rcases hsg with hsg | hsg
                · rw [hsg]
                  go_wp2_with fail
                  first | rw [show (e : Int) + 1 + 1 = ((e + 2 : Nat) : Int) by omega] | rw [show (e : Int) + 2 = ((e + 2 : Nat) : Int) by omega]
                  refine (r_byteAt s (e + 2) _ (by omega)).mono ?_
                  rintro e' w2 ⟨rfl, rfl⟩
                  rw [← HLL.out]
                  have hp := HDP.out (e + 2)
                  have hq := HDN.out (e + 2)
                  have HP := Lib.hid hp
                  have HQ := Lib.hid hq
                  clear hp hq
                  generalize Lex.byteN l (e + 2) = b3 at *
                  go_wp2_with fail
                  refine (r_digit b3 _).mono ?_
                  rintro e' w2 ⟨rfl, rfl⟩
                  cases hdb : Lex.dig b3
                  · have hz := HQ.out hdb
                    have hY := HY2.out
                    rw [show e + 1 + 1 = e + 2 from rfl, if_neg (by omega)] at hY
                    clear hz HY2
                    go_wp2_with fail
                    go_ret
                    exact ⟨ret_int (by omega), rfl⟩
                  · have hz := HP.out hdb
                    have hY := HY2.out
                    rw [show e + 1 + 1 = e + 2 from rfl, if_pos (by omega)] at hY
                    have HY3 := Lib.hid hY
                    clear hz HY2 hY
                    go_wp2_with fail
                    first | rw [show (e : Int) + 1 + 1 = ((e + 2 : Nat) : Int) by omega] | rw [show (e : Int) + 2 = ((e + 2 : Nat) : Int) by omega]
                    refine (r_digits s (e + 2) _ (by omega) (by omega)).mono ?_
                    rintro e' w2 ⟨rfl, rfl⟩
                    rw [← HLL.out, ← HY3.out]
                    go_wp2_with fail
                    go_ret
                    exact ⟨ret_int (by rfl), rfl⟩
                · rw [hsg]
                  go_wp2_with fail
                  rw [show (e : Int) + 1 = ((e + 1 : Nat) : Int) by omega]
                  refine (r_byteAt s (e + 1) _ (by omega)).mono ?_
                  rintro e' w2 ⟨rfl, rfl⟩
                  rw [← HLL.out, hsg]
                  go_wp2_with fail
                  first | rw [show (e : Int) + 1 + 1 = ((e + 2 : Nat) : Int) by omega] | rw [show (e : Int) + 2 = ((e + 2 : Nat) : Int) by omega]
                  refine (r_byteAt s (e + 2) _ (by omega)).mono ?_
                  rintro e' w2 ⟨rfl, rfl⟩
                  rw [← HLL.out]
                  have hp := HDP.out (e + 2)
                  have hq := HDN.out (e + 2)
                  have HP := Lib.hid hp
                  have HQ := Lib.hid hq
                  clear hp hq
                  generalize Lex.byteN l (e + 2) = b3 at *
                  go_wp2_with fail
                  refine (r_digit b3 _).mono ?_
                  rintro e' w2 ⟨rfl, rfl⟩
                  cases hdb : Lex.dig b3
                  · have hz := HQ.out hdb
                    have hY := HY2.out
                    rw [show e + 1 + 1 = e + 2 from rfl, if_neg (by omega)] at hY
                    clear hz HY2
                    go_wp2_with fail
                    go_ret
                    exact ⟨ret_int (by omega), rfl⟩
                  · have hz := HP.out hdb
                    have hY := HY2.out
                    rw [show e + 1 + 1 = e + 2 from rfl, if_pos (by omega)] at hY
                    have HY3 := Lib.hid hY
                    clear hz HY2 hY
                    go_wp2_with fail
                    first | rw [show (e : Int) + 1 + 1 = ((e + 2 : Nat) : Int) by omega] | rw [show (e : Int) + 2 = ((e + 2 : Nat) : Int) by omega]
                    refine (r_digits s (e + 2) _ (by omega) (by omega)).mono ?_
                    rintro e' w2 ⟨rfl, rfl⟩
                    rw [← HLL.out, ← HY3.out]
                    go_wp2_with fail
                    go_ret
                    exact ⟨ret_int (by rfl), rfl⟩
              · have hY := HY.out
                rw [if_neg hsg] at hY
                have HY2 := Lib.hid hY
                have g1 : (Lex.byteN l (e + 1) == 43) = false := by simp; omega
                have g2 : (Lex.byteN l (e + 1) == 45) = false := by simp; omega
                clear hY HY hsg
                go_wp2_with fail
                rw [show (e : Int) + 1 = ((e + 1 : Nat) : Int) by omega]
                refine (r_byteAt s (e + 1) _ (by omega)).mono ?_
                rintro e' w2 ⟨rfl, rfl⟩
                rw [← HLL.out]
                go_wp2_with fail
                first | rw [show (e : Int) + 1 = ((e + 1 : Nat) : Int) by omega] | rw [show (e : Int) + 1 = ((e + 1 : Nat) : Int) by omega]
                refine (r_byteAt s (e + 1) _ (by omega)).mono ?_
                rintro e' w2 ⟨rfl, rfl⟩
                rw [← HLL.out]
                have hp := HDP.out (e + 1)
                have hq := HDN.out (e + 1)
                have HP := Lib.hid hp
                have HQ := Lib.hid hq
                clear hp hq
                generalize Lex.byteN l (e + 1) = b3 at *
                go_wp2_with fail
                refine (r_digit b3 _).mono ?_
                rintro e' w2 ⟨rfl, rfl⟩
                cases hdb : Lex.dig b3
                · have hz := HQ.out hdb
                  have hY := HY2.out
                  rw [show e + 1 + 0 = e + 1 from rfl, if_neg (by omega)] at hY
                  clear hz HY2
                  go_wp2_with fail
                  go_ret
                  exact ⟨ret_int (by omega), rfl⟩
                · have hz := HP.out hdb
                  have hY := HY2.out
                  rw [show e + 1 + 0 = e + 1 from rfl, if_pos (by omega)] at hY
                  have HY3 := Lib.hid hY
                  clear hz HY2 hY
                  go_wp2_with fail
                  first | rw [show (e : Int) + 1 = ((e + 1 : Nat) : Int) by omega] | rw [show (e : Int) + 1 = ((e + 1 : Nat) : Int) by omega]
                  refine (r_digits s (e + 1) _ (by omega) (by omega)).mono ?_
                  rintro e' w2 ⟨rfl, rfl⟩
                  rw [← HLL.out, ← HY3.out]
                  go_wp2_with fail
                  go_ret
                  exact ⟨ret_int (by rfl), rfl⟩
            · rw [hc]
              go_wp2_with fail
              refine (r_byteAt s e _ (by omega)).mono ?_
              rintro e' w2 ⟨rfl, rfl⟩
              rw [← HLL.out, hc]
              go_wp2_with fail
              rw [show (e : Int) + 1 = ((e + 1 : Nat) : Int) by omega]
              refine (r_byteAt s (e + 1) _ (by omega)).mono ?_
              rintro e' w2 ⟨rfl, rfl⟩
              rw [← HLL.out]
              by_cases hsg : Lex.byteN l (e + 1) = 43 ∨ Lex.byteN l (e + 1) = 45
              · have hY := HY.out
                rw [if_pos hsg] at hY
                have HY2 := Lib.hid hY
                clear hY HY
                rcases hsg with hsg | hsg
                · rw [hsg]
                  go_wp2_with fail
                  first | rw [show (e : Int) + 1 + 1 = ((e + 2 : Nat) : Int) by omega] | rw [show (e : Int) + 2 = ((e + 2 : Nat) : Int) by omega]
                  refine (r_byteAt s (e + 2) _ (by omega)).mono ?_
                  rintro e' w2 ⟨rfl, rfl⟩
                  rw [← HLL.out]
                  have hp := HDP.out (e + 2)
                  have hq := HDN.out (e + 2)
                  have HP := Lib.hid hp
                  have HQ := Lib.hid hq
                  clear hp hq
                  generalize Lex.byteN l (e + 2) = b3 at *
                  go_wp2_with fail
                  refine (r_digit b3 _).mono ?_
                  rintro e' w2 ⟨rfl, rfl⟩
                  cases hdb : Lex.dig b3
                  · have hz := HQ.out hdb
                    have hY := HY2.out
                    rw [show e + 1 + 1 = e + 2 from rfl, if_neg (by omega)] at hY
                    clear hz HY2
                    go_wp2_with fail
                    go_ret
                    exact ⟨ret_int (by omega), rfl⟩
                  · have hz := HP.out hdb
                    have hY := HY2.out
                    rw [show e + 1 + 1 = e + 2 from rfl, if_pos (by omega)] at hY
                    have HY3 := Lib.hid hY
                    clear hz HY2 hY
                    go_wp2_with fail
                    first | rw [show (e : Int) + 1 + 1 = ((e + 2 : Nat) : Int) by omega] | rw [show (e : Int) + 2 = ((e + 2 : Nat) : Int) by omega]
                    refine (r_digits s (e + 2) _ (by omega) (by omega)).mono ?_
                    rintro e' w2 ⟨rfl, rfl⟩
                    rw [← HLL.out, ← HY3.out]
                    go_wp2_with fail
                    go_ret
                    exact ⟨ret_int (by rfl), rfl⟩
                · rw [hsg]
                  go_wp2_with fail
                  rw [show (e : Int) + 1 = ((e + 1 : Nat) : Int) by omega]
                  refine (r_byteAt s (e + 1) _ (by omega)).mono ?_
                  rintro e' w2 ⟨rfl, rfl⟩
                  rw [← HLL.out, hsg]
                  go_wp2_with fail
                  first | rw [show (e : Int) + 1 + 1 = ((e + 2 : Nat) : Int) by omega] | rw [show (e : Int) + 2 = ((e + 2 : Nat) : Int) by omega]
                  refine (r_byteAt s (e + 2) _ (by omega)).mono ?_
                  rintro e' w2 ⟨rfl, rfl⟩
                  rw [← HLL.out]
                  have hp := HDP.out (e + 2)
                  have hq := HDN.out (e + 2)
                  have HP := Lib.hid hp
                  have HQ := Lib.hid hq
                  clear hp hq
                  generalize Lex.byteN l (e + 2) = b3 at *
                  go_wp2_with fail
                  refine (r_digit b3 _).mono ?_
                  rintro e' w2 ⟨rfl, rfl⟩
                  cases hdb : Lex.dig b3
                  · have hz := HQ.out hdb
                    have hY := HY2.out
                    rw [show e + 1 + 1 = e + 2 from rfl, if_neg (by omega)] at hY
                    clear hz HY2
                    go_wp2_with fail
                    go_ret
                    exact ⟨ret_int (by omega), rfl⟩
                  · have hz := HP.out hdb
                    have hY := HY2.out
                    rw [show e + 1 + 1 = e + 2 from rfl, if_pos (by omega)] at hY
                    have HY3 := Lib.hid hY
                    clear hz HY2 hY
                    go_wp2_with fail
                    first | rw [show (e : Int) + 1 + 1 = ((e + 2 : Nat) : Int) by omega] | rw [show (e : Int) + 2 = ((e + 2 : Nat) : Int) by omega]
                    refine (r_digits s (e + 2) _ (by omega) (by omega)).mono ?_
                    rintro e' w2 ⟨rfl, rfl⟩
                    rw [← HLL.out, ← HY3.out]
                    go_wp2_with fail
                    go_ret
                    exact ⟨ret_int (by rfl), rfl⟩
              · have hY := HY.out
                rw [if_neg hsg] at hY
                have HY2 := Lib.hid hY
                have g1 : (Lex.byteN l (e + 1) == 43) = false := by simp; omega
                have g2 : (Lex.byteN l (e + 1) == 45) = false := by simp; omega
                clear hY HY hsg
                go_wp2_with fail
                rw [show (e : Int) + 1 = ((e + 1 : Nat) : Int) by omega]
                refine (r_byteAt s (e + 1) _ (by omega)).mono ?_
                rintro e' w2 ⟨rfl, rfl⟩
                rw [← HLL.out]
                go_wp2_with fail
                first | rw [show (e : Int) + 1 = ((e + 1 : Nat) : Int) by omega] | rw [show (e : Int) + 1 = ((e + 1 : Nat) : Int) by omega]
                refine (r_byteAt s (e + 1) _ (by omega)).mono ?_
                rintro e' w2 ⟨rfl, rfl⟩
                rw [← HLL.out]
                have hp := HDP.out (e + 1)
                have hq := HDN.out (e + 1)
                have HP := Lib.hid hp
                have HQ := Lib.hid hq
                clear hp hq
                generalize Lex.byteN l (e + 1) = b3 at *
                go_wp2_with fail
                refine (r_digit b3 _).mono ?_
                rintro e' w2 ⟨rfl, rfl⟩
                cases hdb : Lex.dig b3
                · have hz := HQ.out hdb
                  have hY := HY2.out
                  rw [show e + 1 + 0 = e + 1 from rfl, if_neg (by omega)] at hY
                  clear hz HY2
                  go_wp2_with fail
                  go_ret
                  exact ⟨ret_int (by omega), rfl⟩
                · have hz := HP.out hdb
                  have hY := HY2.out
                  rw [show e + 1 + 0 = e + 1 from rfl, if_pos (by omega)] at hY
                  have HY3 := Lib.hid hY
                  clear hz HY2 hY
                  go_wp2_with fail
                  first | rw [show (e : Int) + 1 = ((e + 1 : Nat) : Int) by omega] | rw [show (e : Int) + 1 = ((e + 1 : Nat) : Int) by omega]
                  refine (r_digits s (e + 1) _ (by omega) (by omega)).mono ?_
                  rintro e' w2 ⟨rfl, rfl⟩
                  rw [← HLL.out, ← HY3.out]
                  go_wp2_with fail
                  go_ret
                  exact ⟨ret_int (by rfl), rfl⟩
          · have hN := HNO.out hc
            rw [← HT.out] at hN
            have h1 : (Lex.byteN l e == 101) = false := by simp; omega
            have h2 : (Lex.byteN l e == 69) = false := by simp; omega
            clear HNO HYES HT hc
            subst hN
            have HLL2 := Lib.hid HLL.out
            generalize hbe : Lex.byteN l T = b1 at *
            go_wp2_with fail
            refine (r_byteAt s T _ (by omega)).mono ?_
            rintro e' w2 ⟨rfl, rfl⟩
            rw [← HLL2.out, hbe]
            go_wp2_with fail
            go_ret
            exact ⟨ret_int (by rfl), rfl⟩
  · have hE := Lex.rnum_a HM.out hb
    have HE := Lib.hid hE
    have hbb : (Lex.byteN l m == 46) = false := by simp [hb]
    clear hE HM
    generalize Lex.byteN l m = b0 at *
    go_upto_region 4 with fail
    generalize m = e at *
    clear hbb hb
    have hes : e ≤ s.size := by assumption
    by_cases hen : e = n
    · have hf := Lex.rtail_0 HE.out hen
      rw [← HT.out] at hf
      have heb : ((e : Int) == (n : Int)) = true := by simp; omega
      clear HE HT
      go_wp2_with fail
      go_ret
      exact ⟨ret_int (by omega), rfl⟩
    · have heb : ((e : Int) == (n : Int)) = false := by simp; omega
      have HNO := Lib.hid (Lex.rtail_no HE.out hen)
      have HYES := Lib.hid (Lex.rtail_yes HE.out hen)
      have HNE := Lib.hid hen
      clear HE hen
      go_wp2_with fail
      refine (r_byteAt s e _ (by omega)).mono ?_
      rintro e' w2 ⟨rfl, rfl⟩
      rw [← HLL.out]
      by_cases hc : Lex.byteN l e = 101 ∨ Lex.byteN l e = 69
      · have hY := HYES.out hc
        rw [← HT.out] at hY
        have HY := Lib.hid hY
        have hdp := fun k => @Lex.dig_pos l k
        have hdn := fun k => @Lex.dig_not l k
        have HDP := Lib.hid hdp
        have HDN := Lib.hid hdn
        clear hY HYES HNO HT hdp hdn
        rcases hc with hc | hc
        · rw [hc]
          go_wp2_with fail
          rw [show (e : Int) + 1 = ((e + 1 : Nat) : Int) by omega]
          refine (r_byteAt s (e + 1) _ (by omega)).mono ?_
          rintro e' w2 ⟨rfl, rfl⟩
          rw [← HLL.out]
          by_cases hsg : Lex.byteN l (e + 1) = 43 ∨ Lex.byteN l (e + 1) = 45
          · have hY := HY.out
            rw [if_pos hsg] at hY
            have HY2 := Lib.hid hY
            clear hY HY
            rcases hsg with hsg | hsg
            · rw [hsg]
              go_wp2_with fail
              first | rw [show (e : Int) + 1 + 1 = ((e + 2 : Nat) : Int) by omega] | rw [show (e : Int) + 2 = ((e + 2 : Nat) : Int) by omega]
              refine (r_byteAt s (e + 2) _ (by omega)).mono ?_
              rintro e' w2 ⟨rfl, rfl⟩
              rw [← HLL.out]
              have hp := HDP.out (e + 2)
              have hq := HDN.out (e + 2)
              have HP := Lib.hid hp
              have HQ := Lib.hid hq
              clear hp hq
              generalize Lex.byteN l (e + 2) = b3 at *
              go_wp2_with fail
              refine (r_digit b3 _).mono ?_
              rintro e' w2 ⟨rfl, rfl⟩
              cases hdb : Lex.dig b3
              · have hz := HQ.out hdb
                have hY := HY2.out
                rw [show e + 1 + 1 = e + 2 from rfl, if_neg (by omega)] at hY
                clear hz HY2
                go_wp2_with fail
                go_ret
                exact ⟨ret_int (by omega), rfl⟩
              · have hz := HP.out hdb
                have hY := HY2.out
                rw [show e + 1 + 1 = e + 2 from rfl, if_pos (by omega)] at hY
                have HY3 := Lib.hid hY
                clear hz HY2 hY
                go_wp2_with fail
                first | rw [show (e : Int) + 1 + 1 = ((e + 2 : Nat) : Int) by omega] | rw [show (e : Int) + 2 = ((e + 2 : Nat) : Int) by omega]
                refine (r_digits s (e + 2) _ (by omega) (by omega)).mono ?_
                rintro e' w2 ⟨rfl, rfl⟩
                rw [← HLL.out, ← HY3.out]
                go_wp2_with fail
                go_ret
                exact ⟨ret_int (by rfl), rfl⟩
            · rw [hsg]
              go_wp2_with fail
              rw [show (e : Int) + 1 = ((e + 1 : Nat) : Int) by omega]
              refine (r_byteAt s (e + 1) _ (by omega)).mono ?_
              rintro e' w2 ⟨rfl, rfl⟩
              rw [← HLL.out, hsg]
              go_wp2_with fail
              first | rw [show (e : Int) + 1 + 1 = ((e + 2 : Nat) : Int) by omega] | rw [show (e : Int) + 2 = ((e + 2 : Nat) : Int) by omega]
              refine (r_byteAt s (e + 2) _ (by omega)).mono ?_
              rintro e' w2 ⟨rfl, rfl⟩
              rw [← HLL.out]
              have hp := HDP.out (e + 2)
              have hq := HDN.out (e + 2)
              have HP := Lib.hid hp
              have HQ := Lib.hid hq
              clear hp hq
              generalize Lex.byteN l (e + 2) = b3 at *
              go_wp2_with fail
              refine (r_digit b3 _).mono ?_
              rintro e' w2 ⟨rfl, rfl⟩
              cases hdb : Lex.dig b3
              · have hz := HQ.out hdb
                have hY := HY2.out
                rw [show e + 1 + 1 = e + 2 from rfl, if_neg (by omega)] at hY
                clear hz HY2
                go_wp2_with fail
                go_ret
                exact ⟨ret_int (by omega), rfl⟩
              · have hz := HP.out hdb
                have hY := HY2.out
                rw [show e + 1 + 1 = e + 2 from rfl, if_pos (by omega)] at hY
                have HY3 := Lib.hid hY
                clear hz HY2 hY
                go_wp2_with fail
                first | rw [show (e : Int) + 1 + 1 = ((e + 2 : Nat) : Int) by omega] | rw [show (e : Int) + 2 = ((e + 2 : Nat) : Int) by omega]
                refine (r_digits s (e + 2) _ (by omega) (by omega)).mono ?_
                rintro e' w2 ⟨rfl, rfl⟩
                rw [← HLL.out, ← HY3.out]
                go_wp2_with fail
                go_ret
                exact ⟨ret_int (by rfl), rfl⟩
          · have hY := HY.out
            rw [if_neg hsg] at hY
            have HY2 := Lib.hid hY
            have g1 : (Lex.byteN l (e + 1) == 43) = false := by simp; omega
            have g2 : (Lex.byteN l (e + 1) == 45) = false := by simp; omega
            clear hY HY hsg
            go_wp2_with fail
            rw [show (e : Int) + 1 = ((e + 1 : Nat) : Int) by omega]
            refine (r_byteAt s (e + 1) _ (by omega)).mono ?_
            rintro e' w2 ⟨rfl, rfl⟩
            rw [← HLL.out]
            go_wp2_with fail
            first | rw [show (e : Int) + 1 = ((e + 1 : Nat) : Int) by omega] | rw [show (e : Int) + 1 = ((e + 1 : Nat) : Int) by omega]
            refine (r_byteAt s (e + 1) _ (by omega)).mono ?_
            rintro e' w2 ⟨rfl, rfl⟩
            rw [← HLL.out]
            have hp := HDP.out (e + 1)
            have hq := HDN.out (e + 1)
            have HP := Lib.hid hp
            have HQ := Lib.hid hq
            clear hp hq
            generalize Lex.byteN l (e + 1) = b3 at *
            go_wp2_with fail
            refine (r_digit b3 _).mono ?_
            rintro e' w2 ⟨rfl, rfl⟩
            cases hdb : Lex.dig b3
            · have hz := HQ.out hdb
              have hY := HY2.out
              rw [show e + 1 + 0 = e + 1 from rfl, if_neg (by omega)] at hY
              clear hz HY2
              go_wp2_with fail
              go_ret
              exact ⟨ret_int (by omega), rfl⟩
            · have hz := HP.out hdb
              have hY := HY2.out
              rw [show e + 1 + 0 = e + 1 from rfl, if_pos (by omega)] at hY
              have HY3 := Lib.hid hY
              clear hz HY2 hY
              go_wp2_with fail
              first | rw [show (e : Int) + 1 = ((e + 1 : Nat) : Int) by omega] | rw [show (e : Int) + 1 = ((e + 1 : Nat) : Int) by omega]
              refine (r_digits s (e + 1) _ (by omega) (by omega)).mono ?_
              rintro e' w2 ⟨rfl, rfl⟩
              rw [← HLL.out, ← HY3.out]
              go_wp2_with fail
              go_ret
              exact ⟨ret_int (by rfl), rfl⟩
        · rw [hc]
          go_wp2_with fail
          refine (r_byteAt s e _ (by omega)).mono ?_
          rintro e' w2 ⟨rfl, rfl⟩
          rw [← HLL.out, hc]
          go_wp2_with fail
          rw [show (e : Int) + 1 = ((e + 1 : Nat) : Int) by omega]
          refine (r_byteAt s (e + 1) _ (by omega)).mono ?_
          rintro e' w2 ⟨rfl, rfl⟩
          rw [← HLL.out]
          by_cases hsg : Lex.byteN l (e + 1) = 43 ∨ Lex.byteN l (e + 1) = 45
          · have hY := HY.out
            rw [if_pos hsg] at hY
            have HY2 := Lib.hid hY
            clear hY HY
            rcases hsg with hsg | hsg
            · rw [hsg]
              go_wp2_with fail
              first | rw [show (e : Int) + 1 + 1 = ((e + 2 : Nat) : Int) by omega] | rw [show (e : Int) + 2 = ((e + 2 : Nat) : Int) by omega]
              refine (r_byteAt s (e + 2) _ (by omega)).mono ?_
              rintro e' w2 ⟨rfl, rfl⟩
              rw [← HLL.out]
              have hp := HDP.out (e + 2)
              have hq := HDN.out (e + 2)
              have HP := Lib.hid hp
              have HQ := Lib.hid hq
              clear hp hq
              generalize Lex.byteN l (e + 2) = b3 at *
              go_wp2_with fail
              refine (r_digit b3 _).mono ?_
              rintro e' w2 ⟨rfl, rfl⟩
              cases hdb : Lex.dig b3
              · have hz := HQ.out hdb
                have hY := HY2.out
                rw [show e + 1 + 1 = e + 2 from rfl, if_neg (by omega)] at hY
                clear hz HY2
                go_wp2_with fail
                go_ret
                exact ⟨ret_int (by omega), rfl⟩
              · have hz := HP.out hdb
                have hY := HY2.out
                rw [show e + 1 + 1 = e + 2 from rfl, if_pos (by omega)] at hY
                have HY3 := Lib.hid hY
                clear hz HY2 hY
                go_wp2_with fail
                first | rw [show (e : Int) + 1 + 1 = ((e + 2 : Nat) : Int) by omega] | rw [show (e : Int) + 2 = ((e + 2 : Nat) : Int) by omega]
                refine (r_digits s (e + 2) _ (by omega) (by omega)).mono ?_
                rintro e' w2 ⟨rfl, rfl⟩
                rw [← HLL.out, ← HY3.out]
                go_wp2_with fail
                go_ret
                exact ⟨ret_int (by rfl), rfl⟩
            · rw [hsg]
              go_wp2_with fail
              rw [show (e : Int) + 1 = ((e + 1 : Nat) : Int) by omega]
              refine (r_byteAt s (e + 1) _ (by omega)).mono ?_
              rintro e' w2 ⟨rfl, rfl⟩
              rw [← HLL.out, hsg]
              go_wp2_with fail
              first | rw [show (e : Int) + 1 + 1 = ((e + 2 : Nat) : Int) by omega] | rw [show (e : Int) + 2 = ((e + 2 : Nat) : Int) by omega]
              refine (r_byteAt s (e + 2) _ (by omega)).mono ?_
              rintro e' w2 ⟨rfl, rfl⟩
              rw [← HLL.out]
              have hp := HDP.out (e + 2)
              have hq := HDN.out (e + 2)
              have HP := Lib.hid hp
              have HQ := Lib.hid hq
              clear hp hq
              generalize Lex.byteN l (e + 2) = b3 at *
              go_wp2_with fail
              refine (r_digit b3 _).mono ?_
              rintro e' w2 ⟨rfl, rfl⟩
              cases hdb : Lex.dig b3
              · have hz := HQ.out hdb
                have hY := HY2.out
                rw [show e + 1 + 1 = e + 2 from rfl, if_neg (by omega)] at hY
                clear hz HY2
                go_wp2_with fail
                go_ret
                exact ⟨ret_int (by omega), rfl⟩
              · have hz := HP.out hdb
                have hY := HY2.out
                rw [show e + 1 + 1 = e + 2 from rfl, if_pos (by omega)] at hY
                have HY3 := Lib.hid hY
                clear hz HY2 hY
                go_wp2_with fail
                first | rw [show (e : Int) + 1 + 1 = ((e + 2 : Nat) : Int) by omega] | rw [show (e : Int) + 2 = ((e + 2 : Nat) : Int) by omega]
                refine (r_digits s (e + 2) _ (by omega) (by omega)).mono ?_
                rintro e' w2 ⟨rfl, rfl⟩
                rw [← HLL.out, ← HY3.out]
                go_wp2_with fail
                go_ret
                exact ⟨ret_int (by rfl), rfl⟩
          · have hY := HY.out
            rw [if_neg hsg] at hY
            have HY2 := Lib.hid hY
            have g1 : (Lex.byteN l (e + 1) == 43) = false := by simp; omega
            have g2 : (Lex.byteN l (e + 1) == 45) = false := by simp; omega
            clear hY HY hsg
            go_wp2_with fail
            rw [show (e : Int) + 1 = ((e + 1 : Nat) : Int) by omega]
            refine (r_byteAt s (e + 1) _ (by omega)).mono ?_
            rintro e' w2 ⟨rfl, rfl⟩
            rw [← HLL.out]
            go_wp2_with fail
            first | rw [show (e : Int) + 1 = ((e + 1 : Nat) : Int) by omega] | rw [show (e : Int) + 1 = ((e + 1 : Nat) : Int) by omega]
            refine (r_byteAt s (e + 1) _ (by omega)).mono ?_
            rintro e' w2 ⟨rfl, rfl⟩
            rw [← HLL.out]
            have hp := HDP.out (e + 1)
            have hq := HDN.out (e + 1)
            have HP := Lib.hid hp
            have HQ := Lib.hid hq
            clear hp hq
            generalize Lex.byteN l (e + 1) = b3 at *
            go_wp2_with fail
            refine (r_digit b3 _).mono ?_
            rintro e' w2 ⟨rfl, rfl⟩
            cases hdb : Lex.dig b3
            · have hz := HQ.out hdb
              have hY := HY2.out
              rw [show e + 1 + 0 = e + 1 from rfl, if_neg (by omega)] at hY
              clear hz HY2
              go_wp2_with fail
              go_ret
              exact ⟨ret_int (by omega), rfl⟩
            · have hz := HP.out hdb
              have hY := HY2.out
              rw [show e + 1 + 0 = e + 1 from rfl, if_pos (by omega)] at hY
              have HY3 := Lib.hid hY
              clear hz HY2 hY
              go_wp2_with fail
              first | rw [show (e : Int) + 1 = ((e + 1 : Nat) : Int) by omega] | rw [show (e : Int) + 1 = ((e + 1 : Nat) : Int) by omega]
              refine (r_digits s (e + 1) _ (by omega) (by omega)).mono ?_
              rintro e' w2 ⟨rfl, rfl⟩
              rw [← HLL.out, ← HY3.out]
              go_wp2_with fail
              go_ret
              exact ⟨ret_int (by rfl), rfl⟩
      · have hN := HNO.out hc
        rw [← HT.out] at hN
        have h1 : (Lex.byteN l e == 101) = false := by simp; omega
        have h2 : (Lex.byteN l e == 69) = false := by simp; omega
        clear HNO HYES HT hc
        subst hN
        have HLL2 := Lib.hid HLL.out
        generalize hbe : Lex.byteN l T = b1 at *
        go_wp2_with fail
        refine (r_byteAt s T _ (by omega)).mono ?_
        rintro e' w2 ⟨rfl, rfl⟩
        rw [← HLL2.out, hbe]
        go_wp2_with fail
        go_ret
        exact ⟨ret_int (by rfl), rfl⟩

end Go.Proofs.YtmapjahpjolmnaaGreatDoor
