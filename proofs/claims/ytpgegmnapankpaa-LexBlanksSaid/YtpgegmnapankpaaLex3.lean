/- The walks of lex: numbers. -/
import Derived.Test.YtpgegmnapankpaaLex2
import Derived.Deep.Cut
namespace Go.Proofs.Ytpgegmnapankpaa
open Go.RowKit

namespace Lex
theorem num1_no {l : List UInt8} (h : ¬ ∃ r, l.drop (runL dig l) = 46 :: r) : num1 l = runL dig l := by
  unfold num1
  dsimp only
  split
  · rfl
  · rename_i c r hd
    rw [if_neg]
    rintro ⟨h1, -⟩
    exact h ⟨r, by rw [hd, show c = 46 from UInt8.toNat_inj.1 h1]⟩
theorem num1_dot {l r : List UInt8} (h : l.drop (runL dig l) = 46 :: r) : num1 l = if 0 < runL dig l + runL dig r then runL dig l + 1 + runL dig r else runL dig l := by
  unfold num1
  simp only [h]
  rw [show (46 : UInt8).toNat = 46 from rfl]
  simp
theorem num1_le (l : List UInt8) : num1 l ≤ l.length := by
  have h := runL_le dig l
  by_cases hd : ∃ r, l.drop (runL dig l) = 46 :: r
  · obtain ⟨r, hr⟩ := hd
    rw [num1_dot hr]
    have h1 : (l.drop (runL dig l)).length = r.length + 1 := by rw [hr]; rfl
    have h2 := runL_le dig r
    rw [List.length_drop] at h1
    split <;> omega
  · rw [num1_no hd]; exact h
theorem numL_zero {l : List UInt8} (h : num1 l = 0) : numL l = 0 := by unfold numL; simp [h]
theorem numL_end {l : List UInt8} (h : num1 l ≠ 0) (h1 : num1 l = l.length) : numL l = num1 l := by
  unfold numL
  simp only [h, if_false]
  rw [List.drop_eq_nil_of_le (by omega)]
theorem numL_no {l : List UInt8} {c : UInt8} {r : List UInt8} (h : num1 l ≠ 0) (h1 : l.drop (num1 l) = c :: r) (h2 : ¬ (c.toNat = 101 ∨ c.toNat = 69)) : numL l = num1 l := by
  unfold numL
  simp only [h, if_false, h1, h2]
theorem numL_yes {l : List UInt8} {c : UInt8} {r : List UInt8} (h : num1 l ≠ 0) (h1 : l.drop (num1 l) = c :: r) (h2 : c.toNat = 101 ∨ c.toNat = 69) : numL l = if 0 < runL dig (r.drop (signL r)) then num1 l + 1 + signL r + runL dig (r.drop (signL r)) else num1 l := by
  unfold numL
  simp only [h, if_false, h1, h2, if_true]
theorem signL_le (r : List UInt8) : signL r ≤ r.length := by
  unfold signL
  cases r with
  | nil => simp
  | cons d r => dsimp only; split <;> simp
theorem numL_le (l : List UInt8) : numL l ≤ l.length := by
  have h := num1_le l
  by_cases h0 : num1 l = 0
  · rw [numL_zero h0]; omega
  · cases hd : l.drop (num1 l) with
    | nil =>
      have h1 : (l.drop (num1 l)).length = 0 := by rw [hd]; rfl
      rw [List.length_drop] at h1
      rw [numL_end h0 (by omega)]; omega
    | cons c r =>
      by_cases h2 : c.toNat = 101 ∨ c.toNat = 69
      · rw [numL_yes h0 hd h2]
        have h1 : (l.drop (num1 l)).length = r.length + 1 := by rw [hd]; rfl
        rw [List.length_drop] at h1
        have h3 := signL_le r
        have h4 := runL_le dig (r.drop (signL r))
        rw [List.length_drop] at h4
        split <;> omega
      · rw [numL_no h0 hd h2]; exact h
end Lex
theorem or_lem (c : UInt8) : (bits BinOp.or IntKind.u8 (c.toNat : Int) 32 == 101) = decide (c.toNat = 101 ∨ c.toNat = 69) := by
  have h : ∀ n : Nat, n < 256 → (bits BinOp.or IntKind.u8 (n : Int) 32 == 101) = decide (n = 101 ∨ n = 69) := by decide +kernel
  exact h _ (by have := c.toNat_lt; omega)
theorem ext2 (s : ByteArray) (n k : Nat) : ((s.extract n s.size).extract k (s.size - n)).data.toList = s.data.toList.drop (n + k) := by
  have := ext_drop (s.extract n s.size) k
  rw [ext_size, ext_drop, List.drop_drop] at this
  exact this
theorem getL0 {L : List UInt8} {c : UInt8} {r : List UInt8} (e : L = c :: r) (h : 0 < L.length) : L[0] = c := by subst e; rfl
theorem getL1 {L : List UInt8} {c d : UInt8} {r : List UInt8} (e : L = c :: d :: r) (h : 1 < L.length) : L[1] = d := by subst e; rfl
theorem ext_get {s : ByteArray} {n : Nat} {c : UInt8} {r : List UInt8} (h : s.data.toList.drop n = c :: r) (h0 : 0 < (s.extract n s.size).size) : (s.extract n s.size)[0]'h0 = c := by
  have h1 := ext_drop s n
  rw [h] at h1
  exact getL0 h1 (by simpa using h0)
theorem ext_get1 {s : ByteArray} {n : Nat} {c d : UInt8} {r : List UInt8} (h : s.data.toList.drop n = c :: d :: r) (h0 : 1 < (s.extract n s.size).size) : (s.extract n s.size)[1]'h0 = d := by
  have h1 := ext_drop s n
  rw [h] at h1
  exact getL1 h1 (by simpa using h0)
theorem toList_empty (s : ByteArray) : s.toList.isEmpty = s.data.toList.isEmpty := by
  have h := tolist_beq s ⟨#[]⟩
  have h0 : (⟨#[]⟩ : ByteArray).toList = [] := by unfold ByteArray.toList; unfold ByteArray.toList.loop; rfl
  rw [h0] at h
  cases h1 : s.toList <;> cases h2 : s.data.toList <;> simp_all
set_option maxHeartbeats 1000000 in
theorem x_num (s : ByteArray) (w : World) (hs : s.size ≤ 4294967296) :
    Calls Try.prog 25 #[.string s] w fun e w' => e = .returned (.int .i64 (Lex.numL s.data.toList)) ∧ w = w' := by
  obtain ⟨l, hl⟩ : ∃ l, l = s.data.toList := ⟨_, rfl⟩
  have hl' : l.length = s.size := by subst hl; rfl
  rw [← hl]
  have HL := Lib.hid hl
  have HLL := Lib.hid hl'
  have hle := Lex.num1_le l
  rw [hl'] at hle
  clear hl hl'
  go_enter Try.func25, Try.ntmps25
  go_wp2_with fail
  refine (x_run s Lex.dig 22 enters_digit x_digit w (by omega)).mono ?_
  rintro e w2 ⟨rfl, rfl⟩
  rw [← HL.out]
  have hn := Lex.runL_le Lex.dig l
  rw [HLL.out] at hn
  have HN0 := Lib.hid (@Lex.num1_no l)
  have HN1 := Lib.hid (fun r => @Lex.num1_dot l r)
  have hr1 := ext_drop s (Lex.runL Lex.dig l)
  have hr2 := ext_size s (Lex.runL Lex.dig l)
  have hq1 := ext_drop s (Lex.runL Lex.dig l + 1)
  rw [← HL.out] at hr1 hq1
  have HR := Lib.hid hr1
  have HQ := Lib.hid hq1
  clear hr1 hq1
  generalize hne : Lex.runL Lex.dig l = n at *
  clear hne
  go_wp2_with fail
  refine (Try.strings_HasPrefix _ ⟨#[46]⟩ _).mono ?_
  rintro e w2 ⟨rfl, rfl⟩
  rw [HR.out]
  cases hp : Lib.hasPrefix (l.drop n) (⟨#[46]⟩ : ByteArray).data.toList
  · have HE : Hid (Lex.num1 l = n) := HN0.out fun h => by rw [← pre1] at h; rw [show Lib.hasPrefix (l.drop n) [46] = false from hp] at h; cases h
    clear hp HN0 HN1 HQ HR hr2
    go_upto_region 6 with fail
    generalize n = m at *
    by_cases hm0 : m = 0
    · subst hm0
      have hz := Lex.numL_zero HE.out
      go_wp2_with fail
      go_ret
      exact ⟨ret_int (by rw [hz]; rfl), rfl⟩
    have hne0 : Lex.num1 l ≠ 0 := by rw [HE.out]; exact hm0
    have HNE := Lib.hid hne0
    clear hne0
    rcases hd : l.drop m with _ | ⟨c, r⟩
    · have hlen : (l.drop m).length = 0 := by rw [hd]; rfl
      rw [List.length_drop, HLL.out] at hlen
      have hz := Lex.numL_end HNE.out (by rw [HE.out, HLL.out]; omega)
      have hx : (s.extract m s.size).toList.isEmpty = true := by rw [toList_empty, ext_drop, ← HL.out, hd]; rfl
      have HZ := Lib.hid hz
      clear hd hz
      go_wp2_with fail
      go_ret
      exact ⟨ret_int (by rw [HZ.out, HE.out]), rfl⟩
    · have hlen : (l.drop m).length = r.length + 1 := by rw [hd]; rfl
      rw [List.length_drop, HLL.out] at hlen
      have hx : (s.extract m s.size).toList.isEmpty = false := by rw [toList_empty, ext_drop, ← HL.out, hd]; rfl
      have hd' := hd
      rw [HL.out] at hd'
      have hg := ext_get hd'
      have hor := or_lem c
      have hx2 := ext2 s m
      rw [← HL.out] at hx2
      have HX2 := Lib.hid hx2
      have HY := Lib.hid (fun h => Lex.numL_yes HNE.out (by rw [HE.out]; exact hd) h)
      have HNO := Lib.hid (fun h => Lex.numL_no HNE.out (by rw [HE.out]; exact hd) h)
      clear hx2
      by_cases hc : c.toNat = 101 ∨ c.toNat = 69
      · rw [decide_eq_true hc] at hor
        have HY' := Lib.hid (HY.out hc)
        clear HY HNO hc
        rcases hr : r with _ | ⟨d, r2⟩
        · subst hr
          have hl1 : s.size - m ≤ 1 := by simp at hlen; omega
          have hl0 : 0 < s.size - m := by omega
          have HLEN := Lib.hid hlen
          clear hlen
          have HD := Lib.hid hd
          clear hd hd'
          go_wp2_with fail
          refine (x_run _ Lex.dig 22 enters_digit x_digit _ (by simp; omega)).mono ?_
          rintro e w3 ⟨rfl, rfl⟩
          rw [show ((s.extract m s.size).extract 1 (s.size - m)).data.toList = [] by rw [HX2.out, ← List.drop_drop, HD.out]; rfl]
          go_wp2_with fail
          go_ret
          exact ⟨ret_int (by rw [HY'.out, HE.out]; simp [Lex.signL, Lex.runL_nil]), rfl⟩
        · subst hr
          have hg1 := ext_get1 hd'
          have hl1 : 2 ≤ s.size - m := by simp at hlen; omega
          have hl0 : 0 < s.size - m := by omega
          have HLEN := Lib.hid hlen
          clear hlen
          have HD := Lib.hid hd
          clear hd hd'
          by_cases hs1 : d.toNat = 43
          · have hsg : Lex.signL (d :: r2) = 1 := by simp [Lex.signL, hs1]
            have hbl := Lex.runL_le Lex.dig (l.drop (m + 2))
            rw [List.length_drop, HLL.out] at hbl
            go_wp2_with fail
            refine (x_run _ Lex.dig 22 enters_digit x_digit _ (by simp; omega)).mono ?_
            rintro e w3 ⟨rfl, rfl⟩
            rw [HX2.out]
            have hdr : (d :: r2).drop (Lex.signL (d :: r2)) = l.drop (m + 2) := by rw [hsg, ← List.drop_drop, HD.out]; rfl
            have HY2 := Lib.hid HY'.out
            rw [hdr, hsg] at HY2
            clear hdr hsg HY'
            generalize Lex.runL Lex.dig (l.drop (m + 2)) = q at *
            by_cases hq : 0 < q
            · rw [if_pos hq] at HY2
              go_wp2_with fail
              go_ret
              exact ⟨ret_int (by rw [HY2.out, HE.out]; omega), rfl⟩
            · rw [if_neg hq] at HY2
              go_wp2_with fail
              go_ret
              exact ⟨ret_int (by rw [HY2.out, HE.out]), rfl⟩
          · by_cases hs2 : d.toNat = 45
            · have hsg : Lex.signL (d :: r2) = 1 := by simp [Lex.signL, hs2]
              have hbl := Lex.runL_le Lex.dig (l.drop (m + 2))
              rw [List.length_drop, HLL.out] at hbl
              go_wp2_with fail
              refine (x_run _ Lex.dig 22 enters_digit x_digit _ (by simp; omega)).mono ?_
              rintro e w3 ⟨rfl, rfl⟩
              rw [HX2.out]
              have hdr : (d :: r2).drop (Lex.signL (d :: r2)) = l.drop (m + 2) := by rw [hsg, ← List.drop_drop, HD.out]; rfl
              have HY2 := Lib.hid HY'.out
              rw [hdr, hsg] at HY2
              clear hdr hsg HY'
              generalize Lex.runL Lex.dig (l.drop (m + 2)) = q at *
              by_cases hq : 0 < q
              · rw [if_pos hq] at HY2
                go_wp2_with fail
                go_ret
                exact ⟨ret_int (by rw [HY2.out, HE.out]; omega), rfl⟩
              · rw [if_neg hq] at HY2
                go_wp2_with fail
                go_ret
                exact ⟨ret_int (by rw [HY2.out, HE.out]), rfl⟩
            · have h43 : ((d.toNat : Int) == 43) = false := by simp; omega
              have h45 : ((d.toNat : Int) == 45) = false := by simp; omega
              have hsg : Lex.signL (d :: r2) = 0 := by simp [Lex.signL, hs1, hs2]
              have hbl := Lex.runL_le Lex.dig (l.drop (m + 1))
              rw [List.length_drop, HLL.out] at hbl
              go_wp2_with fail
              refine (x_run _ Lex.dig 22 enters_digit x_digit _ (by simp; omega)).mono ?_
              rintro e w3 ⟨rfl, rfl⟩
              rw [HX2.out]
              have hdr : (d :: r2).drop (Lex.signL (d :: r2)) = l.drop (m + 1) := by rw [hsg, ← List.drop_drop, HD.out]; rfl
              have HY2 := Lib.hid HY'.out
              rw [hdr, hsg] at HY2
              clear hdr hsg HY'
              generalize Lex.runL Lex.dig (l.drop (m + 1)) = q at *
              by_cases hq : 0 < q
              · rw [if_pos hq] at HY2
                go_wp2_with fail
                go_ret
                exact ⟨ret_int (by rw [HY2.out, HE.out]; omega), rfl⟩
              · rw [if_neg hq] at HY2
                go_wp2_with fail
                go_ret
                exact ⟨ret_int (by rw [HY2.out, HE.out]), rfl⟩
      · rw [decide_eq_false hc] at hor
        have HZ := Lib.hid (HNO.out hc)
        have hl0 : 0 < s.size - m := by omega
        clear hd hd' HY HNO hc hlen
        go_wp2_with fail
        go_ret
        exact ⟨ret_int (by rw [HZ.out, HE.out]), rfl⟩
  · obtain ⟨r', hr'⟩ := (pre1 _ _).1 (show Lib.hasPrefix (l.drop n) [46] = true from hp)
    have hlen0 : (l.drop n).length = r'.length + 1 := by rw [hr']; rfl
    rw [List.length_drop, HLL.out] at hlen0
    have h2 : l.drop (n + 1) = r' := by rw [← List.drop_drop, hr']; rfl
    have HE0 : Hid (Lex.num1 l = if 0 < n + Lex.runL Lex.dig r' then n + 1 + Lex.runL Lex.dig r' else n) := HN1.out _ hr'
    rw [h2] at HQ
    have hkl := Lex.runL_le Lex.dig r'
    clear hp HN0 HN1 HR hr2 hr' h2
    go_wp2_with fail
    refine (x_run _ Lex.dig 22 enters_digit x_digit _ (by simp; omega)).mono ?_
    rintro e w3 ⟨rfl, rfl⟩
    rw [HQ.out]
    generalize Lex.runL Lex.dig r' = k at *
    by_cases hnk : 0 < n + k
    · rw [if_pos hnk] at HE0
      go_upto_region 6 with fail
      rw [show (n : Int) + (1 + (k : Int)) = ((n + 1 + k : Nat) : Int) by omega]
      have HE := Lib.hid HE0.out
      clear HE0 hnk HQ
      have hm : n + 1 + k ≤ s.size := by omega
      clear hn hkl hlen0
      generalize n + 1 + k = m at *
      by_cases hm0 : m = 0
      · subst hm0
        have hz := Lex.numL_zero HE.out
        go_wp2_with fail
        go_ret
        exact ⟨ret_int (by rw [hz]; rfl), rfl⟩
      have hne0 : Lex.num1 l ≠ 0 := by rw [HE.out]; exact hm0
      have HNE := Lib.hid hne0
      clear hne0
      rcases hd : l.drop m with _ | ⟨c, r⟩
      · have hlen : (l.drop m).length = 0 := by rw [hd]; rfl
        rw [List.length_drop, HLL.out] at hlen
        have hz := Lex.numL_end HNE.out (by rw [HE.out, HLL.out]; omega)
        have hx : (s.extract m s.size).toList.isEmpty = true := by rw [toList_empty, ext_drop, ← HL.out, hd]; rfl
        have HZ := Lib.hid hz
        clear hd hz
        go_wp2_with fail
        go_ret
        exact ⟨ret_int (by rw [HZ.out, HE.out]), rfl⟩
      · have hlen : (l.drop m).length = r.length + 1 := by rw [hd]; rfl
        rw [List.length_drop, HLL.out] at hlen
        have hx : (s.extract m s.size).toList.isEmpty = false := by rw [toList_empty, ext_drop, ← HL.out, hd]; rfl
        have hd' := hd
        rw [HL.out] at hd'
        have hg := ext_get hd'
        have hor := or_lem c
        have hx2 := ext2 s m
        rw [← HL.out] at hx2
        have HX2 := Lib.hid hx2
        have HY := Lib.hid (fun h => Lex.numL_yes HNE.out (by rw [HE.out]; exact hd) h)
        have HNO := Lib.hid (fun h => Lex.numL_no HNE.out (by rw [HE.out]; exact hd) h)
        clear hx2
        by_cases hc : c.toNat = 101 ∨ c.toNat = 69
        · rw [decide_eq_true hc] at hor
          have HY' := Lib.hid (HY.out hc)
          clear HY HNO hc
          rcases hr : r with _ | ⟨d, r2⟩
          · subst hr
            have hl1 : s.size - m ≤ 1 := by simp at hlen; omega
            have hl0 : 0 < s.size - m := by omega
            have HLEN := Lib.hid hlen
            clear hlen
            have HD := Lib.hid hd
            clear hd hd'
            go_wp2_with fail
            refine (x_run _ Lex.dig 22 enters_digit x_digit _ (by simp; omega)).mono ?_
            rintro e w3 ⟨rfl, rfl⟩
            rw [show ((s.extract m s.size).extract 1 (s.size - m)).data.toList = [] by rw [HX2.out, ← List.drop_drop, HD.out]; rfl]
            go_wp2_with fail
            go_ret
            exact ⟨ret_int (by rw [HY'.out, HE.out]; simp [Lex.signL, Lex.runL_nil]), rfl⟩
          · subst hr
            have hg1 := ext_get1 hd'
            have hl1 : 2 ≤ s.size - m := by simp at hlen; omega
            have hl0 : 0 < s.size - m := by omega
            have HLEN := Lib.hid hlen
            clear hlen
            have HD := Lib.hid hd
            clear hd hd'
            by_cases hs1 : d.toNat = 43
            · have hsg : Lex.signL (d :: r2) = 1 := by simp [Lex.signL, hs1]
              have hbl := Lex.runL_le Lex.dig (l.drop (m + 2))
              rw [List.length_drop, HLL.out] at hbl
              go_wp2_with fail
              refine (x_run _ Lex.dig 22 enters_digit x_digit _ (by simp; omega)).mono ?_
              rintro e w3 ⟨rfl, rfl⟩
              rw [HX2.out]
              have hdr : (d :: r2).drop (Lex.signL (d :: r2)) = l.drop (m + 2) := by rw [hsg, ← List.drop_drop, HD.out]; rfl
              have HY2 := Lib.hid HY'.out
              rw [hdr, hsg] at HY2
              clear hdr hsg HY'
              generalize Lex.runL Lex.dig (l.drop (m + 2)) = q at *
              by_cases hq : 0 < q
              · rw [if_pos hq] at HY2
                go_wp2_with fail
                go_ret
                exact ⟨ret_int (by rw [HY2.out, HE.out]; omega), rfl⟩
              · rw [if_neg hq] at HY2
                go_wp2_with fail
                go_ret
                exact ⟨ret_int (by rw [HY2.out, HE.out]), rfl⟩
            · by_cases hs2 : d.toNat = 45
              · have hsg : Lex.signL (d :: r2) = 1 := by simp [Lex.signL, hs2]
                have hbl := Lex.runL_le Lex.dig (l.drop (m + 2))
                rw [List.length_drop, HLL.out] at hbl
                go_wp2_with fail
                refine (x_run _ Lex.dig 22 enters_digit x_digit _ (by simp; omega)).mono ?_
                rintro e w3 ⟨rfl, rfl⟩
                rw [HX2.out]
                have hdr : (d :: r2).drop (Lex.signL (d :: r2)) = l.drop (m + 2) := by rw [hsg, ← List.drop_drop, HD.out]; rfl
                have HY2 := Lib.hid HY'.out
                rw [hdr, hsg] at HY2
                clear hdr hsg HY'
                generalize Lex.runL Lex.dig (l.drop (m + 2)) = q at *
                by_cases hq : 0 < q
                · rw [if_pos hq] at HY2
                  go_wp2_with fail
                  go_ret
                  exact ⟨ret_int (by rw [HY2.out, HE.out]; omega), rfl⟩
                · rw [if_neg hq] at HY2
                  go_wp2_with fail
                  go_ret
                  exact ⟨ret_int (by rw [HY2.out, HE.out]), rfl⟩
              · have h43 : ((d.toNat : Int) == 43) = false := by simp; omega
                have h45 : ((d.toNat : Int) == 45) = false := by simp; omega
                have hsg : Lex.signL (d :: r2) = 0 := by simp [Lex.signL, hs1, hs2]
                have hbl := Lex.runL_le Lex.dig (l.drop (m + 1))
                rw [List.length_drop, HLL.out] at hbl
                go_wp2_with fail
                refine (x_run _ Lex.dig 22 enters_digit x_digit _ (by simp; omega)).mono ?_
                rintro e w3 ⟨rfl, rfl⟩
                rw [HX2.out]
                have hdr : (d :: r2).drop (Lex.signL (d :: r2)) = l.drop (m + 1) := by rw [hsg, ← List.drop_drop, HD.out]; rfl
                have HY2 := Lib.hid HY'.out
                rw [hdr, hsg] at HY2
                clear hdr hsg HY'
                generalize Lex.runL Lex.dig (l.drop (m + 1)) = q at *
                by_cases hq : 0 < q
                · rw [if_pos hq] at HY2
                  go_wp2_with fail
                  go_ret
                  exact ⟨ret_int (by rw [HY2.out, HE.out]; omega), rfl⟩
                · rw [if_neg hq] at HY2
                  go_wp2_with fail
                  go_ret
                  exact ⟨ret_int (by rw [HY2.out, HE.out]), rfl⟩
        · rw [decide_eq_false hc] at hor
          have HZ := Lib.hid (HNO.out hc)
          have hl0 : 0 < s.size - m := by omega
          clear hd hd' HY HNO hc hlen
          go_wp2_with fail
          go_ret
          exact ⟨ret_int (by rw [HZ.out, HE.out]), rfl⟩
    · rw [if_neg hnk] at HE0
      obtain rfl : n = 0 := by omega
      have hz := Lex.numL_zero HE0.out
      go_wp2_with fail
      go_ret
      exact ⟨ret_int (by rw [hz]; rfl), rfl⟩
end Go.Proofs.Ytpgegmnapankpaa
