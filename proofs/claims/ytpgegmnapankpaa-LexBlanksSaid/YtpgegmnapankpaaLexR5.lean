/- The walk of the reference's quoted. (Printed by gen_rquot.py.) -/
import Derived.Test.YtpgegmnapankpaaLexQ
namespace Go.Proofs.Ytpgegmnapankpaa
open Go.RowKit

def bsA (l : List UInt8) : ByteArray := ⟨l.toArray⟩
theorem bsA_app (l : List UInt8) (x : ByteArray) : bsA l ++ x = bsA (l ++ x.data.toList) := by
  apply bytes_ext
  simp [bsA]
theorem bsA_size (l : List UInt8) : (bsA l).size = l.length := rfl
theorem rchar {s : ByteArray} {l : List UInt8} (h : l = s.data.toList) {n : Nat} (hn : n < s.size) (hn' : n < l.length) : l[n] = s[n] := by subst h; rfl
def rquotV : Option (List UInt8 × Nat) → ByteArray × Int
  | some p => (bsA p.1, p.2)
  | none => (⟨#[]⟩, -1)
set_option maxRecDepth 20000 in
set_option maxHeartbeats 4000000 in
theorem r_quoted (s : ByteArray) (a : Nat) (q : UInt8) (w : World) (hs : s.size ≤ 4294967) (h0 : a < s.size) (hq : s[a] = q) (hq2 : q.toNat = 34 ∨ q.toNat = 47) :
    Calls Try.prog 32 #[.string s, .int .i64 a] w fun e w' => e = .returned (.tuple #[.string (rquotV ((Lex.quoted (s.data.toList.drop a)).map fun p => (p.1, a + p.2))).1, .int .i64 (rquotV ((Lex.quoted (s.data.toList.drop a)).map fun p => (p.1, a + p.2))).2]) ∧ Below w.heap.size w w' := by
  have HLN : Hid (s.data.toList.length = s.size) := rfl
  obtain ⟨l, hL⟩ : ∃ l, l = s.data.toList := ⟨_, rfl⟩
  have HLL := Lib.hid hL
  rw [← hL] at HLN ⊢
  obtain ⟨R, hR⟩ : ∃ R, R = (Lex.quoted (l.drop a)).map fun p => (p.1, a + p.2) := ⟨_, rfl⟩
  have hg0 : Lex.Gone R q l (a + 1) [] := by
    unfold Lex.Gone
    have hal : a < l.length := by rw [HLN.out]; exact h0
    have h1 := List.drop_eq_getElem_cons hal
    rw [rchar hL h0, hq] at h1
    rw [hR, h1]
    simp [Lex.quoted, Option.map_map]
    congr 1
    funext p
    simp [Nat.add_assoc]
  rw [← hR]
  clear hL hR
  have HG0 := Lib.hid hg0
  have HQ2 := Lib.hid hq2
  have HE0 : Hid ((⟨#[]⟩ : ByteArray) = bsA []) := rfl
  clear hg0 hq2
  go_enter Try.func32, Try.ntmps32
  go_wp2_with fail
  go_loopw [1, 7] (fun i v wr => ∃ (n : Nat) (acc : List UInt8), 1 ≤ n ∧ n ≤ s.size ∧ i = .int .i64 n ∧ v = .string (bsA acc) ∧ acc.length ≤ n ∧ Below w.heap.size w wr ∧ Lex.Gone R q l n acc) (fun i _ _ => s.size - (intOf i).toNat)
  case atStart => exact ⟨a + 1, [], by omega, h0, by simp, rfl, by simp, Below.refl _ _, HG0.out⟩
  case round =>
    obtain ⟨n, acc, hn1, hns, rfl, rfl, hal, hbe, hgo⟩ := hrel
    have HGO := Lib.hid hgo
    have HBEL := Lib.hid hbe
    have hac : (bsA acc).size ≤ n := by rw [bsA_size]; exact hal
    clear hgo hbe
    obtain ⟨v, hv⟩ : ∃ v, v = bsA acc := ⟨_, rfl⟩
    rw [← hv] at hac ⊢
    have HVV := Lib.hid hv
    clear hv
    have hac2 : v.size ≤ 4294967 := by omega
    by_cases hlt : n < s.size
    · have hnl : n < l.length := by rw [HLN.out]; exact hlt
      obtain ⟨c, hc⟩ : ∃ c, s[n] = c := ⟨_, rfl⟩
      have hcl : l[n] = c := (rchar HLL.out hlt hnl).trans hc
      by_cases h10 : c.toNat = 10
      · have hr := HGO.out.line hnl (by rw [hcl]; exact h10)
        have hcb : ((c.toNat : Int) == 10) = true := by simp; omega
        have hcq10 : ((10 : Int) == (q.toNat : Int)) = false := by have := HQ2.out; simp; omega
        have hcq12 : ((10 : Int) != (q.toNat : Int)) = true := by have := HQ2.out; simp; omega
        have hcq11 : ((c.toNat : Int) == (q.toNat : Int)) = false := by have := HQ2.out; simp; omega
        have HR := Lib.hid hr
        clear hr hcl
        go_wp2_with fail
        all_goals refine bodyPost_ret (v := .tuple #[.string ⟨#[]⟩, .int .i64 (-1)]) (by simp [results, Try.results32, go_sem]) rfl ⟨by rw [HR.out]; rfl, HBEL.out⟩
      · have hcb : ((c.toNat : Int) == 10) = false := by simp; omega
        have hcbn : ((c.toNat : Int) != 10) = true := by simp; omega
        by_cases hcq : c.toNat = q.toNat
        · have hr := HGO.out.done hnl (by rw [hcl]; exact h10) (by rw [hcl]; exact hcq)
          have hcb2 : ((c.toNat : Int) == (q.toNat : Int)) = true := by simp; omega
          have HR := Lib.hid hr
          clear hr hcl
          go_wp2_with fail
          refine bodyPost_ret (v := .tuple #[.string v, .int .i64 ((n : Int) + 1)]) (by simp [results, Try.results32, go_sem]) rfl ⟨by rw [HR.out, HVV.out]; rfl, HBEL.out⟩
        · have hcb2 : ((c.toNat : Int) == (q.toNat : Int)) = false := by simp; omega
          have hcb2n : ((c.toNat : Int) != (q.toNat : Int)) = true := by simp; omega
          by_cases h92 : c.toNat = 92
          · have hcb3 : ((c.toNat : Int) == 92) = true := by simp; omega
            have hcb3n : ((c.toNat : Int) != 92) = false := by simp; omega
            have hq92n : ((92 : Int) != (q.toNat : Int)) = true := by have := HQ2.out; simp; omega
            have hq92 : ((92 : Int) == (q.toNat : Int)) = false := by have := HQ2.out; simp; omega
            by_cases hn2 : n + 1 < s.size
            · obtain ⟨d, hd⟩ : ∃ d, s[n + 1] = d := ⟨_, rfl⟩
              have hdl : Lex.byteN l (n + 1) = (d.toNat : Int) := by rw [Lex.byteN_in (by rw [HLN.out]; exact hn2), rchar HLL.out hn2, hd]
              have hn3 : ¬ (s.size : Int) ≤ (n : Int) + 1 := by omega
              by_cases hd10 : d.toNat = 10
              · have hr := HGO.out.bad hnl (by rw [hcl]; exact h10) (by rw [hcl]; exact hcq) (by rw [hcl]; exact h92) (.inr (by rw [hdl]; omega))
                have hdb : ((d.toNat : Int) == 10) = true := by simp; omega
                have HR := Lib.hid hr
                clear hr hcl hdl
                go_wp2_with fail
                all_goals refine bodyPost_ret (v := .tuple #[.string ⟨#[]⟩, .int .i64 (-1)]) (by simp [results, Try.results32, go_sem]) rfl ⟨by rw [HR.out]; rfl, HBEL.out⟩
              · have hgm := HGO.out.mark (by rw [HLN.out]; exact hn2) (by rw [hcl]; exact h10) (by rw [hcl]; exact hcq) (by rw [hcl]; exact h92) (by rw [hdl]; omega)
                have hdb : ((d.toNat : Int) == 10) = false := by simp; omega
                have hsl := Lex.say_le q (l := l.drop n) (by rw [List.length_drop, HLN.out]; omega)
                rw [List.length_drop, HLN.out] at hsl
                obtain ⟨hsl1, hsl2⟩ := hsl
                have hsl3 := Lex.say_ge q (l.drop n)
                have HGM := Lib.hid hgm
                have hb1d : Lex.byteN (l.drop n) 1 = (d.toNat : Int) := by rw [Lex.byteN_drop]; exact hdl
                have HSAY : Hid (Lex.say q (l.drop n) = if q.toNat = 34 then ((Lex.markL (l.drop n)).1.data.toList, (Lex.markL (l.drop n)).2) else if (d.toNat : Int) = 47 then ([47], 2) else ((l.drop n).take 2, 2)) := by unfold Hid Lex.say; rw [hb1d]
                clear hgm hcl hdl hb1d HGO
                by_cases hq34 : q.toNat = 34
                · have hqb : ((q.toNat : Int) == 47) = false := by simp; omega
                  have hse := HSAY.out
                  rw [if_pos hq34] at hse
                  have HSE := Lib.hid hse
                  clear hse HSAY hq34
                  go_wp2_with fail
                  refine (r_mark s n _ hs (by omega)).mono ?_
                  rintro e w3 ⟨rfl, hb3⟩
                  rw [← HLL.out]
                  generalize hmk : Lex.markL (l.drop n) = mk at *
                  clear hmk
                  have HBE5 := Lib.hid (HBEL.out.trans (hb3.mono HBEL.out.size))
                  rw [HSE.out] at hsl1 hsl2 hsl3
                  have hk1 : mk.2 ≤ s.size - n := hsl1
                  have hk2 : mk.1.size ≤ mk.2 := hsl2
                  have hk3 : 2 ≤ mk.2 := hsl3
                  have hkl : mk.1.data.toList.length = mk.1.size := rfl
                  have HKL := Lib.hid hkl
                  have HAPP := Lib.hid (bsA_app acc mk.1)
                  clear hb3 hsl1 hsl2 hsl3 hkl
                  go_wp2_with fail
                  go_roundw
                  case rel => exact ⟨n + mk.2, acc ++ mk.1.data.toList, by omega, by omega, by go_num, by rw [HVV.out, HAPP.out], by rw [List.length_append, HKL.out]; omega, HBE5.out, by have := HGM.out; rw [HSE.out] at this; exact this⟩
                  case measure => simp [intOf]; omega
                · have hqb : ((q.toNat : Int) == 47) = true := by have := HQ2.out; simp; omega
                  have hse := HSAY.out
                  rw [if_neg hq34] at hse
                  by_cases hd47 : d.toNat = 47
                  · rw [if_pos (by omega)] at hse
                    have hdb2 : ((d.toNat : Int) == 47) = true := by simp; omega
                    have HSE := Lib.hid hse
                    have HAPP := Lib.hid (bsA_app acc ⟨#[47]⟩)
                    clear hse HSAY hq34 hsl1 hsl2 hsl3
                    go_wp2_with fail
                    go_roundw
                    case rel => exact ⟨n + 2, acc ++ [47], by omega, by omega, by go_num, by rw [HVV.out, HAPP.out], by rw [List.length_append]; simp; omega, HBEL.out, by have := HGM.out; rw [HSE.out] at this; exact this⟩
                    case measure => simp [intOf]; omega
                  · rw [if_neg (by omega)] at hse
                    have hdb2 : ((d.toNat : Int) == 47) = false := by simp; omega
                    have hx : (s.extract n (n + 2)).data.toList = (l.drop n).take 2 := by
                      rw [HLL.out, ByteArray.data_extract, Array.toList_extract]
                      simp [List.extract]
                    have HAPP := Lib.hid (bsA_app acc (s.extract n (n + 2)))
                    have HX := Lib.hid hx
                    have HSE := Lib.hid hse
                    clear hse HSAY hq34 hsl1 hsl2 hsl3 hx
                    go_wp2_with fail
                    go_roundw
                    case rel => exact ⟨n + 2, acc ++ (s.extract n (n + 2)).data.toList, by omega, by omega, by go_num, by rw [HVV.out, HAPP.out], by rw [List.length_append, HX.out]; simp; omega, HBEL.out, by have := HGM.out; rw [HSE.out] at this; rw [HX.out]; exact this⟩
                    case measure => simp [intOf]; omega
            · have hr := HGO.out.bad hnl (by rw [hcl]; exact h10) (by rw [hcl]; exact hcq) (by rw [hcl]; exact h92) (.inl (by rw [HLN.out]; omega))
              have hn3 : (s.size : Int) ≤ (n : Int) + 1 := by omega
              have HR := Lib.hid hr
              clear hr hcl
              go_wp2_with fail
              all_goals refine bodyPost_ret (v := .tuple #[.string ⟨#[]⟩, .int .i64 (-1)]) (by simp [results, Try.results32, go_sem]) rfl ⟨by rw [HR.out]; rfl, HBEL.out⟩
          · have hcb3 : ((c.toNat : Int) == 92) = false := by simp; omega
            have hcb3n : ((c.toNat : Int) != 92) = true := by simp; omega
            have hgm := HGO.out.byte hnl (by rw [hcl]; exact h10) (by rw [hcl]; exact hcq) (by rw [hcl]; exact h92)
            have hx : (s.extract n (n + 1)).data.toList = [l[n]] := by
              rw [ByteArray.data_extract, Array.toList_extract]
              have h1 := List.drop_eq_getElem_cons hnl
              have h2 := HLL.out
              show (s.data.toList.extract n (n + 1)) = _
              rw [← h2, List.extract, h1]
              rw [Nat.add_sub_cancel_left]
              rfl
            have HAPP := Lib.hid (bsA_app acc (s.extract n (n + 1)))
            have HX := Lib.hid hx
            have HGM := Lib.hid hgm
            clear hgm hcl HGO hx
            go_wp2_with fail
            go_roundw
            case rel => exact ⟨n + 1, acc ++ (s.extract n (n + 1)).data.toList, by omega, by omega, by go_num, by rw [HVV.out, HAPP.out], by rw [List.length_append, HX.out]; simp; omega, HBEL.out, by rw [HX.out]; exact HGM.out⟩
            case measure => simp [intOf]; omega
    · have hr := HGO.out.over (by rw [HLN.out]; omega)
      have HR := Lib.hid hr
      clear hr
      go_wp2_with fail
      all_goals refine bodyPost_ret (v := .tuple #[.string ⟨#[]⟩, .int .i64 (-1)]) (by simp [results, Try.results32, go_sem]) rfl ⟨by rw [HR.out]; rfl, HBEL.out⟩
end Go.Proofs.Ytpgegmnapankpaa
