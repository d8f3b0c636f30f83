/- The walk of lex.quoted. -/
import Derived.Test.YtpgegmnapankpaaLexQ
import Derived.Test.YtpgegmnapankpaaLex8
import Derived.Test.YtpgegmnapankpaaBld
namespace Go.Proofs.Ytpgegmnapankpaa
open Go.RowKit

def quotV : Option (List UInt8 × Nat) → ByteArray × Nat
  | some p => (⟨p.1.toArray⟩, p.2)
  | none => (⟨#[]⟩, 0)
theorem bchar {s : ByteArray} {l : List UInt8} (h : l = s.data.toList) {n : Nat} (hn : n < s.size) (hn' : n < l.length) : l[n] = s[n] := by subst h; rfl
theorem bld_at {T e : TypeId} {B b : Nat} {p : Value} {bs : List Value} {w w' : World} (h : Lib.BuilderAt T e B b p bs w) (hb : Below w.heap.size w w') : Lib.BuilderAt T e B b p bs w' := by
  have hlt := h.lt
  obtain ⟨h1, v, h2, h3, h4⟩ := h
  exact ⟨h1, v, (hb.block b hlt).trans h2, own_of_block h3 fun g hg => hb.block g (h3.lt g hg).2, h4⟩
theorem bld_keep {T e : TypeId} {B b : Nat} {bs : List Value} {w w' : World} (h : Lib.IsBuilder T e B b bs w) (hb : Below w.heap.size w w') : Lib.IsBuilder T e B b bs w' := by
  rcases h with h | h
  · exact .inl (bld_at h hb)
  · exact .inr (bld_at h hb)
set_option maxHeartbeats 4000000 in
theorem x_quoted (s : ByteArray) (q : UInt8) (w : World) (hs : s.size ≤ 4294967) (h0 : 0 < s.size) (hq : s[0] = q) (hq2 : q.toNat = 34 ∨ q.toNat = 47) :
    Calls Try.prog 26 #[.string s] w fun e w' => e = .returned (.tuple #[.string (quotV (Lex.quoted s.data.toList)).1, .int .i64 ((quotV (Lex.quoted s.data.toList)).2 : Nat)]) ∧ Below w.heap.size w w' := by
  have HLN : Hid (s.data.toList.length = s.size) := rfl
  obtain ⟨l, hL⟩ : ∃ l, l = s.data.toList := ⟨_, rfl⟩
  have HLL := Lib.hid hL
  rw [← hL] at HLN ⊢
  obtain ⟨R, hR⟩ : ∃ R, R = Lex.quoted l := ⟨_, rfl⟩
  have hg0 : Lex.Gone R q l 1 [] := by
    unfold Lex.Gone
    have hd : l = q :: l.drop 1 := by
      have h1 := List.drop_eq_getElem_cons (l := l) (i := 0) (by rw [HLN.out]; exact h0)
      rw [bchar hL h0, hq] at h1
      simpa using h1
    rw [hR]
    conv => rhs; rw [hd]
    simp [Lex.quoted]
  rw [← hR]
  clear hL hR
  have HG0 := Lib.hid hg0
  have HQ2 := Lib.hid hq2
  clear hg0 hq2
  have hbld := Lib.fresh_isBuilder 61 5 w
  have hb1 := (Below.refl w.heap.size w).alloc (Nat.le_refl _) (.cells #[.pointer none, .slice none 0 0] 61)
  have hsz1 : (w.alloc (.cells #[.pointer none, .slice none 0 0] 61)).heap.size = w.heap.size + 1 := by simp
  have HBLD := Lib.hid hbld
  have HB1 := Lib.hid hb1
  have HSZ := Lib.hid hsz1
  clear hbld hb1 hsz1
  go_enter Try.func26, Try.ntmps26
  go_wp2_with fail
  generalize w.alloc (.cells #[.pointer none, .slice none 0 0] 61) = w1 at *
  obtain ⟨B, hB⟩ : ∃ B, B = w.heap.size := ⟨_, rfl⟩
  have HBE := Lib.hid hB
  rw [← hB] at HBLD HB1 HSZ ⊢
  clear hB
  go_loopw [6] (fun i wr => ∃ (n : Nat) (acc : List UInt8), 1 ≤ n ∧ n ≤ s.size ∧ i = .int .i64 n ∧ acc.length ≤ n ∧ Lib.IsBuilder 61 5 B B (bvals acc) wr ∧ Below B w wr ∧ B ≤ wr.heap.size ∧ Lex.Gone R q l n acc) (fun i _ => s.size - (intOf i).toNat)
  case atStart => exact ⟨1, [], Nat.le_refl _, h0, rfl, by simp, HBLD.out, HB1.out, by have := HSZ.out; omega, HG0.out⟩
  case round =>
    obtain ⟨n, acc, hn1, hns, rfl, hal, hbl, hbe, hbs, hgo⟩ := hrel
    have HGO := Lib.hid hgo
    have HBL := Lib.hid hbl
    have HBEL := Lib.hid hbe
    clear hgo hbl hbe
    by_cases hlt : n < s.size
    · have hnl : n < l.length := by rw [HLN.out]; exact hlt
      obtain ⟨c, hc⟩ : ∃ c, s[n] = c := ⟨_, rfl⟩
      have hcl : l[n] = c := (bchar HLL.out hlt hnl).trans hc
      by_cases h10 : c.toNat = 10
      · have hr := HGO.out.line hnl (by rw [hcl]; exact h10)
        have hcb : ((c.toNat : Int) == 10) = true := by simp; omega
        have HR := Lib.hid hr
        clear hr hcl
        go_wp2_with fail
        refine bodyPost_ret (v := .tuple #[.string ⟨#[]⟩, .int .i64 0]) (by simp [results, Try.results26, go_sem]) rfl ⟨by rw [HR.out]; rfl, by rw [← HBE.out]; exact HBEL.out⟩
      · have hcb : ((c.toNat : Int) == 10) = false := by simp; omega
        by_cases hcq : c.toNat = q.toNat
        · have hr := HGO.out.done hnl (by rw [hcl]; exact h10) (by rw [hcl]; exact hcq)
          have hcb2 : ((c.toNat : Int) == (q.toNat : Int)) = true := by simp; omega
          have HR := Lib.hid hr
          clear hr hcl
          go_wp2_with fail
          refine (Try.Builder_String_any B B acc wr HBL.out hbs).mono ?_
          rintro e w3 ⟨rfl, hb3⟩
          have HB3 := Lib.hid (HBEL.out.trans hb3)
          clear hb3
          go_wp2_with fail
          refine bodyPost_ret (v := .tuple #[.string ⟨acc.toArray⟩, .int .i64 ((n : Int) + 1)]) (by simp [results, Try.results26, go_sem]) rfl ⟨by rw [HR.out]; rfl, by rw [← HBE.out]; exact HB3.out⟩
        · have hcb2 : ((c.toNat : Int) == (q.toNat : Int)) = false := by simp; omega
          by_cases h92 : c.toNat = 92
          · have hcb3 : ((c.toNat : Int) == 92) = true := by simp; omega
            by_cases hn2 : n + 1 < s.size
            · obtain ⟨d, hd⟩ : ∃ d, s[n + 1] = d := ⟨_, rfl⟩
              have hdl : Lex.byteN l (n + 1) = (d.toNat : Int) := by rw [Lex.byteN_in (by rw [HLN.out]; exact hn2), bchar HLL.out hn2, hd]
              have hn3 : ((n : Int) + 1 == (s.size : Int)) = false := by simp; omega
              by_cases hd10 : d.toNat = 10
              · have hr := HGO.out.bad hnl (by rw [hcl]; exact h10) (by rw [hcl]; exact hcq) (by rw [hcl]; exact h92) (.inr (by rw [hdl]; omega))
                have hdb : ((d.toNat : Int) == 10) = true := by simp; omega
                have HR := Lib.hid hr
                clear hr hcl hdl
                go_wp2_with fail
                refine bodyPost_ret (v := .tuple #[.string ⟨#[]⟩, .int .i64 0]) (by simp [results, Try.results26, go_sem]) rfl ⟨by rw [HR.out]; rfl, by rw [← HBE.out]; exact HBEL.out⟩
              · have hgm := HGO.out.mark (by rw [HLN.out]; exact hn2) (by rw [hcl]; exact h10) (by rw [hcl]; exact hcq) (by rw [hcl]; exact h92) (by rw [hdl]; omega)
                have hdb : ((d.toNat : Int) == 10) = false := by simp; omega
                have hsl := Lex.say_le q (l := l.drop n) (by rw [List.length_drop, HLN.out]; omega)
                rw [List.length_drop, HLN.out] at hsl
                obtain ⟨hsl1, hsl2⟩ := hsl
                have hsl3 := Lex.say_ge q (l.drop n)
                have HGM := Lib.hid hgm
                have hb1d : Lex.byteN (l.drop n) 1 = (d.toNat : Int) := by rw [Lex.byteN_drop]; exact hdl
                have HSAY : Hid (Lex.say q (l.drop n) = if q.toNat = 34 then ((Lex.markL (l.drop n)).1.data.toList, (Lex.markL (l.drop n)).2) else if (d.toNat : Int) = 47 then ([47], 2) else ((l.drop n).take 2, 2)) := by unfold Hid Lex.say; rw [hb1d]
                have HDL := Lib.hid hdl
                clear hgm hcl hdl hb1d HGO
                by_cases hq34 : q.toNat = 34
                · have hqb : ((q.toNat : Int) == 34) = true := by simp; omega
                  have hse := HSAY.out
                  rw [if_pos hq34] at hse
                  have HSE := Lib.hid hse
                  clear hse HSAY hq34
                  go_wp2_with fail
                  refine (x_mark (s.extract n s.size) _ (by simp; omega) (by simp; omega)).mono ?_
                  rintro e w3 ⟨rfl, hb3⟩
                  rw [ext_drop, ← HLL.out]
                  generalize hmk : Lex.markL (l.drop n) = mk at *
                  clear hmk
                  have HBL5 := Lib.hid (bld_keep HBL.out hb3)
                  have HBE5 := Lib.hid (HBEL.out.trans (hb3.mono hbs))
                  have hbs5 := Nat.le_trans hbs hb3.size
                  rw [HSE.out] at hsl1 hsl2 hsl3
                  have hk1 : mk.2 ≤ s.size - n := hsl1
                  have hk2 : mk.1.size ≤ mk.2 := hsl2
                  have hk3 : 2 ≤ mk.2 := hsl3
                  clear hb3 hsl1 hsl2 hsl3
                  go_wp2_with fail
                  refine (b_text B B acc mk.1 _ HBL5.out (by omega) hbs5).mono ?_
                  rintro e w6 ⟨rfl, hbl6, hb6⟩
                  have HBL6 := Lib.hid hbl6
                  have HB6 := Lib.hid (HBE5.out.trans hb6)
                  have hbs6 := Nat.le_trans hbs5 hb6.size
                  clear hbl6 hb6
                  go_wp2_with fail
                  go_roundw
                  case rel => exact ⟨n + mk.2, acc ++ mk.1.data.toList, by omega, by omega, by go_num, by rw [List.length_append]; have h9 : mk.1.data.toList.length = mk.1.size := rfl; omega, .inr HBL6.out, HB6.out, hbs6, by have := HGM.out; rw [HSE.out] at this; exact this⟩
                  case measure => simp [intOf]; omega
                · have hqb : ((q.toNat : Int) == 34) = false := by simp; omega
                  have hse := HSAY.out
                  rw [if_neg hq34] at hse
                  have HBL5 := Lib.hid HBL.out
                  have HBE5 := Lib.hid HBEL.out
                  have hbs5 := hbs
                  by_cases hd47 : d.toNat = 47
                  · rw [if_pos (by omega)] at hse
                    have hdb2 : ((d.toNat : Int) == 47) = true := by simp; omega
                    have HSE := Lib.hid hse
                    clear hse HSAY hq34 hsl1 hsl2 hsl3
                    go_wp2_with fail
                    refine (b_text B B acc ⟨#[47]⟩ _ HBL5.out (by show acc.length + 1 ≤ _; omega) hbs5).mono ?_
                    rintro e w6 ⟨rfl, hbl6, hb6⟩
                    have HBL6 := Lib.hid hbl6
                    have HB6 := Lib.hid (HBE5.out.trans hb6)
                    have hbs6 := Nat.le_trans hbs5 hb6.size
                    clear hbl6 hb6
                    go_wp2_with fail
                    go_roundw
                    case rel => exact ⟨n + 2, acc ++ [47], by omega, by omega, by go_num, by rw [List.length_append]; simp; omega, .inr HBL6.out, HB6.out, hbs6, by have := HGM.out; rw [HSE.out] at this; exact this⟩
                    case measure => simp [intOf]; omega
                  · rw [if_neg (by omega)] at hse
                    have hdb2 : ((d.toNat : Int) == 47) = false := by simp; omega
                    have hx : (s.extract n (n + 2)).data.toList = (l.drop n).take 2 := by
                      rw [HLL.out, ByteArray.data_extract, Array.toList_extract]
                      simp [List.extract]
                    have hxs : (s.extract n (n + 2)).size = 2 := by simp; omega
                    have HX := Lib.hid hx
                    have HXS := Lib.hid hxs
                    have HSE := Lib.hid hse
                    clear hse HSAY hq34 hsl1 hsl2 hsl3 hx hxs
                    go_wp2_with fail
                    refine (b_text B B acc (s.extract n (n + 2)) _ HBL5.out (by rw [HXS.out]; omega) hbs5).mono ?_
                    rintro e w6 ⟨rfl, hbl6, hb6⟩
                    have HBL6 := Lib.hid hbl6
                    have HB6 := Lib.hid (HBE5.out.trans hb6)
                    have hbs6 := Nat.le_trans hbs5 hb6.size
                    clear hbl6 hb6
                    go_wp2_with fail
                    go_roundw
                    case rel => exact ⟨n + 2, acc ++ (s.extract n (n + 2)).data.toList, by omega, by omega, by go_num, by rw [List.length_append, HX.out]; simp; omega, .inr HBL6.out, HB6.out, hbs6, by have := HGM.out; rw [HSE.out] at this; rw [HX.out]; exact this⟩
                    case measure => simp [intOf]; omega
            · have hr := HGO.out.bad hnl (by rw [hcl]; exact h10) (by rw [hcl]; exact hcq) (by rw [hcl]; exact h92) (.inl (by rw [HLN.out]; omega))
              have hn3 : ((n : Int) + 1 == (s.size : Int)) = true := by simp; omega
              have HR := Lib.hid hr
              clear hr hcl
              go_wp2_with fail
              refine bodyPost_ret (v := .tuple #[.string ⟨#[]⟩, .int .i64 0]) (by simp [results, Try.results26, go_sem]) rfl ⟨by rw [HR.out]; rfl, by rw [← HBE.out]; exact HBEL.out⟩
          · have hcb3 : ((c.toNat : Int) == 92) = false := by simp; omega
            have hgm := HGO.out.byte hnl (by rw [hcl]; exact h10) (by rw [hcl]; exact hcq) (by rw [hcl]; exact h92)
            rw [hcl] at hgm
            have HGM := Lib.hid hgm
            clear hgm hcl HGO
            go_wp2_with fail
            refine (b_byte B B acc c wr HBL.out (by omega) hbs).mono ?_
            rintro e w3 ⟨rfl, hbl3, hb3⟩
            have HBL3 := Lib.hid hbl3
            have HB3 := Lib.hid (HBEL.out.trans hb3)
            have hbs3 := Nat.le_trans hbs hb3.size
            clear hbl3 hb3
            go_wp2_with fail
            go_roundw
            case rel => exact ⟨n + 1, acc ++ [c], by omega, by omega, by go_num, by simp; omega, .inr HBL3.out, HB3.out, hbs3, HGM.out⟩
            case measure => simp [intOf]; omega
    · have hr := HGO.out.over (by rw [HLN.out]; omega)
      have HR := Lib.hid hr
      clear hr
      go_wp2_with fail
      refine bodyPost_ret (v := .tuple #[.string ⟨#[]⟩, .int .i64 0]) (by simp [results, Try.results26, go_sem]) rfl ⟨by rw [HR.out]; rfl, by rw [← HBE.out]; exact HBEL.out⟩
end Go.Proofs.Ytpgegmnapankpaa
