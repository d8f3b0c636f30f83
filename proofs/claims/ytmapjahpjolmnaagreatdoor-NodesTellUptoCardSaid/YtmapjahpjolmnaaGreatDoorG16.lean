/- The walk of the reference's one: marks, quotes, signs. -/
import Derived.Test.YtmapjahpjolmnaaGreatDoorG15
import Derived.BigQuiet
import Derived.Test.YtmapjahpjolmnaaGreatDoorG2
import Derived.Test.YtmapjahpjolmnaaGreatDoorG1
set_option linter.unusedVariables false
set_option linter.unusedSimpArgs false
namespace Go.Proofs.YtmapjahpjolmnaaGreatDoor
set_option maxRecDepth 20000
open Go.RowKit
def rzero : Value := .agg #[.int .u8 0, .string ⟨#[]⟩, .int .i64 0, .int .i64 0, .int .i64 0]
def rres (a : Nat) (o : Int × ByteArray × Nat) : Value := if o.2.2 = 0 then rzero else rtok a o
theorem hp_cut (s x : ByteArray) (a : Nat) : Lib.hasPrefix (s.data.toList.drop a) x.data.toList = decide (a + x.size ≤ s.size ∧ s.extract a (a + x.size) = x) ∨ s.size < a := by
  rcases Nat.lt_or_ge s.size a with h | h
  · exact .inr h
  · left
    rw [Bool.eq_iff_iff, decide_eq_true_eq, ext_mid, Nat.add_sub_cancel_left]
    unfold Lib.hasPrefix
    rw [List.isPrefixOf_iff_prefix]
    have hxl : x.data.toList.length = x.size := rfl
    have hsl : s.data.toList.length = s.size := rfl
    constructor
    · intro hp
      have hle := hp.length_le
      rw [List.length_drop] at hle
      have hq := List.prefix_iff_eq_take.1 hp
      rw [hxl] at hq hle
      refine ⟨by omega, bytes_ext ?_⟩
      rw [← hq]
      simp [bsA]
    · rintro ⟨hle, he⟩
      rw [List.prefix_iff_eq_take, hxl]
      conv => lhs; rw [← he]
      simp [bsA]
theorem Lex.signs_pos9 : ∀ k : Fin Lex.signsB.length, 0 < (Lex.signsB[k]).size := by decide +kernel
theorem Lex.signs_pos : ∀ k, (h : k < Lex.signsB.length) → 0 < (Lex.signsB[k]).size := fun k h => Lex.signs_pos9 ⟨k, h⟩
theorem below_drewN {B : Nat} {w w' : World} (n : Nat) (h : Below B w w') : Below B w (w'.drewN n) := ⟨h.os, h.tape, h.output, h.size, h.block⟩
theorem quoted_pos (l : List UInt8) (p : List UInt8 × Nat) (h : Lex.quoted l = some p) : 0 < p.2 := by
  cases l with
  | nil => simp [Lex.quoted] at h
  | cons q r =>
    simp [Lex.quoted] at h
    obtain ⟨x, y, hxy, rfl⟩ := h
    simp only []
    omega
set_option maxRecDepth 20000 in
set_option maxHeartbeats 4000000 in
theorem r_one_rest (s : ByteArray) (a : Nat) (re : Bool) (w : World) (hs : s.size ≤ 4294967) (h0 : a < s.size) (hlet : Lex.let_ (Lex.byteN s.data.toList a) = false) (hnum : Lex.numL (s.data.toList.drop a) = 0) (h10 : Lex.byteN s.data.toList a ≠ 10) :
    Calls Tryz.prog 72 #[.string s, .int .i64 a, .bool re] w fun e w' => e = .returned (rres a (Lex.oneRest (s.data.toList.drop a) re)) ∧ Below w.heap.size w w' := by
  have hc : ((s[a]'h0).toNat : Int) = Lex.byteN s.data.toList a := by rw [Lex.byteN_in (by exact h0)]; rfl
  have HLET := Lib.hid hlet
  have HNUM := Lib.hid hnum
  clear hlet hnum
  obtain ⟨o, ho⟩ : ∃ o, o = Lex.oneRest (s.data.toList.drop a) re := ⟨_, rfl⟩
  rw [← ho]
  unfold Lex.oneRest at ho
  rw [Lex.byteN_drop, Nat.add_zero, if_neg h10] at ho
  have HQQ := Lib.hid (fun (q : UInt8) (hq : s[a]'h0 = q) (hq2 : q.toNat = 34 ∨ q.toNat = 47) (w : World) => r_quoted s a q w hs h0 hq hq2)
  have h256 := Lex.byteN_range s.data.toList a
  have HPC := Lib.hid (fun x => (hp_cut s x a).resolve_right (by omega))
  generalize hcc : Lex.byteN s.data.toList a = c at *
  clear hcc
  have HO := Lib.hid ho
  have HC := Lib.hid hc
  clear ho
  go_enter Tryz.func72, Tryz.ntmps72
  go_wp2_with fail
  refine (r_letter _ _).mono ?_
  rintro e w2 ⟨rfl, rfl⟩
  rw [HLET.out]
  obtain ⟨hR1, hB1⟩ := tok5 w (.int .u8 0) (.string ⟨#[]⟩) (.int .i64 0) (.int .i64 0) (.int .i64 0)
  go_wp2_with fail
  generalize w.alloc (.cells #[.int .u8 0, .string ⟨#[]⟩, .int .i64 0, .int .i64 0, .int .i64 0] 91) = w1 at *
  obtain ⟨R, hRe⟩ : ∃ R, R = w.heap.size := ⟨_, rfl⟩
  have HRE := Lib.hid hRe
  rw [← hRe] at hR1 hB1 ⊢
  clear hRe
  refine (r_number s a _ (by omega) (by omega)).mono ?_
  rintro e w2 ⟨rfl, rfl⟩
  rw [HNUM.out, Nat.add_zero]
  by_cases h34 : c = 34
  · have hO := HO.out
    rw [if_pos h34] at hO
    have HO1 := Lib.hid hO
    have hq : s[a]'h0 = 34 := UInt8.toNat_inj.1 (by have := HC.out; show (s[a]'h0).toNat = 34; omega)
    have HQ3 := Lib.hid (HQQ.out 34 hq (.inl rfl))
    clear hO HQQ hq
    subst h34
    cases hQ : Lex.quoted (s.data.toList.drop a) with
    | none =>
      have HO2 := HO1
      rw [hQ] at HO2 HQ3
      clear hQ HO1
      go_wp2_with fail
      refine (HQ3.out _).mono ?_
      rintro e w5 ⟨rfl, hb5⟩
      have HR4 := Lib.hid (below_blk hR1 hb5 hR1.lt)
      have HB4 := Lib.hid (hB1.trans (hb5.mono (by rw [HRE.out]; exact hB1.size)))
      clear hR1 hB1 hb5
      simp only [Option.map_none, rquotV]
      obtain ⟨⟨c0, c1, c2, c3, c4⟩, f0, f1, f2, f3, f4⟩ := HR4.out.five
      go_wp2_with fail
      have hR9 := HR4.out.set5 (.int .u8 0) (.string ⟨#[]⟩) (.int .i64 0) (.int .i64 0) (.int .i64 0)
      have hB9 := HB4.out.trans (below_set5 (g := R) (by rw [HRE.out]; exact Nat.le_refl _) (by have := HR4.out.lt; have := HRE.out; omega) (.int .u8 0) (.string ⟨#[]⟩) (.int .i64 0) (.int .i64 0) (.int .i64 0))
      obtain ⟨⟨s0, s1, s2, s3, s4⟩, -⟩ := hR9.five
      clear c0 c1 c2 c3 c4 f0 f1 f2 f3 f4 hR9
      refine bodyPost_ret (v := .agg #[.int .u8 0, .string ⟨#[]⟩, .int .i64 0, .int .i64 0, .int .i64 0]) (by simp [results, Tryz.results72, go_sem, s0, s1, s2, s3, s4]) rfl ⟨by rw [HO2.out]; rfl, by rw [← HRE.out]; exact hB9⟩
    | some p =>
      have hp0 := quoted_pos _ _ hQ
      have HO2 := HO1
      rw [hQ] at HO2 HQ3
      clear hQ HO1
      have HP0 := Lib.hid hp0
      clear hp0
      go_wp2_with fail
      refine (HQ3.out _).mono ?_
      rintro e w5 ⟨rfl, hb5⟩
      have HR4 := Lib.hid (below_blk hR1 hb5 hR1.lt)
      have HB4 := Lib.hid (hB1.trans (hb5.mono (by rw [HRE.out]; exact hB1.size)))
      clear hR1 hB1 hb5
      simp only [Option.map_some, rquotV]
      obtain ⟨m, hm⟩ : ∃ m, m = a + p.2 := ⟨_, rfl⟩
      have HM := Lib.hid hm
      rw [← hm]
      clear hm
      obtain ⟨⟨c0, c1, c2, c3, c4⟩, f0, f1, f2, f3, f4⟩ := HR4.out.five
      go_wp2_with fail
      have hR9 := HR4.out.set5 (.int .u8 2) (.string (bsA p.1)) (.int .i64 0) (.int .i64 a) (.int .i64 m)
      have hB9 := HB4.out.trans (below_set5 (g := R) (by rw [HRE.out]; exact Nat.le_refl _) (by have := HR4.out.lt; have := HRE.out; omega) (.int .u8 2) (.string (bsA p.1)) (.int .i64 0) (.int .i64 a) (.int .i64 m))
      obtain ⟨⟨s0, s1, s2, s3, s4⟩, -⟩ := hR9.five
      clear c0 c1 c2 c3 c4 f0 f1 f2 f3 f4 hR9
      refine bodyPost_ret (v := .agg #[.int .u8 2, .string (bsA p.1), .int .i64 0, .int .i64 a, .int .i64 m]) (by simp [results, Tryz.results72, go_sem, s0, s1, s2, s3, s4]) rfl ⟨by rw [HO2.out, rres, if_neg (by have := HP0.out; show ¬ p.2 = 0; omega)]; rw [HM.out]; rfl, by rw [← HRE.out]; exact hB9⟩
  · have hc34 : (c == 34) = false := by simp [h34]
    by_cases h47 : c = 47 ∧ re = true
    · have hO := HO.out
      rw [if_neg h34, if_pos h47] at hO
      have HO1 := Lib.hid hO
      obtain ⟨h47, hre⟩ := h47
      have hq : s[a]'h0 = 47 := UInt8.toNat_inj.1 (by have := HC.out; show (s[a]'h0).toNat = 47; omega)
      subst hre
      clear h34 hc34
      have HQ3 := Lib.hid (HQQ.out 47 hq (.inr rfl))
      clear hO HQQ hq
      subst h47
      cases hQ : Lex.quoted (s.data.toList.drop a) with
      | none =>
        have HO2 := HO1
        rw [hQ] at HO2 HQ3
        clear hQ HO1
        go_wp2_with fail
        refine (HQ3.out _).mono ?_
        rintro e w5 ⟨rfl, hb5⟩
        have HR4 := Lib.hid (below_blk hR1 hb5 hR1.lt)
        have HB4 := Lib.hid (hB1.trans (hb5.mono (by rw [HRE.out]; exact hB1.size)))
        clear hR1 hB1 hb5
        simp only [Option.map_none, rquotV]
        obtain ⟨⟨c0, c1, c2, c3, c4⟩, f0, f1, f2, f3, f4⟩ := HR4.out.five
        go_wp2_with fail
        have hR9 := HR4.out.set5 (.int .u8 0) (.string ⟨#[]⟩) (.int .i64 0) (.int .i64 0) (.int .i64 0)
        have hB9 := HB4.out.trans (below_set5 (g := R) (by rw [HRE.out]; exact Nat.le_refl _) (by have := HR4.out.lt; have := HRE.out; omega) (.int .u8 0) (.string ⟨#[]⟩) (.int .i64 0) (.int .i64 0) (.int .i64 0))
        obtain ⟨⟨s0, s1, s2, s3, s4⟩, -⟩ := hR9.five
        clear c0 c1 c2 c3 c4 f0 f1 f2 f3 f4 hR9
        refine bodyPost_ret (v := .agg #[.int .u8 0, .string ⟨#[]⟩, .int .i64 0, .int .i64 0, .int .i64 0]) (by simp [results, Tryz.results72, go_sem, s0, s1, s2, s3, s4]) rfl ⟨by rw [HO2.out]; rfl, by rw [← HRE.out]; exact hB9⟩
      | some p =>
        have hp0 := quoted_pos _ _ hQ
        have HO2 := HO1
        rw [hQ] at HO2 HQ3
        clear hQ HO1
        have HP0 := Lib.hid hp0
        clear hp0
        go_wp2_with fail
        refine (HQ3.out _).mono ?_
        rintro e w5 ⟨rfl, hb5⟩
        have HR4 := Lib.hid (below_blk hR1 hb5 hR1.lt)
        have HB4 := Lib.hid (hB1.trans (hb5.mono (by rw [HRE.out]; exact hB1.size)))
        clear hR1 hB1 hb5
        simp only [Option.map_some, rquotV]
        obtain ⟨m, hm⟩ : ∃ m, m = a + p.2 := ⟨_, rfl⟩
        have HM := Lib.hid hm
        rw [← hm]
        clear hm
        obtain ⟨⟨c0, c1, c2, c3, c4⟩, f0, f1, f2, f3, f4⟩ := HR4.out.five
        go_wp2_with fail
        have hR9 := HR4.out.set5 (.int .u8 3) (.string (bsA p.1)) (.int .i64 0) (.int .i64 a) (.int .i64 m)
        have hB9 := HB4.out.trans (below_set5 (g := R) (by rw [HRE.out]; exact Nat.le_refl _) (by have := HR4.out.lt; have := HRE.out; omega) (.int .u8 3) (.string (bsA p.1)) (.int .i64 0) (.int .i64 a) (.int .i64 m))
        obtain ⟨⟨s0, s1, s2, s3, s4⟩, -⟩ := hR9.five
        clear c0 c1 c2 c3 c4 f0 f1 f2 f3 f4 hR9
        refine bodyPost_ret (v := .agg #[.int .u8 3, .string (bsA p.1), .int .i64 0, .int .i64 a, .int .i64 m]) (by simp [results, Tryz.results72, go_sem, s0, s1, s2, s3, s4]) rfl ⟨by rw [HO2.out, rres, if_neg (by have := HP0.out; show ¬ p.2 = 0; omega)]; rw [HM.out]; rfl, by rw [← HRE.out]; exact hB9⟩
    · have hO := HO.out
      rw [if_neg h34, if_neg h47] at hO
      have HO1 := Lib.hid hO
      have hcs2 : (c == 47) = false ∨ ((c == 47) = true ∧ re = false) := by
        by_cases h : c = 47
        · right; exact ⟨by simp [h], by simpa [h] using h47⟩
        · left; simp [h]
      clear hO h47 h34
      rcases hcs2 with h47 | ⟨h47, hre⟩
      · go_wp2_with fail
        refine (r_signs2 _).mono ?_
        rintro e w5 ⟨W, rfl, hW, hst, hb5⟩
        have hR4 := below_blk hR1 hb5 hR1.lt
        have hB4 := hB1.trans (hb5.mono (by rw [HRE.out]; exact hB1.size))
        have hRW : R < W := by rw [hW]; exact hR1.lt
        have HRW := Lib.hid hRW
        clear hR1 hB1 hb5 hW hRW
        have HST := Lib.hid hst
        have HR4 := Lib.hid hR4
        have HB4 := Lib.hid hB4
        clear hst hR4 hB4
        obtain ⟨l, hL⟩ : ∃ l, l = s.data.toList.drop a := ⟨_, rfl⟩
        rw [← hL] at HO1 HPC
        clear hL
        have HO3 : Hid (o = match Lex.signsB.find? (fun x => Lib.hasPrefix l x.data.toList) with | some x => (7, x, x.size) | none => (0, ⟨#[]⟩, 0)) := HO1.out
        obtain ⟨S, hS⟩ : ∃ S, S = Lex.signsB := ⟨_, rfl⟩
        have hS39 : S.length = 39 := by rw [hS]; rfl
        have hsz2 : ∀ k, (h : k < S.length) → (S[k]).size ≤ 2 := by
          rw [hS]
          exact Lex.signs_size
        have hsz1 : ∀ k, (h : k < S.length) → 0 < (S[k]).size := by
          rw [hS]
          exact Lex.signs_pos
        have HSZ2 := Lib.hid hsz2
        have HSZ1 := Lib.hid hsz1
        rw [← hS] at HO3 HST
        clear hS HO1 hsz2 hsz1
        go_wp2_with fail
        go_loopw [13] (fun i wr => ∃ k : Nat, k ≤ 39 ∧ i = .int .i64 k ∧ (∀ j, (hj : j < S.length) → j < k → Lib.hasPrefix l (S[j]).data.toList = false) ∧ Strs wr (W + 1) (some ⟨W, 0, none⟩) 39 S ∧ Blk wr R 91 #[.int .u8 0, .string ⟨#[]⟩, .int .i64 0, .int .i64 0, .int .i64 0] ∧ Below w.heap.size w wr) (fun i _ => 39 - (intOf i).toNat)
        case atStart => exact ⟨0, by omega, rfl, (fun j _ h => by omega), HST.out, HR4.out, HRE.out ▸ HB4.out⟩
        case round =>
          obtain ⟨k, hk, rfl, hno, hst, hR4, hB4⟩ := hrel
          clear HST HR4 HB4
          have HNO := Lib.hid hno
          have HST := Lib.hid hst
          have HR4 := Lib.hid hR4
          have HB4 := Lib.hid hB4
          clear hno hst hR4 hB4
          by_cases hlt : k < 39
          · have hkS : k < S.length := by omega
            have hcell : wr.cell? ⟨W, 0 + k, none⟩ = some (.string S[k]) := by
              obtain ⟨b, o, hbo, -, hc⟩ := HST.out.2 (by omega)
              obtain ⟨rfl, rfl⟩ : W = b ∧ 0 = o := by simpa using hbo
              exact hc k hkS
            have hcell2 : wr.cell? ⟨W, k, none⟩ = some (.string S[k]) := by have := hcell; rwa [Nat.zero_add] at this
            have hk0 : (0 : Int) ≤ (k : Int) := Int.natCast_nonneg _
            have hk1 : (k : Int) < 39 := by omega
            have hx2 := HSZ2.out k hkS
            have hx1 := HSZ1.out k hkS
            have HFS := Lib.hid (fun hp => find_first S (fun x => Lib.hasPrefix l x.data.toList) k hkS hp HNO.out)
            have hpx := HPC.out S[k]
            obtain ⟨x, hx⟩ : ∃ x, x = S[k] := ⟨_, rfl⟩
            rw [← hx] at hcell hcell2 hx2 hx1 HFS hpx
            have HX := Lib.hid hx
            have HPX := Lib.hid hpx
            clear hx hpx
            by_cases hroom : a + x.size ≤ s.size
            · by_cases heq : s.extract a (a + x.size) = x
              · have hp : Lib.hasPrefix l x.data.toList = true := by rw [HPX.out]; exact decide_eq_true ⟨hroom, heq⟩
                have hq : ((s.extract a (a + x.size)).toList == x.toList) = true := by rw [heq]; simp
                have hO := HO3.out
                rw [HFS.out hp] at hO
                have HO2 := Lib.hid hO
                have HEQ := Lib.hid heq
                clear hO hp HFS HNO heq
                have hro : (a : Int) + (x.size : Int) ≤ (s.size : Int) := by omega
                go_wp2_with fail
                go_quiet (fail)
                have hcell3 : (wr.drewN nq).cell? ⟨W, k, none⟩ = some (.string x) := hcell2
                have hR5 : Blk (wr.drewN nq) R 91 #[.int .u8 0, .string ⟨#[]⟩, .int .i64 0, .int .i64 0, .int .i64 0] := HR4.out
                have hB5 := below_drewN nq HB4.out
                generalize wr.drewN nq = w6 at *
                have HB5 := Lib.hid hB5
                have HR5 := Lib.hid hR5
                clear hB5 hR5 hcell hcell2 hq hro HST
                obtain ⟨⟨c0, c1, c2, c3, c4⟩, f0, f1, f2, f3, f4⟩ := HR5.out.five
                have hcell : w6.cell? ⟨W, 0 + k, none⟩ = some (.string x) := by rw [Nat.zero_add]; exact hcell3
                go_wp2_with fail
                go_region
                have hR9 := HR5.out.set5 (.int .u8 7) (.string x) (.int .i64 0) (.int .i64 a) (.int .i64 ((a : Int) + (x.size : Int)))
                have hB9 := HB5.out.trans (below_set5 (g := R) (by rw [HRE.out]; exact Nat.le_refl _) (by have := HR5.out.lt; have := HRE.out; omega) (.int .u8 7) (.string x) (.int .i64 0) (.int .i64 a) (.int .i64 ((a : Int) + (x.size : Int))))
                obtain ⟨⟨s0, s1, s2, s3, s4⟩, -⟩ := hR9.five
                clear c0 c1 c2 c3 c4 f0 f1 f2 f3 f4 hR9 hcell hcell3
                go_wp2_with fail
                refine bodyPost_ret (v := .agg #[.int .u8 7, .string x, .int .i64 0, .int .i64 a, .int .i64 ((a : Int) + (x.size : Int))]) (by simp [results, Tryz.results72, go_sem, s0, s1, s2, s3, s4]) rfl ⟨by rw [HO2.out, rres, if_neg (show ¬ x.size = 0 by omega)]; simp only [rtok, Int.natCast_add], hB9.drew⟩
              · have hp : Lib.hasPrefix l x.data.toList = false := by rw [HPX.out]; exact decide_eq_false fun h => heq h.2
                have hq : ((s.extract a (a + x.size)).toList == x.toList) = false := by rw [tolist_beq]; exact decide_eq_false fun e => heq (bytes_ext e)
                have HPF := Lib.hid hp
                clear hp heq
                have hro : (a : Int) + (x.size : Int) ≤ (s.size : Int) := by omega
                go_wp2_with fail
                go_quiet (fail)
                go_wp2_with fail
                go_roundw
                case rel => exact ⟨k + 1, by omega, by go_num, (fun j hj h => by
                  rcases Nat.lt_or_ge j k with h | h
                  · exact HNO.out j hj h
                  · obtain rfl : j = k := by omega
                    rw [← HX.out]; exact HPF.out), HST.out.below (below_drewN nq (Below.refl _ _)), HR4.out, below_drewN nq HB4.out⟩
                case measure => simp [intOf]; omega
            · have hp : Lib.hasPrefix l x.data.toList = false := by rw [HPX.out]; exact decide_eq_false fun h => hroom h.1
              have HPF := Lib.hid hp
              clear hp
              have hro : decide ((a : Int) + (x.size : Int) ≤ (s.size : Int)) = false := decide_eq_false (by omega)
              go_wp2_with fail
              go_quiet (fail)
              go_wp2_with fail
              go_roundw
              case rel => exact ⟨k + 1, by omega, by go_num, (fun j hj h => by
                rcases Nat.lt_or_ge j k with h | h
                · exact HNO.out j hj h
                · obtain rfl : j = k := by omega
                  rw [← HX.out]; exact HPF.out), HST.out.below (below_drewN nq (Below.refl _ _)), HR4.out, below_drewN nq HB4.out⟩
              case measure => simp [intOf]; omega
          · have hO := HO3.out
            rw [find_none S (fun x => Lib.hasPrefix l x.data.toList) (fun j hj => HNO.out j hj (by omega))] at hO
            have HO2 := Lib.hid hO
            clear hO HNO
            obtain ⟨⟨c0, c1, c2, c3, c4⟩, f0, f1, f2, f3, f4⟩ := HR4.out.five
            go_wp2_with fail
            have hR9 := HR4.out.set5 (.int .u8 0) (.string ⟨#[]⟩) (.int .i64 0) (.int .i64 0) (.int .i64 0)
            have hB9 := HB4.out.trans (below_set5 (g := R) (by rw [HRE.out]; exact Nat.le_refl _) (by have := HR4.out.lt; have := HRE.out; omega) (.int .u8 0) (.string ⟨#[]⟩) (.int .i64 0) (.int .i64 0) (.int .i64 0))
            obtain ⟨⟨s0, s1, s2, s3, s4⟩, -⟩ := hR9.five
            clear c0 c1 c2 c3 c4 f0 f1 f2 f3 f4 hR9
            refine bodyPost_ret (v := .agg #[.int .u8 0, .string ⟨#[]⟩, .int .i64 0, .int .i64 0, .int .i64 0]) (by simp [results, Tryz.results72, go_sem, s0, s1, s2, s3, s4]) rfl ⟨by rw [HO2.out]; rfl, hB9⟩
      · subst hre
        go_wp2_with fail
        refine (r_signs2 _).mono ?_
        rintro e w5 ⟨W, rfl, hW, hst, hb5⟩
        have hR4 := below_blk hR1 hb5 hR1.lt
        have hB4 := hB1.trans (hb5.mono (by rw [HRE.out]; exact hB1.size))
        have hRW : R < W := by rw [hW]; exact hR1.lt
        have HRW := Lib.hid hRW
        clear hR1 hB1 hb5 hW hRW
        have HST := Lib.hid hst
        have HR4 := Lib.hid hR4
        have HB4 := Lib.hid hB4
        clear hst hR4 hB4
        obtain ⟨l, hL⟩ : ∃ l, l = s.data.toList.drop a := ⟨_, rfl⟩
        rw [← hL] at HO1 HPC
        clear hL
        have HO3 : Hid (o = match Lex.signsB.find? (fun x => Lib.hasPrefix l x.data.toList) with | some x => (7, x, x.size) | none => (0, ⟨#[]⟩, 0)) := HO1.out
        obtain ⟨S, hS⟩ : ∃ S, S = Lex.signsB := ⟨_, rfl⟩
        have hS39 : S.length = 39 := by rw [hS]; rfl
        have hsz2 : ∀ k, (h : k < S.length) → (S[k]).size ≤ 2 := by
          rw [hS]
          exact Lex.signs_size
        have hsz1 : ∀ k, (h : k < S.length) → 0 < (S[k]).size := by
          rw [hS]
          exact Lex.signs_pos
        have HSZ2 := Lib.hid hsz2
        have HSZ1 := Lib.hid hsz1
        rw [← hS] at HO3 HST
        clear hS HO1 hsz2 hsz1
        go_wp2_with fail
        go_loopw [13] (fun i wr => ∃ k : Nat, k ≤ 39 ∧ i = .int .i64 k ∧ (∀ j, (hj : j < S.length) → j < k → Lib.hasPrefix l (S[j]).data.toList = false) ∧ Strs wr (W + 1) (some ⟨W, 0, none⟩) 39 S ∧ Blk wr R 91 #[.int .u8 0, .string ⟨#[]⟩, .int .i64 0, .int .i64 0, .int .i64 0] ∧ Below w.heap.size w wr) (fun i _ => 39 - (intOf i).toNat)
        case atStart => exact ⟨0, by omega, rfl, (fun j _ h => by omega), HST.out, HR4.out, HRE.out ▸ HB4.out⟩
        case round =>
          obtain ⟨k, hk, rfl, hno, hst, hR4, hB4⟩ := hrel
          clear HST HR4 HB4
          have HNO := Lib.hid hno
          have HST := Lib.hid hst
          have HR4 := Lib.hid hR4
          have HB4 := Lib.hid hB4
          clear hno hst hR4 hB4
          by_cases hlt : k < 39
          · have hkS : k < S.length := by omega
            have hcell : wr.cell? ⟨W, 0 + k, none⟩ = some (.string S[k]) := by
              obtain ⟨b, o, hbo, -, hc⟩ := HST.out.2 (by omega)
              obtain ⟨rfl, rfl⟩ : W = b ∧ 0 = o := by simpa using hbo
              exact hc k hkS
            have hcell2 : wr.cell? ⟨W, k, none⟩ = some (.string S[k]) := by have := hcell; rwa [Nat.zero_add] at this
            have hk0 : (0 : Int) ≤ (k : Int) := Int.natCast_nonneg _
            have hk1 : (k : Int) < 39 := by omega
            have hx2 := HSZ2.out k hkS
            have hx1 := HSZ1.out k hkS
            have HFS := Lib.hid (fun hp => find_first S (fun x => Lib.hasPrefix l x.data.toList) k hkS hp HNO.out)
            have hpx := HPC.out S[k]
            obtain ⟨x, hx⟩ : ∃ x, x = S[k] := ⟨_, rfl⟩
            rw [← hx] at hcell hcell2 hx2 hx1 HFS hpx
            have HX := Lib.hid hx
            have HPX := Lib.hid hpx
            clear hx hpx
            by_cases hroom : a + x.size ≤ s.size
            · by_cases heq : s.extract a (a + x.size) = x
              · have hp : Lib.hasPrefix l x.data.toList = true := by rw [HPX.out]; exact decide_eq_true ⟨hroom, heq⟩
                have hq : ((s.extract a (a + x.size)).toList == x.toList) = true := by rw [heq]; simp
                have hO := HO3.out
                rw [HFS.out hp] at hO
                have HO2 := Lib.hid hO
                have HEQ := Lib.hid heq
                clear hO hp HFS HNO heq
                have hro : (a : Int) + (x.size : Int) ≤ (s.size : Int) := by omega
                go_wp2_with fail
                go_quiet (fail)
                have hcell3 : (wr.drewN nq).cell? ⟨W, k, none⟩ = some (.string x) := hcell2
                have hR5 : Blk (wr.drewN nq) R 91 #[.int .u8 0, .string ⟨#[]⟩, .int .i64 0, .int .i64 0, .int .i64 0] := HR4.out
                have hB5 := below_drewN nq HB4.out
                generalize wr.drewN nq = w6 at *
                have HB5 := Lib.hid hB5
                have HR5 := Lib.hid hR5
                clear hB5 hR5 hcell hcell2 hq hro HST
                obtain ⟨⟨c0, c1, c2, c3, c4⟩, f0, f1, f2, f3, f4⟩ := HR5.out.five
                have hcell : w6.cell? ⟨W, 0 + k, none⟩ = some (.string x) := by rw [Nat.zero_add]; exact hcell3
                go_wp2_with fail
                go_region
                have hR9 := HR5.out.set5 (.int .u8 7) (.string x) (.int .i64 0) (.int .i64 a) (.int .i64 ((a : Int) + (x.size : Int)))
                have hB9 := HB5.out.trans (below_set5 (g := R) (by rw [HRE.out]; exact Nat.le_refl _) (by have := HR5.out.lt; have := HRE.out; omega) (.int .u8 7) (.string x) (.int .i64 0) (.int .i64 a) (.int .i64 ((a : Int) + (x.size : Int))))
                obtain ⟨⟨s0, s1, s2, s3, s4⟩, -⟩ := hR9.five
                clear c0 c1 c2 c3 c4 f0 f1 f2 f3 f4 hR9 hcell hcell3
                go_wp2_with fail
                refine bodyPost_ret (v := .agg #[.int .u8 7, .string x, .int .i64 0, .int .i64 a, .int .i64 ((a : Int) + (x.size : Int))]) (by simp [results, Tryz.results72, go_sem, s0, s1, s2, s3, s4]) rfl ⟨by rw [HO2.out, rres, if_neg (show ¬ x.size = 0 by omega)]; simp only [rtok, Int.natCast_add], hB9.drew⟩
              · have hp : Lib.hasPrefix l x.data.toList = false := by rw [HPX.out]; exact decide_eq_false fun h => heq h.2
                have hq : ((s.extract a (a + x.size)).toList == x.toList) = false := by rw [tolist_beq]; exact decide_eq_false fun e => heq (bytes_ext e)
                have HPF := Lib.hid hp
                clear hp heq
                have hro : (a : Int) + (x.size : Int) ≤ (s.size : Int) := by omega
                go_wp2_with fail
                go_quiet (fail)
                go_wp2_with fail
                go_roundw
                case rel => exact ⟨k + 1, by omega, by go_num, (fun j hj h => by
                  rcases Nat.lt_or_ge j k with h | h
                  · exact HNO.out j hj h
                  · obtain rfl : j = k := by omega
                    rw [← HX.out]; exact HPF.out), HST.out.below (below_drewN nq (Below.refl _ _)), HR4.out, below_drewN nq HB4.out⟩
                case measure => simp [intOf]; omega
            · have hp : Lib.hasPrefix l x.data.toList = false := by rw [HPX.out]; exact decide_eq_false fun h => hroom h.1
              have HPF := Lib.hid hp
              clear hp
              have hro : decide ((a : Int) + (x.size : Int) ≤ (s.size : Int)) = false := decide_eq_false (by omega)
              go_wp2_with fail
              go_quiet (fail)
              go_wp2_with fail
              go_roundw
              case rel => exact ⟨k + 1, by omega, by go_num, (fun j hj h => by
                rcases Nat.lt_or_ge j k with h | h
                · exact HNO.out j hj h
                · obtain rfl : j = k := by omega
                  rw [← HX.out]; exact HPF.out), HST.out.below (below_drewN nq (Below.refl _ _)), HR4.out, below_drewN nq HB4.out⟩
              case measure => simp [intOf]; omega
          · have hO := HO3.out
            rw [find_none S (fun x => Lib.hasPrefix l x.data.toList) (fun j hj => HNO.out j hj (by omega))] at hO
            have HO2 := Lib.hid hO
            clear hO HNO
            obtain ⟨⟨c0, c1, c2, c3, c4⟩, f0, f1, f2, f3, f4⟩ := HR4.out.five
            go_wp2_with fail
            have hR9 := HR4.out.set5 (.int .u8 0) (.string ⟨#[]⟩) (.int .i64 0) (.int .i64 0) (.int .i64 0)
            have hB9 := HB4.out.trans (below_set5 (g := R) (by rw [HRE.out]; exact Nat.le_refl _) (by have := HR4.out.lt; have := HRE.out; omega) (.int .u8 0) (.string ⟨#[]⟩) (.int .i64 0) (.int .i64 0) (.int .i64 0))
            obtain ⟨⟨s0, s1, s2, s3, s4⟩, -⟩ := hR9.five
            clear c0 c1 c2 c3 c4 f0 f1 f2 f3 f4 hR9
            refine bodyPost_ret (v := .agg #[.int .u8 0, .string ⟨#[]⟩, .int .i64 0, .int .i64 0, .int .i64 0]) (by simp [results, Tryz.results72, go_sem, s0, s1, s2, s3, s4]) rfl ⟨by rw [HO2.out]; rfl, hB9⟩

end Go.Proofs.YtmapjahpjolmnaaGreatDoor
namespace Go.Proofs.YtmapjahpjolmnaaGreatDoor.Lex
set_option maxRecDepth 20000
open Go
theorem quotL_le (q : UInt8) : ∀ n (l : List UInt8) p, l.length ≤ n → quotL q l = some p → p.2 ≤ l.length ∧ 0 < p.2 := by
  intro n
  induction n with
  | zero =>
    intro l p hn h
    cases l with
    | nil => rw [quot_nil] at h; simp at h
    | cons c r => simp at hn
  | succ n ih =>
    intro l p hn h
    cases l with
    | nil => rw [quot_nil] at h; simp at h
    | cons c r =>
      have hl : (c :: r).length = r.length + 1 := rfl
      rw [hl] at hn ⊢
      by_cases h10 : c.toNat = 10
      · rw [quot_line h10] at h; simp at h
      · by_cases hq : c.toNat = q.toNat
        · rw [quot_end h10 hq] at h
          obtain rfl : ([], 1) = p := by simpa using h
          exact ⟨by show 1 ≤ _; omega, by decide⟩
        · by_cases h92 : c.toNat = 92
          · by_cases hb : r = [] ∨ byteN r 0 = 10
            · rw [quot_bad h10 hq h92 hb] at h; simp at h
            · rw [quot_mark h10 hq h92 hb] at h
              obtain ⟨x, hx, rfl⟩ := Option.map_eq_some_iff.1 h
              have hr : r ≠ [] := fun e => hb (.inl e)
              have hr2 : 0 < r.length := List.length_pos_iff.2 hr
              have h1 := (say_le q (l := c :: r) (by rw [hl]; omega)).1
              have h2 := say_ge q (c :: r)
              have h3 := ih _ x (by rw [List.length_drop, hl]; omega) hx
              rw [List.length_drop, hl] at h3
              rw [hl] at h1
              exact ⟨by show _ + x.2 ≤ _; omega, by show 0 < _ + x.2; omega⟩
          · rw [quot_byte h10 hq h92] at h
            obtain ⟨x, hx, rfl⟩ := Option.map_eq_some_iff.1 h
            have h3 := ih r x (by omega) hx
            exact ⟨by show 1 + x.2 ≤ _; omega, by show 0 < 1 + x.2; omega⟩
theorem quoted_le (l : List UInt8) : (quotV (quoted l)).2 ≤ l.length := by
  cases h : quoted l with
  | none => exact Nat.zero_le _
  | some p =>
    cases l with
    | nil => simp [quoted] at h
    | cons q r =>
      obtain ⟨x, hx, rfl⟩ := Option.map_eq_some_iff.1 h
      have := (quotL_le q _ r x (Nat.le_refl _) hx).1
      show 1 + x.2 ≤ r.length + 1
      omega
theorem byteN_nil (k : Nat) : byteN [] k = 0 := by unfold byteN; simp
theorem numL_none {l : List UInt8} (h1 : dig (byteN l 0) = false) (h2 : byteN l 0 ≠ 46) : numL l = 0 := by
  apply numL_zero
  have h0 : runL dig l = 0 := by simpa using run_not (p := dig) (l := l) (k := 0) h1
  rw [num1_no, h0]
  rintro ⟨r, hr⟩
  rw [h0, List.drop_zero] at hr
  exact h2 (by rw [hr]; rfl)
theorem oneL_line {l : List UInt8} {re : Bool} (h : byteN l 0 = 10) : oneL l re = (8, ⟨#[]⟩, 1) := by
  unfold oneL
  rw [h, if_neg (by decide), numL_none (by rw [h]; decide) (by rw [h]; decide), if_neg (by decide)]
  unfold oneRest
  rw [if_pos h]
theorem oneSign_le (l : List UInt8) : (oneSign l).2.2 ≤ l.length := by
  unfold oneSign
  split
  · rename_i x hx
    have := List.find?_some hx
    unfold Lib.hasPrefix at this
    exact (List.isPrefixOf_iff_prefix.1 this).length_le
  · exact Nat.zero_le _
theorem oneL_le {l : List UInt8} {re : Bool} : (oneL l re).2.2 ≤ l.length := by
  unfold oneL
  split
  · exact runL_le _ _
  · split
    · exact numL_le l
    · unfold oneRest
      split
      · rename_i h
        cases l with
        | nil => rw [byteN_nil] at h; exact absurd h (by decide)
        | cons c r => show 1 ≤ r.length + 1; omega
      · split
        · exact quoted_le l
        · split
          · exact quoted_le l
          · exact oneSign_le l
theorem oneL_kind {l : List UInt8} {re : Bool} (h : (oneL l re).2.2 ≠ 0) : (oneL l re).1 ≠ 0 := by
  revert h
  unfold oneL
  split
  · intro _
    unfold oneName
    dsimp only
    split
    · decide
    · split <;> decide
  · split
    · intro _; show (1 : Int) ≠ 0; decide
    · unfold oneRest
      split
      · intro _; show (8 : Int) ≠ 0; decide
      · split
        · intro _; show (2 : Int) ≠ 0; decide
        · split
          · intro _; show (3 : Int) ≠ 0; decide
          · unfold oneSign
            split
            · intro _; show (7 : Int) ≠ 0; decide
            · intro h; exact absurd rfl h
theorem oneName_pos {l : List UInt8} (h : let_ (byteN l 0) = true) : (oneName l).2.2 ≠ 0 := by
  have := (run_yes (p := word) (by decide) (l := l) (k := 0) (by simp [word, h])).2
  rw [List.drop_zero] at this
  show runL word l ≠ 0
  omega
end Go.Proofs.YtmapjahpjolmnaaGreatDoor.Lex
namespace Go.Proofs.YtmapjahpjolmnaaGreatDoor
open Go.RowKit
theorem r_one (s : ByteArray) (a : Nat) (re : Bool) (w : World) (hs : s.size ≤ 4294967) (h0 : a < s.size) (h10 : Lex.byteN s.data.toList a ≠ 10) :
    Calls Tryz.prog 72 #[.string s, .int .i64 a, .bool re] w fun e w' => e = .returned (rres a (Lex.oneL (s.data.toList.drop a) re)) ∧ Below w.heap.size w w' := by
  unfold Lex.oneL
  rw [Lex.byteN_drop, Nat.add_zero]
  cases hlet : Lex.let_ (Lex.byteN s.data.toList a)
  · rw [if_neg (by decide)]
    by_cases hn : 0 < Lex.numL (s.data.toList.drop a)
    · rw [if_pos hn]
      have h := r_one_num s a re w hs h0 hlet hn
      rw [show rres a (1, bsA ((s.data.toList.drop a).take (Lex.numL (s.data.toList.drop a))), Lex.numL (s.data.toList.drop a)) = rtok a (1, bsA ((s.data.toList.drop a).take (Lex.numL (s.data.toList.drop a))), Lex.numL (s.data.toList.drop a)) from if_neg (by show ¬ Lex.numL (s.data.toList.drop a) = 0; omega)]
      exact h
    · rw [if_neg hn]
      exact r_one_rest s a re w hs h0 hlet (by omega) h10
  · rw [if_pos rfl]
    rw [show rres a (Lex.oneName (s.data.toList.drop a)) = rtok a (Lex.oneName (s.data.toList.drop a)) from if_neg (Lex.oneName_pos (by rw [Lex.byteN_drop, Nat.add_zero]; exact hlet))]
    exact r_one_name s a re w hs h0 hlet

theorem x_one (s : ByteArray) (re : Bool) (w : World) (hs : s.size ≤ 4294967) (h0 : 0 < s.size) :
    Calls Tryz.prog 68 #[.string s, .bool re] w fun e w' => e = .returned (tokV (Lex.oneL s.data.toList re)) ∧ Below w.heap.size w w' := by
  unfold Lex.oneL
  cases hlet : Lex.let_ (Lex.byteN s.data.toList 0)
  · rw [if_neg (by decide)]
    by_cases hn : 0 < Lex.numL s.data.toList
    · rw [if_pos hn]
      exact x_one_num s re w hs h0 hlet hn
    · rw [if_neg hn]
      exact x_one_rest s re w hs h0 hlet (by omega)
  · rw [if_pos rfl]
    exact x_one_name s re w hs h0 hlet
theorem x_Next (s : ByteArray) (at_ : Int) (re : Bool) (w : World) (hs : s.size ≤ 4294967296) :
    Calls Tryz.prog 56 #[.string s, .int .i64 at_, .bool re] w fun e w' => e = .returned (.tuple #[(Lex.nextL Lex.oneL s.data.toList at_ re).tok, (Lex.nextL Lex.oneL s.data.toList at_ re).fault]) ∧ Below w.heap.size w w' := by
  refine x_next Lex.oneL s at_ re w hs fun h1 h2 h3 h4 w => ?_
  generalize at_.toNat + Lex.passL (s.data.toList.drop at_.toNat) = a at *
  have hsz : (s.extract a s.size).size = s.size - a := ext_size s a
  have h := x_one (s.extract a s.size) re w (by omega) (by omega)
  rw [ext_drop] at h
  refine h.mono ?_
  rintro e w' ⟨rfl, hb⟩
  refine ⟨rfl, hb, ?_⟩
  have := Lex.oneL_le (l := s.data.toList.drop a) (re := re)
  rw [List.length_drop, show s.data.toList.length = s.size from rfl] at this
  omega
end Go.Proofs.YtmapjahpjolmnaaGreatDoor
namespace Go.Proofs.YtmapjahpjolmnaaGreatDoor
open Go.RowKit Tr
/-- Is a text a name? -/
def nameB (s : ByteArray) : Bool := decide ((Lex.nextL Lex.oneL s.data.toList 0 false).err = 0) && (decide ((Lex.nextL Lex.oneL s.data.toList 0 false).k = 4) && decide (wrap64 ((Lex.nextL Lex.oneL s.data.toList 0 false).end_ - (Lex.nextL Lex.oneL s.data.toList 0 false).at_) = s.size))
theorem x_NextA (s : ByteArray) (at_ : Int) (re : Bool) (w : World) (hs : s.size ≤ maxLen) :
    Calls Tryz.prog 56 #[.string s, .int .i64 at_, .bool re] w fun e w' => e = .returned (.tuple #[(Lex.nextL Lex.oneL s.data.toList at_ re).tok, (Lex.nextL Lex.oneL s.data.toList at_ re).fault]) ∧ Below w.heap.size w w' := by
  by_cases hA : s.size ≤ 65536
  · exact x_Next s at_ re w (by omega)
  · unfold maxLen at hs
    have hsl : s.size < 9223372036854775808 := by omega
    have hsA : 65536 < s.size := by omega
    have HN : Hid (Lex.nextL Lex.oneL s.data.toList at_ re = Lex.none_ 3 0) := by unfold Hid Lex.nextL; rw [if_pos (show 65536 < s.data.toList.length from hsA)]
    rw [HN.out]
    clear hs hA
    go_enter Tryz.func56, Tryz.ntmps56
    go_wp2_with fail
    have hfin := fin2 w (.int .u8 0) (.string ⟨#[]⟩) (.int .i64 0) (.int .i64 0) (.int .i64 0) (.int .i64 3) (.int .i64 0)
    obtain ⟨hR, hF, hB'⟩ := hfin
    obtain ⟨⟨c0, c1, c2, c3, c4⟩, -⟩ := hR.five
    obtain ⟨⟨d0, d1⟩, -⟩ := hF.two
    refine bodyPost_ret (v := .tuple #[(Lex.none_ 3 0).tok, (Lex.none_ 3 0).fault]) (by simp [results, Tryz.results56, go_sem, c0, c1, c2, c3, c4, d0, d1, Lex.Out.tok, Lex.Out.fault, Lex.none_]) rfl ⟨rfl, hB'⟩
set_option maxRecDepth 20000 in
set_option maxHeartbeats 4000000 in
theorem w_name (s : ByteArray) (w : World) (hs : s.size ≤ maxLen) : Calls Tryz.prog 43 #[.string s] w fun e w' => e = .returned (.bool (nameB s)) ∧ Below w.heap.size w w' := by
  have HX := Lib.hid (x_NextA s 0 false w hs)
  have hsz : s.size < 9223372036854775808 := by unfold maxLen at hs; omega
  have hnb : nameB s = (decide ((Lex.nextL Lex.oneL s.data.toList 0 false).err = 0) && (decide ((Lex.nextL Lex.oneL s.data.toList 0 false).k = 4) && decide (wrap64 ((Lex.nextL Lex.oneL s.data.toList 0 false).end_ - (Lex.nextL Lex.oneL s.data.toList 0 false).at_) = s.size))) := rfl
  rw [hnb]
  clear hnb hs
  generalize Lex.nextL Lex.oneL s.data.toList 0 false = o at *
  go_enter Tryz.func43, Tryz.ntmps43
  go_wp2_with fail
  refine HX.out.mono ?_
  rintro e w1 ⟨rfl, hb1⟩
  simp only [Lex.Out.tok, Lex.Out.fault]
  have HB1 := Lib.hid hb1
  clear hb1
  go_wp2_with fail
  all_goals
    have HB2 := Lib.hid ((HB1.out.alloc HB1.out.size (.cells #[.int .u8 o.k, .string o.s, .int .i64 o.line, .int .i64 o.at_, .int .i64 o.end_] 91)).alloc (by have := HB1.out.size; simp; omega) (.cells #[.int .i64 o.err, .int .i64 o.eline] 94))
    go_ret
    refine ⟨?_, by have := HB2.out; simp_all⟩
    (simp_all <;> rfl)
end Go.Proofs.YtmapjahpjolmnaaGreatDoor
namespace Go.Proofs.YtmapjahpjolmnaaGreatDoor
open Go.RowKit
namespace Tr
section
variable (al : XE → Bool)
mutual
/-- Right, nested at most so deep. -/
def exprR : XE → Int → Bool
  | .mk k s n l, m => if m < 1 then false else al (.mk k s n l) && exprsR l (m - 1)
def exprsR : List XE → Int → Bool
  | [], _ => true
  | e :: r, m => exprR e m && exprsR r m
end
theorem exprR_eq (e : XE) (m : Int) : exprR al e m = if m < 1 then false else al e && exprsR al e.kids (m - 1) := by
  cases e; rw [exprR]; rfl
theorem exprsR_nil (m : Int) : exprsR al [] m = true := by rw [exprsR]
theorem exprsR_cons (e : XE) (r : List XE) (m : Int) : exprsR al (e :: r) m = (exprR al e m && exprsR al r m) := by rw [exprsR]
/-- The fold of 'Expr'. -/
def stE (a : Bool) (e : XE) (d : Int) : Bool := a && (decide (d ≤ 60) && al e)
mutual
theorem foldE_R : ∀ (e : XE) (d : Int) (a : Bool), d ≤ 61 → foldE (stE al) 61 e d a = (a && exprR al e (61 - d))
  | .mk k s n l, d, a, h => by
    rw [foldE_eq, exprR_eq, show (XE.mk k s n l).kids = l from rfl]
    by_cases h2 : d ≤ 60
    · rw [foldEs_R l (d + 1) _ (by omega), if_neg (by omega)]
      unfold stE
      rw [decide_eq_true h2, Bool.true_and, Bool.and_assoc]
      show (a && (al _ && exprsR al l _)) = _
      rw [show (61 : Int) - (d + 1) = 61 - d - 1 by omega]
    · rw [foldEs_deep _ _ (by omega), if_pos (by omega)]
      unfold stE
      rw [decide_eq_false h2]
      simp
theorem foldEs_R : ∀ (l : List XE) (d : Int) (a : Bool), d ≤ 61 → foldEs (stE al) 61 l d a = (a && exprsR al l (61 - d))
  | [], d, a, _ => by rw [foldEs_nil, exprsR_nil, Bool.and_true]
  | e :: r, d, a, h => by
    rw [foldEs_cons, if_neg (by omega), foldEs_R r d _ h, foldE_R e d a h, exprsR_cons, Bool.and_assoc]
end
/-- 'Expr'. -/
theorem fold_Expr (e : XE) : foldEs (stE al) 61 [e] 1 true = exprR al e 60 := by
  rw [foldEs_R al [e] 1 true (by decide), exprsR_cons, exprsR_nil, Bool.and_true, Bool.true_and]
  rfl
end
mutual
/-- How many, how deep, down to so many levels. -/
def sizeE : XE → Int → Int × Int
  | .mk _ _ _ l, m => sizeEs l m
def sizeEs : List XE → Int → Int × Int
  | [], _ => (0, 0)
  | e :: r, m => if m < 1 then (0, 0) else ((sizeE e (m - 1)).1 + 1 + (sizeEs r m).1, max ((sizeE e (m - 1)).2 + 1) (sizeEs r m).2)
end
theorem sizeE_eq (e : XE) (m : Int) : sizeE e m = sizeEs e.kids m := by cases e; rw [sizeE]; rfl
theorem sizeEs_nil (m : Int) : sizeEs [] m = (0, 0) := by rw [sizeEs]
theorem sizeEs_cons (e : XE) (r : List XE) (m : Int) : sizeEs (e :: r) m = if m < 1 then (0, 0) else ((sizeE e (m - 1)).1 + 1 + (sizeEs r m).1, max ((sizeE e (m - 1)).2 + 1) (sizeEs r m).2) := by rw [sizeEs]
mutual
def sizeS : XS → Int → Int × Int
  | .mk _ _ _ l b o _, m => ((sizeEs l m).1 + (sizeSs b m).1 + (sizeSs o m).1, max (sizeEs l m).2 (max (sizeSs b m).2 (sizeSs o m).2))
def sizeSs : List XS → Int → Int × Int
  | [], _ => (0, 0)
  | e :: r, m => if m < 1 then (0, 0) else ((sizeS e (m - 1)).1 + 1 + (sizeSs r m).1, max ((sizeS e (m - 1)).2 + 1) (sizeSs r m).2)
end
theorem sizeS_eq (e : XS) (m : Int) : sizeS e m = ((sizeEs e.exprs m).1 + (sizeSs e.body m).1 + (sizeSs e.els m).1, max (sizeEs e.exprs m).2 (max (sizeSs e.body m).2 (sizeSs e.els m).2)) := by cases e; rw [sizeS]; rfl
theorem sizeSs_nil (m : Int) : sizeSs [] m = (0, 0) := by rw [sizeSs]
theorem sizeSs_cons (e : XS) (r : List XS) (m : Int) : sizeSs (e :: r) m = if m < 1 then (0, 0) else ((sizeS e (m - 1)).1 + 1 + (sizeSs r m).1, max ((sizeS e (m - 1)).2 + 1) (sizeSs r m).2) := by rw [sizeSs]
/-- The fold of 'Size'. -/
def stN {X : Type} (a : Int × Int) (_ : X) (d : Int) : Int × Int := (a.1 + 1, max a.2 d)
mutual
theorem foldE_N : ∀ (e : XE) (d : Int) (a : Int × Int), d ≤ 61 → d - 1 ≤ a.2 → foldE stN 61 e d a = (a.1 + 1 + (sizeE e (61 - d)).1, max a.2 (d + (sizeE e (61 - d)).2))
  | .mk k s n l, d, a, h, h2 => by
    rw [foldE_eq, sizeE_eq]
    have h3 := foldEs_N l (d + 1) (stN a (XE.mk k s n l) d) (by unfold stN; simp only; omega)
    show foldEs stN 61 l (d + 1) _ = _
    rw [h3, show (62 : Int) - (d + 1) = 61 - d by omega]
    unfold stN
    simp only
    refine Prod.ext rfl ?_
    show max (max a.2 d) (d + 1 - 1 + (sizeEs l (61 - d)).2) = max a.2 (d + (sizeEs l (61 - d)).2)
    have h4 := sizeEs_nn l (61 - d)
    omega
theorem foldEs_N : ∀ (l : List XE) (d : Int) (a : Int × Int), d - 1 ≤ a.2 → foldEs stN 61 l d a = (a.1 + (sizeEs l (62 - d)).1, max a.2 (d - 1 + (sizeEs l (62 - d)).2))
  | [], d, a, h2 => by
    rw [foldEs_nil, sizeEs_nil]
    refine Prod.ext (by simp) ?_
    show a.2 = max a.2 (d - 1 + 0)
    omega
  | e :: r, d, a, h2 => by
    rw [foldEs_cons, sizeEs_cons]
    by_cases h : 61 < d
    · rw [if_pos h, if_pos (by omega)]
      refine Prod.ext (by simp) ?_
      show a.2 = max a.2 (d - 1 + 0)
      omega
    · rw [if_neg h, if_neg (by omega)]
      have h3 := foldE_N e d a (by omega) h2
      rw [h3, foldEs_N r d _ (by simp only; omega), show (62 : Int) - d - 1 = 61 - d by omega]
      simp only
      refine Prod.ext ?_ ?_
      · simp only; omega
      · simp only; omega
theorem sizeEs_nn : ∀ (l : List XE) (m : Int), 0 ≤ (sizeEs l m).2
  | [], m => by rw [sizeEs_nil]; exact Int.le_refl _
  | e :: r, m => by
    rw [sizeEs_cons]
    split
    · exact Int.le_refl _
    · have := sizeEs_nn r m
      simp only
      omega
end
mutual
theorem foldS_N : ∀ (e : XS) (d : Int) (a : Int × Int), d ≤ 61 → d - 1 ≤ a.2 → foldS stN stN 61 e d a = (a.1 + 1 + (sizeS e (61 - d)).1, max a.2 (d + (sizeS e (61 - d)).2))
  | .mk k s n l b o ln, d, a, h, h2 => by
    rw [foldS_eq, sizeS_eq]
    show foldSs stN stN 61 o (d + 1) (foldSs stN stN 61 b (d + 1) (foldEs stN 61 l (d + 1) (stN a _ d))) = _
    rw [foldEs_N l (d + 1) _ (by unfold stN; simp only; omega), foldSs_N b (d + 1) _ (by unfold stN; simp only; omega), foldSs_N o (d + 1) _ (by unfold stN; simp only; omega), show (62 : Int) - (d + 1) = 61 - d by omega]
    unfold stN
    have h4 := sizeEs_nn l (61 - d)
    have h5 := sizeSs_nn b (61 - d)
    have h6 := sizeSs_nn o (61 - d)
    refine Prod.ext ?_ ?_
    · show a.1 + 1 + (sizeEs l (61 - d)).1 + (sizeSs b (61 - d)).1 + (sizeSs o (61 - d)).1 = a.1 + 1 + ((sizeEs l (61 - d)).1 + (sizeSs b (61 - d)).1 + (sizeSs o (61 - d)).1)
      omega
    · show max (max (max (max a.2 d) (d + 1 - 1 + (sizeEs l (61 - d)).2)) (d + 1 - 1 + (sizeSs b (61 - d)).2)) (d + 1 - 1 + (sizeSs o (61 - d)).2) = max a.2 (d + max (sizeEs l (61 - d)).2 (max (sizeSs b (61 - d)).2 (sizeSs o (61 - d)).2))
      omega
theorem foldSs_N : ∀ (l : List XS) (d : Int) (a : Int × Int), d - 1 ≤ a.2 → foldSs stN stN 61 l d a = (a.1 + (sizeSs l (62 - d)).1, max a.2 (d - 1 + (sizeSs l (62 - d)).2))
  | [], d, a, h2 => by
    rw [foldSs_nil, sizeSs_nil]
    refine Prod.ext (by simp) ?_
    show a.2 = max a.2 (d - 1 + 0)
    omega
  | e :: r, d, a, h2 => by
    rw [foldSs_cons, sizeSs_cons]
    by_cases h : 61 < d
    · rw [if_pos h, if_pos (by omega)]
      refine Prod.ext (by simp) ?_
      show a.2 = max a.2 (d - 1 + 0)
      omega
    · rw [if_neg h, if_neg (by omega)]
      have h3 := foldS_N e d a (by omega) h2
      rw [h3, foldSs_N r d _ (by simp only; omega), show (62 : Int) - d - 1 = 61 - d by omega]
      simp only
      refine Prod.ext ?_ ?_
      · simp only; omega
      · simp only; omega
theorem sizeSs_nn : ∀ (l : List XS) (m : Int), 0 ≤ (sizeSs l m).2
  | [], m => by rw [sizeSs_nil]; exact Int.le_refl _
  | e :: r, m => by
    rw [sizeSs_cons]
    split
    · exact Int.le_refl _
    · have := sizeSs_nn r m
      simp only
      omega
end
section
variable (al : XE → Bool) (sh : XS → Bool)
mutual
def stmtR : XS → Int → Bool
  | .mk k s n l b o ln, m => sh (.mk k s n l b o ln) && (exprsR al l (m - 1) && (stmtsR b (m - 1) && stmtsR o (m - 1)))
def stmtsR : List XS → Int → Bool
  | [], _ => true
  | e :: r, m => if m < 1 then false else stmtR e m && stmtsR r m
end
theorem stmtR_eq (e : XS) (m : Int) : stmtR al sh e m = (sh e && (exprsR al e.exprs (m - 1) && (stmtsR al sh e.body (m - 1) && stmtsR al sh e.els (m - 1)))) := by cases e; rw [stmtR]; rfl
theorem stmtsR_nil (m : Int) : stmtsR al sh [] m = true := by rw [stmtsR]
theorem stmtsR_cons (e : XS) (r : List XS) (m : Int) : stmtsR al sh (e :: r) m = if m < 1 then false else stmtR al sh e m && stmtsR al sh r m := by rw [stmtsR]
/-- The folds of 'Right'. -/
def stA (a : Bool) (e : XE) (_ : Int) : Bool := a && al e
def stB (a : Bool) (e : XS) (_ : Int) : Bool := a && sh e
mutual
theorem foldE_A : ∀ (e : XE) (d : Int) (a : Bool), d ≤ 60 → (sizeE e (61 - d)).2 ≤ 60 - d → foldE (stA al) 60 e d a = (a && exprR al e (61 - d))
  | .mk k s n l, d, a, h, h2 => by
    rw [foldE_eq, exprR_eq, if_neg (by omega)]
    show foldEs (stA al) 60 l (d + 1) (a && al (.mk k s n l)) = (a && (al (.mk k s n l) && exprsR al l (61 - d - 1)))
    rw [sizeE_eq] at h2
    rw [foldEs_A l (d + 1) _ (by omega) (by rw [show (62 : Int) - (d + 1) = 61 - d by omega]; show (sizeEs l (61 - d)).2 ≤ _; have : (sizeEs l (61 - d)).2 ≤ 60 - d := h2; omega), Bool.and_assoc, show (61 : Int) - (d + 1) = 61 - d - 1 by omega]
theorem foldEs_A : ∀ (l : List XE) (d : Int) (a : Bool), d ≤ 61 → (sizeEs l (62 - d)).2 ≤ 61 - d → foldEs (stA al) 60 l d a = (a && exprsR al l (61 - d))
  | [], d, a, _, _ => by rw [foldEs_nil, exprsR_nil, Bool.and_true]
  | e :: r, d, a, h, h2 => by
    rw [sizeEs_cons, if_neg (by omega), show (62 : Int) - d - 1 = 61 - d by omega] at h2
    simp only at h2
    have h3 := sizeE_nn e (61 - d)
    rw [foldEs_cons, if_neg (by omega), foldEs_A r d _ h (by omega), foldE_A e d a (by omega) (by omega), exprsR_cons, Bool.and_assoc]
theorem sizeE_nn : ∀ (e : XE) (m : Int), 0 ≤ (sizeE e m).2
  | .mk k s n l, m => by rw [sizeE_eq]; exact sizeEs_nn l m
end
mutual
theorem foldS_A : ∀ (e : XS) (d : Int) (a : Bool), d ≤ 60 → (sizeS e (61 - d)).2 ≤ 60 - d → foldS (stA al) (stB sh) 60 e d a = (a && stmtR al sh e (61 - d))
  | .mk k s n l b o ln, d, a, h, h2 => by
    rw [foldS_eq, stmtR_eq]
    rw [sizeS_eq] at h2
    have h3 : max (sizeEs l (61 - d)).2 (max (sizeSs b (61 - d)).2 (sizeSs o (61 - d)).2) ≤ 60 - d := h2
    show foldSs (stA al) (stB sh) 60 o (d + 1) (foldSs (stA al) (stB sh) 60 b (d + 1) (foldEs (stA al) 60 l (d + 1) (a && sh _))) = (a && (sh _ && (exprsR al l (61 - d - 1) && (stmtsR al sh b (61 - d - 1) && stmtsR al sh o (61 - d - 1)))))
    have e1 : (62 : Int) - (d + 1) = 61 - d := by omega
    rw [foldEs_A al l (d + 1) _ (by omega) (by rw [e1]; omega), foldSs_A b (d + 1) _ (by omega) (by rw [e1]; omega), foldSs_A o (d + 1) _ (by omega) (by rw [e1]; omega), show (61 : Int) - (d + 1) = 61 - d - 1 by omega]
    simp only [Bool.and_assoc]
theorem foldSs_A : ∀ (l : List XS) (d : Int) (a : Bool), d ≤ 61 → (sizeSs l (62 - d)).2 ≤ 61 - d → foldSs (stA al) (stB sh) 60 l d a = (a && stmtsR al sh l (61 - d))
  | [], d, a, _, _ => by rw [foldSs_nil, stmtsR_nil, Bool.and_true]
  | e :: r, d, a, h, h2 => by
    rw [sizeSs_cons, if_neg (by omega), show (62 : Int) - d - 1 = 61 - d by omega] at h2
    simp only at h2
    have h3 := sizeS_nn e (61 - d)
    rw [foldSs_cons, if_neg (by omega), foldSs_A r d _ h (by omega), foldS_A e d a (by omega) (by omega), stmtsR_cons, if_neg (by omega), Bool.and_assoc]
theorem sizeS_nn : ∀ (e : XS) (m : Int), 0 ≤ (sizeS e m).2
  | .mk k s n l b o ln, m => by
    rw [sizeS_eq]
    have := sizeEs_nn l m
    show 0 ≤ max (sizeEs l m).2 _
    omega
end
end
end Tr
end Go.Proofs.YtmapjahpjolmnaaGreatDoor
namespace Go.Proofs.YtmapjahpjolmnaaGreatDoor
open Go.RowKit
namespace Tr
/-- How many, how deep: a program. -/
def sizeI (a : Int × Int) (x : XI) : Int × Int := (a.1 + (sizeEs x.exprs 61).1 + (sizeSs x.body 61).1, max (max a.2 (sizeEs x.exprs 61).2) (sizeSs x.body 61).2)
def sizeP (l : List XI) : Int × Int := l.foldl sizeI (0, 0)
def foldI {σ : Type} (se : σ → XE → Int → σ) (ss : σ → XS → Int → σ) (most : Int) (a : σ) (x : XI) : σ := foldSs se ss most x.body 1 (foldEs se most x.exprs 1 a)
theorem foldI_N (a : Int × Int) (x : XI) (h : 0 ≤ a.2) : foldI stN stN 61 a x = sizeI a x ∧ 0 ≤ (sizeI a x).2 := by
  unfold foldI sizeI
  rw [foldEs_N x.exprs 1 a (by omega), foldSs_N x.body 1 _ (by simp only; omega)]
  refine ⟨Prod.ext ?_ ?_, ?_⟩
  · show a.1 + (sizeEs x.exprs (62 - 1)).1 + (sizeSs x.body (62 - 1)).1 = a.1 + (sizeEs x.exprs 61).1 + (sizeSs x.body 61).1
    rfl
  · show max (max a.2 (1 - 1 + (sizeEs x.exprs (62 - 1)).2)) (1 - 1 + (sizeSs x.body (62 - 1)).2) = max (max a.2 (sizeEs x.exprs 61).2) (sizeSs x.body 61).2
    rw [show (62 : Int) - 1 = 61 from rfl, show (1 : Int) - 1 = 0 from rfl, Int.zero_add, Int.zero_add]
  · show 0 ≤ max (max a.2 _) _
    omega
theorem sizeI_le (a : Int × Int) (x : XI) : a.2 ≤ (sizeI a x).2 ∧ (sizeEs x.exprs 61).2 ≤ (sizeI a x).2 ∧ (sizeSs x.body 61).2 ≤ (sizeI a x).2 := by
  unfold sizeI
  simp only
  omega
theorem fold_le : ∀ (l : List XI) (a : Int × Int), a.2 ≤ (l.foldl sizeI a).2 ∧ ∀ x ∈ l, (sizeEs x.exprs 61).2 ≤ (l.foldl sizeI a).2 ∧ (sizeSs x.body 61).2 ≤ (l.foldl sizeI a).2
  | [], a => ⟨Int.le_refl _, fun x hx => by cases hx⟩
  | y :: l, a => by
    have h := fold_le l (sizeI a y)
    have h2 := sizeI_le a y
    rw [List.foldl_cons]
    refine ⟨by omega, fun x hx => ?_⟩
    rcases List.mem_cons.1 hx with rfl | hx
    · omega
    · exact h.2 x hx
theorem sizeP_le {l : List XI} {x : XI} (hx : x ∈ l) : (sizeEs x.exprs 61).2 ≤ (sizeP l).2 ∧ (sizeSs x.body 61).2 ≤ (sizeP l).2 := (fold_le l (0, 0)).2 x hx
mutual
theorem sizeE_n1 : ∀ (e : XE) (m : Int), 0 ≤ (sizeE e m).1
  | .mk k s n l, m => by rw [sizeE_eq]; exact sizeEs_n1 l m
theorem sizeEs_n1 : ∀ (l : List XE) (m : Int), 0 ≤ (sizeEs l m).1
  | [], m => by rw [sizeEs_nil]; exact Int.le_refl _
  | e :: r, m => by
    rw [sizeEs_cons]
    split
    · exact Int.le_refl _
    · have := sizeE_n1 e (m - 1)
      have := sizeEs_n1 r m
      simp only
      omega
end
mutual
theorem sizeS_n1 : ∀ (e : XS) (m : Int), 0 ≤ (sizeS e m).1
  | .mk k s n l b o ln, m => by
    rw [sizeS_eq]
    have := sizeEs_n1 l m
    have := sizeSs_n1 b m
    have := sizeSs_n1 o m
    show 0 ≤ (sizeEs l m).1 + (sizeSs b m).1 + (sizeSs o m).1
    omega
theorem sizeSs_n1 : ∀ (l : List XS) (m : Int), 0 ≤ (sizeSs l m).1
  | [], m => by rw [sizeSs_nil]; exact Int.le_refl _
  | e :: r, m => by
    rw [sizeSs_cons]
    split
    · exact Int.le_refl _
    · have := sizeS_n1 e (m - 1)
      have := sizeSs_n1 r m
      simp only
      omega
end
theorem sizeI_n1 : ∀ (l : List XI) (a : Int × Int), a.1 ≤ (l.foldl sizeI a).1
  | [], a => Int.le_refl _
  | x :: l, a => by
    have h := sizeI_n1 l (sizeI a x)
    have h1 := sizeEs_n1 x.exprs 61
    have h2 := sizeSs_n1 x.body 61
    have h3 : (sizeI a x).1 = a.1 + (sizeEs x.exprs 61).1 + (sizeSs x.body 61).1 := rfl
    rw [List.foldl_cons]
    omega
theorem sizeP_nn (l : List XI) : 0 ≤ (sizeP l).1 := sizeI_n1 l (0, 0)
section
variable (nm : ByteArray → Bool) (al : XE → Bool)
def plainB (e : XS) : Bool := decide (e.s.size = 0) && decide (e.n = 0)
def loopB (e : XS) : Bool := decide (e.s.size = 0) && (decide (0 ≤ e.n ∧ e.n ≤ 7) && (decide ((e.exprs.length : Int) = e.n / 2 % 2) && (decide ((e.els.length : Int) = e.n % 2 + e.n / 4) && e.els.all (fun x => decide (x.k = 1)))))
def one4 (l : List XE) : Bool := match l with
  | [x] => decide (x.k = 4)
  | _ => false
def shapeF (k : Int) (z : Bool) (n : Int) (m1 m2 m3 : Nat) (nm lp o4 : Bool) : Bool :=
  if k = 1 then (z && decide (n = 0)) && decide (m1 = 1 ∧ m2 + m3 = 0)
  else if k = 2 then z && decide (0 ≤ n ∧ n ≤ 3 ∧ (0 < n → 0 < m1) ∧ m2 + m3 = 0)
  else if k = 3 then z && decide (0 ≤ n ∧ n ≤ 3 ∧ 0 < m1 ∧ (0 < n → 1 < m1) ∧ m2 + m3 = 0)
  else if k = 4 then (z && decide (n = 0)) && decide (m1 = 1)
  else if k = 5 ∨ k = 6 then (z && decide (n = 0)) && decide (m1 = 1 ∧ m3 = 0)
  else if k = 7 then lp
  else if k = 8 then nm && (decide (n = 0) && (o4 && decide (m3 = 0)))
  else if k = 9 ∨ k = 10 ∨ k = 11 then (z && decide (n = 0)) && decide (wrap64 (wrap64 ((m1 : Int) + m2) + m3) = 0)
  else if k = 12 ∨ k = 13 then (z && decide (n = 0)) && decide (m1 ≤ 1 ∧ m2 + m3 = 0)
  else if k = 14 then nm && (decide (n = 0) && decide (m2 + m3 = 0))
  else if k = 15 then (z && decide (n = 0)) && decide (m1 + m3 = 0)
  else false
/-- Is a statement right, but for what is within? -/
def shapeB (e : XS) : Bool := shapeF e.k (decide (e.s.size = 0)) e.n e.exprs.length e.body.length e.els.length (nm e.s) (loopB e) (one4 e.exprs)
def bareB (x : XI) : Bool := decide (x.name.size = 0) && decide (x.params.length = 0)
/-- Is an item right, but for what is within? -/
def itemB (x : XI) : Bool :=
  if x.k = 1 ∨ x.k = 2 then bareB x && (decide (x.exprs.length = 0) && !x.has)
  else if x.k = 3 then bareB x && (decide (x.exprs.length ≤ 2) && (x.has || decide (0 < x.exprs.length ∧ x.body.length = 0)))
  else if x.k = 4 then nm x.name && (decide (x.params.length ≤ 20) && (x.params.all nm && (decide (x.exprs.length = 0) && !x.has)))
  else false
def insideB (x : XI) : Bool := exprsR al x.exprs 60 && stmtsR al (shapeB nm) x.body 60
/-- May a program be? -/
def rightB (l : List XI) : Bool := decide ((sizeP l).1 ≤ 4000 ∧ (sizeP l).2 ≤ 60) && l.all (fun x => itemB nm x && insideB nm al x)
/-- The program's last loop. -/
def stR (a : Bool) (x : XI) : Bool := foldI (stA al) (stB (shapeB nm)) 60 (a && itemB nm x) x
theorem stR_eq (a : Bool) (x : XI) (h : (sizeEs x.exprs 61).2 ≤ 60) (h2 : (sizeSs x.body 61).2 ≤ 60) : stR nm al a x = (a && (itemB nm x && insideB nm al x)) := by
  unfold stR foldI insideB
  rw [foldEs_A al x.exprs 1 _ (by decide) (by show (sizeEs x.exprs (62 - 1)).2 ≤ 60; exact h), foldSs_A al (shapeB nm) x.body 1 _ (by decide) (by show (sizeSs x.body (62 - 1)).2 ≤ 60; exact h2)]
  show ((a && itemB nm x) && exprsR al x.exprs 60 && stmtsR al (shapeB nm) x.body 60) = _
  simp only [Bool.and_assoc]
theorem foldR_eq : ∀ (l : List XI) (a : Bool), (∀ x ∈ l, (sizeEs x.exprs 61).2 ≤ 60 ∧ (sizeSs x.body 61).2 ≤ 60) → l.foldl (stR nm al) a = (a && l.all (fun x => itemB nm x && insideB nm al x))
  | [], a, _ => by simp
  | x :: l, a, h => by
    have h1 := h x (List.mem_cons_self ..)
    rw [List.foldl_cons, stR_eq nm al a x h1.1 h1.2, foldR_eq l _ (fun y hy => h y (List.mem_cons_of_mem _ hy)), List.all_cons, Bool.and_assoc]
theorem right_eq (l : List XI) (h : (sizeP l).1 ≤ 4000 ∧ (sizeP l).2 ≤ 60) : l.foldl (stR nm al) true = rightB nm al l := by
  rw [foldR_eq nm al l true (fun x hx => by have := sizeP_le hx; omega), Bool.true_and]
  unfold rightB
  rw [decide_eq_true h, Bool.true_and]
end
end Tr
end Go.Proofs.YtmapjahpjolmnaaGreatDoor
