/- The walk of the reference's one: marks, quotes, signs. -/
import Derived.Test.YtpgegmnapankpaaLexR7
import Derived.BigQuiet
namespace Go.Proofs.Ytpgegmnapankpaa
open Go.RowKit
def rzero : Value := .agg #[.int .u8 0, .string ⟨#[]⟩, .int .i64 0, .int .i64 0, .int .i64 0]
def rres (a : Nat) (o : Int × ByteArray × Nat) : Value := if o.2.2 = 0 then rzero else rtok a o
theorem hp_cut (s x : ByteArray) (a : Nat) : Lib.hasPrefix (s.data.toList.drop a) x.data.toList = decide (a + x.size ≤ s.size ∧ s.extract a (a + x.size) = x) ∨ s.size < a := by
  rcases Nat.lt_or_ge s.size a with h | h
  · exact .inr h
  · left
    rw [Bool.eq_iff_iff, decide_eq_true_eq, ext_mid, Nat.add_sub_cancel_left]
    unfold Lib.hasPrefix
    rw [List.isPrefixOf_iff_prefix]
    have hxl : x.data.toList.length = x.size := rfl
    have hsl : s.data.toList.length = s.size := rfl
    constructor
    · intro hp
      have hle := hp.length_le
      rw [List.length_drop] at hle
      have hq := List.prefix_iff_eq_take.1 hp
      rw [hxl] at hq hle
      refine ⟨by omega, bytes_ext ?_⟩
      rw [← hq]
      simp [bsA]
    · rintro ⟨hle, he⟩
      rw [List.prefix_iff_eq_take, hxl]
      conv => lhs; rw [← he]
      simp [bsA]
theorem Lex.signs_pos9 : ∀ k : Fin Lex.signsB.length, 0 < (Lex.signsB[k]).size := by decide +kernel
theorem Lex.signs_pos : ∀ k, (h : k < Lex.signsB.length) → 0 < (Lex.signsB[k]).size := fun k h => Lex.signs_pos9 ⟨k, h⟩
theorem below_drewN {B : Nat} {w w' : World} (n : Nat) (h : Below B w w') : Below B w (w'.drewN n) := ⟨h.os, h.tape, h.output, h.size, h.block⟩
theorem quoted_pos (l : List UInt8) (p : List UInt8 × Nat) (h : Lex.quoted l = some p) : 0 < p.2 := by
  cases l with
  | nil => simp [Lex.quoted] at h
  | cons q r =>
    simp [Lex.quoted] at h
    obtain ⟨x, y, hxy, rfl⟩ := h
    simp only []
    omega
set_option maxRecDepth 20000 in
set_option maxHeartbeats 4000000 in
theorem r_one_rest (s : ByteArray) (a : Nat) (re : Bool) (w : World) (hs : s.size ≤ 4294967) (h0 : a < s.size) (hlet : Lex.let_ (Lex.byteN s.data.toList a) = false) (hnum : Lex.numL (s.data.toList.drop a) = 0) (h10 : Lex.byteN s.data.toList a ≠ 10) :
    Calls Try.prog 14 #[.string s, .int .i64 a, .bool re] w fun e w' => e = .returned (rres a (Lex.oneRest (s.data.toList.drop a) re)) ∧ Below w.heap.size w w' := by
  have hc : ((s[a]'h0).toNat : Int) = Lex.byteN s.data.toList a := by rw [Lex.byteN_in (by exact h0)]; rfl
  have HLET := Lib.hid hlet
  have HNUM := Lib.hid hnum
  clear hlet hnum
  obtain ⟨o, ho⟩ : ∃ o, o = Lex.oneRest (s.data.toList.drop a) re := ⟨_, rfl⟩
  rw [← ho]
  unfold Lex.oneRest at ho
  rw [Lex.byteN_drop, Nat.add_zero, if_neg h10] at ho
  have HQQ := Lib.hid (fun (q : UInt8) (hq : s[a]'h0 = q) (hq2 : q.toNat = 34 ∨ q.toNat = 47) (w : World) => r_quoted s a q w hs h0 hq hq2)
  have h256 := Lex.byteN_range s.data.toList a
  have HPC := Lib.hid (fun x => (hp_cut s x a).resolve_right (by omega))
  generalize hcc : Lex.byteN s.data.toList a = c at *
  clear hcc
  have HO := Lib.hid ho
  have HC := Lib.hid hc
  clear ho
  go_enter Try.func14, Try.ntmps14
  go_wp2_with fail
  refine (r_letter _ _).mono ?_
  rintro e w2 ⟨rfl, rfl⟩
  rw [HLET.out]
  obtain ⟨hR1, hB1⟩ := tok5 w (.int .u8 0) (.string ⟨#[]⟩) (.int .i64 0) (.int .i64 0) (.int .i64 0)
  go_wp2_with fail
  generalize w.alloc (.cells #[.int .u8 0, .string ⟨#[]⟩, .int .i64 0, .int .i64 0, .int .i64 0] 24) = w1 at *
  obtain ⟨R, hRe⟩ : ∃ R, R = w.heap.size := ⟨_, rfl⟩
  have HRE := Lib.hid hRe
  rw [← hRe] at hR1 hB1 ⊢
  clear hRe
  refine (r_number s a _ (by omega) (by omega)).mono ?_
  rintro e w2 ⟨rfl, rfl⟩
  rw [HNUM.out, Nat.add_zero]
  by_cases h34 : c = 34
  · have hO := HO.out
    rw [if_pos h34] at hO
    have HO1 := Lib.hid hO
    have hq : s[a]'h0 = 34 := UInt8.toNat_inj.1 (by have := HC.out; show (s[a]'h0).toNat = 34; omega)
    have HQ3 := Lib.hid (HQQ.out 34 hq (.inl rfl))
    clear hO HQQ hq
    subst h34
    cases hQ : Lex.quoted (s.data.toList.drop a) with
    | none =>
      have HO2 := HO1
      rw [hQ] at HO2 HQ3
      clear hQ HO1
      go_wp2_with fail
      refine (HQ3.out _).mono ?_
      rintro e w5 ⟨rfl, hb5⟩
      have HR4 := Lib.hid (below_blk hR1 hb5 hR1.lt)
      have HB4 := Lib.hid (hB1.trans (hb5.mono (by rw [HRE.out]; exact hB1.size)))
      clear hR1 hB1 hb5
      simp only [Option.map_none, rquotV]
      obtain ⟨⟨c0, c1, c2, c3, c4⟩, f0, f1, f2, f3, f4⟩ := HR4.out.five
      go_wp2_with fail
      have hR9 := HR4.out.set5 (.int .u8 0) (.string ⟨#[]⟩) (.int .i64 0) (.int .i64 0) (.int .i64 0)
      have hB9 := HB4.out.trans (below_set5 (g := R) (by rw [HRE.out]; exact Nat.le_refl _) (by have := HR4.out.lt; have := HRE.out; omega) (.int .u8 0) (.string ⟨#[]⟩) (.int .i64 0) (.int .i64 0) (.int .i64 0))
      obtain ⟨⟨s0, s1, s2, s3, s4⟩, -⟩ := hR9.five
      clear c0 c1 c2 c3 c4 f0 f1 f2 f3 f4 hR9
      refine bodyPost_ret (v := .agg #[.int .u8 0, .string ⟨#[]⟩, .int .i64 0, .int .i64 0, .int .i64 0]) (by simp [results, Try.results14, go_sem, s0, s1, s2, s3, s4]) rfl ⟨by rw [HO2.out]; rfl, by rw [← HRE.out]; exact hB9⟩
    | some p =>
      have hp0 := quoted_pos _ _ hQ
      have HO2 := HO1
      rw [hQ] at HO2 HQ3
      clear hQ HO1
      have HP0 := Lib.hid hp0
      clear hp0
      go_wp2_with fail
      refine (HQ3.out _).mono ?_
      rintro e w5 ⟨rfl, hb5⟩
      have HR4 := Lib.hid (below_blk hR1 hb5 hR1.lt)
      have HB4 := Lib.hid (hB1.trans (hb5.mono (by rw [HRE.out]; exact hB1.size)))
      clear hR1 hB1 hb5
      simp only [Option.map_some, rquotV]
      obtain ⟨m, hm⟩ : ∃ m, m = a + p.2 := ⟨_, rfl⟩
      have HM := Lib.hid hm
      rw [← hm]
      clear hm
      obtain ⟨⟨c0, c1, c2, c3, c4⟩, f0, f1, f2, f3, f4⟩ := HR4.out.five
      go_wp2_with fail
      have hR9 := HR4.out.set5 (.int .u8 2) (.string (bsA p.1)) (.int .i64 0) (.int .i64 a) (.int .i64 m)
      have hB9 := HB4.out.trans (below_set5 (g := R) (by rw [HRE.out]; exact Nat.le_refl _) (by have := HR4.out.lt; have := HRE.out; omega) (.int .u8 2) (.string (bsA p.1)) (.int .i64 0) (.int .i64 a) (.int .i64 m))
      obtain ⟨⟨s0, s1, s2, s3, s4⟩, -⟩ := hR9.five
      clear c0 c1 c2 c3 c4 f0 f1 f2 f3 f4 hR9
      refine bodyPost_ret (v := .agg #[.int .u8 2, .string (bsA p.1), .int .i64 0, .int .i64 a, .int .i64 m]) (by simp [results, Try.results14, go_sem, s0, s1, s2, s3, s4]) rfl ⟨by rw [HO2.out, rres, if_neg (by have := HP0.out; show ¬ p.2 = 0; omega)]; rw [HM.out]; rfl, by rw [← HRE.out]; exact hB9⟩
  · have hc34 : (c == 34) = false := by simp [h34]
    by_cases h47 : c = 47 ∧ re = true
    · have hO := HO.out
      rw [if_neg h34, if_pos h47] at hO
      have HO1 := Lib.hid hO
      obtain ⟨h47, hre⟩ := h47
      have hq : s[a]'h0 = 47 := UInt8.toNat_inj.1 (by have := HC.out; show (s[a]'h0).toNat = 47; omega)
      subst hre
      clear h34 hc34
      have HQ3 := Lib.hid (HQQ.out 47 hq (.inr rfl))
      clear hO HQQ hq
      subst h47
      cases hQ : Lex.quoted (s.data.toList.drop a) with
      | none =>
        have HO2 := HO1
        rw [hQ] at HO2 HQ3
        clear hQ HO1
        go_wp2_with fail
        refine (HQ3.out _).mono ?_
        rintro e w5 ⟨rfl, hb5⟩
        have HR4 := Lib.hid (below_blk hR1 hb5 hR1.lt)
        have HB4 := Lib.hid (hB1.trans (hb5.mono (by rw [HRE.out]; exact hB1.size)))
        clear hR1 hB1 hb5
        simp only [Option.map_none, rquotV]
        obtain ⟨⟨c0, c1, c2, c3, c4⟩, f0, f1, f2, f3, f4⟩ := HR4.out.five
        go_wp2_with fail
        have hR9 := HR4.out.set5 (.int .u8 0) (.string ⟨#[]⟩) (.int .i64 0) (.int .i64 0) (.int .i64 0)
        have hB9 := HB4.out.trans (below_set5 (g := R) (by rw [HRE.out]; exact Nat.le_refl _) (by have := HR4.out.lt; have := HRE.out; omega) (.int .u8 0) (.string ⟨#[]⟩) (.int .i64 0) (.int .i64 0) (.int .i64 0))
        obtain ⟨⟨s0, s1, s2, s3, s4⟩, -⟩ := hR9.five
        clear c0 c1 c2 c3 c4 f0 f1 f2 f3 f4 hR9
        refine bodyPost_ret (v := .agg #[.int .u8 0, .string ⟨#[]⟩, .int .i64 0, .int .i64 0, .int .i64 0]) (by simp [results, Try.results14, go_sem, s0, s1, s2, s3, s4]) rfl ⟨by rw [HO2.out]; rfl, by rw [← HRE.out]; exact hB9⟩
      | some p =>
        have hp0 := quoted_pos _ _ hQ
        have HO2 := HO1
        rw [hQ] at HO2 HQ3
        clear hQ HO1
        have HP0 := Lib.hid hp0
        clear hp0
        go_wp2_with fail
        refine (HQ3.out _).mono ?_
        rintro e w5 ⟨rfl, hb5⟩
        have HR4 := Lib.hid (below_blk hR1 hb5 hR1.lt)
        have HB4 := Lib.hid (hB1.trans (hb5.mono (by rw [HRE.out]; exact hB1.size)))
        clear hR1 hB1 hb5
        simp only [Option.map_some, rquotV]
        obtain ⟨m, hm⟩ : ∃ m, m = a + p.2 := ⟨_, rfl⟩
        have HM := Lib.hid hm
        rw [← hm]
        clear hm
        obtain ⟨⟨c0, c1, c2, c3, c4⟩, f0, f1, f2, f3, f4⟩ := HR4.out.five
        go_wp2_with fail
        have hR9 := HR4.out.set5 (.int .u8 3) (.string (bsA p.1)) (.int .i64 0) (.int .i64 a) (.int .i64 m)
        have hB9 := HB4.out.trans (below_set5 (g := R) (by rw [HRE.out]; exact Nat.le_refl _) (by have := HR4.out.lt; have := HRE.out; omega) (.int .u8 3) (.string (bsA p.1)) (.int .i64 0) (.int .i64 a) (.int .i64 m))
        obtain ⟨⟨s0, s1, s2, s3, s4⟩, -⟩ := hR9.five
        clear c0 c1 c2 c3 c4 f0 f1 f2 f3 f4 hR9
        refine bodyPost_ret (v := .agg #[.int .u8 3, .string (bsA p.1), .int .i64 0, .int .i64 a, .int .i64 m]) (by simp [results, Try.results14, go_sem, s0, s1, s2, s3, s4]) rfl ⟨by rw [HO2.out, rres, if_neg (by have := HP0.out; show ¬ p.2 = 0; omega)]; rw [HM.out]; rfl, by rw [← HRE.out]; exact hB9⟩
    · have hO := HO.out
      rw [if_neg h34, if_neg h47] at hO
      have HO1 := Lib.hid hO
      have hcs2 : (c == 47) = false ∨ ((c == 47) = true ∧ re = false) := by
        by_cases h : c = 47
        · right; exact ⟨by simp [h], by simpa [h] using h47⟩
        · left; simp [h]
      clear hO h47 h34
      rcases hcs2 with h47 | ⟨h47, hre⟩
      · go_wp2_with fail
        refine (r_signs2 _).mono ?_
        rintro e w5 ⟨W, rfl, hW, hst, hb5⟩
        have hR4 := below_blk hR1 hb5 hR1.lt
        have hB4 := hB1.trans (hb5.mono (by rw [HRE.out]; exact hB1.size))
        have hRW : R < W := by rw [hW]; exact hR1.lt
        have HRW := Lib.hid hRW
        clear hR1 hB1 hb5 hW hRW
        have HST := Lib.hid hst
        have HR4 := Lib.hid hR4
        have HB4 := Lib.hid hB4
        clear hst hR4 hB4
        obtain ⟨l, hL⟩ : ∃ l, l = s.data.toList.drop a := ⟨_, rfl⟩
        rw [← hL] at HO1 HPC
        clear hL
        have HO3 : Hid (o = match Lex.signsB.find? (fun x => Lib.hasPrefix l x.data.toList) with | some x => (7, x, x.size) | none => (0, ⟨#[]⟩, 0)) := HO1.out
        obtain ⟨S, hS⟩ : ∃ S, S = Lex.signsB := ⟨_, rfl⟩
        have hS39 : S.length = 39 := by rw [hS]; rfl
        have hsz2 : ∀ k, (h : k < S.length) → (S[k]).size ≤ 2 := by
          rw [hS]
          exact Lex.signs_size
        have hsz1 : ∀ k, (h : k < S.length) → 0 < (S[k]).size := by
          rw [hS]
          exact Lex.signs_pos
        have HSZ2 := Lib.hid hsz2
        have HSZ1 := Lib.hid hsz1
        rw [← hS] at HO3 HST
        clear hS HO1 hsz2 hsz1
        go_wp2_with fail
        go_loopw [13] (fun i wr => ∃ k : Nat, k ≤ 39 ∧ i = .int .i64 k ∧ (∀ j, (hj : j < S.length) → j < k → Lib.hasPrefix l (S[j]).data.toList = false) ∧ Strs wr (W + 1) (some ⟨W, 0, none⟩) 39 S ∧ Blk wr R 24 #[.int .u8 0, .string ⟨#[]⟩, .int .i64 0, .int .i64 0, .int .i64 0] ∧ Below w.heap.size w wr) (fun i _ => 39 - (intOf i).toNat)
        case atStart => exact ⟨0, by omega, rfl, (fun j _ h => by omega), HST.out, HR4.out, HRE.out ▸ HB4.out⟩
        case round =>
          obtain ⟨k, hk, rfl, hno, hst, hR4, hB4⟩ := hrel
          clear HST HR4 HB4
          have HNO := Lib.hid hno
          have HST := Lib.hid hst
          have HR4 := Lib.hid hR4
          have HB4 := Lib.hid hB4
          clear hno hst hR4 hB4
          by_cases hlt : k < 39
          · have hkS : k < S.length := by omega
            have hcell : wr.cell? ⟨W, 0 + k, none⟩ = some (.string S[k]) := by
              obtain ⟨b, o, hbo, -, hc⟩ := HST.out.2 (by omega)
              obtain ⟨rfl, rfl⟩ : W = b ∧ 0 = o := by simpa using hbo
              exact hc k hkS
            have hcell2 : wr.cell? ⟨W, k, none⟩ = some (.string S[k]) := by have := hcell; rwa [Nat.zero_add] at this
            have hk0 : (0 : Int) ≤ (k : Int) := Int.natCast_nonneg _
            have hk1 : (k : Int) < 39 := by omega
            have hx2 := HSZ2.out k hkS
            have hx1 := HSZ1.out k hkS
            have HFS := Lib.hid (fun hp => find_first S (fun x => Lib.hasPrefix l x.data.toList) k hkS hp HNO.out)
            have hpx := HPC.out S[k]
            obtain ⟨x, hx⟩ : ∃ x, x = S[k] := ⟨_, rfl⟩
            rw [← hx] at hcell hcell2 hx2 hx1 HFS hpx
            have HX := Lib.hid hx
            have HPX := Lib.hid hpx
            clear hx hpx
            by_cases hroom : a + x.size ≤ s.size
            · by_cases heq : s.extract a (a + x.size) = x
              · have hp : Lib.hasPrefix l x.data.toList = true := by rw [HPX.out]; exact decide_eq_true ⟨hroom, heq⟩
                have hq : ((s.extract a (a + x.size)).toList == x.toList) = true := by rw [heq]; simp
                have hO := HO3.out
                rw [HFS.out hp] at hO
                have HO2 := Lib.hid hO
                have HEQ := Lib.hid heq
                clear hO hp HFS HNO heq
                have hro : (a : Int) + (x.size : Int) ≤ (s.size : Int) := by omega
                go_wp2_with fail
                go_quiet (fail)
                have hcell3 : (wr.drewN nq).cell? ⟨W, k, none⟩ = some (.string x) := hcell2
                have hR5 : Blk (wr.drewN nq) R 24 #[.int .u8 0, .string ⟨#[]⟩, .int .i64 0, .int .i64 0, .int .i64 0] := HR4.out
                have hB5 := below_drewN nq HB4.out
                generalize wr.drewN nq = w6 at *
                have HB5 := Lib.hid hB5
                have HR5 := Lib.hid hR5
                clear hB5 hR5 hcell hcell2 hq hro HST
                obtain ⟨⟨c0, c1, c2, c3, c4⟩, f0, f1, f2, f3, f4⟩ := HR5.out.five
                have hcell : w6.cell? ⟨W, 0 + k, none⟩ = some (.string x) := by rw [Nat.zero_add]; exact hcell3
                go_wp2_with fail
                go_region
                have hR9 := HR5.out.set5 (.int .u8 7) (.string x) (.int .i64 0) (.int .i64 a) (.int .i64 ((a : Int) + (x.size : Int)))
                have hB9 := HB5.out.trans (below_set5 (g := R) (by rw [HRE.out]; exact Nat.le_refl _) (by have := HR5.out.lt; have := HRE.out; omega) (.int .u8 7) (.string x) (.int .i64 0) (.int .i64 a) (.int .i64 ((a : Int) + (x.size : Int))))
                obtain ⟨⟨s0, s1, s2, s3, s4⟩, -⟩ := hR9.five
                clear c0 c1 c2 c3 c4 f0 f1 f2 f3 f4 hR9 hcell hcell3
                go_wp2_with fail
                refine bodyPost_ret (v := .agg #[.int .u8 7, .string x, .int .i64 0, .int .i64 a, .int .i64 ((a : Int) + (x.size : Int))]) (by simp [results, Try.results14, go_sem, s0, s1, s2, s3, s4]) rfl ⟨by rw [HO2.out, rres, if_neg (show ¬ x.size = 0 by omega)]; simp only [rtok, Int.natCast_add], hB9.drew⟩
              · have hp : Lib.hasPrefix l x.data.toList = false := by rw [HPX.out]; exact decide_eq_false fun h => heq h.2
                have hq : ((s.extract a (a + x.size)).toList == x.toList) = false := by rw [tolist_beq]; exact decide_eq_false fun e => heq (bytes_ext e)
                have HPF := Lib.hid hp
                clear hp heq
                have hro : (a : Int) + (x.size : Int) ≤ (s.size : Int) := by omega
                go_wp2_with fail
                go_quiet (fail)
                go_wp2_with fail
                go_roundw
                case rel => exact ⟨k + 1, by omega, by go_num, (fun j hj h => by
                  rcases Nat.lt_or_ge j k with h | h
                  · exact HNO.out j hj h
                  · obtain rfl : j = k := by omega
                    rw [← HX.out]; exact HPF.out), HST.out.below (below_drewN nq (Below.refl _ _)), HR4.out, below_drewN nq HB4.out⟩
                case measure => simp [intOf]; omega
            · have hp : Lib.hasPrefix l x.data.toList = false := by rw [HPX.out]; exact decide_eq_false fun h => hroom h.1
              have HPF := Lib.hid hp
              clear hp
              have hro : decide ((a : Int) + (x.size : Int) ≤ (s.size : Int)) = false := decide_eq_false (by omega)
              go_wp2_with fail
              go_quiet (fail)
              go_wp2_with fail
              go_roundw
              case rel => exact ⟨k + 1, by omega, by go_num, (fun j hj h => by
                rcases Nat.lt_or_ge j k with h | h
                · exact HNO.out j hj h
                · obtain rfl : j = k := by omega
                  rw [← HX.out]; exact HPF.out), HST.out.below (below_drewN nq (Below.refl _ _)), HR4.out, below_drewN nq HB4.out⟩
              case measure => simp [intOf]; omega
          · have hO := HO3.out
            rw [find_none S (fun x => Lib.hasPrefix l x.data.toList) (fun j hj => HNO.out j hj (by omega))] at hO
            have HO2 := Lib.hid hO
            clear hO HNO
            obtain ⟨⟨c0, c1, c2, c3, c4⟩, f0, f1, f2, f3, f4⟩ := HR4.out.five
            go_wp2_with fail
            have hR9 := HR4.out.set5 (.int .u8 0) (.string ⟨#[]⟩) (.int .i64 0) (.int .i64 0) (.int .i64 0)
            have hB9 := HB4.out.trans (below_set5 (g := R) (by rw [HRE.out]; exact Nat.le_refl _) (by have := HR4.out.lt; have := HRE.out; omega) (.int .u8 0) (.string ⟨#[]⟩) (.int .i64 0) (.int .i64 0) (.int .i64 0))
            obtain ⟨⟨s0, s1, s2, s3, s4⟩, -⟩ := hR9.five
            clear c0 c1 c2 c3 c4 f0 f1 f2 f3 f4 hR9
            refine bodyPost_ret (v := .agg #[.int .u8 0, .string ⟨#[]⟩, .int .i64 0, .int .i64 0, .int .i64 0]) (by simp [results, Try.results14, go_sem, s0, s1, s2, s3, s4]) rfl ⟨by rw [HO2.out]; rfl, hB9⟩
      · subst hre
        go_wp2_with fail
        refine (r_signs2 _).mono ?_
        rintro e w5 ⟨W, rfl, hW, hst, hb5⟩
        have hR4 := below_blk hR1 hb5 hR1.lt
        have hB4 := hB1.trans (hb5.mono (by rw [HRE.out]; exact hB1.size))
        have hRW : R < W := by rw [hW]; exact hR1.lt
        have HRW := Lib.hid hRW
        clear hR1 hB1 hb5 hW hRW
        have HST := Lib.hid hst
        have HR4 := Lib.hid hR4
        have HB4 := Lib.hid hB4
        clear hst hR4 hB4
        obtain ⟨l, hL⟩ : ∃ l, l = s.data.toList.drop a := ⟨_, rfl⟩
        rw [← hL] at HO1 HPC
        clear hL
        have HO3 : Hid (o = match Lex.signsB.find? (fun x => Lib.hasPrefix l x.data.toList) with | some x => (7, x, x.size) | none => (0, ⟨#[]⟩, 0)) := HO1.out
        obtain ⟨S, hS⟩ : ∃ S, S = Lex.signsB := ⟨_, rfl⟩
        have hS39 : S.length = 39 := by rw [hS]; rfl
        have hsz2 : ∀ k, (h : k < S.length) → (S[k]).size ≤ 2 := by
          rw [hS]
          exact Lex.signs_size
        have hsz1 : ∀ k, (h : k < S.length) → 0 < (S[k]).size := by
          rw [hS]
          exact Lex.signs_pos
        have HSZ2 := Lib.hid hsz2
        have HSZ1 := Lib.hid hsz1
        rw [← hS] at HO3 HST
        clear hS HO1 hsz2 hsz1
        go_wp2_with fail
        go_loopw [13] (fun i wr => ∃ k : Nat, k ≤ 39 ∧ i = .int .i64 k ∧ (∀ j, (hj : j < S.length) → j < k → Lib.hasPrefix l (S[j]).data.toList = false) ∧ Strs wr (W + 1) (some ⟨W, 0, none⟩) 39 S ∧ Blk wr R 24 #[.int .u8 0, .string ⟨#[]⟩, .int .i64 0, .int .i64 0, .int .i64 0] ∧ Below w.heap.size w wr) (fun i _ => 39 - (intOf i).toNat)
        case atStart => exact ⟨0, by omega, rfl, (fun j _ h => by omega), HST.out, HR4.out, HRE.out ▸ HB4.out⟩
        case round =>
          obtain ⟨k, hk, rfl, hno, hst, hR4, hB4⟩ := hrel
          clear HST HR4 HB4
          have HNO := Lib.hid hno
          have HST := Lib.hid hst
          have HR4 := Lib.hid hR4
          have HB4 := Lib.hid hB4
          clear hno hst hR4 hB4
          by_cases hlt : k < 39
          · have hkS : k < S.length := by omega
            have hcell : wr.cell? ⟨W, 0 + k, none⟩ = some (.string S[k]) := by
              obtain ⟨b, o, hbo, -, hc⟩ := HST.out.2 (by omega)
              obtain ⟨rfl, rfl⟩ : W = b ∧ 0 = o := by simpa using hbo
              exact hc k hkS
            have hcell2 : wr.cell? ⟨W, k, none⟩ = some (.string S[k]) := by have := hcell; rwa [Nat.zero_add] at this
            have hk0 : (0 : Int) ≤ (k : Int) := Int.natCast_nonneg _
            have hk1 : (k : Int) < 39 := by omega
            have hx2 := HSZ2.out k hkS
            have hx1 := HSZ1.out k hkS
            have HFS := Lib.hid (fun hp => find_first S (fun x => Lib.hasPrefix l x.data.toList) k hkS hp HNO.out)
            have hpx := HPC.out S[k]
            obtain ⟨x, hx⟩ : ∃ x, x = S[k] := ⟨_, rfl⟩
            rw [← hx] at hcell hcell2 hx2 hx1 HFS hpx
            have HX := Lib.hid hx
            have HPX := Lib.hid hpx
            clear hx hpx
            by_cases hroom : a + x.size ≤ s.size
            · by_cases heq : s.extract a (a + x.size) = x
              · have hp : Lib.hasPrefix l x.data.toList = true := by rw [HPX.out]; exact decide_eq_true ⟨hroom, heq⟩
                have hq : ((s.extract a (a + x.size)).toList == x.toList) = true := by rw [heq]; simp
                have hO := HO3.out
                rw [HFS.out hp] at hO
                have HO2 := Lib.hid hO
                have HEQ := Lib.hid heq
                clear hO hp HFS HNO heq
                have hro : (a : Int) + (x.size : Int) ≤ (s.size : Int) := by omega
                go_wp2_with fail
                go_quiet (fail)
                have hcell3 : (wr.drewN nq).cell? ⟨W, k, none⟩ = some (.string x) := hcell2
                have hR5 : Blk (wr.drewN nq) R 24 #[.int .u8 0, .string ⟨#[]⟩, .int .i64 0, .int .i64 0, .int .i64 0] := HR4.out
                have hB5 := below_drewN nq HB4.out
                generalize wr.drewN nq = w6 at *
                have HB5 := Lib.hid hB5
                have HR5 := Lib.hid hR5
                clear hB5 hR5 hcell hcell2 hq hro HST
                obtain ⟨⟨c0, c1, c2, c3, c4⟩, f0, f1, f2, f3, f4⟩ := HR5.out.five
                have hcell : w6.cell? ⟨W, 0 + k, none⟩ = some (.string x) := by rw [Nat.zero_add]; exact hcell3
                go_wp2_with fail
                go_region
                have hR9 := HR5.out.set5 (.int .u8 7) (.string x) (.int .i64 0) (.int .i64 a) (.int .i64 ((a : Int) + (x.size : Int)))
                have hB9 := HB5.out.trans (below_set5 (g := R) (by rw [HRE.out]; exact Nat.le_refl _) (by have := HR5.out.lt; have := HRE.out; omega) (.int .u8 7) (.string x) (.int .i64 0) (.int .i64 a) (.int .i64 ((a : Int) + (x.size : Int))))
                obtain ⟨⟨s0, s1, s2, s3, s4⟩, -⟩ := hR9.five
                clear c0 c1 c2 c3 c4 f0 f1 f2 f3 f4 hR9 hcell hcell3
                go_wp2_with fail
                refine bodyPost_ret (v := .agg #[.int .u8 7, .string x, .int .i64 0, .int .i64 a, .int .i64 ((a : Int) + (x.size : Int))]) (by simp [results, Try.results14, go_sem, s0, s1, s2, s3, s4]) rfl ⟨by rw [HO2.out, rres, if_neg (show ¬ x.size = 0 by omega)]; simp only [rtok, Int.natCast_add], hB9.drew⟩
              · have hp : Lib.hasPrefix l x.data.toList = false := by rw [HPX.out]; exact decide_eq_false fun h => heq h.2
                have hq : ((s.extract a (a + x.size)).toList == x.toList) = false := by rw [tolist_beq]; exact decide_eq_false fun e => heq (bytes_ext e)
                have HPF := Lib.hid hp
                clear hp heq
                have hro : (a : Int) + (x.size : Int) ≤ (s.size : Int) := by omega
                go_wp2_with fail
                go_quiet (fail)
                go_wp2_with fail
                go_roundw
                case rel => exact ⟨k + 1, by omega, by go_num, (fun j hj h => by
                  rcases Nat.lt_or_ge j k with h | h
                  · exact HNO.out j hj h
                  · obtain rfl : j = k := by omega
                    rw [← HX.out]; exact HPF.out), HST.out.below (below_drewN nq (Below.refl _ _)), HR4.out, below_drewN nq HB4.out⟩
                case measure => simp [intOf]; omega
            · have hp : Lib.hasPrefix l x.data.toList = false := by rw [HPX.out]; exact decide_eq_false fun h => hroom h.1
              have HPF := Lib.hid hp
              clear hp
              have hro : decide ((a : Int) + (x.size : Int) ≤ (s.size : Int)) = false := decide_eq_false (by omega)
              go_wp2_with fail
              go_quiet (fail)
              go_wp2_with fail
              go_roundw
              case rel => exact ⟨k + 1, by omega, by go_num, (fun j hj h => by
                rcases Nat.lt_or_ge j k with h | h
                · exact HNO.out j hj h
                · obtain rfl : j = k := by omega
                  rw [← HX.out]; exact HPF.out), HST.out.below (below_drewN nq (Below.refl _ _)), HR4.out, below_drewN nq HB4.out⟩
              case measure => simp [intOf]; omega
          · have hO := HO3.out
            rw [find_none S (fun x => Lib.hasPrefix l x.data.toList) (fun j hj => HNO.out j hj (by omega))] at hO
            have HO2 := Lib.hid hO
            clear hO HNO
            obtain ⟨⟨c0, c1, c2, c3, c4⟩, f0, f1, f2, f3, f4⟩ := HR4.out.five
            go_wp2_with fail
            have hR9 := HR4.out.set5 (.int .u8 0) (.string ⟨#[]⟩) (.int .i64 0) (.int .i64 0) (.int .i64 0)
            have hB9 := HB4.out.trans (below_set5 (g := R) (by rw [HRE.out]; exact Nat.le_refl _) (by have := HR4.out.lt; have := HRE.out; omega) (.int .u8 0) (.string ⟨#[]⟩) (.int .i64 0) (.int .i64 0) (.int .i64 0))
            obtain ⟨⟨s0, s1, s2, s3, s4⟩, -⟩ := hR9.five
            clear c0 c1 c2 c3 c4 f0 f1 f2 f3 f4 hR9
            refine bodyPost_ret (v := .agg #[.int .u8 0, .string ⟨#[]⟩, .int .i64 0, .int .i64 0, .int .i64 0]) (by simp [results, Try.results14, go_sem, s0, s1, s2, s3, s4]) rfl ⟨by rw [HO2.out]; rfl, hB9⟩
end Go.Proofs.Ytpgegmnapankpaa
