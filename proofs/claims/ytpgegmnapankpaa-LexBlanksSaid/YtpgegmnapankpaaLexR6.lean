/- The walk of the reference's name. -/
import Derived.Test.YtpgegmnapankpaaLexOne
namespace Go.Proofs.Ytpgegmnapankpaa
open Go.RowKit
theorem ext_mid (s : ByteArray) (a n : Nat) : s.extract a n = bsA ((s.data.toList.drop a).take (n - a)) := by
  apply bytes_ext
  simp [bsA, ByteArray.data_extract, List.extract]
def rtok (a : Nat) (o : Int × ByteArray × Nat) : Value := .agg #[.int .u8 o.1, .string o.2.1, .int .i64 0, .int .i64 a, .int .i64 (a + o.2.2 : Nat)]
theorem below_set1 {w : World} {g B : Nat} (hB : B ≤ g) (hg : B ≤ w.heap.size) (v : Value) : Below B w (w.setCell ⟨g, 0, none⟩ v) :=
  (Tur.of_set ⟨g, 0, none⟩ v).below B hg (fun j hj e => by have : j = g := e; omega)
theorem strs_new (w : World) (xs : List ByteArray) (n : Nat) (h : xs.length = n) : Strs (w.alloc (.cells (svals xs).toArray 9)) (w.heap.size + 1) (some ⟨w.heap.size, 0, none⟩) n xs := by
  refine ⟨h, fun _ => ⟨w.heap.size, 0, rfl, by omega, fun i hi => ?_⟩⟩
  have := (Blk.new w 9 (svals xs).toArray).cell i
  rw [Nat.zero_add, this]
  simp [svals, hi]
theorem r_words2 (w : World) : Calls Try.prog 45 #[] w fun e w' => ∃ W, e = .returned (.slice (some ⟨W, 0, none⟩) 33 33) ∧ Strs w' (W + 1) (some ⟨W, 0, none⟩) 33 Lex.wordsB ∧ Below w.heap.size w w' := by
  refine (r_words w).mono ?_
  rintro e w' ⟨rfl, rfl⟩
  exact ⟨_, rfl, strs_new w _ _ rfl, (Below.refl _ _).alloc (Nat.le_refl _) _⟩
theorem r_signs2 (w : World) : Calls Try.prog 33 #[] w fun e w' => ∃ W, e = .returned (.slice (some ⟨W, 0, none⟩) 39 39) ∧ W = w.heap.size ∧ Strs w' (W + 1) (some ⟨W, 0, none⟩) 39 Lex.signsB ∧ Below w.heap.size w w' := by
  refine (r_signs w).mono ?_
  rintro e w' ⟨rfl, rfl⟩
  exact ⟨_, rfl, rfl, strs_new w _ _ rfl, (Below.refl _ _).alloc (Nat.le_refl _) _⟩
set_option maxHeartbeats 4000000 in
set_option maxRecDepth 20000 in
theorem r_name (s : ByteArray) (a : Nat) (w : World) (hs : s.size ≤ 4294967) (h0 : a < s.size) :
    Calls Try.prog 30 #[.string s, .int .i64 a] w fun e w' => e = .returned (rtok a (Lex.oneName (s.data.toList.drop a))) ∧ Below w.heap.size w w' := by
  have HLN : Hid (s.data.toList.length = s.size) := rfl
  have hx := ext_mid s a
  obtain ⟨l, hL⟩ : ∃ l, l = s.data.toList := ⟨_, rfl⟩
  have HLL := Lib.hid hL
  rw [← hL] at HLN hx ⊢
  clear hL
  obtain ⟨T, hT⟩ : ∃ T, T = a + Lex.runL Lex.word (l.drop a) := ⟨_, rfl⟩
  have hTb : T ≤ s.size := by have := Lex.runL_le Lex.word (l.drop a); rw [List.length_drop, HLN.out] at this; omega
  have hTa : a ≤ T := by omega
  obtain ⟨o, ho⟩ : ∃ o, o = Lex.oneName (l.drop a) := ⟨_, rfl⟩
  rw [← ho]
  have hra : Lex.runL Lex.word (l.drop a) = T - a := by omega
  have hx2 := hx T
  obtain ⟨X, hX⟩ : ∃ X, X = s.extract a T := ⟨_, rfl⟩
  have hoo : o = (if Lib.containsS Lex.wordsB X then 6 else if Lex.byteN l T = 40 then 5 else 4, X, T - a) := by
    rw [ho, Lex.oneName, hra, ← hx2, ← hX, Lex.byteN_drop, show a + (T - a) = T by omega]
  have HO := Lib.hid hoo
  have HX := Lib.hid hX
  have HT := Lib.hid hT
  clear ho hra hx hx2 hoo hT hX
  go_enter Try.func30, Try.ntmps30
  go_wp2_with fail
  obtain ⟨hR1, hB1⟩ := tok5 w (.int .u8 0) (.string ⟨#[]⟩) (.int .i64 0) (.int .i64 0) (.int .i64 0)
  generalize w.alloc (.cells #[.int .u8 0, .string ⟨#[]⟩, .int .i64 0, .int .i64 0, .int .i64 0] 24) = w1 at *
  obtain ⟨R, hRe⟩ : ∃ R, R = w.heap.size := ⟨_, rfl⟩
  have HRE := Lib.hid hRe
  rw [← hRe] at hR1 hB1 ⊢
  clear hRe
  have HR1 := Lib.hid hR1
  have HB1 := Lib.hid hB1
  clear hR1 hB1
  go_loop [5] (fun i => ∃ k : Nat, a ≤ k ∧ k ≤ T ∧ i = .int .i64 k ∧ k + Lex.runL Lex.word (l.drop k) = T) (fun i => T - (intOf i).toNat)
  case atStart => exact ⟨a, by omega, by omega, rfl, HT.out.symm⟩
  case round =>
    obtain ⟨k, hak, hk, rfl, hT2⟩ := hrel
    have HT2 := Lib.hid hT2
    clear hT2
    go_wp2_with fail
    refine (r_byteAt s k _ (by omega)).mono ?_
    rintro e w2 ⟨rfl, rfl⟩
    rw [← HLL.out]
    have hyes := @Lex.run_yes Lex.word (by decide) l k
    have hnot := @Lex.run_not Lex.word l k
    have HY := Lib.hid hyes
    have HN := Lib.hid hnot
    obtain ⟨b, hb⟩ : ∃ b, b = Lex.byteN l k := ⟨_, rfl⟩
    have HBB := Lib.hid hb
    rw [← hb] at HY HN ⊢
    clear hyes hnot hb
    go_wp2_with fail
    refine (r_letter b _).mono ?_
    rintro e w2 ⟨rfl, rfl⟩
    cases hlb : Lex.let_ b
    · have HLB := Lib.hid hlb
      clear hlb
      go_wp2_with fail
      refine (r_byteAt s k _ (by omega)).mono ?_
      rintro e w2 ⟨rfl, rfl⟩
      rw [← HLL.out, ← HBB.out]
      go_wp2_with fail
      refine (r_digit b _).mono ?_
      rintro e w2 ⟨rfl, rfl⟩
      cases hdb : Lex.dig b
      · have h0 := HN.out (by simp [Lex.word, HLB.out, hdb])
        have he : k = T := by have := HT2.out; omega
        subst he
        clear h0 hdb HN HY HBB HT2
        go_wp2_with fail
        rw [← HX.out]
        obtain ⟨hT2, hB2⟩ := tok5 w1 (.int .u8 4) (.string X) (.int .i64 0) (.int .i64 a) (.int .i64 k)
        generalize w1.alloc (.cells #[.int .u8 4, .string X, .int .i64 0, .int .i64 a, .int .i64 k] 24) = w2 at *
        obtain ⟨M, hMe⟩ : ∃ M, M = w1.heap.size := ⟨_, rfl⟩
        have HME := Lib.hid hMe
        have HRM := Lib.hid (show R < M by rw [hMe]; exact HR1.out.lt)
        rw [← hMe] at hT2 hB2 ⊢
        have HT2 := Lib.hid (show Blk w2.drew M 24 #[.int .u8 4, .string X, .int .i64 0, .int .i64 a, .int .i64 k] from hT2)
        have HB2 := Lib.hid hB2.drew
        clear hMe hT2 hB2
        go_region_held3 (fun w9 => w9.cell? ⟨M, 1, none⟩ = some (.string X)) (first | exact HT2.out.cell 1 | exact hT3.cell 1 | go_keep) (first | (go_at_call 45; with_reducible refine (r_words2 _).mono ?_; rintro e w3 ⟨W, rfl, hST, hB3⟩; have hT3 := below_blk HT2.out hB3 HT2.out.lt; have HB3 := Lib.hid (HB2.out.trans (hB3.mono (by rw [HME.out]; exact HB2.out.size)))) | (go_at_call 44; with_reducible refine (r_has _ _ _ 33 33 Lex.wordsB X hST (by decide) (by decide)).mono ?_; rintro e w4 ⟨rfl, rfl⟩))
        have HT3 := Lib.hid hT3
        have HR3 := Lib.hid (below_blk HR1.out HB3.out HRM.out)
        have HB5 := Lib.hid (HB1.out.trans (HB3.out.mono (Nat.le_of_lt HRM.out)))
        clear hT3 hB3 hST HB3 HB2 HT2
        have HB3 := HB5
        clear HB5
        cases hcs : Lib.containsS Lex.wordsB X
        · have hO := HO.out
          rw [hcs, if_neg (by simp)] at hO
          have HO1 := Lib.hid hO
          clear hcs hO
          go_wp2_with fail
          refine (r_byteAt s k _ (by omega)).mono ?_
          rintro e w4 ⟨rfl, rfl⟩
          rw [← HLL.out]
          by_cases h40 : Lex.byteN l k = 40
          · have hO := HO1.out
            rw [if_pos h40] at hO
            have HO2 := Lib.hid hO
            rw [h40]
            clear h40 hO HO1
            have HR4 := Lib.hid (HR3.out.keep (Tur.of_set ⟨M, 0, none⟩ (.int .u8 5)) (fun e => absurd e (Nat.ne_of_lt HRM.out)))
            have HT4 := Lib.hid (show Blk (w3.setCell ⟨M, 0, none⟩ (.int .u8 5)) M 24 #[.int .u8 5, .string X, .int .i64 0, .int .i64 a, .int .i64 k] from HT3.out.set 0 (.int .u8 5))
            have HB4 := Lib.hid (HB3.out.trans (below_set1 (B := R) (g := M) (w := w3) (Nat.le_of_lt HRM.out) (Nat.le_of_lt (Nat.lt_trans HRM.out HT3.out.lt)) (.int .u8 5)))
            obtain ⟨e0, g0⟩ : w3.cell? ⟨M, 0, none⟩ = some (.int .u8 4) ∧ w3.frozen? ⟨M, 0, none⟩ = false := ⟨HT3.out.five.1.1, HT3.out.five.2.1⟩
            go_upto_region 9 with (fail)
            clear e0 g0
            generalize w3.setCell ⟨M, 0, none⟩ (.int .u8 5) = w4 at *
            obtain ⟨⟨c0, c1, c2, c3, c4⟩, f0, f1, f2, f3, f4⟩ := HR4.out.five
            obtain ⟨⟨d0, d1, d2, d3, d4⟩, -⟩ := HT4.out.five
            go_wp2_with fail
            have hR9 := (HR4.out).set5 (.int .u8 5) (.string X) (.int .i64 0) (.int .i64 a) (.int .i64 k)
            have hB9 := HB4.out.trans (below_set5 (g := R) (by rw [HRE.out]; exact Nat.le_refl _) (by have := HR4.out.lt; have := HRE.out; omega) (.int .u8 5) (.string X) (.int .i64 0) (.int .i64 a) (.int .i64 k))
            obtain ⟨⟨s0, s1, s2, s3, s4⟩, -⟩ := hR9.five
            clear c0 c1 c2 c3 c4 f0 f1 f2 f3 f4 d0 d1 d2 d3 d4 hR9
            refine bodyPost_ret (v := rtok a (5, X, k - a)) (by simp [results, Try.results30, go_sem, s0, s1, s2, s3, s4, rtok, show a + (k - a) = k by omega]) rfl ⟨by rw [HO2.out], by rw [← HRE.out]; exact hB9⟩
          · have hO := HO1.out
            rw [if_neg h40] at hO
            have HO2 := Lib.hid hO
            have hn : ((Lex.byteN l k : Int) == 40) = false := beq_eq_false_iff_ne.2 h40
            clear hO HO1
            have HR4 := HR3
            have HT4 := HT3
            have HB4 := HB3
            obtain ⟨⟨c0, c1, c2, c3, c4⟩, f0, f1, f2, f3, f4⟩ := HR4.out.five
            obtain ⟨⟨d0, d1, d2, d3, d4⟩, -⟩ := HT4.out.five
            go_wp2_with fail
            have hR9 := (HR4.out).set5 (.int .u8 4) (.string X) (.int .i64 0) (.int .i64 a) (.int .i64 k)
            have hB9 := HB4.out.trans (below_set5 (g := R) (by rw [HRE.out]; exact Nat.le_refl _) (by have := HR4.out.lt; have := HRE.out; omega) (.int .u8 4) (.string X) (.int .i64 0) (.int .i64 a) (.int .i64 k))
            obtain ⟨⟨s0, s1, s2, s3, s4⟩, -⟩ := hR9.five
            clear c0 c1 c2 c3 c4 f0 f1 f2 f3 f4 d0 d1 d2 d3 d4 hR9
            refine bodyPost_ret (v := rtok a (4, X, k - a)) (by simp [results, Try.results30, go_sem, s0, s1, s2, s3, s4, rtok, show a + (k - a) = k by omega]) rfl ⟨by rw [HO2.out], by rw [← HRE.out]; exact hB9⟩
        · have hO := HO.out
          rw [hcs, if_pos rfl] at hO
          have HO2 := Lib.hid hO
          clear hcs hO
          have HR4 := Lib.hid (HR3.out.keep (Tur.of_set ⟨M, 0, none⟩ (.int .u8 6)) (fun e => absurd e (Nat.ne_of_lt HRM.out)))
          have HT4 := Lib.hid (show Blk (w3.setCell ⟨M, 0, none⟩ (.int .u8 6)) M 24 #[.int .u8 6, .string X, .int .i64 0, .int .i64 a, .int .i64 k] from HT3.out.set 0 (.int .u8 6))
          have HB4 := Lib.hid (HB3.out.trans (below_set1 (B := R) (g := M) (w := w3) (Nat.le_of_lt HRM.out) (Nat.le_of_lt (Nat.lt_trans HRM.out HT3.out.lt)) (.int .u8 6)))
          obtain ⟨e0, g0⟩ : w3.cell? ⟨M, 0, none⟩ = some (.int .u8 4) ∧ w3.frozen? ⟨M, 0, none⟩ = false := ⟨HT3.out.five.1.1, HT3.out.five.2.1⟩
          go_upto_region 9 with (fail)
          clear e0 g0
          generalize w3.setCell ⟨M, 0, none⟩ (.int .u8 6) = w4 at *
          obtain ⟨⟨c0, c1, c2, c3, c4⟩, f0, f1, f2, f3, f4⟩ := HR4.out.five
          obtain ⟨⟨d0, d1, d2, d3, d4⟩, -⟩ := HT4.out.five
          go_wp2_with fail
          have hR9 := (HR4.out).set5 (.int .u8 6) (.string X) (.int .i64 0) (.int .i64 a) (.int .i64 k)
          have hB9 := HB4.out.trans (below_set5 (g := R) (by rw [HRE.out]; exact Nat.le_refl _) (by have := HR4.out.lt; have := HRE.out; omega) (.int .u8 6) (.string X) (.int .i64 0) (.int .i64 a) (.int .i64 k))
          obtain ⟨⟨s0, s1, s2, s3, s4⟩, -⟩ := hR9.five
          clear c0 c1 c2 c3 c4 f0 f1 f2 f3 f4 d0 d1 d2 d3 d4 hR9
          refine bodyPost_ret (v := rtok a (6, X, k - a)) (by simp [results, Try.results30, go_sem, s0, s1, s2, s3, s4, rtok, show a + (k - a) = k by omega]) rfl ⟨by rw [HO2.out], by rw [← HRE.out]; exact hB9⟩
      · have HDB := Lib.hid hdb
        clear hdb
        obtain ⟨h1, h2⟩ := HY.out (by simp [Lex.word, HLB.out, HDB.out])
        have hkT : k + 1 ≤ T := by have := HT2.out; omega
        have HT3 : Hid (k + 1 + Lex.runL Lex.word (l.drop (k + 1)) = T) := by have := HT2.out; unfold Hid; omega
        clear h2 h1
        go_wp2_with fail
        go_round
        case rel => exact ⟨k + 1, by omega, by omega, by go_num, HT3.out⟩
        case measure => simp [intOf]; omega
    · have HLB := Lib.hid hlb
      clear hlb
      obtain ⟨h1, h2⟩ := HY.out (by simp [Lex.word, HLB.out])
      have hkT : k + 1 ≤ T := by have := HT2.out; omega
      have HT3 : Hid (k + 1 + Lex.runL Lex.word (l.drop (k + 1)) = T) := by have := HT2.out; unfold Hid; omega
      clear h2 h1
      go_wp2_with fail
      go_round
      case rel => exact ⟨k + 1, by omega, by omega, by go_num, HT3.out⟩
      case measure => simp [intOf]; omega
end Go.Proofs.Ytpgegmnapankpaa
