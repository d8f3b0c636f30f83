/- The walk of the reference's one: numbers, names. -/
import Derived.Test.YtpgegmnapankpaaLexR6
namespace Go.Proofs.Ytpgegmnapankpaa
open Go.RowKit
set_option maxHeartbeats 4000000 in
theorem r_one_num (s : ByteArray) (a : Nat) (re : Bool) (w : World) (hs : s.size ≤ 4294967) (h0 : a < s.size) (hlet : Lex.let_ (Lex.byteN s.data.toList a) = false) (hnum : 0 < Lex.numL (s.data.toList.drop a)) :
    Calls Try.prog 14 #[.string s, .int .i64 a, .bool re] w fun e w' => e = .returned (rtok a (1, bsA ((s.data.toList.drop a).take (Lex.numL (s.data.toList.drop a))), Lex.numL (s.data.toList.drop a))) ∧ Below w.heap.size w w' := by
  have hc : ((s[a]'h0).toNat : Int) = Lex.byteN s.data.toList a := by rw [Lex.byteN_in (by exact h0)]; rfl
  have HLET := Lib.hid hlet
  have hle := Lex.numL_le (s.data.toList.drop a)
  have hle2 : a + Lex.numL (s.data.toList.drop a) ≤ s.size := by rw [List.length_drop, show s.data.toList.length = s.size from rfl] at hle; omega
  clear hlet hle
  generalize Lex.byteN s.data.toList a = c at *
  obtain ⟨T, hT⟩ : ∃ T, T = a + Lex.numL (s.data.toList.drop a) := ⟨_, rfl⟩
  have htx := ext_mid s a T
  rw [show T - a = Lex.numL (s.data.toList.drop a) by omega] at htx
  rw [← htx]
  have hT2 : a < T := by omega
  have hT3 : T ≤ s.size := by omega
  have HN := Lib.hid hT
  clear hT hle2 hnum htx
  go_enter Try.func14, Try.ntmps14
  go_wp2_with fail
  refine (r_letter _ _).mono ?_
  rintro e w2 ⟨rfl, rfl⟩
  rw [HLET.out]
  go_wp2_with fail
  refine (r_number s a _ (by omega) (by omega)).mono ?_
  rintro e w2 ⟨rfl, rfl⟩
  rw [← HN.out]
  go_wp2_with fail
  obtain ⟨hR, hB⟩ := tok5 w (.int .u8 1) (.string (s.extract a T)) (.int .i64 0) (.int .i64 a) (.int .i64 T)
  obtain ⟨⟨c0, c1, c2, c3, c4⟩, -⟩ := hR.five
  refine bodyPost_ret (v := rtok a (1, s.extract a T, T - a)) (by simp [results, Try.results14, go_sem, c0, c1, c2, c3, c4, rtok, show a + (T - a) = T by omega]) rfl ⟨by rw [show T - a = Lex.numL (s.data.toList.drop a) by have := HN.out; omega], hB⟩
set_option maxHeartbeats 4000000 in
theorem r_one_name (s : ByteArray) (a : Nat) (re : Bool) (w : World) (hs : s.size ≤ 4294967) (h0 : a < s.size) (hlet : Lex.let_ (Lex.byteN s.data.toList a) = true) :
    Calls Try.prog 14 #[.string s, .int .i64 a, .bool re] w fun e w' => e = .returned (rtok a (Lex.oneName (s.data.toList.drop a))) ∧ Below w.heap.size w w' := by
  have hc : ((s[a]'h0).toNat : Int) = Lex.byteN s.data.toList a := by rw [Lex.byteN_in (by exact h0)]; rfl
  have HLET := Lib.hid hlet
  clear hlet
  generalize Lex.byteN s.data.toList a = c at *
  have HNM := Lib.hid (fun w => r_name s a w hs h0)
  generalize Lex.oneName (s.data.toList.drop a) = o at *
  obtain ⟨k, x, n⟩ := o
  go_enter Try.func14, Try.ntmps14
  go_wp2_with fail
  refine (r_letter _ _).mono ?_
  rintro e w2 ⟨rfl, rfl⟩
  rw [HLET.out]
  obtain ⟨hR1, hB1⟩ := tok5 w (.int .u8 0) (.string ⟨#[]⟩) (.int .i64 0) (.int .i64 0) (.int .i64 0)
  go_wp2_with fail
  generalize w.alloc (.cells #[.int .u8 0, .string ⟨#[]⟩, .int .i64 0, .int .i64 0, .int .i64 0] 24) = w1 at *
  obtain ⟨R, hRe⟩ : ∃ R, R = w.heap.size := ⟨_, rfl⟩
  have HRE := Lib.hid hRe
  rw [← hRe] at hR1 hB1 ⊢
  clear hRe
  refine (HNM.out _).mono ?_
  rintro e w3 ⟨rfl, hb3⟩
  have HR4 := Lib.hid (below_blk hR1 hb3 hR1.lt)
  have HB4 := Lib.hid (hB1.trans (hb3.mono (by rw [HRE.out]; exact HRE.out ▸ hB1.size)))
  clear hR1 hB1 hb3
  obtain ⟨⟨c0, c1, c2, c3, c4⟩, f0, f1, f2, f3, f4⟩ := HR4.out.five
  obtain ⟨m, hm⟩ : ∃ m, m = a + n := ⟨_, rfl⟩
  have HM := Lib.hid hm
  simp only [rtok]
  rw [← hm]
  clear hm
  go_wp2_with fail
  have hR9 := HR4.out.set5 (.int .u8 k) (.string x) (.int .i64 0) (.int .i64 a) (.int .i64 m)
  have hB9 := HB4.out.trans (below_set5 (g := R) (by rw [HRE.out]; exact Nat.le_refl _) (by have := HR4.out.lt; have := HRE.out; omega) (.int .u8 k) (.string x) (.int .i64 0) (.int .i64 a) (.int .i64 m))
  obtain ⟨⟨s0, s1, s2, s3, s4⟩, -⟩ := hR9.five
  clear c0 c1 c2 c3 c4 f0 f1 f2 f3 f4 hR9
  refine bodyPost_ret (v := .agg #[.int .u8 k, .string x, .int .i64 0, .int .i64 a, .int .i64 m]) (by simp [results, Try.results14, go_sem, s0, s1, s2, s3, s4]) rfl ⟨by rw [HM.out]; rfl, by rw [← HRE.out]; exact hB9⟩
end Go.Proofs.Ytpgegmnapankpaa
