/- The walks of lex: a token at a byte 0; the limits. -/
import Derived.Test.YtpgegmnapankpaaLex4
import Derived.Test.YtpgegmnapankpaaBlk
namespace Go.Proofs.Ytpgegmnapankpaa
open Go.RowKit

namespace Lex
theorem runL_zero (p : Int → Bool) (h : p 0 = false) (r : List UInt8) : runL p (0 :: r) = 0 := by rw [runL_cons, if_neg (by rw [show ((0 : UInt8).toNat : Int) = 0 from rfl, h]; simp)]
theorem numL_0 (r : List UInt8) : numL (0 :: r) = 0 := by
  have h0 := runL_zero dig (by decide) r
  have : num1 (0 :: r) = runL dig (0 :: r) := num1_no (fun ⟨r', h⟩ => by rw [h0] at h; injection h with h _; cases h)
  exact numL_zero (by rw [this, h0])
theorem sign_0 (r : List UInt8) : ∀ k, (h : k < signsB.length) → Lib.hasPrefix (0 :: r) (signsB[k]).data.toList = false := by
  have h0 : ∀ k : Fin signsB.length, (signsB[k]).data.toList.head? ≠ some 0 ∧ (signsB[k]).data.toList ≠ [] := by decide +kernel
  have h2 : ∀ k, (h : k < signsB.length) → ∃ c d, c ≠ 0 ∧ (signsB[k]).data.toList = c :: d := by
    intro k h
    obtain ⟨h1, h2⟩ := h0 ⟨k, h⟩
    cases e : (signsB[k]).data.toList with
    | nil => exact absurd e h2
    | cons c d => exact ⟨c, d, fun hc => h1 (by show (signsB[k]).data.toList.head? = _; rw [e, hc]; rfl), rfl⟩
  intro k h
  obtain ⟨c, d, hc, e⟩ := h2 k h
  rw [e]
  simp [Lib.hasPrefix, List.isPrefixOf, hc]
end Lex
theorem run_sign (S : List ByteArray) (k : Nat) (hS : S.length = 39) (hk : k < 39) (w : World) : (Instr.index 51 (.agg (svals S).toArray) (.int .i64 k)).run Try.prog w = .ok (.string (S[k]'(by omega))) w := by
  unfold Instr.index
  have h1 := Try.underlying51
  have h2 := Try.sizeOf9
  have h3 := Try.isAgg9
  simp [go_sem, h1, h2, h3, svals]
  rw [if_pos hk, List.getElem?_eq_getElem (by omega)]
  rfl
set_option maxHeartbeats 1000000 in
theorem x_one_zero (s : ByteArray) (r : List UInt8) (re : Bool) (w : World) (hs : s.size ≤ 4294967296) (h : s.data.toList = 0 :: r) :
    Calls Try.prog 12 #[.string s, .bool re] w fun e w' => e = .returned (.tuple #[.agg #[.int .u8 0, .string ⟨#[]⟩, .int .i64 0, .int .i64 0, .int .i64 0], .int .i64 0]) ∧ Below w.heap.size w w' := by
  have hl : s.data.toList.length = s.size := rfl
  rw [h] at hl
  simp only [List.length_cons] at hl
  have h0 : 0 < s.size := by omega
  have hc : s[0]'h0 = 0 := getL0 h (by rw [h]; simp)
  have HLT : Hid (Lex.let_ 0 = false) := Lib.hid (by decide)
  have HN := Lib.hid (Lex.numL_0 r)
  have HS := Lib.hid (Lex.sign_0 r)
  have hR := Blk.new w 24 #[.int .u8 0, .string ⟨#[]⟩, .int .i64 0, .int .i64 0, .int .i64 0]
  have hb := (Below.refl w.heap.size w).alloc (Nat.le_refl _) (.cells #[.int .u8 0, .string ⟨#[]⟩, .int .i64 0, .int .i64 0, .int .i64 0] 24)
  have H := Lib.hid h
  clear h
  go_enter Try.func12, Try.ntmps12
  go_wp2_with fail
  refine (x_letter _ _).mono ?_
  rintro e w2 ⟨rfl, rfl⟩
  rw [HLT.out]
  go_wp2_with fail
  generalize w.alloc (.cells #[.int .u8 0, .string ⟨#[]⟩, .int .i64 0, .int .i64 0, .int .i64 0] 24) = w1 at *
  obtain ⟨R, hRe⟩ : ∃ R, R = w.heap.size := ⟨_, rfl⟩
  have HRE := Lib.hid hRe
  rw [← hRe] at hR hb ⊢
  clear hRe
  refine (x_num s w1 hs).mono ?_
  rintro e w2 ⟨rfl, rfl⟩
  rw [H.out, HN.out]
  go_wp2_with fail
  refine (x_signs _).mono ?_
  rintro e w2 ⟨rfl, hb2⟩
  have hR2 := below_blk hR hb2 hR.lt
  have hb3 := hb.trans (hb2.mono (by rw [HRE.out]; exact hb.size))
  have HRb := Lib.hid hR
  clear hb hb2 hR HRb
  obtain ⟨S, hS⟩ : ∃ S, S = Lex.signsB := ⟨_, rfl⟩
  have hS39 : S.length = 39 := by rw [hS]; rfl
  rw [← hS] at HS ⊢
  clear hS
  go_wp2_with fail
  go_loop [89] (fun i => ∃ k : Nat, k ≤ 39 ∧ i = .int .i64 k) (fun i => 39 - (intOf i).toNat)
  case atStart => exact ⟨0, by omega, rfl⟩
  case round =>
    obtain ⟨k, hk, rfl⟩ := hrel
    by_cases hlt : k < 39
    · have hix := run_sign S k hS39 hlt
      have hpre := HS.out k (by omega)
      rw [← H.out] at hpre
      have HP := Lib.hid hpre
      clear hpre
      generalize S[k]'(by omega) = x at *
      go_wp2_with fail
      refine (Try.strings_HasPrefix s x _).mono ?_
      rintro e w3 ⟨rfl, rfl⟩
      rw [HP.out]
      go_wp2_with fail
      go_round
      case rel => exact ⟨k + 1, by omega, by go_num⟩
      case measure => simp [intOf]; omega
    · obtain ⟨⟨c0, c1, c2, c3, c4⟩, f0, f1, f2, f3, f4⟩ := hR2.five
      go_wp2_with fail
      have hR5 := hR2.set5 (.int .u8 0) (.string ⟨#[]⟩) (.int .i64 0) (.int .i64 0) (.int .i64 0)
      obtain ⟨⟨s0, s1, s2, s3, s4⟩, -⟩ := hR5.five
      have hbz := hb3.trans (below_set5 (Nat.le_refl R) (by have := hR2.lt; omega) (.int .u8 0) (.string ⟨#[]⟩) (.int .i64 0) (.int .i64 0) (.int .i64 0))
      clear c0 c1 c2 c3 c4 f0 f1 f2 f3 f4 hR2 hR5
      refine bodyPost_ret (v := .tuple #[.agg #[.int .u8 0, .string ⟨#[]⟩, .int .i64 0, .int .i64 0, .int .i64 0], .int .i64 0]) (by simp [results, Try.results12, go_sem, s0, s1, s2, s3, s4]) rfl ⟨rfl, ?_⟩
      rw [← HRE.out]
      exact hbz
end Go.Proofs.Ytpgegmnapankpaa
