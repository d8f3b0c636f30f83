/- The law LexLimits, walked: for every number, no condition. -/
import Derived.Test.YtpgegmnapankpaaLex6
import Derived.Test.YtpgegmnapankpaaAwake
import Derived.Laws.Bits128
namespace Go.Proofs.Ytpgegmnapankpaa
open Go.RowKit

theorem and1023 (n : Int) : bits .and .i64 n 1023 = n % 1024 := by
  have h127 : (BitVec.ofInt 64 1023).toNat = 2 ^ 10 - 1 := by decide
  have key : (BitVec.ofInt 64 n &&& BitVec.ofInt 64 1023).toNat = (n % ((2 ^ 64 : Nat) : Int)).toNat % 2 ^ 10 := by
    rw [BitVec.toNat_and, BitVec.toNat_ofInt, h127, Nat.and_two_pow_sub_one_eq_mod]
  show IntKind.i64.wrap ((BitVec.ofInt 64 n &&& BitVec.ofInt 64 1023).toNat : Nat) = n % 1024
  rw [key, IntKind.wrap_i64]
  omega
theorem info_u8 : (Try.prog.info? 5).map (fun i => (i.zero, i.size, i.bytes)) = some (some (.int .u8 0), 1, 1) := by kernel_rfl
theorem drop_rep (N k : Nat) (h : k < N) : (List.replicate N (0 : UInt8)).drop k = 0 :: List.replicate (N - k - 1) 0 := by
  rw [List.drop_replicate, show N - k = (N - k - 1) + 1 by omega, List.replicate_succ]
  rfl
theorem lines_rep (N k : Nat) : Lex.lines ((List.replicate N (0 : UInt8)).take k) = 0 := by
  unfold Lex.lines
  rw [List.take_replicate, List.count_replicate]
  rfl
def zone : Lex.One := fun _ _ => (0, ⟨#[]⟩, 0)
theorem next_zero (N k : Nat) (h : k < N) (hN : N ≤ 65536) : Lex.nextL zone (List.replicate N (0 : UInt8)) k false = Lex.none_ 100 1 := by
  have hp : Lex.passL ((List.replicate N (0 : UInt8)).drop k) = 0 := by rw [drop_rep N k h, Lex.passL_cons]; rfl
  unfold Lex.nextL
  rw [if_neg (by simp; omega), if_neg (by simp; omega)]
  simp only [Int.toNat_natCast, hp, Nat.add_zero]
  rw [if_neg (by simp; omega)]
  simp only [zone, if_true]
  congr 1
  unfold Lex.lineL
  rw [if_neg (by simp; omega), Int.toNat_natCast, lines_rep]
  rfl
theorem next_long (l : List UInt8) (h : 65536 < l.length) : Lex.nextL zone l 0 false = Lex.none_ 3 0 := by
  unfold Lex.nextL
  rw [if_pos h]
set_option maxHeartbeats 2000000 in
theorem l_limits (n : Int) (w : World) (hsh : w.ShapedOpen Try.prog) (hn : (Lit.int .i64 n).wf = true) :
    Calls Try.prog 4 #[.int .i64 n] w fun e w' => e = .returned (.bool true) ∧ Below w.heap.size w w' := by
  obtain ⟨N, hN⟩ : ∃ N : Nat, N = 65536 := ⟨_, rfl⟩
  obtain ⟨i, hi, hz0, hz1, hz2⟩ := info_parts info_u8
  obtain ⟨w1, hrun, hown, hgrow⟩ := run_make_full (P := Try.prog) w w.heap.size 33 5 i (.int .u8 0) 1 Try.underlying33 hi hz0 hz1 .i64 .i64 N (by rw [hz2]; omega) (by unfold maxLen; omega) (Nat.le_refl _)
  rw [show (N : Int) = 65536 by omega] at hrun
  have hb1 : Below w.heap.size w w1 := ⟨hgrow.os, hgrow.tape, hgrow.output, hgrow.size, fun k hk => hgrow.block k hk (by simp)⟩
  rw [Nat.mul_one, show (Value.int .u8 0).cells = #[.int .u8 0] from rfl, toList_madeCells_one] at hown
  obtain ⟨L, hL⟩ : ∃ L, L = List.replicate N (0 : UInt8) := ⟨_, rfl⟩
  have hown2 : w1.ownsRow w.heap.size 5 1 (.slice (some ⟨w.heap.size, 0, none⟩) N N) N (bvals L) := by
    rw [hL, bvals, List.map_replicate]; exact hown
  have hcv := own_back (P := Try.prog) hown2 33 9 5 Try.underlying33 Try.underlying5 Try.underlying9
  have hLN : (⟨L.toArray⟩ : ByteArray).data.toList = L := rfl
  have hLs : (⟨L.toArray⟩ : ByteArray).size = N := by show L.toArray.size = N; rw [hL]; simp
  have hand := and1023 n
  have hk : ∃ k : Nat, n % 1024 = k ∧ k < 1024 := ⟨(n % 1024).toNat, by omega, by omega⟩
  obtain ⟨k, hk1, hk2⟩ := hk
  rw [hk1] at hand
  have HN := Lib.hid hN
  have HL := Lib.hid hL
  have HLN := Lib.hid hLN
  have HLs := Lib.hid hLs
  clear hgrow hown hown2 hz0 hz1 hz2 hi hN hL hLN hLs hk1
  generalize (⟨L.toArray⟩ : ByteArray) = s at *
  go_enter Try.func4, Try.ntmps4
  go_wp2_with fail
  have hNe := HN.out
  have hse := HLs.out
  have hone : ∀ (s' : ByteArray), s' = s → s'.size ≤ 65536 → (0 : Int) ≤ (k : Int) → (k : Int) ≤ s'.size → (k : Int).toNat + Lex.passL (s'.data.toList.drop (k : Int).toNat) < s'.size → ∀ w : World,
      Calls Try.prog 12 #[.string (s'.extract ((k : Int).toNat + Lex.passL (s'.data.toList.drop (k : Int).toNat)) s'.size), .bool false] w fun e w' =>
        e = .returned (.tuple #[.agg #[.int .u8 (zone (s'.data.toList.drop ((k : Int).toNat + Lex.passL (s'.data.toList.drop (k : Int).toNat))) false).1, .string (zone (s'.data.toList.drop ((k : Int).toNat + Lex.passL (s'.data.toList.drop (k : Int).toNat))) false).2.1, .int .i64 0, .int .i64 0, .int .i64 0], .int .i64 ((zone (s'.data.toList.drop ((k : Int).toNat + Lex.passL (s'.data.toList.drop (k : Int).toNat))) false).2.2 : Nat)]) ∧ Below w.heap.size w w' ∧ (zone (s'.data.toList.drop ((k : Int).toNat + Lex.passL (s'.data.toList.drop (k : Int).toNat))) false).2.2 ≤ s'.size := by
    rintro s' rfl h1 - - - w2
    have hp : Lex.passL (s'.data.toList.drop k) = 0 := by rw [HLN.out, HL.out, drop_rep N k (by omega), Lex.passL_cons]; rfl
    simp only [Int.toNat_natCast, hp, Nat.add_zero]
    refine (x_one_zero (s'.extract k s'.size) (List.replicate (N - k - 1) 0) false w2 (by simp; omega) (by rw [ext_drop, HLN.out, HL.out, drop_rep N k (by omega)])).mono ?_
    rintro e w' ⟨rfl, hb⟩
    exact ⟨rfl, hb, Nat.zero_le _⟩
  have HONE := Lib.hid (hone s rfl)
  clear hone hNe hse
  refine (x_next zone s k false w1 (by have := HLs.out; have := HN.out; omega) HONE.out).mono ?_
  rintro e w2 ⟨rfl, hb2⟩
  rw [HLN.out, HL.out, next_zero N k (by have := HN.out; omega) (by have := HN.out; omega)]
  rw [show (Lex.none_ 100 1).tok = .agg #[.int .u8 0, .string ⟨#[]⟩, .int .i64 0, .int .i64 0, .int .i64 0] from rfl, show (Lex.none_ 100 1).fault = .agg #[.int .i64 100, .int .i64 1] from rfl]
  obtain ⟨hR, hF, hB⟩ := fin2 w2 (.int .u8 0) (.string ⟨#[]⟩) (.int .i64 0) (.int .i64 0) (.int .i64 0) (.int .i64 100) (.int .i64 1)
  have hB2 := hb1.trans ((hb2.trans (hB.mono hb2.size)).mono hb1.size)
  have hss : (s ++ (⟨#[97]⟩ : ByteArray)).size = N + 1 := by rw [ByteArray.size_append, HLs.out]; rfl
  have hsb : s.size ≤ 1000000 := by have := HLs.out; have := HN.out; omega
  go_wp2_with fail
  generalize (w2.alloc (.cells #[.int .u8 0, .string ⟨#[]⟩, .int .i64 0, .int .i64 0, .int .i64 0] 24)).alloc (.cells #[.int .i64 100, .int .i64 1] 27) = w3 at *
  generalize w2.heap.size = R at *
  clear hR hb2 hB
  have HF := Lib.hid hF
  clear hF
  have hNe := HN.out
  have hs2 : (s ++ (⟨#[97]⟩ : ByteArray)).size ≤ 4294967296 := by rw [hss]; omega
  have hs3 : ¬ (s ++ (⟨#[97]⟩ : ByteArray)).size ≤ 65536 := by rw [hss]; omega
  generalize s ++ (⟨#[97]⟩ : ByteArray) = s2 at *
  refine (x_next zone s2 0 false w3 hs2 (fun h => absurd h hs3)).mono ?_
  rintro e w4 ⟨rfl, hb4⟩
  have hlong : 65536 < s2.data.toList.length := Nat.lt_of_not_le hs3
  rw [next_long s2.data.toList hlong]
  clear hlong
  rw [show (Lex.none_ 3 0).tok = .agg #[.int .u8 0, .string ⟨#[]⟩, .int .i64 0, .int .i64 0, .int .i64 0] from rfl, show (Lex.none_ 3 0).fault = .agg #[.int .i64 3, .int .i64 0] from rfl]
  have hF4 := below_blk HF.out hb4 HF.out.lt
  obtain ⟨hR5, hF5, hB5⟩ := fin2 w4 (.int .u8 0) (.string ⟨#[]⟩) (.int .i64 0) (.int .i64 0) (.int .i64 0) (.int .i64 3) (.int .i64 0)
  have hF6 := below_blk hF4 hB5 hF4.lt
  have hB6 := hB2.trans ((hb4.trans (hB5.mono hb4.size)).mono hB2.size)
  obtain ⟨⟨c0, c1⟩, -⟩ := hF5.two
  obtain ⟨⟨d0, d1⟩, -⟩ := hF6.two
  clear hF4 hR5 hF5 hF6 hB5 hb4 HF hNe hss
  go_wp2_with fail
  refine (Awake.walk _).mono ?_
  rintro e w7 ⟨rfl, hb7⟩
  go_wp2_with fail
  go_ret
  exact ⟨by simp [go_sem], hB6.trans (hb7.mono hB6.size)⟩
end Go.Proofs.Ytpgegmnapankpaa
