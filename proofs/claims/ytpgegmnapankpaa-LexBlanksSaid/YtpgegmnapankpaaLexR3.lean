/- The walks of the reference of lex: its lists of texts; whether a text is one of them. -/
import Derived.Test.YtpgegmnapankpaaLexR2
import Derived.Test.YtpgegmnapankpaaLex4
import Derived.Test.YtpgegmnapankpaaBlk
namespace Go.Proofs.Ytpgegmnapankpaa
open Go.RowKit

set_option maxRecDepth 100000 in
theorem r_words (w : World) : Calls Try.prog 45 #[] w fun e w' => e = .returned (.slice (some ⟨w.heap.size, 0, none⟩) 33 33) ∧ w' = w.alloc (.cells (svals Lex.wordsB).toArray 9) := by
  go_enter Try.func45, Try.ntmps45
  go_wp2_with fail
  go_ret
  exact ⟨rfl, rfl⟩
set_option maxRecDepth 100000 in
theorem r_signs (w : World) : Calls Try.prog 33 #[] w fun e w' => e = .returned (.slice (some ⟨w.heap.size, 0, none⟩) 39 39) ∧ w' = w.alloc (.cells (svals Lex.signsB).toArray 9) := by
  go_enter Try.func33, Try.ntmps33
  go_wp2_with fail
  go_ret
  exact ⟨rfl, rfl⟩
set_option maxHeartbeats 1000000 in
theorem r_has (w : World) (B : Nat) (A : Option Addr) (n cap : Nat) (xs : List ByteArray) (x : ByteArray) (hx : Strs w B A n xs) (hn : n ≤ 1000) (hc : n ≤ cap) :
    Calls Try.prog 44 #[.slice A n cap, .string x] w fun e w' => e = .returned (.bool (Lib.containsS xs x)) ∧ w = w' := by
  have HX := Lib.hid hx
  clear hx
  go_enter Try.func44, Try.ntmps44
  go_wp2_with fail
  go_loop [5] (fun i => ∃ k : Nat, k ≤ n ∧ i = .int .i64 k ∧ ∀ j, (hj : j < xs.length) → j < k → xs[j] ≠ x) (fun i => n - (intOf i).toNat)
  case atStart => exact ⟨0, Nat.zero_le _, rfl, fun j _ h => by omega⟩
  case round =>
    obtain ⟨k, hk, rfl, hno⟩ := hrel
    have HNO := Lib.hid hno
    clear hno
    by_cases hlt : k < n
    · obtain ⟨b, o, rfl, hbB, hcx⟩ := HX.out.2 (by omega)
      have hx1 : k < xs.length := by rw [HX.out.1]; exact hlt
      have c1 := hcx k hx1
      clear hcx
      by_cases he : xs[k] = x
      · have hd : Lib.containsS xs x = true := (Lib.containsS_iff _ _).2 (by rw [← he]; exact List.getElem_mem _)
        have hq : (x.toList == x.toList) = true := by simp
        rw [he] at c1
        have HD := Lib.hid hd
        clear hd HNO
        go_wp2_with fail
        go_ret
        exact ⟨ret_bool (by rw [HD.out]), rfl⟩
      · have hq : ((xs[k]).toList == x.toList) = false := by rw [tolist_beq]; exact decide_eq_false fun e => he (bytes_ext e)
        have HE := Lib.hid he
        clear he
        go_wp2_with fail
        go_round
        case rel => exact ⟨k + 1, by omega, by go_num, fun j hj h => by
          rcases Nat.lt_or_ge j k with h | h
          · exact HNO.out j hj h
          · obtain rfl : j = k := by omega
            exact HE.out⟩
        case measure => simp [intOf]; omega
    · have hd : Lib.containsS xs x = false := Bool.eq_false_iff.2 fun hm' => by
        have hm := (Lib.containsS_iff _ _).1 hm'
        obtain ⟨j, hj, e⟩ := List.mem_iff_getElem.1 hm
        exact HNO.out j hj (by have := HX.out.1; omega) e
      have HD := Lib.hid hd
      clear hd
      go_wp2_with fail
      go_ret
      exact ⟨ret_bool (by rw [HD.out]), rfl⟩
end Go.Proofs.Ytpgegmnapankpaa
