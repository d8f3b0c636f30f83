/- The walks of the low helpers: Pick, SameTexts, CopyTexts. -/
import Derived.Test.YtjgfhdabcahokaaRows
import Derived.Test.YtjgfhdabcahokaaBase
import Derived.OpenShut
import Derived.BigQuiet
import Derived.Deep.QuietTactic
namespace Go.Proofs.Ytjgfhdabcahokaa
open Go.RowKit
namespace Low
/-- A place out of any number. -/
def pick (x n : Int) : Int := if n ≤ 0 then 0 else x % n
theorem pick_range (x n : Int) (h : 0 < n) : 0 ≤ pick x n ∧ pick x n < n := by
  rw [pick, if_neg (by omega)]
  exact ⟨Int.emod_nonneg _ (by omega), Int.emod_lt_of_pos _ h⟩
theorem tmod_bounds (x n : Int) (h : 0 < n) : -n < x.tmod n ∧ x.tmod n < n := by
  have h1 := Int.emod_nonneg x (show n ≠ 0 by omega)
  have h2 := Int.emod_lt_of_pos x h
  rw [Int.tmod_eq_emod]
  split
  · omega
  · rename_i h3
    have h4 : x % n ≠ 0 := fun e => h3 (Or.inr (Int.dvd_of_emod_eq_zero e))
    omega
theorem pick_tmod (x n : Int) (h : 0 < n) : pick x n = if x.tmod n < 0 then x.tmod n + n else x.tmod n := by
  have h1 := Int.emod_nonneg x (show n ≠ 0 by omega)
  have h2 := Int.emod_lt_of_pos x h
  rw [pick, if_neg (by omega), Int.tmod_eq_emod]
  by_cases h3 : 0 ≤ x ∨ n ∣ x
  · rw [if_pos h3]; simp; omega
  · rw [if_neg h3]
    have h4 : x % n ≠ 0 := fun e => h3 (Or.inr (Int.dvd_of_emod_eq_zero e))
    rw [if_pos (by omega)]; omega
end Low

theorem w_pick (x n : Int) (w : World) (hn0 : 0 < n) (hn1 : n ≤ 4611686018427387904) :
    Calls Try.prog 9 #[.int .i64 x, .int .i64 n] w fun e w' => e = .returned (.int .i64 (Low.pick x n)) ∧ w = w' := by
  obtain ⟨hb1, hb2⟩ := Low.tmod_bounds x n hn0
  have HP := Lib.hid (Low.pick_tmod x n hn0)
  by_cases hneg : x.tmod n < 0
  all_goals
    go_enter Try.func9, Try.ntmps9
    go_wp2_with fail
    go_ret
    exact ⟨ret_int (by rw [HP.out]; first | rw [if_pos (by omega)] | rw [if_neg (by omega)]), rfl⟩


theorem info_str : (Try.prog.info? 9).map (fun i => (i.zero, i.size, i.bytes)) = some (some (.string ⟨#[]⟩), 1, 16) := by kernel_rfl
theorem w_copytexts (w : World) (base : Nat) (v : Value) (xs : List ByteArray) (h : w.ownsRow base 9 1 v xs.length (svals xs)) (hl : xs.length ≤ 1000000000) :
    Calls Try.prog 15 #[v] w fun e w' => ∃ A cap, e = .returned (.slice A xs.length cap) ∧ w'.ownsRow w.heap.size 9 1 (.slice A xs.length cap) xs.length (svals xs) ∧ Below w.heap.size w w' := by
  have hz1 : 0 + xs.length ≤ maxLen := by unfold maxLen; omega
  have hz2 : (0 + xs.length) * 16 ≤ 140737488355328 := by omega
  go_enter Try.func15, Try.ntmps15
  go_wp2_with (at_builtin; refine wp_appn rfl _ _ _ rfl 9 1 16 _ Try.underlying25 info_str rfl (by decide) w.heap.size (.slice none 0 0) 0 [] rfl (World.ownsRow_nil _ _ _ _) base v xs.length _ rfl h svals_one hz1 hz2 (Nat.le_refl _) ?_; intro A cap w1 hown1 hgrow1 hat1)
  go_ret
  rw [Nat.zero_add] at hown1
  exact ⟨A, cap, by simp, by simpa using hown1, below_grown (World.ownsRow_nil w w.heap.size 9 1) hgrow1 (Nat.le_refl _)⟩


set_option maxHeartbeats 400000 in
theorem w_sametexts (w : World) (B B' : Nat) (A A' : Option Addr) (n n' cap cap' : Nat) (xs ys : List ByteArray) (hx : Strs w B A n xs) (hy : Strs w B' A' n' ys) (hn : n ≤ 1000000000) (hn' : n' ≤ 1000000000) (hc : n ≤ cap) (hc' : n' ≤ cap') :
    Calls Try.prog 16 #[.slice A n cap, .slice A' n' cap'] w fun e w' => e = .returned (.bool (sameT xs ys)) ∧ ∃ k, w' = w.drewN k := by
  have HX := Lib.hid hx
  have HY := Lib.hid hy
  clear hx hy
  by_cases hne : n = n'
  · subst hne
    go_enter Try.func16, Try.ntmps16
    go_wp2_with fail
    go_loopw [5] (fun i wr => ∃ k : Nat, k ≤ n ∧ i = .int .i64 k ∧ (∀ j, (h : j < xs.length) → (h' : j < ys.length) → j < k → xs[j].data.toList = ys[j].data.toList) ∧ ∃ q, wr = w.drewN q) (fun i _ => n - (intOf i).toNat)
    case atStart => exact ⟨0, Nat.zero_le _, rfl, fun _ _ _ h => by omega, 0, rfl⟩
    case round =>
      obtain ⟨k, hk, rfl, hall, q, rfl⟩ := hrel
      have HA := Lib.hid hall
      clear hall
      by_cases hlt : k < n
      · obtain ⟨b, o, rfl, _, hcx⟩ := HX.out.2 (by omega)
        obtain ⟨b', o', rfl, _, hcy⟩ := HY.out.2 (by omega)
        have hx1 : k < xs.length := by rw [HX.out.1]; exact hlt
        have hy1 : k < ys.length := by rw [HY.out.1]; exact hlt
        have c1 : (w.drewN q).cell? ⟨b, o + k, none⟩ = some (.string xs[k]) := hcx k hx1
        have c2 : (w.drewN q).cell? ⟨b', o' + k, none⟩ = some (.string ys[k]) := hcy k hy1
        have HT := Lib.hid (tolist_beq xs[k] ys[k])
        clear hcx hcy
        have hk0 : (0 : Int) ≤ (k : Int) := Int.natCast_nonneg _
        have hk1 : (k : Int) < (n : Int) := by omega
        generalize hw : w.drewN q = w2 at *
        have HW := Lib.hid hw
        clear hw
        by_cases heq : xs[k].data.toList = ys[k].data.toList
        · have hb : (xs[k].toList == ys[k].toList) = true := by rw [HT.out]; simpa using heq
          have HE := Lib.hid heq
          clear heq
          go_wp2_with fail
          go_quiet (fail)
          go_wp2_with fail
          go_roundw
          case rel => exact ⟨k + 1, by omega, by go_num, fun j h h' hj => by
            rcases Nat.lt_or_ge j k with h1 | h1
            · exact HA.out j h h' h1
            · obtain rfl : j = k := by omega
              exact HE.out, q + nq, by rw [← HW.out, World.drewN_drewN]⟩
          case measure => simp [intOf]; omega
        · have hb : (xs[k].toList == ys[k].toList) = false := by rw [HT.out]; simpa using heq
          have HE := Lib.hid heq
          clear heq
          go_wp2_with fail
          go_quiet (fail)
          go_wp2_with fail
          go_ret
          refine ⟨ret_bool ?_, q + nq, by rw [← HW.out, World.drewN_drewN]⟩
          rw [eq_comm, sameT, decide_eq_false_iff_not]
          intro h
          have := congrArg (fun l => l[k]?) h
          simp [hx1, hy1] at this
          exact HE.out (by rw [this])
      · obtain rfl : k = n := by omega
        go_wp2_with fail
        go_ret
        refine ⟨ret_bool ?_, q, rfl⟩
        rw [eq_comm, sameT, decide_eq_true_eq]
        apply List.ext_getElem
        · simp [HX.out.1, HY.out.1]
        · intro j h1 h2
          simp at h1 h2
          simpa using HA.out j h1 h2 (by rw [← HX.out.1]; exact h1)
  · have hb : ((n : Int) != (n' : Int)) = true := by simp; omega
    have HN := Lib.hid hne
    clear hne
    go_enter Try.func16, Try.ntmps16
    go_wp2_with fail
    go_ret
    refine ⟨ret_bool ?_, 0, rfl⟩
    rw [eq_comm, sameT, decide_eq_false_iff_not]
    intro h
    have := congrArg List.length h
    simp [HX.out.1, HY.out.1] at this
    exact HN.out this

end Go.Proofs.Ytjgfhdabcahokaa
