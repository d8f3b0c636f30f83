/- The walk of the law OctetsParts. -/
import Derived.Test.YtfemkfdaeojdhaaOctLaw
import Derived.Test.YtfemkfdaeojdhaaOctPlain2
import Derived.OpenShut
namespace Go.Proofs.Ytfemkfdaeojdhaa
open Go.RowKit

theorem w_pick (x n : Int) (w : World) (hx0 : -9223372036854775808 ≤ x) (hx1 : x ≤ 9223372036854775807) (hn0 : 0 < n) (hn1 : n ≤ 4611686018427387904) :
    Calls Try.prog 7 #[.int .i64 x, .int .i64 n] w fun e w' => e = .returned (.int .i64 (Oct.pick x n)) ∧ w = w' := by
  obtain ⟨hb1, hb2⟩ := Oct.tmod_bounds x n hn0
  have HP := Lib.hid (Oct.pick_tmod x n hn0)
  by_cases hneg : x.tmod n < 0
  all_goals
    go_enter Try.func7, Try.ntmps7
    go_wp2_with fail
    go_ret
    exact ⟨ret_int (by rw [HP.out]; first | rw [if_pos (by omega)] | rw [if_neg (by omega)]), rfl⟩
set_option maxRecDepth 100000 in
set_option maxHeartbeats 2000000 in
theorem l_parts_main (s t : ByteArray) (f m : Int) (w : World) (hsh : w.ShapedOpen Try.prog) (hs : s.size ≤ 5000) (ht : t.size ≤ 5000)
    (hf0 : -9223372036854775808 ≤ f) (hf1 : f ≤ 9223372036854775807) (hn0 : -9223372036854775808 ≤ m) (hn1 : m ≤ 9223372036854775807) :
    Calls Try.prog 3 #[.string s, .string t, .int .i64 f, .int .i64 m] w fun e w' => e = .returned (.bool true) ∧ Below w.heap.size w w' := by
  obtain ⟨p1, p2⟩ := Oct.pick_range f ((s.size : Int) + 3) (by omega)
  obtain ⟨q1, q2⟩ := Oct.pick_range m ((s.size : Int) + 3) (by omega)
  have e1 := Oct.cut_parts s (Oct.pick f ((s.size : Int) + 3)) (Oct.pick m ((s.size : Int) + 3)) (s.size + 3) q1 (by omega)
  have E2 := Lib.hid (Oct.cut_whole s)
  obtain ⟨x1, x2⟩ := Oct.idx_range s.data.toList t.data.toList
  have hlen : s.data.toList.length = s.size := rfl
  rw [hlen] at x2
  clear hlen
  go_enter Try.func3, Try.ntmps3
  go_wp2_with fail
  refine (w_pick _ _ _ hf0 hf1 (by omega) (by omega)).mono ?_; rintro e w1 ⟨rfl, rfl⟩
  go_wp2_with fail
  refine (w_pick _ _ _ hn0 hn1 (by omega) (by omega)).mono ?_; rintro e w1 ⟨rfl, rfl⟩
  generalize Oct.pick f ((s.size : Int) + 3) = pf at *
  generalize Oct.pick m ((s.size : Int) + 3) = pm at *
  have E1 := Lib.hid e1
  have z3 : (Oct.mapS Oct.low s).size ≤ 5000 := by rw [Oct.mapS_size]; exact hs
  have z4 : (Oct.mapS Oct.low t).size ≤ 5000 := by rw [Oct.mapS_size]; exact ht
  have z5 : (Oct.mapS Oct.upp s).size ≤ 5000 := by rw [Oct.mapS_size]; exact hs
  have z6 : ((s ++ t).size) ≤ 10000 := by rw [ByteArray.size_append]; omega
  have z7 : ((((Oct.mapS Oct.low s).size : Nat) : Int) == (s.size : Int)) = true := by rw [Oct.mapS_size]; simp
  have z8 : ((((Oct.mapS Oct.upp s).size : Nat) : Int) == (s.size : Int)) = true := by rw [Oct.mapS_size]; simp
  have z1 : (Oct.cut s pf pm).size ≤ 5000 := Nat.le_trans (Oct.cut_size _ _ _) hs
  have z2 : (Oct.cut s (pf + pm) ((s.size : Int) + 3)).size ≤ 5000 := Nat.le_trans (Oct.cut_size _ _ _) hs
  clear e1
  go_wp2_with fail
  refine (o_cut _ _ _ _ (by unfold maxLen; omega) (by omega) (by omega) (by omega) (by omega)).mono ?_; rintro e w1 ⟨rfl, rfl⟩
  go_wp2_with fail
  refine (o_cut _ _ _ _ (by unfold maxLen; omega) (by omega) (by omega) (by omega) (by omega)).mono ?_; rintro e w1 ⟨rfl, rfl⟩
  go_wp2_with fail
  rw [E1.out]
  refine (o_cut _ _ _ _ (by unfold maxLen; omega) (by omega) (by omega) (by omega) (by omega)).mono ?_; rintro e w1 ⟨rfl, rfl⟩
  rw [show pm + (s.size : Int) + 3 = pm + ((s.size : Int) + 3) from by omega]
  go_wp2_with fail
  refine (o_cut _ _ _ _ (by unfold maxLen; omega) (by omega) (by omega) (by omega) (by omega)).mono ?_; rintro e w1 ⟨rfl, rfl⟩
  rw [E2.out]
  go_wp2_with fail
  refine (o_index _ _ _ hsh (by omega)).mono ?_; rintro e w1 ⟨rfl, rfl⟩
  by_cases ht0 : t.size = 0
  · have e3 : Oct.idx s.data.toList t.data.toList = 0 := by rw [data_nil ht0]; rfl
    rw [e3]
    have ht1 : ((t.size : Int) == 0) = true := by simp [ht0]
    have ht2 : ¬ (0 < (t.size : Int)) := by omega
    clear e3 x1 x2
    have HT0 := Lib.hid ht0
    clear ht0
    go_wp2_with fail
    refine wp_loop_rounds 1 ?_
    rw [rounds_succ]
    by_cases hs1 : 1 ≤ s.size
    all_goals
      go_wp2_with fail
      refine (o_upper _ _ (by unfold maxLen; omega)).mono ?_; rintro e w1 ⟨rfl, hb1⟩
      go_wp2_with fail
      refine (o_lower _ _ (by rw [Oct.mapS_size]; unfold maxLen; omega)).mono ?_; rintro e w2 ⟨rfl, hb2⟩
      have hb := Gr.trans hb1 hb2
      clear hb1 hb2
      rw [Oct.low_upper]
      go_wp2_with fail
      refine (o_lower _ _ (by unfold maxLen; omega)).mono ?_; rintro e w1 ⟨rfl, hb1⟩
      have hb := Gr.trans hb hb1
      clear hb1
      go_wp2_with fail
      refine (o_lower _ _ (by unfold maxLen; omega)).mono ?_; rintro e w2 ⟨rfl, hb2⟩
      have hb := Gr.trans hb hb2
      clear hb2
      go_wp2_with fail
      refine (o_upper _ _ (by rw [Oct.mapS_size]; unfold maxLen; omega)).mono ?_; rintro e w1 ⟨rfl, hb1⟩
      have hb := Gr.trans hb hb1
      clear hb1
      rw [Oct.upp_lower]
      go_wp2_with fail
      refine (o_upper _ _ (by unfold maxLen; omega)).mono ?_; rintro e w2 ⟨rfl, hb2⟩
      have hb := Gr.trans hb hb2
      clear hb2
      go_wp2_with fail
      refine (o_lower _ _ (by unfold maxLen; omega)).mono ?_; rintro e w1 ⟨rfl, hb1⟩
      have hb := Gr.trans hb hb1
      clear hb1
      go_wp2_with fail
      refine (o_upper _ _ (by unfold maxLen; omega)).mono ?_; rintro e w2 ⟨rfl, hb2⟩
      have hb := Gr.trans hb hb2
      clear hb2
      go_wp2_with fail
      refine (o_lower _ _ (by unfold maxLen; omega)).mono ?_; rintro e w1 ⟨rfl, hb1⟩
      have hb := Gr.trans hb hb1
      clear hb1
      go_wp2_with fail
      refine (o_lower _ _ (by unfold maxLen; omega)).mono ?_; rintro e w2 ⟨rfl, hb2⟩
      have hb := Gr.trans hb hb2
      clear hb2
      go_wp2_with fail
      rw [Oct.mapS_append]
      refine (o_lower _ _ (by unfold maxLen; omega)).mono ?_; rintro e w1 ⟨rfl, hb1⟩
      have hb := Gr.trans hb hb1
      clear hb1
      go_wp2_with fail
      refine (l_awake _ (shaped_below hsh hb)).mono ?_; rintro e w2 ⟨rfl, hb2⟩
      go_wp2_with fail
      go_ret
      exact ⟨rfl, Gr.trans hb hb2⟩
  · have ht1 : ((t.size : Int) == 0) = false := by simp [ht0]
    have ht2 : 0 < (t.size : Int) := by omega
    have ht3 : 0 < t.size := by omega
    rcases Oct.idx_cases s.data.toList t.data.toList (data_ne ht0) with ⟨K, hK, hoc, hno, hidx⟩ | ⟨hno, hidx⟩
    · rw [hidx]
      have hK' : K < s.size := hK
      have e4 : Oct.cut s (K + 1) t.size = t := (Oct.cut_occ s t K hK' ht3).2 hoc
      have HNO : Hid (∀ j, j < K → Oct.cut s ((j : Int) + 1) t.size ≠ t) := fun j hj h => by
        have := (Oct.cut_occ s t j (by omega) ht3).1 h
        rw [hno j hj] at this; exact Bool.noConfusion this
      clear hidx x1 x2 hoc hno hK ht0
      have E4 := Lib.hid e4
      clear e4
      go_wp2_with fail
      refine (o_cut _ _ _ _ (by unfold maxLen; omega) (by omega) (by omega) (by omega) (by omega)).mono ?_; rintro e w1 ⟨rfl, rfl⟩
      rw [E4.out]
      go_wp2_with fail
      go_loop [10] (fun i => ∃ k : Nat, k ≤ K ∧ i = .int .i64 (k + 1)) (fun i => K + 2 - (intOf i).toNat)
      case atStart => exact ⟨0, Nat.zero_le _, rfl⟩
      case round =>
        obtain ⟨k, hk, rfl⟩ := hrel
        go_wp2_with fail
        refine (o_cut _ _ _ _ (by unfold maxLen; omega) (by omega) (by omega) (by omega) (by omega)).mono ?_; rintro e w1 ⟨rfl, rfl⟩
        by_cases hkK : k < K
        · have hne : ((Oct.cut s ((k : Int) + 1) t.size).toList == t.toList) = false := by
            rw [Lib.toList_data, Lib.toList_data]
            simp only [beq_eq_false_iff_ne, ne_eq]
            intro h
            exact HNO.out k hkK (ByteArray.ext (Array.toList_inj.1 h))
          go_wp2_with fail
          go_round
          case rel => exact ⟨k + 1, by omega, by go_num⟩
          case measure => simp [intOf]; omega
        · obtain rfl : k = K := by omega
          rw [E4.out]
          go_wp2_with fail
          refine (o_upper _ _ (by unfold maxLen; omega)).mono ?_; rintro e w1 ⟨rfl, hb1⟩
          go_wp2_with fail
          refine (o_lower _ _ (by rw [Oct.mapS_size]; unfold maxLen; omega)).mono ?_; rintro e w2 ⟨rfl, hb2⟩
          have hb := Gr.trans hb1 hb2
          clear hb1 hb2
          rw [Oct.low_upper]
          go_wp2_with fail
          refine (o_lower _ _ (by unfold maxLen; omega)).mono ?_; rintro e w1 ⟨rfl, hb1⟩
          have hb := Gr.trans hb hb1
          clear hb1
          go_wp2_with fail
          refine (o_lower _ _ (by unfold maxLen; omega)).mono ?_; rintro e w2 ⟨rfl, hb2⟩
          have hb := Gr.trans hb hb2
          clear hb2
          go_wp2_with fail
          refine (o_upper _ _ (by rw [Oct.mapS_size]; unfold maxLen; omega)).mono ?_; rintro e w1 ⟨rfl, hb1⟩
          have hb := Gr.trans hb hb1
          clear hb1
          rw [Oct.upp_lower]
          go_wp2_with fail
          refine (o_upper _ _ (by unfold maxLen; omega)).mono ?_; rintro e w2 ⟨rfl, hb2⟩
          have hb := Gr.trans hb hb2
          clear hb2
          go_wp2_with fail
          refine (o_lower _ _ (by unfold maxLen; omega)).mono ?_; rintro e w1 ⟨rfl, hb1⟩
          have hb := Gr.trans hb hb1
          clear hb1
          go_wp2_with fail
          refine (o_upper _ _ (by unfold maxLen; omega)).mono ?_; rintro e w2 ⟨rfl, hb2⟩
          have hb := Gr.trans hb hb2
          clear hb2
          go_wp2_with fail
          refine (o_lower _ _ (by unfold maxLen; omega)).mono ?_; rintro e w1 ⟨rfl, hb1⟩
          have hb := Gr.trans hb hb1
          clear hb1
          go_wp2_with fail
          refine (o_lower _ _ (by unfold maxLen; omega)).mono ?_; rintro e w2 ⟨rfl, hb2⟩
          have hb := Gr.trans hb hb2
          clear hb2
          go_wp2_with fail
          rw [Oct.mapS_append]
          refine (o_lower _ _ (by unfold maxLen; omega)).mono ?_; rintro e w1 ⟨rfl, hb1⟩
          have hb := Gr.trans hb hb1
          clear hb1
          go_wp2_with fail
          refine (l_awake _ (shaped_below hsh hb)).mono ?_; rintro e w2 ⟨rfl, hb2⟩
          go_wp2_with fail
          go_ret
          exact ⟨rfl, Gr.trans hb hb2⟩
    · rw [hidx]
      have HNO : Hid (∀ j, j < s.size → Oct.cut s ((j : Int) + 1) t.size ≠ t) := fun j hj h => by
        have := (Oct.cut_occ s t j (by omega) ht3).1 h
        rw [hno j hj] at this; exact Bool.noConfusion this
      clear hidx x1 x2 hno ht0
      go_wp2_with fail
      go_loop [10] (fun i => ∃ k : Nat, k ≤ s.size ∧ i = .int .i64 (k + 1)) (fun i => s.size + 2 - (intOf i).toNat)
      case atStart => exact ⟨0, Nat.zero_le _, rfl⟩
      case round =>
        obtain ⟨k, hk, rfl⟩ := hrel
        by_cases hkK : k < s.size
        · have hne : ((Oct.cut s ((k : Int) + 1) t.size).toList == t.toList) = false := by
            rw [Lib.toList_data, Lib.toList_data]
            simp only [beq_eq_false_iff_ne, ne_eq]
            intro h
            exact HNO.out k hkK (ByteArray.ext (Array.toList_inj.1 h))
          go_wp2_with fail
          refine (o_cut _ _ _ _ (by unfold maxLen; omega) (by omega) (by omega) (by omega) (by omega)).mono ?_; rintro e w1 ⟨rfl, rfl⟩
          go_wp2_with fail
          go_round
          case rel => exact ⟨k + 1, by omega, by go_num⟩
          case measure => simp [intOf]; omega
        · obtain rfl : k = s.size := by omega
          go_wp2_with fail
          refine (o_upper _ _ (by unfold maxLen; omega)).mono ?_; rintro e w1 ⟨rfl, hb1⟩
          go_wp2_with fail
          refine (o_lower _ _ (by rw [Oct.mapS_size]; unfold maxLen; omega)).mono ?_; rintro e w2 ⟨rfl, hb2⟩
          have hb := Gr.trans hb1 hb2
          clear hb1 hb2
          rw [Oct.low_upper]
          go_wp2_with fail
          refine (o_lower _ _ (by unfold maxLen; omega)).mono ?_; rintro e w1 ⟨rfl, hb1⟩
          have hb := Gr.trans hb hb1
          clear hb1
          go_wp2_with fail
          refine (o_lower _ _ (by unfold maxLen; omega)).mono ?_; rintro e w2 ⟨rfl, hb2⟩
          have hb := Gr.trans hb hb2
          clear hb2
          go_wp2_with fail
          refine (o_upper _ _ (by rw [Oct.mapS_size]; unfold maxLen; omega)).mono ?_; rintro e w1 ⟨rfl, hb1⟩
          have hb := Gr.trans hb hb1
          clear hb1
          rw [Oct.upp_lower]
          go_wp2_with fail
          refine (o_upper _ _ (by unfold maxLen; omega)).mono ?_; rintro e w2 ⟨rfl, hb2⟩
          have hb := Gr.trans hb hb2
          clear hb2
          go_wp2_with fail
          refine (o_lower _ _ (by unfold maxLen; omega)).mono ?_; rintro e w1 ⟨rfl, hb1⟩
          have hb := Gr.trans hb hb1
          clear hb1
          go_wp2_with fail
          refine (o_upper _ _ (by unfold maxLen; omega)).mono ?_; rintro e w2 ⟨rfl, hb2⟩
          have hb := Gr.trans hb hb2
          clear hb2
          go_wp2_with fail
          refine (o_lower _ _ (by unfold maxLen; omega)).mono ?_; rintro e w1 ⟨rfl, hb1⟩
          have hb := Gr.trans hb hb1
          clear hb1
          go_wp2_with fail
          refine (o_lower _ _ (by unfold maxLen; omega)).mono ?_; rintro e w2 ⟨rfl, hb2⟩
          have hb := Gr.trans hb hb2
          clear hb2
          go_wp2_with fail
          rw [Oct.mapS_append]
          refine (o_lower _ _ (by unfold maxLen; omega)).mono ?_; rintro e w1 ⟨rfl, hb1⟩
          have hb := Gr.trans hb hb1
          clear hb1
          go_wp2_with fail
          refine (l_awake _ (shaped_below hsh hb)).mono ?_; rintro e w2 ⟨rfl, hb2⟩
          go_wp2_with fail
          go_ret
          exact ⟨rfl, Gr.trans hb hb2⟩

set_option maxRecDepth 100000 in
set_option maxHeartbeats 1000000 in
theorem l_parts (s t : ByteArray) (f m : Int) (w : World) (hsh : w.ShapedOpen Try.prog) (hs : s.size ≤ maxLen) (ht : t.size ≤ maxLen) (wf : (Lit.int .i64 f).wf = true) (wm : (Lit.int .i64 m).wf = true) :
    Calls Try.prog 3 #[.string s, .string t, .int .i64 f, .int .i64 m] w fun e w' => e = .returned (.bool true) ∧ Below w.heap.size w w' := by
  have hs' := hs; have ht' := ht
  unfold maxLen at hs ht
  have bf := bounds_i64 wf
  have bm := bounds_i64 wm
  clear wf wm
  by_cases c1 : 5000 < s.size
  · go_enter Try.func3, Try.ntmps3
    go_wp2_with fail
    refine (l_awake _ hsh).mono ?_
    rintro e w1 ⟨rfl, hb1⟩
    go_wp2_with fail
    go_ret
    exact ⟨rfl, hb1⟩
  · by_cases c2 : 5000 < t.size
    · go_enter Try.func3, Try.ntmps3
      go_wp2_with fail
      refine (l_awake _ hsh).mono ?_
      rintro e w1 ⟨rfl, hb1⟩
      go_wp2_with fail
      go_ret
      exact ⟨rfl, hb1⟩
    · exact l_parts_main s t f m w hsh (by omega) (by omega) (by omega) (by omega) (by omega) (by omega)
theorem l_tells2 (b : Int) (s t : ByteArray) (f n : Int) (w : World) (hsh : w.ShapedOpen Try.prog) (wb : (Lit.int .u8 b).wf = true) (hs : s.size ≤ maxLen) (ht : t.size ≤ maxLen) (wf : (Lit.int .i64 f).wf = true) (wn : (Lit.int .i64 n).wf = true) :
    Calls Try.prog 5 #[.int .u8 b, .string s, .string t, .int .i64 f, .int .i64 n] w fun e w' => e = .returned (.bool true) ∧ Below w.heap.size w w' := by
  have bf := bounds_i64 wf
  have bn := bounds_i64 wn
  exact l_tells b s t f n w hsh hs ht (by omega) (by omega) (by omega) (by omega)
end Go.Proofs.Ytfemkfdaeojdhaa
