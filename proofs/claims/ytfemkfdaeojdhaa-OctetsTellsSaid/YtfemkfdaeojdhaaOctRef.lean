/- The walks of the reference of octets: what each call returns, in the words of OctPlain. -/
import Derived.Test.YtfemkfdaeojdhaaRows
import Derived.Test.YtfemkfdaeojdhaaBase
import Derived.Test.YtfemkfdaeojdhaaOctPlain
import Derived.Lib.Strings
namespace Go.Proofs.Ytfemkfdaeojdhaa
open Go.RowKit

theorem info_u8 : (Try.prog.info? 5).map (fun i => (i.zero, i.size, i.bytes)) = some (some (.int .u8 0), 1, 1) := by kernel_rfl
theorem r_blank (b : Int) (w : World) : Calls Try.prog 13 #[.int .u8 b] w fun e w' => e = .returned (.bool (Oct.blank b)) ∧ w = w' := by
  go_enter Try.func13, Try.ntmps13
  go_wp2
  all_goals (go_ret; exact ⟨ret_bool (by rw [Bool.eq_iff_iff]; simp [Oct.blank, *]; try omega), rfl⟩)
theorem r_space (b : Int) (w : World) : Calls Try.prog 15 #[.int .u8 b] w fun e w' => e = .returned (.bool (Oct.space b)) ∧ w = w' := by
  go_enter Try.func15, Try.ntmps15
  go_wp2
  all_goals (go_ret; exact ⟨ret_bool (by rw [Bool.eq_iff_iff]; simp [Oct.space, *]; try omega), rfl⟩)
theorem r_digit (b : Int) (w : World) : Calls Try.prog 17 #[.int .u8 b] w fun e w' => e = .returned (.bool (Oct.digit b)) ∧ w = w' := by
  go_enter Try.func17, Try.ntmps17
  go_wp2
  all_goals (go_ret; exact ⟨ret_bool (by rw [Bool.eq_iff_iff]; simp [Oct.digit, *]; try omega), rfl⟩)
theorem r_letter (b : Int) (w : World) : Calls Try.prog 19 #[.int .u8 b] w fun e w' => e = .returned (.bool (Oct.letter b)) ∧ w = w' := by
  go_enter Try.func19, Try.ntmps19
  go_wp2
  all_goals (go_ret; exact ⟨ret_bool (by rw [Bool.eq_iff_iff]; simp [Oct.letter, *]; try omega), rfl⟩)
set_option maxHeartbeats 400000 in
theorem r_lower (s : ByteArray) (w : World) (hs : s.size ≤ 4294967296) :
    Calls Try.prog 20 #[.string s] w fun e w' => e = .returned (.string (Oct.mapS Oct.low s)) ∧ Below w.heap.size w w' := by
  obtain ⟨l, hl⟩ : ∃ l, l = s.data.toList := ⟨_, rfl⟩
  have hl' : l.length = s.size := by subst hl; rfl
  have HL := Lib.hid hl'
  have HLL := Lib.hid hl
  obtain ⟨B, hB⟩ : ∃ B, B = w.heap.size := ⟨_, rfl⟩
  have HB := Lib.hid hB
  clear hl hl' hB
  go_enter Try.func20, Try.ntmps20
  go_wp2
  go_loopw [3, 4, 5] (fun v i _ wr => ∃ k : Nat, k ≤ s.size ∧ i = .int .i64 k ∧ wr.ownsRow B 5 1 v k (bvals ((l.take k).map Oct.low)) ∧ Below B w wr) (fun _ i _ _ => s.size - (intOf i).toNat)
  case atStart => exact ⟨0, Nat.zero_le _, rfl, by simpa [bvals] using World.ownsRow_nil w B 5 1, Below.refl _ _⟩
  case round =>
    obtain ⟨k, hk, rfl, hown, hbl⟩ := hrel
    have hbs := hbl.size
    rw [← HB.out] at hbs
    by_cases hlt : k < s.size
    · have hlt1 : k < l.length := by have := HL.out; omega
      have hb2 : (s[k].toNat : Int) ≤ 255 := by have := s[k].toNat_lt; omega
      have HN : Hid (((Oct.low l[k]).toNat : Int) = if 65 ≤ (s[k].toNat : Int) ∧ (s[k].toNat : Int) ≤ 90 then (s[k].toNat : Int) + 32 else s[k].toNat) := by
        have e : l[k] = s[k] := by have := HLL.out; subst this; rfl
        unfold Hid; rw [e]; exact Oct.low_nat _
      have HT := Lib.hid (Oct.take_map_succ Oct.low l k hlt1)
      generalize Oct.low l[k] = b' at *
      have hz1 : k + 1 ≤ maxLen := by unfold maxLen; omega
      have hz2 : (k + 1) * 1 ≤ 140737488355328 := by omega
      go_wp2_with (at_builtin; refine wp_app1 rfl _ _ _ rfl 5 1 1 (.int .u8 0) Try.underlying32 info_u8 rfl (by decide) B _ k _ rfl hown [_] rfl rfl one_int hz1 hz2 hbs ?_; intro v' w1 hown' hgrow hne)
      all_goals
        have HX : Hid (∀ x, x = (b'.toNat : Int) → w1.ownsRow B 5 1 v' (k + 1) (bvals ((l.take k).map Oct.low) ++ [.int .u8 x]) → w1.ownsRow B 5 1 v' (k + 1) (bvals ((l.take (k+1)).map Oct.low))) := by
          intro x hx h; subst hx; rw [bvals_snoc, ← HT.out] at h; exact h
        have hown2 := HX.out _ (by rw [HN.out]; first | rw [if_pos ⟨by assumption, by assumption⟩] | rw [if_neg (by omega)]) hown'
        have hbl' := hbl.trans (below_grown hown hgrow hbs)
        clear hgrow hown hbl hne hown'
        go_wp2
        go_roundw
        case rel => exact ⟨k + 1, by omega, by go_num, hown2, hbl'⟩
        case measure => simp [intOf]; omega
    · obtain rfl : k = s.size := by omega
      have HE : Hid ((l.take s.size).map Oct.low = s.data.toList.map Oct.low) := by rw [← HL.out, List.take_length]; exact congrArg _ HLL.out
      rw [HE.out] at hown
      have hcv := own_back (P := Try.prog) hown 32 9 5 Try.underlying32 Try.underlying5 Try.underlying9
      go_wp2
      go_ret
      exact ⟨rfl, by rw [← HB.out]; exact hbl⟩
set_option maxHeartbeats 400000 in
theorem r_upper (s : ByteArray) (w : World) (hs : s.size ≤ 4294967296) :
    Calls Try.prog 21 #[.string s] w fun e w' => e = .returned (.string (Oct.mapS Oct.upp s)) ∧ Below w.heap.size w w' := by
  obtain ⟨l, hl⟩ : ∃ l, l = s.data.toList := ⟨_, rfl⟩
  have hl' : l.length = s.size := by subst hl; rfl
  have HL := Lib.hid hl'
  have HLL := Lib.hid hl
  obtain ⟨B, hB⟩ : ∃ B, B = w.heap.size := ⟨_, rfl⟩
  have HB := Lib.hid hB
  clear hl hl' hB
  go_enter Try.func21, Try.ntmps21
  go_wp2
  go_loopw [3, 4, 5] (fun v i _ wr => ∃ k : Nat, k ≤ s.size ∧ i = .int .i64 k ∧ wr.ownsRow B 5 1 v k (bvals ((l.take k).map Oct.upp)) ∧ Below B w wr) (fun _ i _ _ => s.size - (intOf i).toNat)
  case atStart => exact ⟨0, Nat.zero_le _, rfl, by simpa [bvals] using World.ownsRow_nil w B 5 1, Below.refl _ _⟩
  case round =>
    obtain ⟨k, hk, rfl, hown, hbl⟩ := hrel
    have hbs := hbl.size
    rw [← HB.out] at hbs
    by_cases hlt : k < s.size
    · have hlt1 : k < l.length := by have := HL.out; omega
      have hb2 : (s[k].toNat : Int) ≤ 255 := by have := s[k].toNat_lt; omega
      have HN : Hid (((Oct.upp l[k]).toNat : Int) = if 97 ≤ (s[k].toNat : Int) ∧ (s[k].toNat : Int) ≤ 122 then (s[k].toNat : Int) - 32 else s[k].toNat) := by
        have e : l[k] = s[k] := by have := HLL.out; subst this; rfl
        unfold Hid; rw [e]; exact Oct.upp_nat _
      have HT := Lib.hid (Oct.take_map_succ Oct.upp l k hlt1)
      generalize Oct.upp l[k] = b' at *
      have hz1 : k + 1 ≤ maxLen := by unfold maxLen; omega
      have hz2 : (k + 1) * 1 ≤ 140737488355328 := by omega
      go_wp2_with (at_builtin; refine wp_app1 rfl _ _ _ rfl 5 1 1 (.int .u8 0) Try.underlying32 info_u8 rfl (by decide) B _ k _ rfl hown [_] rfl rfl one_int hz1 hz2 hbs ?_; intro v' w1 hown' hgrow hne)
      all_goals
        have HX : Hid (∀ x, x = (b'.toNat : Int) → w1.ownsRow B 5 1 v' (k + 1) (bvals ((l.take k).map Oct.upp) ++ [.int .u8 x]) → w1.ownsRow B 5 1 v' (k + 1) (bvals ((l.take (k+1)).map Oct.upp))) := by
          intro x hx h; subst hx; rw [bvals_snoc, ← HT.out] at h; exact h
        have hown2 := HX.out _ (by rw [HN.out]; first | rw [if_pos ⟨by assumption, by assumption⟩] | rw [if_neg (by omega)]) hown'
        have hbl' := hbl.trans (below_grown hown hgrow hbs)
        clear hgrow hown hbl hne hown'
        go_wp2
        go_roundw
        case rel => exact ⟨k + 1, by omega, by go_num, hown2, hbl'⟩
        case measure => simp [intOf]; omega
    · obtain rfl : k = s.size := by omega
      have HE : Hid ((l.take s.size).map Oct.upp = s.data.toList.map Oct.upp) := by rw [← HL.out, List.take_length]; exact congrArg _ HLL.out
      rw [HE.out] at hown
      have hcv := own_back (P := Try.prog) hown 32 9 5 Try.underlying32 Try.underlying5 Try.underlying9
      go_wp2
      go_ret
      exact ⟨rfl, by rw [← HB.out]; exact hbl⟩
set_option maxHeartbeats 400000 in
theorem r_index (s t : ByteArray) (w : World) (hs : s.size ≤ 4294967296) (ht : t.size ≤ 4611686018427387904) :
    Calls Try.prog 22 #[.string s, .string t] w fun e w' => e = .returned (.int .i64 (Oct.idx s.data.toList t.data.toList)) ∧ w = w' := by
  have hl : s.data.toList.length = s.size := rfl
  by_cases h0 : t.size = 0
  · have h1 := Lib.hid (data_nil h0)
    have h2 : ((t.size : Int) == 0) = true := by simp [h0]
    clear h0
    go_enter Try.func22, Try.ntmps22
    go_wp2_with fail
    go_ret
    exact ⟨ret_int (by rw [h1.out]; simp [Oct.idx]), rfl⟩
  · have h1 := Lib.hid (data_ne h0)
    have h2 : ((t.size : Int) == 0) = false := by simp [h0]
    have h3 : 1 ≤ t.size := by omega
    clear h0
    go_enter Try.func22, Try.ntmps22
    go_wp2_with fail
    go_loop [5] (fun i => ∃ k : Nat, k ≤ s.size + 1 ∧ i = .int .i64 k ∧ ∀ j, j < k → Lib.occAt s.data.toList t.data.toList j = false) (fun i => s.size + 1 - (intOf i).toNat)
    case atStart => exact ⟨0, Nat.zero_le _, rfl, fun j hj => by omega⟩
    case round =>
      obtain ⟨k, hk, rfl, hno⟩ := hrel
      have HNO := Lib.hid hno
      clear hno
      by_cases hr : k + t.size ≤ s.size
      · have hoc := Lib.hid (Lib.occ_of_piece s t k hr)
        go_wp2
        · have hq : ((s.extract k (k + t.size)).toList == t.toList) = true := by assumption
          go_ret
          exact ⟨ret_int (by rw [Oct.idx, if_neg h1.out, Lib.index_first (by omega) (hoc.out.trans hq) HNO.out]), rfl⟩
        · have hq : ((s.extract k (k + t.size)).toList == t.toList) = false := by assumption
          go_round
          case rel => exact ⟨k + 1, by omega, by go_num, fun j hj => by
            rcases Nat.lt_or_ge j k with h | h
            · exact HNO.out j h
            · obtain rfl : j = k := by omega
              exact hoc.out.trans hq⟩
          case measure => simp [intOf]; omega
      · go_wp2
        go_ret
        exact ⟨ret_int (by
          rw [Oct.idx, if_neg h1.out, Lib.index_none (fun j hj => ?_)]; rfl
          cases hb : Lib.occAt s.data.toList t.data.toList j
          · rfl
          · have hlt : t.data.toList.length = t.size := rfl
            rcases Lib.occAt_room hb with h | h
            · have := HNO.out j (by omega); rw [hb] at this; exact this
            · exact absurd h h1.out), rfl⟩
set_option maxHeartbeats 400000 in
theorem r_cut (s : ByteArray) (f n : Int) (w : World) (hs : s.size ≤ 4294967296) (hf0 : -9223372036854775808 ≤ f) (hf1 : f ≤ 9223372036854775807) (hn0 : -9223372036854775808 ≤ n) (hn1 : n ≤ 9223372036854775807) :
    Calls Try.prog 23 #[.string s, .int .i64 f, .int .i64 n] w fun e w' => e = .returned (.string (Oct.cut s f n)) ∧ Below w.heap.size w w' := by
  obtain ⟨l, hl⟩ : ∃ l, l = s.data.toList := ⟨_, rfl⟩
  have hl' : l.length = s.size := by subst hl; rfl
  have HL := Lib.hid hl'
  have HLL := Lib.hid hl
  obtain ⟨B, hB⟩ : ∃ B, B = w.heap.size := ⟨_, rfl⟩
  have HB := Lib.hid hB
  clear hl hl' hB
  go_enter Try.func23, Try.ntmps23
  go_wp2_with fail
  go_loopw [7, 8] (fun v i wr => ∃ k : Nat, k ≤ s.size ∧ i = .int .i64 (k + 1) ∧ wr.ownsRow B 5 1 v (Oct.cutTo l f n k).length (bvals (Oct.cutTo l f n k)) ∧ Below B w wr) (fun _ i _ => s.size + 1 - (intOf i).toNat)
  case atStart => exact ⟨0, Nat.zero_le _, rfl, by simpa [bvals, Oct.cutTo] using World.ownsRow_nil w B 5 1, Below.refl _ _⟩
  case round =>
    obtain ⟨k, hk, rfl, hown, hbl⟩ := hrel
    have hbs := hbl.size
    rw [← HB.out] at hbs
    have hcl := Oct.cutTo_length_le l f n k
    by_cases hlt : k < s.size
    · have hgd : Hid (l.getD k 0 = s[k]) := by have := HLL.out; subst this; simp [Hid, List.getD, hlt]; rfl
      have HT : Hid (Oct.cutTo l f n (k + 1) = _) := rfl
      by_cases hin : Oct.inCut f n (k + 1) = true
      · have HT2 : Hid (Oct.cutTo l f n (k + 1) = Oct.cutTo l f n k ++ [s[k]]) := by rw [Oct.cutTo, if_pos hin, hgd.out]; rfl
        simp only [Oct.inCut, Bool.and_eq_true, decide_eq_true_eq] at hin
        obtain ⟨⟨i1, i2⟩, i3⟩ := hin
        have i4 : (k : Int) + 1 - n < f := by omega
        have hz1 : (Oct.cutTo l f n k).length + 1 ≤ maxLen := by unfold maxLen; omega
        have hz2 : ((Oct.cutTo l f n k).length + 1) * 1 ≤ 140737488355328 := by omega
        go_wp2_with (at_builtin; refine wp_app1 rfl _ _ _ rfl 5 1 1 (.int .u8 0) Try.underlying32 info_u8 rfl (by decide) B _ _ _ rfl hown [_] rfl rfl one_int hz1 hz2 hbs ?_; intro v' w1 hown' hgrow hne)
        have hbl' := hbl.trans (below_grown hown hgrow hbs)
        have hown2 : w1.ownsRow B 5 1 v' (Oct.cutTo l f n (k + 1)).length (bvals (Oct.cutTo l f n (k + 1))) := by
          rw [HT2.out, ← bvals_snoc, List.length_append]; exact hown'
        clear hgrow hown hbl hne hown' hz1 hz2
        go_wp2
        go_roundw
        case rel => exact ⟨k + 1, by omega, by go_num, hown2, hbl'⟩
        case measure => simp [intOf]; omega
      · have HT2 : Hid (Oct.cutTo l f n (k + 1) = Oct.cutTo l f n k) := by unfold Hid; rw [Oct.cutTo, if_neg hin, List.append_nil]
        have hown2 : w.heap.size = w.heap.size → wr.ownsRow B 5 1 _ (Oct.cutTo l f n (k + 1)).length (bvals (Oct.cutTo l f n (k + 1))) := fun _ => by
          rw [HT2.out]; exact hown
        have hcs : (k : Int) + 1 < f ∨ (f ≤ (k : Int) + 1 ∧ n ≤ 0) ∨ (f ≤ (k : Int) + 1 ∧ 0 < n ∧ f ≤ (k : Int) + 1 - n) := by
          simp only [Oct.inCut, Bool.and_eq_true, decide_eq_true_eq] at hin
          omega
        clear hin
        have HO := Lib.hid (hown2 rfl)
        clear hown hown2
        rcases hcs with c | ⟨c, c'⟩ | ⟨c, c', c''⟩
        all_goals
          go_wp2
          go_roundw
          case rel => exact ⟨k + 1, by omega, by go_num, HO.out, hbl⟩
          case measure => simp [intOf]; omega
    · obtain rfl : k = s.size := by omega
      have HE : Hid (Oct.cutTo l f n s.size = Oct.cutL s.data.toList f n) := by have := HLL.out; subst this; rfl
      rw [HE.out] at hown
      have hcv := own_back (P := Try.prog) hown 32 9 5 Try.underlying32 Try.underlying5 Try.underlying9
      go_wp2
      go_ret
      exact ⟨rfl, by rw [← HB.out]; exact hbl⟩
end Go.Proofs.Ytfemkfdaeojdhaa
