/- A world: the walk of Open, whole. -/
import Derived.Test.YtodjjnklelfgfaaWld7
namespace Go.Proofs.Ytodjjnklelfgfaa
open Go.RowKit Wd
open Go.WideMaps Go.WideElems Go.WideAt
set_option maxRecDepth 20000 in
set_option maxHeartbeats 4000000 in
theorem wo_open {w : World} {F : Nat → Prop} {pb : Nat} {M : Mem} {st : St} (h : WAt w F pb M st) (k : Int) (name : ByteArray) (hk : name.size ≤ maxLen) (hno : st.opn.length ≤ 1000000000) (hnt : st.trace.length ≤ 1000000000) (hnr : st.replies.length ≤ 1000000000) (hnf : st.fails.length ≤ 1000000000) (hnm : M.m ≤ 1000000000) :
    Calls Try.prog 19 #[.pointer (some ⟨pb, 0, none⟩), .int .u8 k, .string name] w fun e w' => ∃ M' F', e = .returned (.int .i64 (openL st k name).2) ∧ WAt w' F' pb M' (openL st k name).1 ∧ Tur F w w' ∧ (∀ g, F' g → F g ∨ w.heap.size ≤ g) ∧ M'.m ≤ M.m + 1 := by
  obtain ⟨o, ho⟩ : ∃ o, o = openL st k name := ⟨_, rfl⟩
  rw [← ho]
  have HOK := Lib.hid ho
  unfold openL at ho
  have H := Lib.hid h
  have HLT := Lib.hid h.lt
  clear h
  by_cases hA : k < 1 ∨ 5 < k
  · rw [if_pos hA] at ho
    have HO := Lib.hid ho
    clear ho
    rcases hA with hA | hA
    · go_enter Try.func19, Try.ntmps19
      go_wp2_with fail
      refine (wo_none H.out).mono ?_
      rintro e w2 ⟨rfl, rfl⟩
      go_wp2_with fail
      go_ret
      exact ⟨M, F, by rw [HO.out]; rfl, by rw [HO.out]; exact H.out, Tur.of_gr (by exact Below.refl _ _), fun _ h => .inl h, Nat.le_succ _⟩
    · have hA' : ¬ k < 1 := by omega
      go_enter Try.func19, Try.ntmps19
      go_wp2_with fail
      refine (wo_none H.out).mono ?_
      rintro e w2 ⟨rfl, rfl⟩
      go_wp2_with fail
      go_ret
      exact ⟨M, F, by rw [HO.out]; rfl, by rw [HO.out]; exact H.out, Tur.of_gr (by exact Below.refl _ _), fun _ h => .inl h, Nat.le_succ _⟩
  · rw [if_neg hA] at ho
    have hk1 : ¬ k < 1 := by omega
    have hk5 : ¬ 5 < k := by omega
    cases hf : find st k name with
    | some i =>
      rw [hf, if_pos (show (some i).isSome = true from rfl)] at ho
      have HO := Lib.hid ho
      have HFV : Hid (findV M st k name = .pointer (some ⟨M.gs.getD i 0, 0, none⟩)) := by unfold Hid findV; rw [hf]
      clear ho hf hA
      go_enter Try.func19, Try.ntmps19
      go_wp2_with fail
      refine (wo_none H.out).mono ?_
      rintro e w2 ⟨rfl, rfl⟩
      go_wp2_with fail
      refine (wo_find H.out _ name hno).mono ?_
      rintro e w1 ⟨rfl, hb1⟩
      rw [HFV.out]
      have H1 := Lib.hid (H.out.pure hb1)
      have HB1 := Lib.hid hb1
      clear hb1
      go_wp2_with fail
      go_ret
      exact ⟨M, F, by rw [HO.out]; rfl, by rw [HO.out]; exact H1.out, Tur.of_gr (by exact HB1.out), fun _ h => .inl h, Nat.le_succ _⟩
    | none =>
      rw [hf, if_neg (by decide)] at ho
      have HFV : Hid (findV M st k name = .pointer none) := by unfold Hid findV; rw [hf]
      have HFN := Lib.hid hf
      obtain ⟨A, cap, hvo, hcap1, hcap2⟩ := own_form H.out.rowO
      have HVO := Lib.hid hvo
      obtain ⟨N, hN⟩ : ∃ N, N = st.opn.length := ⟨_, rfl⟩
      have HNN := Lib.hid hN
      obtain ⟨lim, hlim⟩ : ∃ lim, lim = st.lim := ⟨_, rfl⟩
      have HLIM := Lib.hid hlim.symm
      rw [← hN] at hcap1
      rw [← hN] at HVO
      by_cases hL : lim ≤ (N : Int)
      · rw [if_pos (by rw [← hlim, ← hN]; exact hL)] at ho
        have HO := Lib.hid ho
        have hLb : decide (lim ≤ (N : Int)) = true := decide_eq_true hL
        clear ho hf hA hvo hN hlim
        go_enter Try.func19, Try.ntmps19
        go_wp2_with fail
        refine (wo_none H.out).mono ?_
        rintro e w2 ⟨rfl, rfl⟩
        go_wp2_with fail
        refine (wo_find H.out _ name hno).mono ?_
        rintro e w1 ⟨rfl, hb1⟩
        rw [HFV.out]
        have H1 := Lib.hid (H.out.pure hb1)
        have HB1 := Lib.hid hb1
        clear hb1
        have c10 : w1.cell? ⟨pb, 10, none⟩ = some (.slice A N cap) := HVO.out ▸ H1.out.cell 10
        have c5 : w1.cell? ⟨pb, 5, none⟩ = some (.int .i64 lim) := HLIM.out ▸ H1.out.cell 5
        go_wp2_with fail
        go_quiet (fail)
        have H2 := Lib.hid (H1.out.drewN nq)
        have HB2 := Lib.hid (HB1.out.trans ((below_drew w1 nq).mono HB1.out.size))
        generalize w1.drewN nq = w2 at *
        clear c10 c5
        go_wp2_with fail
        go_ret
        exact ⟨M, F, by rw [HO.out]; rfl, by rw [HO.out]; exact H2.out, Tur.of_gr (by exact HB2.out), fun _ h => .inl h, Nat.le_succ _⟩
      · rw [if_neg (by rw [← hlim, ← hN]; exact hL)] at ho
        have hLb : decide (lim ≤ (N : Int)) = false := decide_eq_false hL
        have HLK : Hid ((((fun l => (st.files l).map Value.string) name.data.toList).getD (.string ⟨#[]⟩) = .string ((st.files name.data.toList).getD ⟨#[]⟩)) ∧ ((fun l => (st.files l).map Value.string) name.data.toList).isSome = (st.files name.data.toList).isSome) := by
          unfold Hid
          show ((st.files name.data.toList).map Value.string).getD _ = _ ∧ ((st.files name.data.toList).map Value.string).isSome = _
          cases st.files name.data.toList <;> exact ⟨rfl, rfl⟩
        obtain ⟨fd, hfd⟩ : ∃ fd, fd = (st.files name.data.toList).getD ⟨#[]⟩ := ⟨_, rfl⟩
        obtain ⟨fb, hfb⟩ : ∃ fb, fb = (st.files name.data.toList).isSome := ⟨_, rfl⟩
        rw [← hfd, ← hfb] at HLK
        rw [← hfb] at ho
        have HFD := Lib.hid hfd
        have HFB9 := Lib.hid hfb
        have hfdz : ∃ d, plainElem (H := Unit) Try.prog 9 (.string fd) = some (d, []) := by
          rw [hfd]
          cases hx : st.files name.data.toList with
          | none => exact plain_zero_string
          | some d =>
            have := H.out.map.some_has (l := name.data.toList) (v := .string d) (by show (st.files name.data.toList).map Value.string = _; rw [hx]; rfl)
            exact this
        have HFDZ := Lib.hid hfdz
        clear hf hA hvo hN hlim hfd hfb hfdz
        cases hfl : failB st 1 name with
        | true =>
          rw [hfl, if_pos (.inl rfl)] at ho
          have HO := Lib.hid ho
          have HFB := Lib.hid hfl
          clear ho hfl
          go_enter Try.func19, Try.ntmps19
          go_wp2_with fail
          refine (wo_none H.out).mono ?_
          rintro e w2 ⟨rfl, rfl⟩
          go_wp2_with fail
          refine (wo_find H.out _ name hno).mono ?_
          rintro e w1 ⟨rfl, hb1⟩
          rw [HFV.out]
          have H1 := Lib.hid (H.out.pure hb1)
          have HB1 := Lib.hid hb1
          clear hb1
          have c10 : w1.cell? ⟨pb, 10, none⟩ = some (.slice A N cap) := HVO.out ▸ H1.out.cell 10
          have c5 : w1.cell? ⟨pb, 5, none⟩ = some (.int .i64 lim) := HLIM.out ▸ H1.out.cell 5
          go_wp2_with fail
          go_quiet (fail)
          have H2 := Lib.hid (H1.out.drewN nq)
          have HB2 := Lib.hid (HB1.out.trans ((below_drew w1 nq).mono HB1.out.size))
          generalize w1.drewN nq = w2 at *
          clear c10 c5
          have c8 : w2.cell? ⟨pb, 8, none⟩ = some (.map (some M.bm)) := H2.out.cell 8
          go_wp2_with (at_lookup; refine wp_map_look_ok rfl _ _ _ rfl klaw Try.underlying81 (.string ⟨#[]⟩) (zero_string _) plain_zero_string rfl H2.out.map _ _ rfl (keyOf_string_mk Try.underlying9 hk) ?_; rw [HLK.out.1, HLK.out.2])
          refine (wo_fail H2.out 1 name hnf).mono ?_
          rintro e w3 ⟨rfl, hb3⟩
          rw [HFB.out]
          have H3 := Lib.hid (H2.out.pure hb3)
          have HB3 := Lib.hid (HB2.out.trans (hb3.mono HB2.out.size))
          clear hb3 c8
          go_wp2_with fail
          go_ret
          exact ⟨M, F, by rw [HO.out]; rfl, by rw [HO.out]; exact H3.out, Tur.of_gr (by exact HB3.out), fun _ h => .inl h, Nat.le_succ _⟩
        | false =>
          have HFB := Lib.hid hfl
          by_cases hB : k = 1 ∧ name ≠ minus ∧ fb = false
          · rw [if_pos (.inr hB)] at ho
            have HO := Lib.hid ho
            obtain ⟨rfl, hnm2, rfl⟩ := hB
            have hnb : (name.toList == [45]) = false := by
              have : (name.toList == minus.toList) = false := by rw [str_eq]; exact decide_eq_false hnm2
              rw [minus_list] at this
              exact this
            have hnb2 : (!(name.toList == [45])) = true := by rw [hnb]; rfl
            clear ho hfl hnm2
            go_enter Try.func19, Try.ntmps19
            go_wp2_with fail
            refine (wo_none H.out).mono ?_
            rintro e w2 ⟨rfl, rfl⟩
            go_wp2_with fail
            refine (wo_find H.out _ name hno).mono ?_
            rintro e w1 ⟨rfl, hb1⟩
            rw [HFV.out]
            have H1 := Lib.hid (H.out.pure hb1)
            have HB1 := Lib.hid hb1
            clear hb1
            have c10 : w1.cell? ⟨pb, 10, none⟩ = some (.slice A N cap) := HVO.out ▸ H1.out.cell 10
            have c5 : w1.cell? ⟨pb, 5, none⟩ = some (.int .i64 lim) := HLIM.out ▸ H1.out.cell 5
            go_wp2_with fail
            go_quiet (fail)
            have H2 := Lib.hid (H1.out.drewN nq)
            have HB2 := Lib.hid (HB1.out.trans ((below_drew w1 nq).mono HB1.out.size))
            generalize w1.drewN nq = w2 at *
            clear c10 c5
            have c8 : w2.cell? ⟨pb, 8, none⟩ = some (.map (some M.bm)) := H2.out.cell 8
            go_wp2_with (at_lookup; refine wp_map_look_ok rfl _ _ _ rfl klaw Try.underlying81 (.string ⟨#[]⟩) (zero_string _) plain_zero_string rfl H2.out.map _ _ rfl (keyOf_string_mk Try.underlying9 hk) ?_; rw [HLK.out.1, HLK.out.2])
            refine (wo_fail H2.out 1 name hnf).mono ?_
            rintro e w3 ⟨rfl, hb3⟩
            rw [HFB.out]
            have H3 := Lib.hid (H2.out.pure hb3)
            have HB3 := Lib.hid (HB2.out.trans (hb3.mono HB2.out.size))
            clear hb3 c8
            go_wp2_with fail
            go_ret
            exact ⟨M, F, by rw [HO.out]; rfl, by rw [HO.out]; exact H3.out, Tur.of_gr (by exact HB3.out), fun _ h => .inl h, Nat.le_succ _⟩
          · rw [if_neg (by rintro (h | h); (rw [hfl] at h; cases h); exact hB h)] at ho
            have hL' : ¬ st.lim ≤ st.opn.length := by rw [HLIM.out, ← HNN.out]; exact hL
            have hf' : find st k name = none := HFN.out
            have hfb' : (st.files name.data.toList).isSome = fb := HFB9.out.symm
            have hok : openL st k name = (okSt st k name, 0) := HOK.out.symm.trans ho
            have hkv : (k = 1 ∧ name = minus) ∨ (k = 1 ∧ ¬ name = minus ∧ fb = true) ∨ k = 2 ∨ k = 3 ∨ k = 4 ∨ k = 5 := by
              have : k = 1 ∨ k = 2 ∨ k = 3 ∨ k = 4 ∨ k = 5 := by omega
              rcases this with h | h | h | h | h
              · by_cases hm : name = minus
                · exact .inl ⟨h, hm⟩
                · refine .inr (.inl ⟨h, hm, ?_⟩)
                  cases hb : fb
                  · exact absurd ⟨h, hm, hb⟩ hB
                  · rfl
              · simp [h]
              · simp [h]
              · simp [h]
              · simp [h]
            rw [HOK.out, hok]
            rcases hkv with ⟨rfl, hm⟩ | ⟨rfl, hm, rfl⟩ | rfl | rfl | rfl | rfl
            · exact wo_open1a H.out name hk hno hnt hnr hnf hnm hf' hL' hfl hm
            · exact wo_open1b H.out name hk hno hnt hnr hnf hnm hf' hL' hfl hm hfb'
            · exact wo_open2 H.out name hk hno hnt hnr hnf hnm hf' hL' hfl
            · exact wo_open3 H.out name hk hno hnt hnr hnf hnm hf' hL' hfl
            · exact wo_open4 H.out name hk hno hnt hnr hnf hnm hf' hL' hfl
            · exact wo_open5 H.out name hk hno hnt hnr hnf hnm hf' hL' hfl
end Go.Proofs.Ytodjjnklelfgfaa
