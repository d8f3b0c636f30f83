/- A world: the walk of Write, into an open stream. -/
import Derived.Test.YtodjjnklelfgfaaG12
import Derived.Deep.Cut
import Derived.Test.YtodjjnklelfgfaaG8
set_option linter.unusedVariables false
set_option linter.unusedSimpArgs false
namespace Go.Proofs.Ytodjjnklelfgfaa
open Go.RowKit Wd
open Go.WideMaps Go.WideElems Go.WideAt
set_option maxRecDepth 20000 in
set_option maxHeartbeats 4000000 in
theorem wo_write_none {w : World} {F : Nat → Prop} {pb : Nat} {M : Mem} {st : St} (h : WAt w F pb M st) (k : Int) (nm data : ByteArray) (hno : st.opn.length ≤ 1000000000) (hnf : st.fails.length ≤ 1000000000) (hnt : st.trace.length ≤ 1000000000)
    (i : Nat) (hf : find st k nm = some i) (hfl : failB st 3 nm = false) (hk : k = 3 ∨ k = 4 ∨ k = 5) (hd : data.size = 0) :
    Calls Try.prog 12 #[.pointer (some ⟨pb, 0, none⟩), .int .u8 k, .string nm, .string data] w fun e w' => e = .returned (.int .i64 0) ∧ WAt w' F pb M st ∧ Tur F w w' := by
  have H := Lib.hid h
  clear h
  have HFV : Hid (findV M st k nm = .pointer (some ⟨M.gs.getD i 0, 0, none⟩)) := by unfold Hid findV; rw [hf]
  have HFB := Lib.hid hfl
  generalize M.gs.getD i 0 = g at *
  clear hf hfl
  have hde : data = ⟨#[]⟩ := bytes_ext (data_nil hd)
  subst hde
  clear hd
  rcases hk with rfl | rfl | rfl
  all_goals
    go_enter Try.func12, Try.ntmps12
    go_wp2_with fail
    refine (wo_none H.out).mono ?_
    rintro e w2 ⟨rfl, rfl⟩
    go_wp2_with fail
    refine (wo_find H.out _ nm hno).mono ?_
    rintro e w1 ⟨rfl, hb1⟩
    rw [HFV.out]
    have H1 := Lib.hid (H.out.pure hb1)
    have HT1 := Lib.hid (Tur.of_gr (F := F) hb1)
    clear hb1
    go_wp2_with fail
    refine (wo_fail H1.out 3 nm hnf).mono ?_
    rintro e w3 ⟨rfl, hb3⟩
    rw [HFB.out]
    have H3 := Lib.hid (H1.out.pure hb3)
    have HT3 := Lib.hid (HT1.out.trans (Tur.of_gr (F := F) hb3) (fun _ _ e => e))
    clear hb3
    go_wp2_with fail
    go_ret
    exact ⟨rfl, H3.out, HT3.out⟩
set_option maxRecDepth 20000 in
set_option maxHeartbeats 4000000 in
theorem wo_write_pipe {w : World} {F : Nat → Prop} {pb : Nat} {M : Mem} {st : St} (h : WAt w F pb M st) (k : Int) (nm data : ByteArray) (hno : st.opn.length ≤ 1000000000) (hnf : st.fails.length ≤ 1000000000) (hnt : st.trace.length ≤ 1000000000)
    (i : Nat) (hf : find st k nm = some i) (hfl : failB st 3 nm = false) (hk : k = 5) (hd : data.size ≠ 0) :
    Calls Try.prog 12 #[.pointer (some ⟨pb, 0, none⟩), .int .u8 k, .string nm, .string data] w fun e w' => ∃ M' F', e = .returned (.int .i64 0) ∧ WAt w' F' pb M' (st.traced ⟨2, 5, nm, data, 0⟩) ∧ Tur F w w' ∧ (∀ g, F' g → F g ∨ w.heap.size ≤ g) ∧ M'.m = M.m := by
  have H := Lib.hid h
  clear h
  have HFV : Hid (findV M st k nm = .pointer (some ⟨M.gs.getD i 0, 0, none⟩)) := by unfold Hid findV; rw [hf]
  have HFB := Lib.hid hfl
  generalize M.gs.getD i 0 = g at *
  clear hf hfl
  have hde1 : (data.toList == []) = false := by
    have h := data_ne hd
    rw [ByteArray.toList_eq]
    exact beq_eq_false_iff_ne.2 h
  have hde2 : ¬ data.toList = [] := beq_eq_false_iff_ne.1 hde1
  subst hk
  go_enter Try.func12, Try.ntmps12
  go_wp2_with fail
  refine (wo_none H.out).mono ?_
  rintro e w2 ⟨rfl, rfl⟩
  go_wp2_with fail
  refine (wo_find H.out _ nm hno).mono ?_
  rintro e w1 ⟨rfl, hb1⟩
  rw [HFV.out]
  have H1 := Lib.hid (H.out.pure hb1)
  have HT1 := Lib.hid (Tur.of_gr (F := F) hb1)
  clear hb1
  go_wp2_with fail
  refine (wo_fail H1.out 3 nm hnf).mono ?_
  rintro e w3 ⟨rfl, hb3⟩
  rw [HFB.out]
  have H3 := Lib.hid (H1.out.pure hb3)
  have HT3 := Lib.hid (HT1.out.trans (Tur.of_gr (F := F) hb3) (fun _ _ e => e))
  clear hb3
  go_wp2_with fail
  refine (wo_event H3.out ⟨2, 5, nm, data, 0⟩ hnt).mono ?_
  rintro e w4 ⟨M4, F4, rfl, h4, t4, f4, m4, -⟩
  go_wp2_with fail
  go_ret
  exact ⟨M4, F4, rfl, h4, HT3.out.trans t4 (fun _ _ e => e), fun g e => (f4 g e).imp id (fun h => Nat.le_trans HT3.out.size h), m4⟩
set_option maxRecDepth 20000 in
set_option maxHeartbeats 4000000 in
theorem wo_write_file {w : World} {F : Nat → Prop} {pb : Nat} {M : Mem} {st : St} (h : WAt w F pb M st) (k : Int) (nm data : ByteArray) (hno : st.opn.length ≤ 1000000000) (hnf : st.fails.length ≤ 1000000000) (hnt : st.trace.length ≤ 1000000000)
    (i : Nat) (hf : find st k nm = some i) (hfl : failB st 3 nm = false) (hk : k = 3 ∨ k = 4) (hd : data.size ≠ 0) (hnm : nm.size ≤ maxLen) (hcat : ((st.files nm.data.toList).getD ⟨#[]⟩).size + data.size ≤ 4294967296) (hmm : M.m ≤ 1000000000) :
    Calls Try.prog 12 #[.pointer (some ⟨pb, 0, none⟩), .int .u8 k, .string nm, .string data] w fun e w' => ∃ M' F', e = .returned (.int .i64 0) ∧ WAt w' F' pb M' (({ st with files := setF st.files nm.data.toList ((st.files nm.data.toList).getD ⟨#[]⟩ ++ data) } : St).traced ⟨2, k, nm, data, 0⟩) ∧ Tur F w w' ∧ (∀ g, F' g → F g ∨ w.heap.size ≤ g) ∧ M'.m ≤ M.m + 1 := by
  have H := Lib.hid h
  clear h
  have HFV : Hid (findV M st k nm = .pointer (some ⟨M.gs.getD i 0, 0, none⟩)) := by unfold Hid findV; rw [hf]
  have HFB := Lib.hid hfl
  generalize M.gs.getD i 0 = g at *
  clear hf hfl
  have hde1 : (data.toList == []) = false := by
    have h := data_ne hd
    rw [ByteArray.toList_eq]
    exact beq_eq_false_iff_ne.2 h
  have hde2 : ¬ data.toList = [] := beq_eq_false_iff_ne.1 hde1
  have hmx : M.m < maxLen := by unfold maxLen; omega
  obtain ⟨old, hold⟩ : ∃ old, old = (st.files nm.data.toList).getD ⟨#[]⟩ := ⟨_, rfl⟩
  rw [← hold] at hcat ⊢
  have hsz : (old ++ data).size ≤ maxLen := by rw [ByteArray.size_append]; unfold maxLen; omega
  have HLK : Hid (((fun l => (st.files l).map Value.string) nm.data.toList).getD (.string ⟨#[]⟩) = .string old) := by
    unfold Hid
    show ((st.files nm.data.toList).map Value.string).getD _ = _
    rw [hold]
    cases st.files nm.data.toList <;> rfl
  have HMM := Lib.hid (show (if ((fun l => (st.files l).map Value.string) nm.data.toList).isSome then M.m else M.m + 1) ≤ M.m + 1 by split <;> omega)
  clear hold
  rcases hk with rfl | rfl
  all_goals
    go_enter Try.func12, Try.ntmps12
    go_wp2_with fail
    refine (wo_none H.out).mono ?_
    rintro e w2 ⟨rfl, rfl⟩
    go_wp2_with fail
    refine (wo_find H.out _ nm hno).mono ?_
    rintro e w1 ⟨rfl, hb1⟩
    rw [HFV.out]
    have H1 := Lib.hid (H.out.pure hb1)
    have HT1 := Lib.hid (Tur.of_gr (F := F) hb1)
    clear hb1
    go_wp2_with fail
    refine (wo_fail H1.out 3 nm hnf).mono ?_
    rintro e w3 ⟨rfl, hb3⟩
    rw [HFB.out]
    have H3 := Lib.hid (H1.out.pure hb3)
    have HT3 := Lib.hid (HT1.out.trans (Tur.of_gr (F := F) hb3) (fun _ _ e => e))
    clear hb3
    have c8 : w3.cell? ⟨pb, 8, none⟩ = some (.map (some M.bm)) := H3.out.cell 8
    go_wp2_with (first | (at_lookup; refine wp_map_look rfl _ _ _ rfl klaw Try.underlying81 (.string ⟨#[]⟩) (zero_string _) plain_zero_string rfl H3.out.map _ _ rfl (keyOf_string_mk Try.underlying9 hnm) ?_; rw [HLK.out]) | (at_mapUpdate; refine wp_map_put rfl _ _ _ _ rfl klaw Try.underlying9 Try.underlying81 rfl H3.out.map hmx _ (.string (old ++ data)) _ rfl rfl (keyOf_string_mk Try.underlying9 hnm) ⟨_, plainElem_string Try.underlying9 hsz⟩ ?_; intro w5 hmap5 hturn5; obtain ⟨h5, t5⟩ := H3.out.put nm.data.toList (old ++ data) hmap5 hturn5; have H5 := Lib.hid h5; have HT5 := Lib.hid (HT3.out.trans t5 (fun _ _ e => e)); clear h5 t5 hmap5 hturn5))
    refine (wo_event H5.out ⟨2, _, nm, data, 0⟩ hnt).mono ?_
    rintro e w6 ⟨M6, F6, rfl, h6, t6, f6, m6, -⟩
    go_wp2_with fail
    go_ret
    exact ⟨M6, F6, rfl, h6, HT5.out.trans t6 (fun _ _ e => e), fun g e => (f6 g e).imp id (fun h => Nat.le_trans HT5.out.size h), by rw [m6]; exact HMM.out⟩
end Go.Proofs.Ytodjjnklelfgfaa
namespace Go.Proofs.Ytodjjnklelfgfaa
open Go.RowKit Wd
set_option maxRecDepth 20000 in
set_option maxHeartbeats 4000000 in
theorem wo_read_kind {w : World} {F : Nat → Prop} {pb : Nat} {M : Mem} {st : St} (h : WAt w F pb M st) (k : Int) (nm : ByteArray) (n : Int) (hk : k ≠ 1 ∧ k ≠ 2) (hno : st.opn.length ≤ 1000000000) (hnf : st.fails.length ≤ 1000000000) :
    Calls Try.prog 11 #[.pointer (some ⟨pb, 0, none⟩), .int .u8 k, .string nm, .int .i64 n] w fun e w' => e = .returned (.tuple #[.string ⟨#[]⟩, .int .i64 16]) ∧ WAt w' F pb M st ∧ Tur F w w' := by
  have H := Lib.hid h
  have d1 : (k != 1) = true := by simp [hk.1]
  have d2 : (k != 2) = true := by simp [hk.2]
  have e1 : (k == 1) = false := by simp [hk.1]
  have e2 : (k == 2) = false := by simp [hk.2]
  clear h hk
  go_enter Try.func11, Try.ntmps11
  go_wp2_with fail
  refine (wo_none H.out).mono ?_
  rintro e w2 ⟨rfl, rfl⟩
  go_wp2_with fail
  refine (wo_find H.out _ nm hno).mono ?_
  rintro e w1 ⟨rfl, hb1⟩
  obtain ⟨fv, hfv⟩ : ∃ fv, fv = findV M st k nm := ⟨_, rfl⟩
  rw [← hfv]
  clear hfv
  have H1 := Lib.hid (H.out.pure hb1)
  have HT1 := Lib.hid (Tur.of_gr (F := F) hb1)
  clear hb1
  go_wp2_with fail
  go_ret2
  exact ⟨rfl, H1.out, HT1.out⟩
set_option maxRecDepth 20000 in
set_option maxHeartbeats 4000000 in
theorem wo_read_nil {w : World} {F : Nat → Prop} {pb : Nat} {M : Mem} {st : St} (h : WAt w F pb M st) (k : Int) (nm : ByteArray) (n : Int) (hk : k = 1 ∨ k = 2) (hf : find st k nm = none) (hno : st.opn.length ≤ 1000000000) (hnf : st.fails.length ≤ 1000000000) :
    Calls Try.prog 11 #[.pointer (some ⟨pb, 0, none⟩), .int .u8 k, .string nm, .int .i64 n] w fun e w' => e = .returned (.tuple #[.string ⟨#[]⟩, .int .i64 16]) ∧ WAt w' F pb M st ∧ Tur F w w' := by
  have H := Lib.hid h
  have HFV : Hid (findV M st k nm = .pointer none) := by unfold Hid findV; rw [hf]
  clear h hf
  rcases hk with rfl | rfl
  all_goals
    go_enter Try.func11, Try.ntmps11
    go_wp2_with fail
    refine (wo_none H.out).mono ?_
    rintro e w2 ⟨rfl, rfl⟩
    go_wp2_with fail
    refine (wo_find H.out _ nm hno).mono ?_
    rintro e w1 ⟨rfl, hb1⟩
    rw [HFV.out]
    have H1 := Lib.hid (H.out.pure hb1)
    have HT1 := Lib.hid (Tur.of_gr (F := F) hb1)
    clear hb1
    go_wp2_with fail
    go_ret2
    exact ⟨rfl, H1.out, HT1.out⟩
set_option maxRecDepth 20000 in
set_option maxHeartbeats 4000000 in
theorem wo_read_arg {w : World} {F : Nat → Prop} {pb : Nat} {M : Mem} {st : St} (h : WAt w F pb M st) (k : Int) (nm : ByteArray) (n : Int) (i : Nat) (hk : k = 1 ∨ k = 2) (hf : find st k nm = some i) (hn : n < 1) (hno : st.opn.length ≤ 1000000000) (hnf : st.fails.length ≤ 1000000000) :
    Calls Try.prog 11 #[.pointer (some ⟨pb, 0, none⟩), .int .u8 k, .string nm, .int .i64 n] w fun e w' => e = .returned (.tuple #[.string ⟨#[]⟩, .int .i64 2]) ∧ WAt w' F pb M st ∧ Tur F w w' := by
  have H := Lib.hid h
  have HFV : Hid (findV M st k nm = .pointer (some ⟨M.gs.getD i 0, 0, none⟩)) := by unfold Hid findV; rw [hf]
  generalize M.gs.getD i 0 = g at *
  clear h hf
  rcases hk with rfl | rfl
  all_goals
    go_enter Try.func11, Try.ntmps11
    go_wp2_with fail
    refine (wo_none H.out).mono ?_
    rintro e w2 ⟨rfl, rfl⟩
    go_wp2_with fail
    refine (wo_find H.out _ nm hno).mono ?_
    rintro e w1 ⟨rfl, hb1⟩
    rw [HFV.out]
    have H1 := Lib.hid (H.out.pure hb1)
    have HT1 := Lib.hid (Tur.of_gr (F := F) hb1)
    clear hb1
    go_wp2_with fail
    go_ret2
    exact ⟨rfl, H1.out, HT1.out⟩
set_option maxRecDepth 20000 in
set_option maxHeartbeats 4000000 in
theorem wo_read_fail {w : World} {F : Nat → Prop} {pb : Nat} {M : Mem} {st : St} (h : WAt w F pb M st) (k : Int) (nm : ByteArray) (n : Int) (i : Nat) (hk : k = 1 ∨ k = 2) (hf : find st k nm = some i) (hn : ¬ n < 1) (hfl : failB st 2 nm = true) (hno : st.opn.length ≤ 1000000000) (hnf : st.fails.length ≤ 1000000000) :
    Calls Try.prog 11 #[.pointer (some ⟨pb, 0, none⟩), .int .u8 k, .string nm, .int .i64 n] w fun e w' => e = .returned (.tuple #[.string ⟨#[]⟩, .int .i64 13]) ∧ WAt w' F pb M st ∧ Tur F w w' := by
  have H := Lib.hid h
  have HFV : Hid (findV M st k nm = .pointer (some ⟨M.gs.getD i 0, 0, none⟩)) := by unfold Hid findV; rw [hf]
  generalize M.gs.getD i 0 = g at *
  have HFB := Lib.hid hfl
  clear h hf hfl
  rcases hk with rfl | rfl
  all_goals
    go_enter Try.func11, Try.ntmps11
    go_wp2_with fail
    refine (wo_none H.out).mono ?_
    rintro e w2 ⟨rfl, rfl⟩
    go_wp2_with fail
    refine (wo_find H.out _ nm hno).mono ?_
    rintro e w1 ⟨rfl, hb1⟩
    rw [HFV.out]
    have H1 := Lib.hid (H.out.pure hb1)
    have HT1 := Lib.hid (Tur.of_gr (F := F) hb1)
    clear hb1
    go_wp2_with fail
    refine (wo_fail H1.out 2 nm hnf).mono ?_
    rintro e w3 ⟨rfl, hb3⟩
    rw [HFB.out]
    have H3 := Lib.hid (H1.out.pure hb3)
    have HT3 := Lib.hid (HT1.out.trans (Tur.of_gr (F := F) hb3) (fun _ _ e => e))
    clear hb3
    go_wp2_with fail
    go_ret2
    exact ⟨rfl, H3.out, HT3.out⟩
set_option maxRecDepth 20000 in
set_option maxHeartbeats 4000000 in
theorem wo_write_kind {w : World} {F : Nat → Prop} {pb : Nat} {M : Mem} {st : St} (h : WAt w F pb M st) (k : Int) (nm data : ByteArray) (hk : k ≠ 6 ∧ (k < 3 ∨ 5 < k)) :
    Calls Try.prog 12 #[.pointer (some ⟨pb, 0, none⟩), .int .u8 k, .string nm, .string data] w fun e w' => e = .returned (.int .i64 16) ∧ WAt w' F pb M st ∧ Tur F w w' := by
  have H := Lib.hid h
  have d6 : (k != 6) = true := by simp [hk.1]
  have e6 : (k == 6) = false := by simp [hk.1]
  have hk2 : k < 3 ∨ (¬ k < 3 ∧ 5 < k) := by omega
  clear h hk
  rcases hk2 with hk | ⟨hk, hk5⟩
  all_goals
    go_enter Try.func12, Try.ntmps12
    go_wp2_with fail
    refine (wo_none H.out).mono ?_
    rintro e w2 ⟨rfl, rfl⟩
    go_wp2_with fail
    go_ret
    exact ⟨rfl, H.out, Tur.refl _ _⟩
set_option maxRecDepth 20000 in
set_option maxHeartbeats 4000000 in
theorem wo_write_nil {w : World} {F : Nat → Prop} {pb : Nat} {M : Mem} {st : St} (h : WAt w F pb M st) (k : Int) (nm data : ByteArray) (hk : k = 3 ∨ k = 4 ∨ k = 5) (hf : find st k nm = none) (hno : st.opn.length ≤ 1000000000) (hnf : st.fails.length ≤ 1000000000) :
    Calls Try.prog 12 #[.pointer (some ⟨pb, 0, none⟩), .int .u8 k, .string nm, .string data] w fun e w' => e = .returned (.int .i64 16) ∧ WAt w' F pb M st ∧ Tur F w w' := by
  have H := Lib.hid h
  have HFV : Hid (findV M st k nm = .pointer none) := by unfold Hid findV; rw [hf]
  clear h hf
  rcases hk with rfl | rfl | rfl
  all_goals
    go_enter Try.func12, Try.ntmps12
    go_wp2_with fail
    refine (wo_none H.out).mono ?_
    rintro e w2 ⟨rfl, rfl⟩
    go_wp2_with fail
    refine (wo_find H.out _ nm hno).mono ?_
    rintro e w1 ⟨rfl, hb1⟩
    rw [HFV.out]
    have H1 := Lib.hid (H.out.pure hb1)
    have HT1 := Lib.hid (Tur.of_gr (F := F) hb1)
    clear hb1
    go_wp2_with fail
    go_ret
    exact ⟨rfl, H1.out, HT1.out⟩
set_option maxRecDepth 20000 in
set_option maxHeartbeats 4000000 in
theorem wo_write_fail {w : World} {F : Nat → Prop} {pb : Nat} {M : Mem} {st : St} (h : WAt w F pb M st) (k : Int) (nm data : ByteArray) (i : Nat) (hk : k = 3 ∨ k = 4 ∨ k = 5) (hf : find st k nm = some i) (hfl : failB st 3 nm = true) (hno : st.opn.length ≤ 1000000000) (hnf : st.fails.length ≤ 1000000000) :
    Calls Try.prog 12 #[.pointer (some ⟨pb, 0, none⟩), .int .u8 k, .string nm, .string data] w fun e w' => e = .returned (.int .i64 14) ∧ WAt w' F pb M st ∧ Tur F w w' := by
  have H := Lib.hid h
  have HFV : Hid (findV M st k nm = .pointer (some ⟨M.gs.getD i 0, 0, none⟩)) := by unfold Hid findV; rw [hf]
  generalize M.gs.getD i 0 = g at *
  have HFB := Lib.hid hfl
  clear h hf hfl
  rcases hk with rfl | rfl | rfl
  all_goals
    go_enter Try.func12, Try.ntmps12
    go_wp2_with fail
    refine (wo_none H.out).mono ?_
    rintro e w2 ⟨rfl, rfl⟩
    go_wp2_with fail
    refine (wo_find H.out _ nm hno).mono ?_
    rintro e w1 ⟨rfl, hb1⟩
    rw [HFV.out]
    have H1 := Lib.hid (H.out.pure hb1)
    have HT1 := Lib.hid (Tur.of_gr (F := F) hb1)
    clear hb1
    go_wp2_with fail
    refine (wo_fail H1.out 3 nm hnf).mono ?_
    rintro e w3 ⟨rfl, hb3⟩
    rw [HFB.out]
    have H3 := Lib.hid (H1.out.pure hb3)
    have HT3 := Lib.hid (HT1.out.trans (Tur.of_gr (F := F) hb3) (fun _ _ e => e))
    clear hb3
    go_wp2_with fail
    go_ret
    exact ⟨rfl, H3.out, HT3.out⟩
set_option maxRecDepth 20000 in
set_option maxHeartbeats 4000000 in
theorem wo_write_out_fail {w : World} {F : Nat → Prop} {pb : Nat} {M : Mem} {st : St} (h : WAt w F pb M st) (nm data : ByteArray) (hfl : failB st 3 ⟨#[]⟩ = true) (hnf : st.fails.length ≤ 1000000000) :
    Calls Try.prog 12 #[.pointer (some ⟨pb, 0, none⟩), .int .u8 6, .string nm, .string data] w fun e w' => e = .returned (.int .i64 14) ∧ WAt w' F pb M st ∧ Tur F w w' := by
  have H := Lib.hid h
  have HFB := Lib.hid hfl
  clear h hfl
  go_enter Try.func12, Try.ntmps12
  go_wp2_with fail
  refine (wo_none H.out).mono ?_
  rintro e w2 ⟨rfl, rfl⟩
  go_wp2_with fail
  refine (wo_fail H.out 3 ⟨#[]⟩ hnf).mono ?_
  rintro e w3 ⟨rfl, hb3⟩
  rw [HFB.out]
  have H3 := Lib.hid (H.out.pure hb3)
  have HT3 := Lib.hid (Tur.of_gr (F := F) hb3)
  clear hb3
  go_wp2_with fail
  go_ret
  exact ⟨rfl, H3.out, HT3.out⟩
set_option maxRecDepth 20000 in
set_option maxHeartbeats 4000000 in
theorem wo_write_out_none {w : World} {F : Nat → Prop} {pb : Nat} {M : Mem} {st : St} (h : WAt w F pb M st) (nm : ByteArray) (hfl : failB st 3 ⟨#[]⟩ = false) (hnf : st.fails.length ≤ 1000000000) :
    Calls Try.prog 12 #[.pointer (some ⟨pb, 0, none⟩), .int .u8 6, .string nm, .string ⟨#[]⟩] w fun e w' => e = .returned (.int .i64 0) ∧ WAt w' F pb M st ∧ Tur F w w' := by
  have H := Lib.hid h
  have HFB := Lib.hid hfl
  clear h hfl
  go_enter Try.func12, Try.ntmps12
  go_wp2_with fail
  refine (wo_none H.out).mono ?_
  rintro e w2 ⟨rfl, rfl⟩
  go_wp2_with fail
  refine (wo_fail H.out 3 ⟨#[]⟩ hnf).mono ?_
  rintro e w3 ⟨rfl, hb3⟩
  rw [HFB.out]
  have H3 := Lib.hid (H.out.pure hb3)
  have HT3 := Lib.hid (Tur.of_gr (F := F) hb3)
  clear hb3
  go_wp2_with fail
  go_ret
  exact ⟨rfl, H3.out, HT3.out⟩
set_option maxRecDepth 20000 in
set_option maxHeartbeats 4000000 in
theorem wo_write_out {w : World} {F : Nat → Prop} {pb : Nat} {M : Mem} {st : St} (h : WAt w F pb M st) (nm data : ByteArray) (hd : data.size ≠ 0) (hfl : failB st 3 ⟨#[]⟩ = false) (hnf : st.fails.length ≤ 1000000000) (hnt : st.trace.length ≤ 1000000000) :
    Calls Try.prog 12 #[.pointer (some ⟨pb, 0, none⟩), .int .u8 6, .string nm, .string data] w fun e w' => ∃ M' F', e = .returned (.int .i64 0) ∧ WAt w' F' pb M' (st.traced ⟨2, 6, ⟨#[]⟩, data, 0⟩) ∧ Tur F w w' ∧ (∀ g, F' g → F g ∨ w.heap.size ≤ g) ∧ M'.m = M.m := by
  have H := Lib.hid h
  have HFB := Lib.hid hfl
  have hde1 : (data.toList == []) = false := by
    have h := data_ne hd
    rw [ByteArray.toList_eq]
    exact beq_eq_false_iff_ne.2 h
  have hde2 : ¬ data.toList = [] := beq_eq_false_iff_ne.1 hde1
  clear h hfl
  go_enter Try.func12, Try.ntmps12
  go_wp2_with fail
  refine (wo_none H.out).mono ?_
  rintro e w2 ⟨rfl, rfl⟩
  go_wp2_with fail
  refine (wo_fail H.out 3 ⟨#[]⟩ hnf).mono ?_
  rintro e w3 ⟨rfl, hb3⟩
  rw [HFB.out]
  have H3 := Lib.hid (H.out.pure hb3)
  have HT3 := Lib.hid (Tur.of_gr (F := F) hb3)
  clear hb3
  go_wp2_with fail
  refine (wo_event H3.out ⟨2, 6, ⟨#[]⟩, data, 0⟩ hnt).mono ?_
  rintro e w4 ⟨M4, F4, rfl, h4, t4, f4, m4, -⟩
  go_wp2_with fail
  go_ret
  exact ⟨M4, F4, rfl, h4, HT3.out.trans t4 (fun _ _ e => e), fun g e => (f4 g e).imp id (fun h => Nat.le_trans HT3.out.size h), m4⟩
def Wd.sysN (st : St) (cmd : ByteArray) : Int := if replyB st cmd then (replyR st cmd).status else 127
set_option maxRecDepth 20000 in
set_option maxHeartbeats 4000000 in
theorem wo_system_fail {w : World} {F : Nat → Prop} {pb : Nat} {M : Mem} {st : St} (h : WAt w F pb M st) (cmd : ByteArray) (hfl : failB st 4 cmd = true) (hnf : st.fails.length ≤ 1000000000) :
    Calls Try.prog 24 #[.pointer (some ⟨pb, 0, none⟩), .string cmd] w fun e w' => e = .returned (.tuple #[.int .i64 0, .int .i64 12]) ∧ WAt w' F pb M st ∧ Tur F w w' := by
  have H := Lib.hid h
  have HFB := Lib.hid hfl
  clear h hfl
  go_enter Try.func24, Try.ntmps24
  go_wp2_with fail
  refine (wo_none H.out).mono ?_
  rintro e w2 ⟨rfl, rfl⟩
  go_wp2_with fail
  refine (wo_fail H.out 4 cmd hnf).mono ?_
  rintro e w3 ⟨rfl, hb3⟩
  rw [HFB.out]
  have H3 := Lib.hid (H.out.pure hb3)
  have HT3 := Lib.hid (Tur.of_gr (F := F) hb3)
  clear hb3
  go_wp2_with fail
  go_ret2
  exact ⟨rfl, H3.out, HT3.out⟩
set_option maxRecDepth 20000 in
set_option maxHeartbeats 4000000 in
theorem wo_system {w : World} {F : Nat → Prop} {pb : Nat} {M : Mem} {st : St} (h : WAt w F pb M st) (cmd : ByteArray) (hfl : failB st 4 cmd = false) (hnf : st.fails.length ≤ 1000000000) (hnr : st.replies.length ≤ 1000000000) (hnt : st.trace.length ≤ 1000000000) :
    Calls Try.prog 24 #[.pointer (some ⟨pb, 0, none⟩), .string cmd] w fun e w' => ∃ M' F', e = .returned (.tuple #[.int .i64 (sysN st cmd), .int .i64 0]) ∧ WAt w' F' pb M' (st.traced ⟨4, 0, cmd, ⟨#[]⟩, sysN st cmd⟩) ∧ Tur F w w' ∧ (∀ g, F' g → F g ∨ w.heap.size ≤ g) ∧ M'.m = M.m := by
  have H := Lib.hid h
  have HFB := Lib.hid hfl
  obtain ⟨sn, hsn⟩ : ∃ sn, sn = sysN st cmd := ⟨_, rfl⟩
  rw [← hsn]
  have HSN : Hid (sn = if replyB st cmd then (replyR st cmd).status else 127) := hsn
  clear h hfl hsn
  go_enter Try.func24, Try.ntmps24
  go_wp2_with fail
  refine (wo_none H.out).mono ?_
  rintro e w2 ⟨rfl, rfl⟩
  go_wp2_with fail
  refine (wo_fail H.out 4 cmd hnf).mono ?_
  rintro e w3 ⟨rfl, hb3⟩
  rw [HFB.out]
  have H3 := Lib.hid (H.out.pure hb3)
  have HT3 := Lib.hid (Tur.of_gr (F := F) hb3)
  clear hb3
  go_wp2_with fail
  refine (wo_reply H3.out cmd hnr).mono ?_
  rintro e w4 ⟨rfl, hb4⟩
  obtain ⟨⟨rc, ro, rs⟩, hrr⟩ : ∃ r, r = replyR st cmd := ⟨_, rfl⟩
  obtain ⟨rb, hrb⟩ : ∃ r, r = replyB st cmd := ⟨_, rfl⟩
  rw [← hrr, ← hrb] at HSN ⊢
  rw [show Rp.val ⟨rc, ro, rs⟩ = .agg #[.string rc, .string ro, .int .i64 rs] from rfl]
  have hal := (Below.refl w4.heap.size w4).alloc (Nat.le_refl _) (.cells #[.string rc, .string ro, .int .i64 rs] 63)
  have H5 := Lib.hid ((H3.out.pure hb4).pure hal)
  have HT5 := Lib.hid (HT3.out.trans (Tur.of_gr (F := F) (hb4.trans (hal.mono hb4.size))) (fun _ _ e => e))
  clear hb4 hal hrr hrb
  cases rb
  · have HS : Hid (sn = 127) := HSN.out
    have hs := HS.out
    subst hs
    go_wp2_with fail
    refine (wo_event H5.out ⟨4, 0, cmd, ⟨#[]⟩, 127⟩ hnt).mono ?_
    rintro e w6 ⟨M4, F4, rfl, h4, t4, f4, m4, -⟩
    go_wp2_with fail
    go_ret2
    exact ⟨M4, F4, rfl, h4, HT5.out.trans t4 (fun _ _ e => e), fun g e => (f4 g e).imp id (fun h => Nat.le_trans HT5.out.size h), m4⟩
  · have HS : Hid (sn = rs) := HSN.out
    have hs := HS.out
    subst hs
    go_wp2_with fail
    refine (wo_event H5.out ⟨4, 0, cmd, ⟨#[]⟩, sn⟩ hnt).mono ?_
    rintro e w6 ⟨M4, F4, rfl, h4, t4, f4, m4, -⟩
    go_wp2_with fail
    go_ret2
    exact ⟨M4, F4, rfl, h4, HT5.out.trans t4 (fun _ _ e => e), fun g e => (f4 g e).imp id (fun h => Nat.le_trans HT5.out.size h), m4⟩

end Go.Proofs.Ytodjjnklelfgfaa
namespace Go.Proofs.Ytodjjnklelfgfaa
open Go.RowKit Wd
def Wd.chanceW (n : Int) : Int := IntKind.u64.wrap (IntKind.u64.wrap (n * 6364136223846793005) + 1442695040888963407)
set_option maxRecDepth 20000 in
set_option maxHeartbeats 1000000 in
theorem wo_chance {w : World} {F : Nat → Prop} {pb : Nat} {M : Mem} {st : St} (h : WAt w F pb M st) :
    Calls Try.prog 22 #[.pointer (some ⟨pb, 0, none⟩)] w fun e w' => e = .returned (.int .u64 st.chance) ∧ WAt w' F pb M { st with chance := chanceW st.chance } ∧ Tur F w w' := by
  have c11 : w.cell? ⟨pb, 11, none⟩ = some (.int .u64 st.chance) := h.cell 11
  have f11 := h.free 11
  have H := Lib.hid h
  clear h
  go_enter Try.func22, Try.ntmps22
  go_wp2_with fail
  refine (wo_none H.out).mono ?_
  rintro e w2 ⟨rfl, rfl⟩
  go_upto_region 4 with (fail)
  obtain ⟨cn, hcn⟩ : ∃ cn, cn = chanceW st.chance := ⟨_, rfl⟩
  have HS := Lib.hid (H.out.setHead (st' := { st with chance := cn }) 11 (.int .u64 cn) rfl rfl rfl rfl rfl rfl)
  have HCN := Lib.hid hcn
  clear hcn
  go_upto_region 5 with (fail)
  rw [show IntKind.u64.wrap (IntKind.u64.wrap (st.chance * 6364136223846793005) + 1442695040888963407) = cn from HCN.out.symm]
  clear c11 f11
  generalize w.setCell ⟨pb, 11, none⟩ (.int .u64 cn) = w9 at *
  go_wp2_with fail
  go_ret
  exact ⟨rfl, by rw [← HCN.out]; exact HS.out.1, HS.out.2⟩
end Go.Proofs.Ytodjjnklelfgfaa
namespace Go.Proofs.Ytodjjnklelfgfaa
open Go.RowKit Wd
section
variable {K : Nat → Prop} {w wi : World} {B R : Nat} {f : Fm} {st : RSt}
theorem RW.setNum (h : RW K w wi B R f st) (t : Int) : RW K w (wi.setCell ⟨B, 10, none⟩ (.int .u64 t)) B R f { st with num := t } := by
  have hRB : R ≠ B := by have := h.hR; omega
  exact ⟨h.hB, h.hR, h.below.trans ((Tur.of_set ⟨B, 10, none⟩ _).below _ h.below.size (fun k hk e => by have e : k = B := e; have := h.hB; omega)), by have := h.big; simpa [World.setCell] using this, h.blk.set 10 _, h.res.keep (Tur.of_set ⟨B, 10, none⟩ _) hRB, RF.kset (f := f) (st := { st with num := t }) (wi := wi) ⟨h.rat.r2, h.rat.r3, h.rat.oF, h.rat.oO, h.rat.oE⟩ (by simp [World.setCell]) (fun b h1 _ => Below.heap_setCell _ _ _ _ h1)⟩
def ChPost (K : Nat → Prop) (w : World) (st' : RSt) (n : Int) (e : Ending) (w' : World) : Prop := ∃ f', e = .returned (.tuple #[.agg (fcells f' st'), .int .u64 n]) ∧ RF (Nw K w) w' f' st' ∧ Below w.heap.size w w'
set_option maxRecDepth 100000 in
set_option maxHeartbeats 2000000 in
theorem fw_chance (h : RF K w f st) :
    Calls Try.prog 50 #[.agg (fcells f st)] w (ChPost K w { st with num := chanceW st.num } st.num) := by
  obtain ⟨cn, hcn⟩ : ∃ cn, cn = chanceW st.num := ⟨_, rfl⟩
  rw [← hcn]
  have HCN := Lib.hid hcn
  clear hcn
  have HX0 := Lib.hid (RW.start h)
  have HRF := Lib.hid h
  clear h
  go_enter Try.func50, Try.ntmps50
  go_upto_region 1 with (fail)
  obtain ⟨B, hB⟩ : ∃ B, B = w.heap.size := ⟨_, rfl⟩
  rw [← hB] at HX0 ⊢
  obtain ⟨R, hR⟩ : ∃ R, R = B + 1 := ⟨_, rfl⟩
  rw [← hR] at HX0 ⊢
  clear hB hR
  generalize (w.alloc (.cells (fcells f st) 73)).alloc (.cells #[.slice none 0 0, .string ⟨#[]⟩, .slice none 0 0, .slice none 0 0, .int .i64 0, .int .i64 0, .int .u64 0, .slice none 0 0, .int .i64 0, .slice none 0 0, .int .u64 0, .slice none 0 0] 73) = w1 at *
  obtain ⟨⟨b0, b1, b2, b3, b4, b5, b6, b7, b8, b9, b10, b11⟩, p0, p1, p2, p3, p4, p5, p6, p7, p8, p9, p10, p11⟩ := HX0.out.blk.twelve
  obtain ⟨⟨r0, r1, r2, r3, r4, r5, r6, r7, r8, r9, r10, r11⟩, q0, q1, q2, q3, q4, q5, q6, q7, q8, q9, q10, q11⟩ := HX0.out.res.twelve
  have HX6 := Lib.hid (HX0.out.setNum cn)
  go_upto_region 3 with (fail)
  rw [show IntKind.u64.wrap (IntKind.u64.wrap (st.num * 6364136223846793005) + 1442695040888963407) = cn from HCN.out.symm]
  clear b0 b1 b2 b3 b4 b5 b6 b7 b8 b9 b10 b11 r0 r1 r2 r3 r4 r5 r6 r7 r8 r9 r10 r11 q0 q1 q2 q3 q4 q5 q6 q7 q8 q9 q10 q11 p0 p1 p2 p3 p4 p5 p6 p7 p8 p9 p10 p11
  obtain ⟨st6, hst6⟩ : ∃ x, x = { st with num := cn } := ⟨_, rfl⟩
  rw [← hst6] at HX6
  have HS6 := Lib.hid hst6
  clear hst6
  generalize w1.setCell ⟨B, 10, none⟩ (.int .u64 cn) = w6 at *
  obtain ⟨⟨b0, b1, b2, b3, b4, b5, b6, b7, b8, b9, b10, b11⟩, p0, p1, p2, p3, p4, p5, p6, p7, p8, p9, p10, p11⟩ := HX6.out.blk.twelve
  obtain ⟨⟨r0, r1, r2, r3, r4, r5, r6, r7, r8, r9, r10, r11⟩, q0, q1, q2, q3, q4, q5, q6, q7, q8, q9, q10, q11⟩ := HX6.out.res.twelve
  go_wp2_with fail
  clear b0 b1 b2 b3 b4 b5 b6 b7 b8 b9 b10 b11 r0 r1 r2 r3 r4 r5 r6 r7 r8 r9 r10 r11 q0 q1 q2 q3 q4 q5 q6 q7 q8 q9 q10 q11 p0 p1 p2 p3 p4 p5 p6 p7 p8 p9 p10 p11
  have HD := Lib.hid (HX6.out.done (wj := w6) (f' := f) (st' := st6) (Below.refl _ _) HX6.out.same)
  generalize ((((((((((((w6.setCell ⟨R, 0, none⟩ (.slice f.A0 f.n0 f.c0)).setCell ⟨R, 1, none⟩ (.string st6.stdin)).setCell ⟨R, 2, none⟩ (.slice f.A2 st6.replies.length f.c2)).setCell ⟨R, 3, none⟩ (.slice f.A3 st6.fails.length f.c3)).setCell ⟨R, 4, none⟩ (.int .i64 st6.lim)).setCell ⟨R, 5, none⟩ (.int .i64 st6.clock)).setCell ⟨R, 6, none⟩ (.int .u64 st6.ch)).setCell ⟨R, 7, none⟩ (.slice f.AF st6.files.length f.cF)).setCell ⟨R, 8, none⟩ (.int .i64 st6.taken)).setCell ⟨R, 9, none⟩ (.slice f.AO st6.opn.length f.cO)).setCell ⟨R, 10, none⟩ (.int .u64 st6.num)).setCell ⟨R, 11, none⟩ (.slice f.AE st6.events.length f.cE)) = w99 at *
  obtain ⟨⟨x0, x1, x2, x3, x4, x5, x6, x7, x8, x9, x10, x11⟩, -⟩ := HD.out.1.twelve
  refine bodyPost_ret (v := .tuple #[.agg #[.slice f.A0 f.n0 f.c0, .string st6.stdin, .slice f.A2 st6.replies.length f.c2, .slice f.A3 st6.fails.length f.c3, .int .i64 st6.lim, .int .i64 st6.clock, .int .u64 st6.ch, .slice f.AF st6.files.length f.cF, .int .i64 st6.taken, .slice f.AO st6.opn.length f.cO, .int .u64 st6.num, .slice f.AE st6.events.length f.cE], .int .u64 st.num]) (by simp [results, Try.results50, go_sem, x0, x1, x2, x3, x4, x5, x6, x7, x8, x9, x10, x11]) rfl (by rw [← HS6.out]; exact ⟨f, rfl, HD.out.2.1, HD.out.2.2⟩)
end
end Go.Proofs.Ytodjjnklelfgfaa
