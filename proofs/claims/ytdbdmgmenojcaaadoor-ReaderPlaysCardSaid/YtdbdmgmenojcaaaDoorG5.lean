/- A world: the walk of Open. -/
import Derived.Test.YtdbdmgmenojcaaaDoorG2
set_option linter.unusedVariables false
set_option linter.unusedSimpArgs false
namespace Go.Proofs.YtdbdmgmenojcaaaDoor
open Go.RowKit Wd
open Go.WideMaps Go.WideElems Go.WideAt
def Wd.minus : ByteArray := ⟨#[45]⟩
def Wd.openFiles (st : St) (k : Int) (name : ByteArray) : List UInt8 → Option ByteArray :=
  if k = 3 then setF st.files name.data.toList ⟨#[]⟩ else if k = 4 then setF st.files name.data.toList ((st.files name.data.toList).getD ⟨#[]⟩) else st.files
def Wd.openLeft (st : St) (k : Int) (name : ByteArray) : ByteArray :=
  if k = 1 then (st.files name.data.toList).getD ⟨#[]⟩ else if k = 2 then (replyR st name).out else ⟨#[]⟩
def Wd.openL (st : St) (k : Int) (name : ByteArray) : St × Int :=
  if k < 1 ∨ 5 < k then (st, 2)
  else if (find st k name).isSome then (st, 0)
  else if st.lim ≤ st.opn.length then (st, 15)
  else if failB st 1 name = true ∨ (k = 1 ∧ name ≠ minus ∧ (st.files name.data.toList).isSome = false) then (st, 12)
  else (({ st with files := openFiles st k name, opn := st.opn ++ [⟨k, name, openLeft st k name⟩] } : St).traced ⟨1, k, name, ⟨#[]⟩, 0⟩, 0)
theorem minus_list : minus.toList = [45] := (ByteArray.toList_eq _).trans (by decide)
theorem info_ptr : (Tryd.prog.info? 99).map (fun i => (i.zero, i.size, i.bytes)) = some (some (.pointer none), 1, 8) := by kernel_rfl
theorem one_ptr {g : Nat} : ∀ u ∈ [Value.pointer (some ⟨g, 0, none⟩)], u.oneCell' = true := by intro u hu; simp at hu; subst hu; rfl
theorem Tur.of_belowF {w w' : World} {F : Nat → Prop} (hb : Below w.heap.size w w') : Tur F w w' := Tur.of_gr hb
def Wd.okSt (st : St) (k : Int) (name : ByteArray) : St := ({ st with files := openFiles st k name, opn := st.opn ++ [⟨k, name, openLeft st k name⟩] } : St).traced ⟨1, k, name, ⟨#[]⟩, 0⟩
def OpenOk (w : World) (F : Nat → Prop) (pb : Nat) (M : Mem) (st' : St) (e : Ending) (w' : World) : Prop := ∃ M' F', e = .returned (.int .i64 0) ∧ WAt w' F' pb M' st' ∧ Tur F w w' ∧ (∀ g, F' g → F g ∨ w.heap.size ≤ g) ∧ M'.m ≤ M.m + 1
set_option maxRecDepth 20000 in
set_option maxHeartbeats 4000000 in
theorem wo_open1a {w : World} {F : Nat → Prop} {pb : Nat} {M : Mem} {st : St} (h : WAt w F pb M st) (name : ByteArray) (hk : name.size ≤ maxLen) (hno : st.opn.length ≤ 1000000000) (hnt : st.trace.length ≤ 1000000000) (hnr : st.replies.length ≤ 1000000000) (hnf : st.fails.length ≤ 1000000000) (hnm : M.m ≤ 1000000000)
    (hf : find st 1 name = none) (hL : ¬ st.lim ≤ st.opn.length) (hfl : failB st 1 name = false) (hm : name = minus) :
    Calls Tryd.prog 35 #[.pointer (some ⟨pb, 0, none⟩), .int .u8 1, .string name] w (OpenOk w F pb M (okSt st 1 name)) := by
  have H := Lib.hid h
  have hk1 : ¬ (1 : Int) < 1 := by omega
  have hk5 : ¬ (5 : Int) < (1 : Int) := by omega
  clear h
  have HFV : Hid (findV M st 1 name = .pointer none) := by unfold Hid findV; rw [hf]
  obtain ⟨A, cap, hvo, hcap1, hcap2⟩ := own_form H.out.rowO
  have HVO := Lib.hid hvo
  obtain ⟨N, hN⟩ : ∃ N, N = st.opn.length := ⟨_, rfl⟩
  have HNN := Lib.hid hN
  obtain ⟨lim, hlim⟩ : ∃ lim, lim = st.lim := ⟨_, rfl⟩
  have HLIM := Lib.hid hlim.symm
  rw [← hN] at hcap1 HVO
  rw [← hlim, ← hN] at hL
  have hLb : decide (lim ≤ (N : Int)) = false := decide_eq_false hL
  have HLK : Hid ((((fun l => (st.files l).map Value.string) name.data.toList).getD (.string ⟨#[]⟩) = .string ((st.files name.data.toList).getD ⟨#[]⟩)) ∧ ((fun l => (st.files l).map Value.string) name.data.toList).isSome = (st.files name.data.toList).isSome) := by
    unfold Hid
    show ((st.files name.data.toList).map Value.string).getD _ = _ ∧ ((st.files name.data.toList).map Value.string).isSome = _
    cases st.files name.data.toList <;> exact ⟨rfl, rfl⟩
  obtain ⟨fd, hfd⟩ : ∃ fd, fd = (st.files name.data.toList).getD ⟨#[]⟩ := ⟨_, rfl⟩
  obtain ⟨fb, hfb0⟩ : ∃ fb, fb = (st.files name.data.toList).isSome := ⟨_, rfl⟩
  rw [← hfd, ← hfb0] at HLK
  have HFD := Lib.hid hfd
  have hfdz : ∃ d, plainElem (H := Unit) Tryd.prog 9 (.string fd) = some (d, []) := by
    rw [hfd]
    cases hx : st.files name.data.toList with
    | none => exact plain_zero_string
    | some d => exact H.out.map.some_has (l := name.data.toList) (v := .string d) (by show (st.files name.data.toList).map Value.string = _; rw [hx]; rfl)
  have HFDZ := Lib.hid hfdz
  have HFB := Lib.hid hfl
  have hvo2 : Hid (M.vo = .slice A N cap) := HVO.out
  have HNN1 : Hid (N + 1 = st.opn.length + 1) := by unfold Hid; rw [HNN.out]
  have HFB0 := Lib.hid hfb0
  clear hf hvo hN hlim hfd hfdz hfl hL hfb0
  have hnb : (name.toList == [45]) = true := by rw [hm, minus_list]; simp
  clear hm
  go_enter Tryd.func35, Tryd.ntmps35
  go_wp2_with fail
  refine (wo_none H.out).mono ?_
  rintro e w2 ⟨rfl, rfl⟩
  go_wp2_with fail
  refine (wo_find H.out _ name hno).mono ?_
  rintro e w1 ⟨rfl, hb1⟩
  rw [HFV.out]
  have H1 := Lib.hid (H.out.pure hb1)
  have HB1 := Lib.hid hb1
  clear hb1
  have c10 : w1.cell? ⟨pb, 10, none⟩ = some (.slice A N cap) := HVO.out ▸ H1.out.cell 10
  have c5 : w1.cell? ⟨pb, 5, none⟩ = some (.int .i64 lim) := HLIM.out ▸ H1.out.cell 5
  go_wp2_with fail
  go_quiet (fail)
  have H2 := Lib.hid (H1.out.drewN nq)
  have HB2 := Lib.hid (HB1.out.trans ((below_drew w1 nq).mono HB1.out.size))
  generalize w1.drewN nq = w2 at *
  clear c10 c5
  have c8 : w2.cell? ⟨pb, 8, none⟩ = some (.map (some M.bm)) := H2.out.cell 8
  go_wp2_with (at_lookup; refine wp_map_look_ok rfl _ _ _ rfl klaw Tryd.underlying88 (.string ⟨#[]⟩) (zero_string _) plain_zero_string rfl H2.out.map _ _ rfl (keyOf_string_mk Tryd.underlying9 hk) ?_; rw [HLK.out.1, HLK.out.2])
  refine (wo_fail H2.out 1 name hnf).mono ?_
  rintro e w3 ⟨rfl, hb3⟩
  rw [HFB.out]
  have H3 := Lib.hid (H2.out.pure hb3)
  have HB3 := Lib.hid (HB2.out.trans (hb3.mono HB2.out.size))
  clear hb3 c8
  have hz1 : N + 1 ≤ maxLen := by unfold maxLen; have := HNN.out; omega
  have hz2 : (N + 1) * 8 ≤ 140737488355328 := by have := HNN.out; omega
  have HNP := Lib.hid (show ¬ some pb = (.slice A N cap : Value).ownBlock from fun e => by
    have hr := H3.out.rowO
    rw [hvo2.out] at hr
    obtain ⟨cur, hc, -⟩ := own_lt hr e.symm
    exact cells_ne H3.out.head hc (by decide) rfl)
  have HGX := Lib.hid (show w3.heap.size = w3.heap.size from rfl)
  have c10 : w3.cell? ⟨pb, 10, none⟩ = some (.slice A N cap) := hvo2.out ▸ H3.out.cell 10
  have hpb3 := H3.out.lt
  have H5 := Lib.hid (H3.out.pure ((Below.refl _ _).alloc (Nat.le_refl _) (.cells #[.int .u8 1, .string name, .string fd] 109)))
  have HX5 : Hid (Blk (w3.alloc (.cells #[.int .u8 1, .string name, .string fd] 109)) w3.heap.size 109 (Sm.cells ⟨1, name, fd⟩)) := Blk.new w3 _ _
  have HD5 := Lib.hid H5.out.head
  have HOWN : Hid ((w3.alloc (.cells #[.int .u8 1, .string name, .string fd] 109)).ownsRow 0 99 1 (.slice A N cap) N (ptrs M.gs)) := by
    have hr := H5.out.rowO; rw [hvo2.out, ← HNN.out] at hr; exact hr
  have HT5 := Lib.hid (Tur.of_gr (F := F) (HB3.out.trans (((Below.refl w3.heap.size w3).alloc (Nat.le_refl _) (.cells #[.int .u8 1, .string name, .string fd] 109)).mono HB3.out.size)))
  have HSZ5 := Lib.hid HT5.out.size
  have HMM := Lib.hid (Nat.le_succ M.m)
  go_wp2_with (at_builtin; refine wp_app1_at rfl _ _ _ rfl 99 1 8 _ Tryd.underlying91 info_ptr rfl (by decide) 0 (.slice A N cap) N _ rfl HOWN.out [.pointer (some ⟨w3.heap.size, 0, none⟩)] (w3.heap.size + 1) (by simp) rfl rfl one_ptr hz1 hz2 (Nat.zero_le _) ?_; intro g2 cap2 w6 hlc2 hcm2 hown2 hgrow2 hat2; have hd6 := HD5.out.keep (Tur.of_grown hgrow2) HNP.out; have c11 : w6.cell? ⟨pb, 10, none⟩ = some M.vo := hd6.cell 10; have f11 := hd6.free 10)
  have hx6 : ¬ F w3.heap.size := fun e => by have := H3.out.flt _ e; omega
  obtain ⟨h7, t7⟩ := WAt.opened (M := M) (st := st) H5.out ⟨1, name, fd⟩ HX5.out hx6 (by rw [hvo2.out]; exact hgrow2) hown2 HNN1.out (by rw [hvo2.out]; exact hat2)
  have hF7 : ∀ i, (F i ∨ i = g2 ∨ i = w3.heap.size) → F i ∨ w.heap.size ≤ i := by
    rintro i (e | e | e)
    · exact .inl e
    · rcases hat2 with e2 | e2
      · left; rw [e]; exact H3.out.fo _ (by rw [hvo2.out]; exact e2)
      · right; have := HSZ5.out; omega
    · right; have := HB3.out.size; omega
  have hT7 := HT5.out.trans t7 (fun _ _ e => e)
  clear hgrow2 hat2 hown2 hd6 c11 f11
  refine (wo_event h7 ⟨1, 1, name, ⟨#[]⟩, 0⟩ hnt).mono ?_
  rintro e w8 ⟨M', F', rfl, h8, t8, f8, m8, -⟩
  go_wp2_with fail
  go_ret
  refine ⟨M', F', rfl, (by rw [HFD.out] at h8; exact h8), hT7.trans t8 (fun i hi e => (hF7 i e).resolve_right (by omega)), fun i hi => ?_, by rw [m8]; exact HMM.out⟩
  rcases f8 i hi with e | e
  · exact hF7 i e
  · right; have := hT7.size; omega
set_option maxRecDepth 20000 in
set_option maxHeartbeats 4000000 in
theorem wo_open1b {w : World} {F : Nat → Prop} {pb : Nat} {M : Mem} {st : St} (h : WAt w F pb M st) (name : ByteArray) (hk : name.size ≤ maxLen) (hno : st.opn.length ≤ 1000000000) (hnt : st.trace.length ≤ 1000000000) (hnr : st.replies.length ≤ 1000000000) (hnf : st.fails.length ≤ 1000000000) (hnm : M.m ≤ 1000000000)
    (hf : find st 1 name = none) (hL : ¬ st.lim ≤ st.opn.length) (hfl : failB st 1 name = false) (hm : ¬ name = minus) (hfbt : (st.files name.data.toList).isSome = true) :
    Calls Tryd.prog 35 #[.pointer (some ⟨pb, 0, none⟩), .int .u8 1, .string name] w (OpenOk w F pb M (okSt st 1 name)) := by
  have H := Lib.hid h
  have hk1 : ¬ (1 : Int) < 1 := by omega
  have hk5 : ¬ (5 : Int) < (1 : Int) := by omega
  clear h
  have HFV : Hid (findV M st 1 name = .pointer none) := by unfold Hid findV; rw [hf]
  obtain ⟨A, cap, hvo, hcap1, hcap2⟩ := own_form H.out.rowO
  have HVO := Lib.hid hvo
  obtain ⟨N, hN⟩ : ∃ N, N = st.opn.length := ⟨_, rfl⟩
  have HNN := Lib.hid hN
  obtain ⟨lim, hlim⟩ : ∃ lim, lim = st.lim := ⟨_, rfl⟩
  have HLIM := Lib.hid hlim.symm
  rw [← hN] at hcap1 HVO
  rw [← hlim, ← hN] at hL
  have hLb : decide (lim ≤ (N : Int)) = false := decide_eq_false hL
  have HLK : Hid ((((fun l => (st.files l).map Value.string) name.data.toList).getD (.string ⟨#[]⟩) = .string ((st.files name.data.toList).getD ⟨#[]⟩)) ∧ ((fun l => (st.files l).map Value.string) name.data.toList).isSome = (st.files name.data.toList).isSome) := by
    unfold Hid
    show ((st.files name.data.toList).map Value.string).getD _ = _ ∧ ((st.files name.data.toList).map Value.string).isSome = _
    cases st.files name.data.toList <;> exact ⟨rfl, rfl⟩
  obtain ⟨fd, hfd⟩ : ∃ fd, fd = (st.files name.data.toList).getD ⟨#[]⟩ := ⟨_, rfl⟩
  obtain ⟨fb, hfb0⟩ : ∃ fb, fb = (st.files name.data.toList).isSome := ⟨_, rfl⟩
  rw [← hfd, ← hfb0] at HLK
  have HFD := Lib.hid hfd
  have hfdz : ∃ d, plainElem (H := Unit) Tryd.prog 9 (.string fd) = some (d, []) := by
    rw [hfd]
    cases hx : st.files name.data.toList with
    | none => exact plain_zero_string
    | some d => exact H.out.map.some_has (l := name.data.toList) (v := .string d) (by show (st.files name.data.toList).map Value.string = _; rw [hx]; rfl)
  have HFDZ := Lib.hid hfdz
  have HFB := Lib.hid hfl
  have hvo2 : Hid (M.vo = .slice A N cap) := HVO.out
  have HNN1 : Hid (N + 1 = st.opn.length + 1) := by unfold Hid; rw [HNN.out]
  have HFB0 := Lib.hid hfb0
  clear hf hvo hN hlim hfd hfdz hfl hL hfb0
  have hnb : (name.toList == [45]) = false := by
    have : (name.toList == minus.toList) = false := by rw [str_eq]; exact decide_eq_false hm
    rw [minus_list] at this
    exact this
  have hnb2 : (!(name.toList == [45])) = true := by rw [hnb]; rfl
  clear hm
  obtain rfl : fb = true := by rw [HFB0.out]; exact hfbt
  clear hfbt
  go_enter Tryd.func35, Tryd.ntmps35
  go_wp2_with fail
  refine (wo_none H.out).mono ?_
  rintro e w2 ⟨rfl, rfl⟩
  go_wp2_with fail
  refine (wo_find H.out _ name hno).mono ?_
  rintro e w1 ⟨rfl, hb1⟩
  rw [HFV.out]
  have H1 := Lib.hid (H.out.pure hb1)
  have HB1 := Lib.hid hb1
  clear hb1
  have c10 : w1.cell? ⟨pb, 10, none⟩ = some (.slice A N cap) := HVO.out ▸ H1.out.cell 10
  have c5 : w1.cell? ⟨pb, 5, none⟩ = some (.int .i64 lim) := HLIM.out ▸ H1.out.cell 5
  go_wp2_with fail
  go_quiet (fail)
  have H2 := Lib.hid (H1.out.drewN nq)
  have HB2 := Lib.hid (HB1.out.trans ((below_drew w1 nq).mono HB1.out.size))
  generalize w1.drewN nq = w2 at *
  clear c10 c5
  have c8 : w2.cell? ⟨pb, 8, none⟩ = some (.map (some M.bm)) := H2.out.cell 8
  go_wp2_with (at_lookup; refine wp_map_look_ok rfl _ _ _ rfl klaw Tryd.underlying88 (.string ⟨#[]⟩) (zero_string _) plain_zero_string rfl H2.out.map _ _ rfl (keyOf_string_mk Tryd.underlying9 hk) ?_; rw [HLK.out.1, HLK.out.2])
  refine (wo_fail H2.out 1 name hnf).mono ?_
  rintro e w3 ⟨rfl, hb3⟩
  rw [HFB.out]
  have H3 := Lib.hid (H2.out.pure hb3)
  have HB3 := Lib.hid (HB2.out.trans (hb3.mono HB2.out.size))
  clear hb3 c8
  have hz1 : N + 1 ≤ maxLen := by unfold maxLen; have := HNN.out; omega
  have hz2 : (N + 1) * 8 ≤ 140737488355328 := by have := HNN.out; omega
  have HNP := Lib.hid (show ¬ some pb = (.slice A N cap : Value).ownBlock from fun e => by
    have hr := H3.out.rowO
    rw [hvo2.out] at hr
    obtain ⟨cur, hc, -⟩ := own_lt hr e.symm
    exact cells_ne H3.out.head hc (by decide) rfl)
  have HGX := Lib.hid (show w3.heap.size = w3.heap.size from rfl)
  have c10 : w3.cell? ⟨pb, 10, none⟩ = some (.slice A N cap) := hvo2.out ▸ H3.out.cell 10
  have hpb3 := H3.out.lt
  have H5 := Lib.hid (H3.out.pure ((Below.refl _ _).alloc (Nat.le_refl _) (.cells #[.int .u8 1, .string name, .string fd] 109)))
  have HX5 : Hid (Blk (w3.alloc (.cells #[.int .u8 1, .string name, .string fd] 109)) w3.heap.size 109 (Sm.cells ⟨1, name, fd⟩)) := Blk.new w3 _ _
  have HD5 := Lib.hid H5.out.head
  have HOWN : Hid ((w3.alloc (.cells #[.int .u8 1, .string name, .string fd] 109)).ownsRow 0 99 1 (.slice A N cap) N (ptrs M.gs)) := by
    have hr := H5.out.rowO; rw [hvo2.out, ← HNN.out] at hr; exact hr
  have HT5 := Lib.hid (Tur.of_gr (F := F) (HB3.out.trans (((Below.refl w3.heap.size w3).alloc (Nat.le_refl _) (.cells #[.int .u8 1, .string name, .string fd] 109)).mono HB3.out.size)))
  have HSZ5 := Lib.hid HT5.out.size
  have HMM := Lib.hid (Nat.le_succ M.m)
  go_wp2_with (at_builtin; refine wp_app1_at rfl _ _ _ rfl 99 1 8 _ Tryd.underlying91 info_ptr rfl (by decide) 0 (.slice A N cap) N _ rfl HOWN.out [.pointer (some ⟨w3.heap.size, 0, none⟩)] (w3.heap.size + 1) (by simp) rfl rfl one_ptr hz1 hz2 (Nat.zero_le _) ?_; intro g2 cap2 w6 hlc2 hcm2 hown2 hgrow2 hat2; have hd6 := HD5.out.keep (Tur.of_grown hgrow2) HNP.out; have c11 : w6.cell? ⟨pb, 10, none⟩ = some M.vo := hd6.cell 10; have f11 := hd6.free 10)
  have hx6 : ¬ F w3.heap.size := fun e => by have := H3.out.flt _ e; omega
  obtain ⟨h7, t7⟩ := WAt.opened (M := M) (st := st) H5.out ⟨1, name, fd⟩ HX5.out hx6 (by rw [hvo2.out]; exact hgrow2) hown2 HNN1.out (by rw [hvo2.out]; exact hat2)
  have hF7 : ∀ i, (F i ∨ i = g2 ∨ i = w3.heap.size) → F i ∨ w.heap.size ≤ i := by
    rintro i (e | e | e)
    · exact .inl e
    · rcases hat2 with e2 | e2
      · left; rw [e]; exact H3.out.fo _ (by rw [hvo2.out]; exact e2)
      · right; have := HSZ5.out; omega
    · right; have := HB3.out.size; omega
  have hT7 := HT5.out.trans t7 (fun _ _ e => e)
  clear hgrow2 hat2 hown2 hd6 c11 f11
  refine (wo_event h7 ⟨1, 1, name, ⟨#[]⟩, 0⟩ hnt).mono ?_
  rintro e w8 ⟨M', F', rfl, h8, t8, f8, m8, -⟩
  go_wp2_with fail
  go_ret
  refine ⟨M', F', rfl, (by rw [HFD.out] at h8; exact h8), hT7.trans t8 (fun i hi e => (hF7 i e).resolve_right (by omega)), fun i hi => ?_, by rw [m8]; exact HMM.out⟩
  rcases f8 i hi with e | e
  · exact hF7 i e
  · right; have := hT7.size; omega
set_option maxRecDepth 20000 in
set_option maxHeartbeats 4000000 in
theorem wo_open5 {w : World} {F : Nat → Prop} {pb : Nat} {M : Mem} {st : St} (h : WAt w F pb M st) (name : ByteArray) (hk : name.size ≤ maxLen) (hno : st.opn.length ≤ 1000000000) (hnt : st.trace.length ≤ 1000000000) (hnr : st.replies.length ≤ 1000000000) (hnf : st.fails.length ≤ 1000000000) (hnm : M.m ≤ 1000000000)
    (hf : find st 5 name = none) (hL : ¬ st.lim ≤ st.opn.length) (hfl : failB st 1 name = false)  :
    Calls Tryd.prog 35 #[.pointer (some ⟨pb, 0, none⟩), .int .u8 5, .string name] w (OpenOk w F pb M (okSt st 5 name)) := by
  have H := Lib.hid h
  have hk1 : ¬ (5 : Int) < 1 := by omega
  have hk5 : ¬ (5 : Int) < (5 : Int) := by omega
  clear h
  have HFV : Hid (findV M st 5 name = .pointer none) := by unfold Hid findV; rw [hf]
  obtain ⟨A, cap, hvo, hcap1, hcap2⟩ := own_form H.out.rowO
  have HVO := Lib.hid hvo
  obtain ⟨N, hN⟩ : ∃ N, N = st.opn.length := ⟨_, rfl⟩
  have HNN := Lib.hid hN
  obtain ⟨lim, hlim⟩ : ∃ lim, lim = st.lim := ⟨_, rfl⟩
  have HLIM := Lib.hid hlim.symm
  rw [← hN] at hcap1 HVO
  rw [← hlim, ← hN] at hL
  have hLb : decide (lim ≤ (N : Int)) = false := decide_eq_false hL
  have HLK : Hid ((((fun l => (st.files l).map Value.string) name.data.toList).getD (.string ⟨#[]⟩) = .string ((st.files name.data.toList).getD ⟨#[]⟩)) ∧ ((fun l => (st.files l).map Value.string) name.data.toList).isSome = (st.files name.data.toList).isSome) := by
    unfold Hid
    show ((st.files name.data.toList).map Value.string).getD _ = _ ∧ ((st.files name.data.toList).map Value.string).isSome = _
    cases st.files name.data.toList <;> exact ⟨rfl, rfl⟩
  obtain ⟨fd, hfd⟩ : ∃ fd, fd = (st.files name.data.toList).getD ⟨#[]⟩ := ⟨_, rfl⟩
  obtain ⟨fb, hfb0⟩ : ∃ fb, fb = (st.files name.data.toList).isSome := ⟨_, rfl⟩
  rw [← hfd, ← hfb0] at HLK
  have HFD := Lib.hid hfd
  have hfdz : ∃ d, plainElem (H := Unit) Tryd.prog 9 (.string fd) = some (d, []) := by
    rw [hfd]
    cases hx : st.files name.data.toList with
    | none => exact plain_zero_string
    | some d => exact H.out.map.some_has (l := name.data.toList) (v := .string d) (by show (st.files name.data.toList).map Value.string = _; rw [hx]; rfl)
  have HFDZ := Lib.hid hfdz
  have HFB := Lib.hid hfl
  have hvo2 : Hid (M.vo = .slice A N cap) := HVO.out
  have HNN1 : Hid (N + 1 = st.opn.length + 1) := by unfold Hid; rw [HNN.out]
  have HFB0 := Lib.hid hfb0
  clear hf hvo hN hlim hfd hfdz hfl hL hfb0
  go_enter Tryd.func35, Tryd.ntmps35
  go_wp2_with fail
  refine (wo_none H.out).mono ?_
  rintro e w2 ⟨rfl, rfl⟩
  go_wp2_with fail
  refine (wo_find H.out _ name hno).mono ?_
  rintro e w1 ⟨rfl, hb1⟩
  rw [HFV.out]
  have H1 := Lib.hid (H.out.pure hb1)
  have HB1 := Lib.hid hb1
  clear hb1
  have c10 : w1.cell? ⟨pb, 10, none⟩ = some (.slice A N cap) := HVO.out ▸ H1.out.cell 10
  have c5 : w1.cell? ⟨pb, 5, none⟩ = some (.int .i64 lim) := HLIM.out ▸ H1.out.cell 5
  go_wp2_with fail
  go_quiet (fail)
  have H2 := Lib.hid (H1.out.drewN nq)
  have HB2 := Lib.hid (HB1.out.trans ((below_drew w1 nq).mono HB1.out.size))
  generalize w1.drewN nq = w2 at *
  clear c10 c5
  have c8 : w2.cell? ⟨pb, 8, none⟩ = some (.map (some M.bm)) := H2.out.cell 8
  go_wp2_with (at_lookup; refine wp_map_look_ok rfl _ _ _ rfl klaw Tryd.underlying88 (.string ⟨#[]⟩) (zero_string _) plain_zero_string rfl H2.out.map _ _ rfl (keyOf_string_mk Tryd.underlying9 hk) ?_; rw [HLK.out.1, HLK.out.2])
  refine (wo_fail H2.out 1 name hnf).mono ?_
  rintro e w3 ⟨rfl, hb3⟩
  rw [HFB.out]
  have H3 := Lib.hid (H2.out.pure hb3)
  have HB3 := Lib.hid (HB2.out.trans (hb3.mono HB2.out.size))
  clear hb3 c8
  have hz1 : N + 1 ≤ maxLen := by unfold maxLen; have := HNN.out; omega
  have hz2 : (N + 1) * 8 ≤ 140737488355328 := by have := HNN.out; omega
  have HNP := Lib.hid (show ¬ some pb = (.slice A N cap : Value).ownBlock from fun e => by
    have hr := H3.out.rowO
    rw [hvo2.out] at hr
    obtain ⟨cur, hc, -⟩ := own_lt hr e.symm
    exact cells_ne H3.out.head hc (by decide) rfl)
  have HGX := Lib.hid (show w3.heap.size = w3.heap.size from rfl)
  have c10 : w3.cell? ⟨pb, 10, none⟩ = some (.slice A N cap) := hvo2.out ▸ H3.out.cell 10
  have hpb3 := H3.out.lt
  have H5 := Lib.hid (H3.out.pure ((Below.refl _ _).alloc (Nat.le_refl _) (.cells #[.int .u8 5, .string name, .string ⟨#[]⟩] 109)))
  have HX5 : Hid (Blk (w3.alloc (.cells #[.int .u8 5, .string name, .string ⟨#[]⟩] 109)) w3.heap.size 109 (Sm.cells ⟨5, name, ⟨#[]⟩⟩)) := Blk.new w3 _ _
  have HD5 := Lib.hid H5.out.head
  have HOWN : Hid ((w3.alloc (.cells #[.int .u8 5, .string name, .string ⟨#[]⟩] 109)).ownsRow 0 99 1 (.slice A N cap) N (ptrs M.gs)) := by
    have hr := H5.out.rowO; rw [hvo2.out, ← HNN.out] at hr; exact hr
  have HT5 := Lib.hid (Tur.of_gr (F := F) (HB3.out.trans (((Below.refl w3.heap.size w3).alloc (Nat.le_refl _) (.cells #[.int .u8 5, .string name, .string ⟨#[]⟩] 109)).mono HB3.out.size)))
  have HSZ5 := Lib.hid HT5.out.size
  have HMM := Lib.hid (Nat.le_succ M.m)
  go_wp2_with (at_builtin; refine wp_app1_at rfl _ _ _ rfl 99 1 8 _ Tryd.underlying91 info_ptr rfl (by decide) 0 (.slice A N cap) N _ rfl HOWN.out [.pointer (some ⟨w3.heap.size, 0, none⟩)] (w3.heap.size + 1) (by simp) rfl rfl one_ptr hz1 hz2 (Nat.zero_le _) ?_; intro g2 cap2 w6 hlc2 hcm2 hown2 hgrow2 hat2; have hd6 := HD5.out.keep (Tur.of_grown hgrow2) HNP.out; have c11 : w6.cell? ⟨pb, 10, none⟩ = some M.vo := hd6.cell 10; have f11 := hd6.free 10)
  have hx6 : ¬ F w3.heap.size := fun e => by have := H3.out.flt _ e; omega
  obtain ⟨h7, t7⟩ := WAt.opened (M := M) (st := st) H5.out ⟨5, name, ⟨#[]⟩⟩ HX5.out hx6 (by rw [hvo2.out]; exact hgrow2) hown2 HNN1.out (by rw [hvo2.out]; exact hat2)
  have hF7 : ∀ i, (F i ∨ i = g2 ∨ i = w3.heap.size) → F i ∨ w.heap.size ≤ i := by
    rintro i (e | e | e)
    · exact .inl e
    · rcases hat2 with e2 | e2
      · left; rw [e]; exact H3.out.fo _ (by rw [hvo2.out]; exact e2)
      · right; have := HSZ5.out; omega
    · right; have := HB3.out.size; omega
  have hT7 := HT5.out.trans t7 (fun _ _ e => e)
  clear hgrow2 hat2 hown2 hd6 c11 f11
  refine (wo_event h7 ⟨1, 5, name, ⟨#[]⟩, 0⟩ hnt).mono ?_
  rintro e w8 ⟨M', F', rfl, h8, t8, f8, m8, -⟩
  go_wp2_with fail
  go_ret
  refine ⟨M', F', rfl, h8, hT7.trans t8 (fun i hi e => (hF7 i e).resolve_right (by omega)), fun i hi => ?_, by rw [m8]; exact HMM.out⟩
  rcases f8 i hi with e | e
  · exact hF7 i e
  · right; have := hT7.size; omega
set_option maxRecDepth 20000 in
set_option maxHeartbeats 4000000 in
theorem wo_open2 {w : World} {F : Nat → Prop} {pb : Nat} {M : Mem} {st : St} (h : WAt w F pb M st) (name : ByteArray) (hk : name.size ≤ maxLen) (hno : st.opn.length ≤ 1000000000) (hnt : st.trace.length ≤ 1000000000) (hnr : st.replies.length ≤ 1000000000) (hnf : st.fails.length ≤ 1000000000) (hnm : M.m ≤ 1000000000)
    (hf : find st 2 name = none) (hL : ¬ st.lim ≤ st.opn.length) (hfl : failB st 1 name = false)  :
    Calls Tryd.prog 35 #[.pointer (some ⟨pb, 0, none⟩), .int .u8 2, .string name] w (OpenOk w F pb M (okSt st 2 name)) := by
  have H := Lib.hid h
  have hk1 : ¬ (2 : Int) < 1 := by omega
  have hk5 : ¬ (5 : Int) < (2 : Int) := by omega
  clear h
  have HFV : Hid (findV M st 2 name = .pointer none) := by unfold Hid findV; rw [hf]
  obtain ⟨A, cap, hvo, hcap1, hcap2⟩ := own_form H.out.rowO
  have HVO := Lib.hid hvo
  obtain ⟨N, hN⟩ : ∃ N, N = st.opn.length := ⟨_, rfl⟩
  have HNN := Lib.hid hN
  obtain ⟨lim, hlim⟩ : ∃ lim, lim = st.lim := ⟨_, rfl⟩
  have HLIM := Lib.hid hlim.symm
  rw [← hN] at hcap1 HVO
  rw [← hlim, ← hN] at hL
  have hLb : decide (lim ≤ (N : Int)) = false := decide_eq_false hL
  have HLK : Hid ((((fun l => (st.files l).map Value.string) name.data.toList).getD (.string ⟨#[]⟩) = .string ((st.files name.data.toList).getD ⟨#[]⟩)) ∧ ((fun l => (st.files l).map Value.string) name.data.toList).isSome = (st.files name.data.toList).isSome) := by
    unfold Hid
    show ((st.files name.data.toList).map Value.string).getD _ = _ ∧ ((st.files name.data.toList).map Value.string).isSome = _
    cases st.files name.data.toList <;> exact ⟨rfl, rfl⟩
  obtain ⟨fd, hfd⟩ : ∃ fd, fd = (st.files name.data.toList).getD ⟨#[]⟩ := ⟨_, rfl⟩
  obtain ⟨fb, hfb0⟩ : ∃ fb, fb = (st.files name.data.toList).isSome := ⟨_, rfl⟩
  rw [← hfd, ← hfb0] at HLK
  have HFD := Lib.hid hfd
  have hfdz : ∃ d, plainElem (H := Unit) Tryd.prog 9 (.string fd) = some (d, []) := by
    rw [hfd]
    cases hx : st.files name.data.toList with
    | none => exact plain_zero_string
    | some d => exact H.out.map.some_has (l := name.data.toList) (v := .string d) (by show (st.files name.data.toList).map Value.string = _; rw [hx]; rfl)
  have HFDZ := Lib.hid hfdz
  have HFB := Lib.hid hfl
  have hvo2 : Hid (M.vo = .slice A N cap) := HVO.out
  have HNN1 : Hid (N + 1 = st.opn.length + 1) := by unfold Hid; rw [HNN.out]
  have HFB0 := Lib.hid hfb0
  clear hf hvo hN hlim hfd hfdz hfl hL hfb0
  go_enter Tryd.func35, Tryd.ntmps35
  go_wp2_with fail
  refine (wo_none H.out).mono ?_
  rintro e w2 ⟨rfl, rfl⟩
  go_wp2_with fail
  refine (wo_find H.out _ name hno).mono ?_
  rintro e w1 ⟨rfl, hb1⟩
  rw [HFV.out]
  have H1 := Lib.hid (H.out.pure hb1)
  have HB1 := Lib.hid hb1
  clear hb1
  have c10 : w1.cell? ⟨pb, 10, none⟩ = some (.slice A N cap) := HVO.out ▸ H1.out.cell 10
  have c5 : w1.cell? ⟨pb, 5, none⟩ = some (.int .i64 lim) := HLIM.out ▸ H1.out.cell 5
  go_wp2_with fail
  go_quiet (fail)
  have H2 := Lib.hid (H1.out.drewN nq)
  have HB2 := Lib.hid (HB1.out.trans ((below_drew w1 nq).mono HB1.out.size))
  generalize w1.drewN nq = w2 at *
  clear c10 c5
  have c8 : w2.cell? ⟨pb, 8, none⟩ = some (.map (some M.bm)) := H2.out.cell 8
  go_wp2_with (at_lookup; refine wp_map_look_ok rfl _ _ _ rfl klaw Tryd.underlying88 (.string ⟨#[]⟩) (zero_string _) plain_zero_string rfl H2.out.map _ _ rfl (keyOf_string_mk Tryd.underlying9 hk) ?_; rw [HLK.out.1, HLK.out.2])
  refine (wo_fail H2.out 1 name hnf).mono ?_
  rintro e w3 ⟨rfl, hb3⟩
  rw [HFB.out]
  have H3 := Lib.hid (H2.out.pure hb3)
  have HB3 := Lib.hid (HB2.out.trans (hb3.mono HB2.out.size))
  clear hb3 c8
  have hz1 : N + 1 ≤ maxLen := by unfold maxLen; have := HNN.out; omega
  have hz2 : (N + 1) * 8 ≤ 140737488355328 := by have := HNN.out; omega
  have HNP := Lib.hid (show ¬ some pb = (.slice A N cap : Value).ownBlock from fun e => by
    have hr := H3.out.rowO
    rw [hvo2.out] at hr
    obtain ⟨cur, hc, -⟩ := own_lt hr e.symm
    exact cells_ne H3.out.head hc (by decide) rfl)
  have HGX := Lib.hid (show w3.heap.size = w3.heap.size from rfl)
  have c10 : w3.cell? ⟨pb, 10, none⟩ = some (.slice A N cap) := hvo2.out ▸ H3.out.cell 10
  have hpb3 := H3.out.lt
  have H4 := Lib.hid (H3.out.pure ((Below.refl _ _).alloc (Nat.le_refl _) (.cells #[.int .u8 2, .string name, .string ⟨#[]⟩] 109)))
  have HX4 : Hid (Blk (w3.alloc (.cells #[.int .u8 2, .string name, .string ⟨#[]⟩] 109)) w3.heap.size 109 #[.int .u8 2, .string name, .string ⟨#[]⟩]) := Blk.new w3 _ _
  have HB4 := Lib.hid (HB3.out.trans (((Below.refl w3.heap.size w3).alloc (Nat.le_refl _) (.cells #[.int .u8 2, .string name, .string ⟨#[]⟩] 109)).mono HB3.out.size))
  obtain ⟨rr, hrr⟩ : ∃ rr, rr = replyR st name := ⟨_, rfl⟩
  have HRR := Lib.hid hrr
  go_wp2_with fail
  refine (wo_reply H4.out name hnr).mono ?_
  rintro e w4 ⟨rfl, hb4⟩
  rw [← hrr]
  clear hrr c10
  obtain ⟨rc, ro, rs⟩ := rr
  simp only [Rp.val]
  generalize hW : w3.alloc (.cells #[.int .u8 2, .string name, .string ⟨#[]⟩] 109) = wx at *
  obtain ⟨gx, hgx⟩ : ∃ gx, gx = w3.heap.size := ⟨_, rfl⟩
  rw [← hgx] at HX4 ⊢
  have HGX3 := Lib.hid hgx
  have HX4' := Lib.hid (below_blk HX4.out hb4 HX4.out.lt)
  have H44 := Lib.hid (H4.out.pure hb4)
  have HB44 := Lib.hid (HB4.out.trans (hb4.mono HB4.out.size))
  clear hb4 hW hgx
  obtain ⟨⟨x0, x1, x2⟩, y0, y1, y2⟩ := HX4'.out.three
  have c10 : w4.cell? ⟨pb, 10, none⟩ = some (.slice A N cap) := hvo2.out ▸ H44.out.cell 10
  have hgx4 : gx < w4.heap.size := HX4'.out.lt
  have hpb4 : pb < w4.heap.size := H44.out.lt
  have hne1 : ¬ pb = gx := by have := HGX3.out; omega
  have hne2 : ¬ gx = pb := fun e => hne1 e.symm
  have hxF : ¬ F gx := fun e => by have := H3.out.flt _ e; have := HGX3.out; omega
  have HTS := Lib.hid (Tur.of_set (w := w4) ⟨gx, 2, none⟩ (.string ro))
  have H45 := Lib.hid (H44.out.tur HTS.out (fun k hk e => hxF (by have e' : k = gx := e; rw [← e']; exact hk)))
  have HBA := Lib.hid ((Below.refl (w4.setCell ⟨gx, 2, none⟩ (.string ro)).heap.size (w4.setCell ⟨gx, 2, none⟩ (.string ro))).alloc (Nat.le_refl _) (.cells #[.string rc, .string ro, .int .i64 rs] 87))
  have H5 := Lib.hid (H45.out.pure HBA.out)
  have hX45 : Blk (w4.setCell ⟨gx, 2, none⟩ (.string ro)) gx 109 (Sm.cells ⟨2, name, ro⟩) := HX4'.out.set 2 (.string ro)
  have HX5 := Lib.hid (below_blk hX45 HBA.out hX45.lt)
  have HD5 := Lib.hid H5.out.head
  have HOWN : Hid (((w4.setCell ⟨gx, 2, none⟩ (.string ro)).alloc (.cells #[.string rc, .string ro, .int .i64 rs] 87)).ownsRow 0 99 1 (.slice A N cap) N (ptrs M.gs)) := by
    have hr := H5.out.rowO; rw [hvo2.out, ← HNN.out] at hr; exact hr
  have HT5 := Lib.hid (((Tur.of_gr (F := F) HB44.out).trans (HTS.out.mono (fun k _ e => (show F k ∨ w.heap.size ≤ k from .inr (by have e' : k = gx := e; have := HGX3.out; have := HB3.out.size; omega)))) (fun i hi e => e.resolve_right (by omega))).trans (Tur.of_gr (F := F) HBA.out) (fun _ _ e => e))
  have HSZ5 := Lib.hid HT5.out.size
  have HMM := Lib.hid (Nat.le_succ M.m)
  clear hX45
  go_wp2_with (at_builtin; refine wp_app1_at rfl _ _ _ rfl 99 1 8 _ Tryd.underlying91 info_ptr rfl (by decide) 0 (.slice A N cap) N _ rfl HOWN.out [.pointer (some ⟨gx, 0, none⟩)] (w4.heap.size + 1) (by simp) rfl rfl one_ptr hz1 hz2 (Nat.zero_le _) ?_; intro g2 cap2 w6 hlc2 hcm2 hown2 hgrow2 hat2; have hd6 := HD5.out.keep (Tur.of_grown hgrow2) HNP.out; have c11 : w6.cell? ⟨pb, 10, none⟩ = some M.vo := hd6.cell 10; have f11 := hd6.free 10)
  have hx6 : ¬ F gx := fun e => by exact hxF e
  obtain ⟨h7, t7⟩ := WAt.opened (M := M) (st := st) H5.out ⟨2, name, ro⟩ HX5.out hx6 (by rw [hvo2.out]; exact hgrow2) hown2 HNN1.out (by rw [hvo2.out]; exact hat2)
  have hF7 : ∀ i, (F i ∨ i = g2 ∨ i = gx) → F i ∨ w.heap.size ≤ i := by
    rintro i (e | e | e)
    · exact .inl e
    · rcases hat2 with e2 | e2
      · left; rw [e]; exact H3.out.fo _ (by rw [hvo2.out]; exact e2)
      · right; have := HSZ5.out; omega
    · right; have := HGX3.out; have := HB3.out.size; omega
  have hT7 := HT5.out.trans t7 (fun _ _ e => e)
  clear hgrow2 hat2 hown2 hd6 c11 f11
  refine (wo_event h7 ⟨1, 2, name, ⟨#[]⟩, 0⟩ hnt).mono ?_
  rintro e w8 ⟨M', F', rfl, h8, t8, f8, m8, -⟩
  go_wp2_with fail
  go_ret
  refine ⟨M', F', rfl, (by have e : ro = openLeft st 2 name := congrArg Rp.out HRR.out; rw [e] at h8; exact h8), hT7.trans t8 (fun i hi e => (hF7 i e).resolve_right (by omega)), fun i hi => ?_, by rw [m8]; exact HMM.out⟩
  rcases f8 i hi with e | e
  · exact hF7 i e
  · right; have := hT7.size; omega
set_option maxRecDepth 20000 in
set_option maxHeartbeats 4000000 in
theorem wo_open3 {w : World} {F : Nat → Prop} {pb : Nat} {M : Mem} {st : St} (h : WAt w F pb M st) (name : ByteArray) (hk : name.size ≤ maxLen) (hno : st.opn.length ≤ 1000000000) (hnt : st.trace.length ≤ 1000000000) (hnr : st.replies.length ≤ 1000000000) (hnf : st.fails.length ≤ 1000000000) (hnm : M.m ≤ 1000000000)
    (hf : find st 3 name = none) (hL : ¬ st.lim ≤ st.opn.length) (hfl : failB st 1 name = false)  :
    Calls Tryd.prog 35 #[.pointer (some ⟨pb, 0, none⟩), .int .u8 3, .string name] w (OpenOk w F pb M (okSt st 3 name)) := by
  have H := Lib.hid h
  have hk1 : ¬ (3 : Int) < 1 := by omega
  have hk5 : ¬ (5 : Int) < (3 : Int) := by omega
  clear h
  have HFV : Hid (findV M st 3 name = .pointer none) := by unfold Hid findV; rw [hf]
  obtain ⟨A, cap, hvo, hcap1, hcap2⟩ := own_form H.out.rowO
  have HVO := Lib.hid hvo
  obtain ⟨N, hN⟩ : ∃ N, N = st.opn.length := ⟨_, rfl⟩
  have HNN := Lib.hid hN
  obtain ⟨lim, hlim⟩ : ∃ lim, lim = st.lim := ⟨_, rfl⟩
  have HLIM := Lib.hid hlim.symm
  rw [← hN] at hcap1 HVO
  rw [← hlim, ← hN] at hL
  have hLb : decide (lim ≤ (N : Int)) = false := decide_eq_false hL
  have HLK : Hid ((((fun l => (st.files l).map Value.string) name.data.toList).getD (.string ⟨#[]⟩) = .string ((st.files name.data.toList).getD ⟨#[]⟩)) ∧ ((fun l => (st.files l).map Value.string) name.data.toList).isSome = (st.files name.data.toList).isSome) := by
    unfold Hid
    show ((st.files name.data.toList).map Value.string).getD _ = _ ∧ ((st.files name.data.toList).map Value.string).isSome = _
    cases st.files name.data.toList <;> exact ⟨rfl, rfl⟩
  obtain ⟨fd, hfd⟩ : ∃ fd, fd = (st.files name.data.toList).getD ⟨#[]⟩ := ⟨_, rfl⟩
  obtain ⟨fb, hfb0⟩ : ∃ fb, fb = (st.files name.data.toList).isSome := ⟨_, rfl⟩
  rw [← hfd, ← hfb0] at HLK
  have HFD := Lib.hid hfd
  have hfdz : ∃ d, plainElem (H := Unit) Tryd.prog 9 (.string fd) = some (d, []) := by
    rw [hfd]
    cases hx : st.files name.data.toList with
    | none => exact plain_zero_string
    | some d => exact H.out.map.some_has (l := name.data.toList) (v := .string d) (by show (st.files name.data.toList).map Value.string = _; rw [hx]; rfl)
  have HFDZ := Lib.hid hfdz
  have HFB := Lib.hid hfl
  have hvo2 : Hid (M.vo = .slice A N cap) := HVO.out
  have HNN1 : Hid (N + 1 = st.opn.length + 1) := by unfold Hid; rw [HNN.out]
  have HFB0 := Lib.hid hfb0
  clear hf hvo hN hlim hfd hfdz hfl hL hfb0
  go_enter Tryd.func35, Tryd.ntmps35
  go_wp2_with fail
  refine (wo_none H.out).mono ?_
  rintro e w2 ⟨rfl, rfl⟩
  go_wp2_with fail
  refine (wo_find H.out _ name hno).mono ?_
  rintro e w1 ⟨rfl, hb1⟩
  rw [HFV.out]
  have H1 := Lib.hid (H.out.pure hb1)
  have HB1 := Lib.hid hb1
  clear hb1
  have c10 : w1.cell? ⟨pb, 10, none⟩ = some (.slice A N cap) := HVO.out ▸ H1.out.cell 10
  have c5 : w1.cell? ⟨pb, 5, none⟩ = some (.int .i64 lim) := HLIM.out ▸ H1.out.cell 5
  go_wp2_with fail
  go_quiet (fail)
  have H2 := Lib.hid (H1.out.drewN nq)
  have HB2 := Lib.hid (HB1.out.trans ((below_drew w1 nq).mono HB1.out.size))
  generalize w1.drewN nq = w2 at *
  clear c10 c5
  have c8 : w2.cell? ⟨pb, 8, none⟩ = some (.map (some M.bm)) := H2.out.cell 8
  go_wp2_with (at_lookup; refine wp_map_look_ok rfl _ _ _ rfl klaw Tryd.underlying88 (.string ⟨#[]⟩) (zero_string _) plain_zero_string rfl H2.out.map _ _ rfl (keyOf_string_mk Tryd.underlying9 hk) ?_; rw [HLK.out.1, HLK.out.2])
  refine (wo_fail H2.out 1 name hnf).mono ?_
  rintro e w3 ⟨rfl, hb3⟩
  rw [HFB.out]
  have H3 := Lib.hid (H2.out.pure hb3)
  have HB3 := Lib.hid (HB2.out.trans (hb3.mono HB2.out.size))
  clear hb3 c8
  have hz1 : N + 1 ≤ maxLen := by unfold maxLen; have := HNN.out; omega
  have hz2 : (N + 1) * 8 ≤ 140737488355328 := by have := HNN.out; omega
  have HNP := Lib.hid (show ¬ some pb = (.slice A N cap : Value).ownBlock from fun e => by
    have hr := H3.out.rowO
    rw [hvo2.out] at hr
    obtain ⟨cur, hc, -⟩ := own_lt hr e.symm
    exact cells_ne H3.out.head hc (by decide) rfl)
  have HGX := Lib.hid (show w3.heap.size = w3.heap.size from rfl)
  have c10 : w3.cell? ⟨pb, 10, none⟩ = some (.slice A N cap) := hvo2.out ▸ H3.out.cell 10
  have hpb3 := H3.out.lt
  have H4 := Lib.hid (H3.out.pure ((Below.refl _ _).alloc (Nat.le_refl _) (.cells #[.int .u8 3, .string name, .string ⟨#[]⟩] 109)))
  have HX4 : Hid (Blk (w3.alloc (.cells #[.int .u8 3, .string name, .string ⟨#[]⟩] 109)) w3.heap.size 109 (Sm.cells ⟨3, name, ⟨#[]⟩⟩)) := Blk.new w3 _ _
  have HT4 := Lib.hid (Tur.of_gr (F := F) (HB3.out.trans (((Below.refl w3.heap.size w3).alloc (Nat.le_refl _) (.cells #[.int .u8 3, .string name, .string ⟨#[]⟩] 109)).mono HB3.out.size)))
  have hmm : M.m < maxLen := by unfold maxLen; omega
  have HXB := Lib.hid (show ¬ w3.heap.size = M.bm from fun e => by have := H3.out.flt _ H3.out.fm; omega)
  have HRW : Hid (∀ {w5 : World} {m5 : Nat} {f5 : List UInt8 → Option ByteArray}, WAt w5 F pb { M with m := m5 } { st with files := f5 } → w5.ownsRow 0 99 1 (.slice A N cap) N (ptrs M.gs)) := by
    unfold Hid; intro w5 m5 f5 h
    have hr : w5.ownsRow 0 99 1 M.vo st.opn.length (ptrs M.gs) := h.rowO
    rw [hvo2.out, ← HNN.out] at hr; exact hr
  have HMM := Lib.hid (show (if ((fun l => (st.files l).map Value.string) name.data.toList).isSome then M.m else M.m + 1) ≤ M.m + 1 by split <;> omega)
  have c8 : w3.cell? ⟨pb, 8, none⟩ = some (.map (some M.bm)) := H3.out.cell 8
  go_wp2_with (first | (at_mapUpdate; refine wp_map_put rfl _ _ _ _ rfl klaw Tryd.underlying9 Tryd.underlying88 rfl H4.out.map hmm _ (.string ⟨#[]⟩) _ rfl rfl (keyOf_string_mk Tryd.underlying9 hk) plain_zero_string ?_; intro w5 hmap5 hturn5; obtain ⟨h5, t5⟩ := H4.out.put name.data.toList ⟨#[]⟩ hmap5 hturn5; have H5 := Lib.hid h5; have HX5 := Lib.hid (HX4.out.keep ((Tur.of_grown hturn5.grown).mono (fun k _ e => (show k = M.bm by injection e))) HXB.out); have HD5 := Lib.hid h5.head; have HOWN := Lib.hid (HRW.out h5); have HT5 := Lib.hid (HT4.out.trans t5 (fun _ _ e => e)); have HSZ5 := Lib.hid HT5.out.size; have c10 : w5.cell? ⟨pb, 10, none⟩ = some (.slice A N cap) := hvo2.out ▸ h5.cell 10; have hpb5 := h5.lt; clear h5 t5 hmap5 hturn5) | (at_builtin; refine wp_app1_at rfl _ _ _ rfl 99 1 8 _ Tryd.underlying91 info_ptr rfl (by decide) 0 (.slice A N cap) N _ rfl HOWN.out [.pointer (some ⟨w3.heap.size, 0, none⟩)] w5.heap.size (by simp) rfl rfl one_ptr hz1 hz2 (Nat.zero_le _) ?_; intro g2 cap2 w6 hlc2 hcm2 hown2 hgrow2 hat2; have hd6 := HD5.out.keep (Tur.of_grown hgrow2) HNP.out; have c11 : w6.cell? ⟨pb, 10, none⟩ = some M.vo := hd6.cell 10; have f11 := hd6.free 10))
  have hx6 : ¬ F w3.heap.size := fun e => by have := H3.out.flt _ e; omega
  obtain ⟨h7, t7⟩ := WAt.opened H5.out ⟨3, name, ⟨#[]⟩⟩ HX5.out hx6 (by rw [hvo2.out]; exact hgrow2) hown2 HNN1.out (by rw [hvo2.out]; exact hat2)
  have hF7 : ∀ i, (F i ∨ i = g2 ∨ i = w3.heap.size) → F i ∨ w.heap.size ≤ i := by
    rintro i (e | e | e)
    · exact .inl e
    · rcases hat2 with e2 | e2
      · left; rw [e]; exact H3.out.fo _ (by rw [hvo2.out]; exact e2)
      · right; have := HSZ5.out; omega
    · right; have := HB3.out.size; omega
  have hT7 := HT5.out.trans t7 (fun _ _ e => e)
  clear hgrow2 hat2 hown2 hd6 c11 f11
  refine (wo_event h7 ⟨1, 3, name, ⟨#[]⟩, 0⟩ hnt).mono ?_
  rintro e w8 ⟨M', F', rfl, h8, t8, f8, m8, -⟩
  go_wp2_with fail
  go_ret
  refine ⟨M', F', rfl, h8, hT7.trans t8 (fun i hi e => (hF7 i e).resolve_right (by omega)), fun i hi => ?_, by rw [m8]; exact HMM.out⟩
  rcases f8 i hi with e | e
  · exact hF7 i e
  · right; have := hT7.size; omega
set_option maxRecDepth 20000 in
set_option maxHeartbeats 4000000 in
theorem wo_open4 {w : World} {F : Nat → Prop} {pb : Nat} {M : Mem} {st : St} (h : WAt w F pb M st) (name : ByteArray) (hk : name.size ≤ maxLen) (hno : st.opn.length ≤ 1000000000) (hnt : st.trace.length ≤ 1000000000) (hnr : st.replies.length ≤ 1000000000) (hnf : st.fails.length ≤ 1000000000) (hnm : M.m ≤ 1000000000)
    (hf : find st 4 name = none) (hL : ¬ st.lim ≤ st.opn.length) (hfl : failB st 1 name = false)  :
    Calls Tryd.prog 35 #[.pointer (some ⟨pb, 0, none⟩), .int .u8 4, .string name] w (OpenOk w F pb M (okSt st 4 name)) := by
  have H := Lib.hid h
  have hk1 : ¬ (4 : Int) < 1 := by omega
  have hk5 : ¬ (5 : Int) < (4 : Int) := by omega
  clear h
  have HFV : Hid (findV M st 4 name = .pointer none) := by unfold Hid findV; rw [hf]
  obtain ⟨A, cap, hvo, hcap1, hcap2⟩ := own_form H.out.rowO
  have HVO := Lib.hid hvo
  obtain ⟨N, hN⟩ : ∃ N, N = st.opn.length := ⟨_, rfl⟩
  have HNN := Lib.hid hN
  obtain ⟨lim, hlim⟩ : ∃ lim, lim = st.lim := ⟨_, rfl⟩
  have HLIM := Lib.hid hlim.symm
  rw [← hN] at hcap1 HVO
  rw [← hlim, ← hN] at hL
  have hLb : decide (lim ≤ (N : Int)) = false := decide_eq_false hL
  have HLK : Hid ((((fun l => (st.files l).map Value.string) name.data.toList).getD (.string ⟨#[]⟩) = .string ((st.files name.data.toList).getD ⟨#[]⟩)) ∧ ((fun l => (st.files l).map Value.string) name.data.toList).isSome = (st.files name.data.toList).isSome) := by
    unfold Hid
    show ((st.files name.data.toList).map Value.string).getD _ = _ ∧ ((st.files name.data.toList).map Value.string).isSome = _
    cases st.files name.data.toList <;> exact ⟨rfl, rfl⟩
  obtain ⟨fd, hfd⟩ : ∃ fd, fd = (st.files name.data.toList).getD ⟨#[]⟩ := ⟨_, rfl⟩
  obtain ⟨fb, hfb0⟩ : ∃ fb, fb = (st.files name.data.toList).isSome := ⟨_, rfl⟩
  rw [← hfd, ← hfb0] at HLK
  have HFD := Lib.hid hfd
  have hfdz : ∃ d, plainElem (H := Unit) Tryd.prog 9 (.string fd) = some (d, []) := by
    rw [hfd]
    cases hx : st.files name.data.toList with
    | none => exact plain_zero_string
    | some d => exact H.out.map.some_has (l := name.data.toList) (v := .string d) (by show (st.files name.data.toList).map Value.string = _; rw [hx]; rfl)
  have HFDZ := Lib.hid hfdz
  have HFB := Lib.hid hfl
  have hvo2 : Hid (M.vo = .slice A N cap) := HVO.out
  have HNN1 : Hid (N + 1 = st.opn.length + 1) := by unfold Hid; rw [HNN.out]
  have HFB0 := Lib.hid hfb0
  clear hf hvo hN hlim hfd hfdz hfl hL hfb0
  go_enter Tryd.func35, Tryd.ntmps35
  go_wp2_with fail
  refine (wo_none H.out).mono ?_
  rintro e w2 ⟨rfl, rfl⟩
  go_wp2_with fail
  refine (wo_find H.out _ name hno).mono ?_
  rintro e w1 ⟨rfl, hb1⟩
  rw [HFV.out]
  have H1 := Lib.hid (H.out.pure hb1)
  have HB1 := Lib.hid hb1
  clear hb1
  have c10 : w1.cell? ⟨pb, 10, none⟩ = some (.slice A N cap) := HVO.out ▸ H1.out.cell 10
  have c5 : w1.cell? ⟨pb, 5, none⟩ = some (.int .i64 lim) := HLIM.out ▸ H1.out.cell 5
  go_wp2_with fail
  go_quiet (fail)
  have H2 := Lib.hid (H1.out.drewN nq)
  have HB2 := Lib.hid (HB1.out.trans ((below_drew w1 nq).mono HB1.out.size))
  generalize w1.drewN nq = w2 at *
  clear c10 c5
  have c8 : w2.cell? ⟨pb, 8, none⟩ = some (.map (some M.bm)) := H2.out.cell 8
  go_wp2_with (at_lookup; refine wp_map_look_ok rfl _ _ _ rfl klaw Tryd.underlying88 (.string ⟨#[]⟩) (zero_string _) plain_zero_string rfl H2.out.map _ _ rfl (keyOf_string_mk Tryd.underlying9 hk) ?_; rw [HLK.out.1, HLK.out.2])
  refine (wo_fail H2.out 1 name hnf).mono ?_
  rintro e w3 ⟨rfl, hb3⟩
  rw [HFB.out]
  have H3 := Lib.hid (H2.out.pure hb3)
  have HB3 := Lib.hid (HB2.out.trans (hb3.mono HB2.out.size))
  clear hb3 c8
  have hz1 : N + 1 ≤ maxLen := by unfold maxLen; have := HNN.out; omega
  have hz2 : (N + 1) * 8 ≤ 140737488355328 := by have := HNN.out; omega
  have HNP := Lib.hid (show ¬ some pb = (.slice A N cap : Value).ownBlock from fun e => by
    have hr := H3.out.rowO
    rw [hvo2.out] at hr
    obtain ⟨cur, hc, -⟩ := own_lt hr e.symm
    exact cells_ne H3.out.head hc (by decide) rfl)
  have HGX := Lib.hid (show w3.heap.size = w3.heap.size from rfl)
  have c10 : w3.cell? ⟨pb, 10, none⟩ = some (.slice A N cap) := hvo2.out ▸ H3.out.cell 10
  have hpb3 := H3.out.lt
  have H4 := Lib.hid (H3.out.pure ((Below.refl _ _).alloc (Nat.le_refl _) (.cells #[.int .u8 4, .string name, .string ⟨#[]⟩] 109)))
  have HX4 : Hid (Blk (w3.alloc (.cells #[.int .u8 4, .string name, .string ⟨#[]⟩] 109)) w3.heap.size 109 (Sm.cells ⟨4, name, ⟨#[]⟩⟩)) := Blk.new w3 _ _
  have HT4 := Lib.hid (Tur.of_gr (F := F) (HB3.out.trans (((Below.refl w3.heap.size w3).alloc (Nat.le_refl _) (.cells #[.int .u8 4, .string name, .string ⟨#[]⟩] 109)).mono HB3.out.size)))
  have hmm : M.m < maxLen := by unfold maxLen; omega
  have HXB := Lib.hid (show ¬ w3.heap.size = M.bm from fun e => by have := H3.out.flt _ H3.out.fm; omega)
  have HRW : Hid (∀ {w5 : World} {m5 : Nat} {f5 : List UInt8 → Option ByteArray}, WAt w5 F pb { M with m := m5 } { st with files := f5 } → w5.ownsRow 0 99 1 (.slice A N cap) N (ptrs M.gs)) := by
    unfold Hid; intro w5 m5 f5 h
    have hr : w5.ownsRow 0 99 1 M.vo st.opn.length (ptrs M.gs) := h.rowO
    rw [hvo2.out, ← HNN.out] at hr; exact hr
  have HMM := Lib.hid (show (if ((fun l => (st.files l).map Value.string) name.data.toList).isSome then M.m else M.m + 1) ≤ M.m + 1 by split <;> omega)
  have c8 : w3.cell? ⟨pb, 8, none⟩ = some (.map (some M.bm)) := H3.out.cell 8
  go_wp2_with (first | (at_mapUpdate; refine wp_map_put rfl _ _ _ _ rfl klaw Tryd.underlying9 Tryd.underlying88 rfl H4.out.map hmm _ (.string fd) _ rfl rfl (keyOf_string_mk Tryd.underlying9 hk) HFDZ.out ?_; intro w5 hmap5 hturn5; obtain ⟨h5, t5⟩ := H4.out.put name.data.toList fd hmap5 hturn5; have H5 := Lib.hid h5; have HX5 := Lib.hid (HX4.out.keep ((Tur.of_grown hturn5.grown).mono (fun k _ e => (show k = M.bm by injection e))) HXB.out); have HD5 := Lib.hid h5.head; have HOWN := Lib.hid (HRW.out h5); have HT5 := Lib.hid (HT4.out.trans t5 (fun _ _ e => e)); have HSZ5 := Lib.hid HT5.out.size; have c10 : w5.cell? ⟨pb, 10, none⟩ = some (.slice A N cap) := hvo2.out ▸ h5.cell 10; have hpb5 := h5.lt; clear h5 t5 hmap5 hturn5) | (at_builtin; refine wp_app1_at rfl _ _ _ rfl 99 1 8 _ Tryd.underlying91 info_ptr rfl (by decide) 0 (.slice A N cap) N _ rfl HOWN.out [.pointer (some ⟨w3.heap.size, 0, none⟩)] w5.heap.size (by simp) rfl rfl one_ptr hz1 hz2 (Nat.zero_le _) ?_; intro g2 cap2 w6 hlc2 hcm2 hown2 hgrow2 hat2; have hd6 := HD5.out.keep (Tur.of_grown hgrow2) HNP.out; have c11 : w6.cell? ⟨pb, 10, none⟩ = some M.vo := hd6.cell 10; have f11 := hd6.free 10))
  have hx6 : ¬ F w3.heap.size := fun e => by have := H3.out.flt _ e; omega
  obtain ⟨h7, t7⟩ := WAt.opened H5.out ⟨4, name, ⟨#[]⟩⟩ HX5.out hx6 (by rw [hvo2.out]; exact hgrow2) hown2 HNN1.out (by rw [hvo2.out]; exact hat2)
  have hF7 : ∀ i, (F i ∨ i = g2 ∨ i = w3.heap.size) → F i ∨ w.heap.size ≤ i := by
    rintro i (e | e | e)
    · exact .inl e
    · rcases hat2 with e2 | e2
      · left; rw [e]; exact H3.out.fo _ (by rw [hvo2.out]; exact e2)
      · right; have := HSZ5.out; omega
    · right; have := HB3.out.size; omega
  have hT7 := HT5.out.trans t7 (fun _ _ e => e)
  clear hgrow2 hat2 hown2 hd6 c11 f11
  refine (wo_event h7 ⟨1, 4, name, ⟨#[]⟩, 0⟩ hnt).mono ?_
  rintro e w8 ⟨M', F', rfl, h8, t8, f8, m8, -⟩
  go_wp2_with fail
  go_ret
  refine ⟨M', F', rfl, (by rw [HFD.out] at h8; exact h8), hT7.trans t8 (fun i hi e => (hF7 i e).resolve_right (by omega)), fun i hi => ?_, by rw [m8]; exact HMM.out⟩
  rcases f8 i hi with e | e
  · exact hF7 i e
  · right; have := hT7.size; omega
end Go.Proofs.YtdbdmgmenojcaaaDoor
namespace Go.Proofs.YtdbdmgmenojcaaaDoor
open Go.RowKit Wd
open Go.WideMaps Go.WideElems Go.WideAt
set_option maxRecDepth 20000 in
set_option maxHeartbeats 4000000 in
theorem wo_open {w : World} {F : Nat → Prop} {pb : Nat} {M : Mem} {st : St} (h : WAt w F pb M st) (k : Int) (name : ByteArray) (hk : name.size ≤ maxLen) (hno : st.opn.length ≤ 1000000000) (hnt : st.trace.length ≤ 1000000000) (hnr : st.replies.length ≤ 1000000000) (hnf : st.fails.length ≤ 1000000000) (hnm : M.m ≤ 1000000000) :
    Calls Tryd.prog 35 #[.pointer (some ⟨pb, 0, none⟩), .int .u8 k, .string name] w fun e w' => ∃ M' F', e = .returned (.int .i64 (openL st k name).2) ∧ WAt w' F' pb M' (openL st k name).1 ∧ Tur F w w' ∧ (∀ g, F' g → F g ∨ w.heap.size ≤ g) ∧ M'.m ≤ M.m + 1 := by
  obtain ⟨o, ho⟩ : ∃ o, o = openL st k name := ⟨_, rfl⟩
  rw [← ho]
  have HOK := Lib.hid ho
  unfold openL at ho
  have H := Lib.hid h
  have HLT := Lib.hid h.lt
  clear h
  by_cases hA : k < 1 ∨ 5 < k
  · rw [if_pos hA] at ho
    have HO := Lib.hid ho
    clear ho
    rcases hA with hA | hA
    · go_enter Tryd.func35, Tryd.ntmps35
      go_wp2_with fail
      refine (wo_none H.out).mono ?_
      rintro e w2 ⟨rfl, rfl⟩
      go_wp2_with fail
      go_ret
      exact ⟨M, F, by rw [HO.out]; rfl, by rw [HO.out]; exact H.out, Tur.of_gr (by exact Below.refl _ _), fun _ h => .inl h, Nat.le_succ _⟩
    · have hA' : ¬ k < 1 := by omega
      go_enter Tryd.func35, Tryd.ntmps35
      go_wp2_with fail
      refine (wo_none H.out).mono ?_
      rintro e w2 ⟨rfl, rfl⟩
      go_wp2_with fail
      go_ret
      exact ⟨M, F, by rw [HO.out]; rfl, by rw [HO.out]; exact H.out, Tur.of_gr (by exact Below.refl _ _), fun _ h => .inl h, Nat.le_succ _⟩
  · rw [if_neg hA] at ho
    have hk1 : ¬ k < 1 := by omega
    have hk5 : ¬ 5 < k := by omega
    cases hf : find st k name with
    | some i =>
      rw [hf, if_pos (show (some i).isSome = true from rfl)] at ho
      have HO := Lib.hid ho
      have HFV : Hid (findV M st k name = .pointer (some ⟨M.gs.getD i 0, 0, none⟩)) := by unfold Hid findV; rw [hf]
      clear ho hf hA
      go_enter Tryd.func35, Tryd.ntmps35
      go_wp2_with fail
      refine (wo_none H.out).mono ?_
      rintro e w2 ⟨rfl, rfl⟩
      go_wp2_with fail
      refine (wo_find H.out _ name hno).mono ?_
      rintro e w1 ⟨rfl, hb1⟩
      rw [HFV.out]
      have H1 := Lib.hid (H.out.pure hb1)
      have HB1 := Lib.hid hb1
      clear hb1
      go_wp2_with fail
      go_ret
      exact ⟨M, F, by rw [HO.out]; rfl, by rw [HO.out]; exact H1.out, Tur.of_gr (by exact HB1.out), fun _ h => .inl h, Nat.le_succ _⟩
    | none =>
      rw [hf, if_neg (by decide)] at ho
      have HFV : Hid (findV M st k name = .pointer none) := by unfold Hid findV; rw [hf]
      have HFN := Lib.hid hf
      obtain ⟨A, cap, hvo, hcap1, hcap2⟩ := own_form H.out.rowO
      have HVO := Lib.hid hvo
      obtain ⟨N, hN⟩ : ∃ N, N = st.opn.length := ⟨_, rfl⟩
      have HNN := Lib.hid hN
      obtain ⟨lim, hlim⟩ : ∃ lim, lim = st.lim := ⟨_, rfl⟩
      have HLIM := Lib.hid hlim.symm
      rw [← hN] at hcap1
      rw [← hN] at HVO
      by_cases hL : lim ≤ (N : Int)
      · rw [if_pos (by rw [← hlim, ← hN]; exact hL)] at ho
        have HO := Lib.hid ho
        have hLb : decide (lim ≤ (N : Int)) = true := decide_eq_true hL
        clear ho hf hA hvo hN hlim
        go_enter Tryd.func35, Tryd.ntmps35
        go_wp2_with fail
        refine (wo_none H.out).mono ?_
        rintro e w2 ⟨rfl, rfl⟩
        go_wp2_with fail
        refine (wo_find H.out _ name hno).mono ?_
        rintro e w1 ⟨rfl, hb1⟩
        rw [HFV.out]
        have H1 := Lib.hid (H.out.pure hb1)
        have HB1 := Lib.hid hb1
        clear hb1
        have c10 : w1.cell? ⟨pb, 10, none⟩ = some (.slice A N cap) := HVO.out ▸ H1.out.cell 10
        have c5 : w1.cell? ⟨pb, 5, none⟩ = some (.int .i64 lim) := HLIM.out ▸ H1.out.cell 5
        go_wp2_with fail
        go_quiet (fail)
        have H2 := Lib.hid (H1.out.drewN nq)
        have HB2 := Lib.hid (HB1.out.trans ((below_drew w1 nq).mono HB1.out.size))
        generalize w1.drewN nq = w2 at *
        clear c10 c5
        go_wp2_with fail
        go_ret
        exact ⟨M, F, by rw [HO.out]; rfl, by rw [HO.out]; exact H2.out, Tur.of_gr (by exact HB2.out), fun _ h => .inl h, Nat.le_succ _⟩
      · rw [if_neg (by rw [← hlim, ← hN]; exact hL)] at ho
        have hLb : decide (lim ≤ (N : Int)) = false := decide_eq_false hL
        have HLK : Hid ((((fun l => (st.files l).map Value.string) name.data.toList).getD (.string ⟨#[]⟩) = .string ((st.files name.data.toList).getD ⟨#[]⟩)) ∧ ((fun l => (st.files l).map Value.string) name.data.toList).isSome = (st.files name.data.toList).isSome) := by
          unfold Hid
          show ((st.files name.data.toList).map Value.string).getD _ = _ ∧ ((st.files name.data.toList).map Value.string).isSome = _
          cases st.files name.data.toList <;> exact ⟨rfl, rfl⟩
        obtain ⟨fd, hfd⟩ : ∃ fd, fd = (st.files name.data.toList).getD ⟨#[]⟩ := ⟨_, rfl⟩
        obtain ⟨fb, hfb⟩ : ∃ fb, fb = (st.files name.data.toList).isSome := ⟨_, rfl⟩
        rw [← hfd, ← hfb] at HLK
        rw [← hfb] at ho
        have HFD := Lib.hid hfd
        have HFB9 := Lib.hid hfb
        have hfdz : ∃ d, plainElem (H := Unit) Tryd.prog 9 (.string fd) = some (d, []) := by
          rw [hfd]
          cases hx : st.files name.data.toList with
          | none => exact plain_zero_string
          | some d =>
            have := H.out.map.some_has (l := name.data.toList) (v := .string d) (by show (st.files name.data.toList).map Value.string = _; rw [hx]; rfl)
            exact this
        have HFDZ := Lib.hid hfdz
        clear hf hA hvo hN hlim hfd hfb hfdz
        cases hfl : failB st 1 name with
        | true =>
          rw [hfl, if_pos (.inl rfl)] at ho
          have HO := Lib.hid ho
          have HFB := Lib.hid hfl
          clear ho hfl
          go_enter Tryd.func35, Tryd.ntmps35
          go_wp2_with fail
          refine (wo_none H.out).mono ?_
          rintro e w2 ⟨rfl, rfl⟩
          go_wp2_with fail
          refine (wo_find H.out _ name hno).mono ?_
          rintro e w1 ⟨rfl, hb1⟩
          rw [HFV.out]
          have H1 := Lib.hid (H.out.pure hb1)
          have HB1 := Lib.hid hb1
          clear hb1
          have c10 : w1.cell? ⟨pb, 10, none⟩ = some (.slice A N cap) := HVO.out ▸ H1.out.cell 10
          have c5 : w1.cell? ⟨pb, 5, none⟩ = some (.int .i64 lim) := HLIM.out ▸ H1.out.cell 5
          go_wp2_with fail
          go_quiet (fail)
          have H2 := Lib.hid (H1.out.drewN nq)
          have HB2 := Lib.hid (HB1.out.trans ((below_drew w1 nq).mono HB1.out.size))
          generalize w1.drewN nq = w2 at *
          clear c10 c5
          have c8 : w2.cell? ⟨pb, 8, none⟩ = some (.map (some M.bm)) := H2.out.cell 8
          go_wp2_with (at_lookup; refine wp_map_look_ok rfl _ _ _ rfl klaw Tryd.underlying88 (.string ⟨#[]⟩) (zero_string _) plain_zero_string rfl H2.out.map _ _ rfl (keyOf_string_mk Tryd.underlying9 hk) ?_; rw [HLK.out.1, HLK.out.2])
          refine (wo_fail H2.out 1 name hnf).mono ?_
          rintro e w3 ⟨rfl, hb3⟩
          rw [HFB.out]
          have H3 := Lib.hid (H2.out.pure hb3)
          have HB3 := Lib.hid (HB2.out.trans (hb3.mono HB2.out.size))
          clear hb3 c8
          go_wp2_with fail
          go_ret
          exact ⟨M, F, by rw [HO.out]; rfl, by rw [HO.out]; exact H3.out, Tur.of_gr (by exact HB3.out), fun _ h => .inl h, Nat.le_succ _⟩
        | false =>
          have HFB := Lib.hid hfl
          by_cases hB : k = 1 ∧ name ≠ minus ∧ fb = false
          · rw [if_pos (.inr hB)] at ho
            have HO := Lib.hid ho
            obtain ⟨rfl, hnm2, rfl⟩ := hB
            have hnb : (name.toList == [45]) = false := by
              have : (name.toList == minus.toList) = false := by rw [str_eq]; exact decide_eq_false hnm2
              rw [minus_list] at this
              exact this
            have hnb2 : (!(name.toList == [45])) = true := by rw [hnb]; rfl
            clear ho hfl hnm2
            go_enter Tryd.func35, Tryd.ntmps35
            go_wp2_with fail
            refine (wo_none H.out).mono ?_
            rintro e w2 ⟨rfl, rfl⟩
            go_wp2_with fail
            refine (wo_find H.out _ name hno).mono ?_
            rintro e w1 ⟨rfl, hb1⟩
            rw [HFV.out]
            have H1 := Lib.hid (H.out.pure hb1)
            have HB1 := Lib.hid hb1
            clear hb1
            have c10 : w1.cell? ⟨pb, 10, none⟩ = some (.slice A N cap) := HVO.out ▸ H1.out.cell 10
            have c5 : w1.cell? ⟨pb, 5, none⟩ = some (.int .i64 lim) := HLIM.out ▸ H1.out.cell 5
            go_wp2_with fail
            go_quiet (fail)
            have H2 := Lib.hid (H1.out.drewN nq)
            have HB2 := Lib.hid (HB1.out.trans ((below_drew w1 nq).mono HB1.out.size))
            generalize w1.drewN nq = w2 at *
            clear c10 c5
            have c8 : w2.cell? ⟨pb, 8, none⟩ = some (.map (some M.bm)) := H2.out.cell 8
            go_wp2_with (at_lookup; refine wp_map_look_ok rfl _ _ _ rfl klaw Tryd.underlying88 (.string ⟨#[]⟩) (zero_string _) plain_zero_string rfl H2.out.map _ _ rfl (keyOf_string_mk Tryd.underlying9 hk) ?_; rw [HLK.out.1, HLK.out.2])
            refine (wo_fail H2.out 1 name hnf).mono ?_
            rintro e w3 ⟨rfl, hb3⟩
            rw [HFB.out]
            have H3 := Lib.hid (H2.out.pure hb3)
            have HB3 := Lib.hid (HB2.out.trans (hb3.mono HB2.out.size))
            clear hb3 c8
            go_wp2_with fail
            go_ret
            exact ⟨M, F, by rw [HO.out]; rfl, by rw [HO.out]; exact H3.out, Tur.of_gr (by exact HB3.out), fun _ h => .inl h, Nat.le_succ _⟩
          · rw [if_neg (by rintro (h | h); (rw [hfl] at h; cases h); exact hB h)] at ho
            have hL' : ¬ st.lim ≤ st.opn.length := by rw [HLIM.out, ← HNN.out]; exact hL
            have hf' : find st k name = none := HFN.out
            have hfb' : (st.files name.data.toList).isSome = fb := HFB9.out.symm
            have hok : openL st k name = (okSt st k name, 0) := HOK.out.symm.trans ho
            have hkv : (k = 1 ∧ name = minus) ∨ (k = 1 ∧ ¬ name = minus ∧ fb = true) ∨ k = 2 ∨ k = 3 ∨ k = 4 ∨ k = 5 := by
              have : k = 1 ∨ k = 2 ∨ k = 3 ∨ k = 4 ∨ k = 5 := by omega
              rcases this with h | h | h | h | h
              · by_cases hm : name = minus
                · exact .inl ⟨h, hm⟩
                · refine .inr (.inl ⟨h, hm, ?_⟩)
                  cases hb : fb
                  · exact absurd ⟨h, hm, hb⟩ hB
                  · rfl
              · simp [h]
              · simp [h]
              · simp [h]
              · simp [h]
            rw [HOK.out, hok]
            rcases hkv with ⟨rfl, hm⟩ | ⟨rfl, hm, rfl⟩ | rfl | rfl | rfl | rfl
            · exact wo_open1a H.out name hk hno hnt hnr hnf hnm hf' hL' hfl hm
            · exact wo_open1b H.out name hk hno hnt hnr hnf hnm hf' hL' hfl hm hfb'
            · exact wo_open2 H.out name hk hno hnt hnr hnf hnm hf' hL' hfl
            · exact wo_open3 H.out name hk hno hnt hnr hnf hnm hf' hL' hfl
            · exact wo_open4 H.out name hk hno hnt hnr hnf hnm hf' hL' hfl
            · exact wo_open5 H.out name hk hno hnt hnr hnf hnm hf' hL' hfl
end Go.Proofs.YtdbdmgmenojcaaaDoor
