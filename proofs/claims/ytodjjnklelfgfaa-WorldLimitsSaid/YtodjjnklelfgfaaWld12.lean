/- A world: the walks of Trace, and of New where no replies and no fails are handed in. -/
import Derived.Test.YtodjjnklelfgfaaWld11
import Derived.StillTailTactics
namespace Go.Proofs.Ytodjjnklelfgfaa
open Go.RowKit Wd
open Go.WideMaps Go.WideElems Go.WideAt

set_option maxRecDepth 100000 in
theorem wo_cloneE {w : World} {v : Value} (l : List Ev) (hrow : w.ownsRow 0 41 5 v l.length (evals l)) (hn : l.length ≤ 1000000000) :
    Calls Try.prog 36 #[v] w fun e w' => ∃ v', e = .returned v' ∧ w'.ownsRow w.heap.size 41 5 v' l.length (evals l) ∧ Below w.heap.size w w' := by
  rcases hrow.2 with ⟨rfl, h0⟩ | ⟨g, cap, cur, rfl, hg0, hcur, hlc, hcm, hcs, htk⟩
  · have hl : l = [] := List.eq_nil_of_length_eq_zero h0
    subst hl
    have hnil := fun w => Lib.run_eql_slice_nil (P := Try.prog) w 37 41 none 0 0 0 0 Try.underlying37
    go_enter Try.func36, Try.ntmps36
    go_wp2_with fail
    go_ret
    exact ⟨_, rfl, World.ownsRow_nil _ _ _ _, Below.refl _ _⟩
  · have HROW := Lib.hid hrow
    have hz1 : 0 + l.length ≤ maxLen := by unfold maxLen; omega
    have hz2 : (0 + l.length) * 48 ≤ 140737488355328 := by omega
    have hba := (Below.refl w.heap.size w).alloc (Nat.le_refl _) (.cells #[] 41)
    have HBA := Lib.hid hba
    have HR1 := Lib.hid (own_of_block hrow (fun g hg => hba.block g (own_lt hrow hg).choose_spec.2))
    have HE : Hid ((w.alloc (.cells #[] 41)).ownsRow w.heap.size 41 5 (.slice (some ⟨w.heap.size, 0, none⟩) 0 0) 0 []) :=
      ⟨rfl, .inr ⟨w.heap.size, 0, #[], rfl, Nat.le_refl _, Blk.new w _ _, Nat.le_refl _, Nat.zero_le _, rfl, rfl⟩⟩
    have hall : ∀ u ∈ evals l, u.oneCell' = true := by
      intro u hu
      obtain ⟨e, -, he⟩ := List.mem_flatMap.1 hu
      exact one_ev u he
    have HALL := Lib.hid hall
    clear hrow hcur hcs htk hba hall hg0
    have hnil := fun w => Lib.run_eql_slice_nil (P := Try.prog) w 37 41 (some ⟨g, 0, none⟩) l.length cap 0 0 Try.underlying37
    go_enter Try.func36, Try.ntmps36
    go_wp2_with (at_builtin; refine wp_appn rfl _ _ _ rfl 41 5 48 _ Try.underlying37 info_ev rfl (by decide) w.heap.size (.slice (some ⟨w.heap.size, 0, none⟩) 0 0) 0 [] rfl HE.out 0 (.slice (some ⟨g, 0, none⟩) l.length cap) l.length _ rfl HR1.out HALL.out hz1 hz2 (by simp) ?_; intro A1 cap1 w1 hown1 hgrow1 hat1)
    go_ret
    refine ⟨_, rfl, by have := hown1; simp only [Nat.zero_add, List.nil_append] at this ⊢; exact this, ?_⟩
    exact ⟨hgrow1.os.trans HBA.out.os, hgrow1.tape.trans HBA.out.tape, hgrow1.output.trans HBA.out.output, Nat.le_trans HBA.out.size hgrow1.size, fun k hk => (hgrow1.block k (by have := HBA.out.size; omega) (by intro e; injection e with e; change k = w.heap.size at e; omega)).trans (HBA.out.block k hk)⟩
set_option maxRecDepth 100000 in
theorem wo_trace {w : World} {F : Nat → Prop} {pb : Nat} {M : Mem} {st : St} (h : WAt w F pb M st) (hn : st.trace.length ≤ 1000000000) :
    Calls Try.prog 14 #[.pointer (some ⟨pb, 0, none⟩)] w fun e w' => ∃ v', e = .returned v' ∧ w'.ownsRow w.heap.size 41 5 v' st.trace.length (evals st.trace) ∧ Below w.heap.size w w' := by
  have c12 : w.cell? ⟨pb, 12, none⟩ = some M.vt := h.cell 12
  have H := Lib.hid h
  clear h
  go_enter Try.func14, Try.ntmps14
  go_wp2_with fail
  refine (wo_none H.out).mono ?_
  rintro e w2 ⟨rfl, rfl⟩
  go_wp2_with fail
  refine (wo_cloneE st.trace H.out.rowT hn).mono ?_
  rintro e w3 ⟨v', rfl, hr, hb⟩
  go_wp2_with fail
  go_ret
  exact ⟨v', rfl, hr, hb⟩
set_option maxRecDepth 100000 in
theorem wo_cloneR0 (w : World) : Calls Try.prog 37 #[.slice none 0 0] w fun e w' => e = .returned (.slice none 0 0) ∧ w = w' := by
  have hnil := fun w => Lib.run_eql_slice_nil (P := Try.prog) w 49 63 none 0 0 0 0 Try.underlying49
  go_enter Try.func37, Try.ntmps37
  go_wp2_with fail
  go_ret
  exact ⟨rfl, rfl⟩
set_option maxRecDepth 100000 in
theorem wo_cloneF0 (w : World) : Calls Try.prog 38 #[.slice none 0 0] w fun e w' => e = .returned (.slice none 0 0) ∧ w = w' := by
  have hnil := fun w => Lib.run_eql_slice_nil (P := Try.prog) w 50 65 none 0 0 0 0 Try.underlying50
  go_enter Try.func38, Try.ntmps38
  go_wp2_with fail
  go_ret
  exact ⟨rfl, rfl⟩
def Wd.filesOf (l : List (ByteArray × ByteArray)) : List UInt8 → Option ByteArray := l.foldl (fun f p => setF f p.1.data.toList p.2) (fun _ => none)
theorem run_look_none {P : Program} {k e : TypeId} {w : World} {b m : Nat} {f : List UInt8 → Option Value} (h : MapS P k e w b m f) {t : TypeId} (K : Go.Maps.Keyed P k) (ht : P.underlying t = some (.map k e)) {z : Value} (hz : (zeroValue e).run P w = .ok z w)
    {key : Value} {l : List UInt8} (hkey : keyOf P k key = some (.string l)) (hn : f l = none) : (Instr.lookup t (.map (some b)) key true).run P w = .ok (.tuple #[z, .bool false]) w := by
  obtain ⟨D, hown, _, hf⟩ := h
  obtain ⟨es, clock, hb, F, _, rfl⟩ := hown
  rcases Maps.fit_look true K ht hz hb F hkey with ⟨hrun, _, _⟩ | ⟨e0, y, _, _, _, _, hat, _⟩
  · exact hrun
  · have := has_of_atKey hat
    rw [(hf l).1 hn] at this
    cases this
theorem filesOf_succ {l : List (ByteArray × ByteArray)} {k : Nat} (h : k < l.length) : filesOf (l.take (k + 1)) = setF (filesOf (l.take k)) l[k].1.data.toList l[k].2 := by
  unfold filesOf
  rw [List.take_succ_eq_append_getElem h, List.foldl_append]
  rfl
set_option maxRecDepth 20000 in
set_option maxHeartbeats 4000000 in
theorem wo_new0 {w : World} {g cap : Nat} (l : List (ByteArray × ByteArray)) (stdin : ByteArray) (lim clock chance : Int) (hg : g < w.heap.size) (hcells : ∀ i, (h : i < l.length) → w.cell? ⟨g, i * 2, none⟩ = some (.string l[i].1) ∧ w.cell? ⟨g, i * 2 + 1, none⟩ = some (.string l[i].2))
    (hcap : l.length ≤ cap) (hl : l.length ≤ 1000) (hsz : ∀ p ∈ l, p.1.size ≤ maxLen ∧ p.2.size ≤ maxLen) (hnew : ∀ k, (h : k < l.length) → filesOf (l.take k) l[k].1.data.toList = none) (hlim : 0 ≤ lim ∧ lim ≤ 16) :
    Calls Try.prog 15 #[.agg #[.slice (some ⟨g, 0, none⟩) l.length cap, .string stdin, .slice none 0 0, .slice none 0 0, .int .i64 lim, .int .i64 clock, .int .u64 chance]] w fun e w' => ∃ pb M F, e = .returned (.tuple #[.pointer (some ⟨pb, 0, none⟩), .int .i64 0]) ∧ WAt w' F pb M ⟨lim, clock, filesOf l, stdin, [], chance, [], [], []⟩ ∧ Below w.heap.size w w' ∧ (∀ g, F g → w.heap.size ≤ g) ∧ M.m ≤ l.length := by
  have HC := Lib.hid hcells
  have HNEW := Lib.hid hnew
  have HSZ := Lib.hid hsz
  have HB := Lib.hid (Blk.new w 53 #[.slice (some ⟨g, 0, none⟩) l.length cap, .string stdin, .slice none 0 0, .slice none 0 0, .int .i64 lim, .int .i64 clock, .int .u64 chance])
  have HB0 := Lib.hid ((Below.refl w.heap.size w).alloc (Nat.le_refl _) (.cells #[.slice (some ⟨g, 0, none⟩) l.length cap, .string stdin, .slice none 0 0, .slice none 0 0, .int .i64 lim, .int .i64 clock, .int .u64 chance] 53))
  obtain ⟨n, hnn⟩ : ∃ n, n = l.length := ⟨_, rfl⟩
  rw [← hnn] at HB HB0 hcap hl ⊢
  have HNN := Lib.hid hnn
  clear hcells hnew hsz hnn
  go_enter Try.func15, Try.ntmps15
  go_wp2_with fail
  generalize w.alloc (.cells #[.slice (some ⟨g, 0, none⟩) n cap, .string stdin, .slice none 0 0, .slice none 0 0, .int .i64 lim, .int .i64 clock, .int .u64 chance] 53) = w1 at *
  obtain ⟨B, hB⟩ : ∃ B, B = w.heap.size := ⟨_, rfl⟩
  rw [← hB] at HB HB0 ⊢
  have HBE := Lib.hid hB
  have S1 : ∀ w', Blk w' B 53 #[.slice (some ⟨g, 0, none⟩) n cap, .string stdin, .slice none 0 0, .slice none 0 0, .int .i64 lim, .int .i64 clock, .int .u64 chance] → w'.cell? ⟨B, 0, none⟩ = some (.slice (some ⟨g, 0, none⟩) n cap) ∧ w'.cell? ⟨B, 1, none⟩ = some (.string stdin) ∧ w'.cell? ⟨B, 2, none⟩ = some (.slice none 0 0) ∧ w'.cell? ⟨B, 3, none⟩ = some (.slice none 0 0) ∧ w'.cell? ⟨B, 4, none⟩ = some (.int .i64 lim) ∧ w'.cell? ⟨B, 5, none⟩ = some (.int .i64 clock) ∧ w'.cell? ⟨B, 6, none⟩ = some (.int .u64 chance) := fun w' h => ⟨h.cell 0, h.cell 1, h.cell 2, h.cell 3, h.cell 4, h.cell 5, h.cell 6⟩
  obtain ⟨c0, c1, c2, c3, c4, c5, c6⟩ := S1 w1 HB.out
  clear hB S1
  have hmm := @run_makeMap Try.prog
  go_region_held3 (fun w' => w'.cell? ⟨B, 0, none⟩ = some (.slice (some ⟨g, 0, none⟩) n cap) ∧ w'.cell? ⟨B, 1, none⟩ = some (.string stdin) ∧ w'.cell? ⟨B, 2, none⟩ = some (.slice none 0 0) ∧ w'.cell? ⟨B, 3, none⟩ = some (.slice none 0 0) ∧ w'.cell? ⟨B, 4, none⟩ = some (.int .i64 lim) ∧ w'.cell? ⟨B, 5, none⟩ = some (.int .i64 clock) ∧ w'.cell? ⟨B, 6, none⟩ = some (.int .u64 chance)) (go_keep) (first | (go_at_call 37; refine (wo_cloneR0 _).mono ?_; rintro e w2 ⟨rfl, rfl⟩) | (go_at_call 38; refine (wo_cloneF0 _).mono ?_; rintro e w2 ⟨rfl, rfl⟩))
  all_goals
    have hmap0 := MapS.made Try.prog 9 9 w1
    obtain ⟨bm, hbm⟩ : ∃ bm, bm = w1.heap.size := ⟨_, rfl⟩
    rw [← hbm] at hmap0
    have HBM := Lib.hid hbm
    have HWA : Hid (∃ M0 : Mem, M0.m = 0 ∧ M0.vr = .slice none 0 0 ∧ WAt ((w1.alloc (.map #[] 0)).alloc (.cells #[.bool true, .slice (some ⟨g, 0, none⟩) n cap, .string stdin, .slice none 0 0, .slice none 0 0, .int .i64 lim, .int .i64 clock, .int .u64 chance, .map (some w1.heap.size), .string stdin, .slice none 0 0, .int .u64 chance, .slice none 0 0, .slice none 0 0, .slice none 0 0] 84)).drew (fun k => k = w1.heap.size ∨ k = w1.heap.size + 1) (w1.heap.size + 1) M0 ⟨lim, clock, filesOf (l.take 0), stdin, [], chance, [], [], []⟩) := by
      refine ⟨⟨.slice (some ⟨g, 0, none⟩) n cap, .string stdin, .slice none 0 0, .slice none 0 0, .int .u64 chance, w1.heap.size, 0, .slice none 0 0, [], .slice none 0 0, .slice none 0 0, .slice none 0 0⟩, rfl, rfl, ?_⟩
      exact {
        flt := fun k hk => by
          show k < ((w1.alloc _).alloc _).heap.size
          simp; omega
        fp := .inr rfl
        fm := .inl rfl
        fo := fun g hg => by cases hg
        ft := fun g hg => by cases hg
        fr := fun g hg => by cases hg
        ff := fun g hg => by cases hg
        fg := fun g hg => by cases hg
        head := by
          have h := Blk.new (w1.alloc (.map #[] 0)) 84 #[.bool true, .slice (some ⟨g, 0, none⟩) n cap, .string stdin, .slice none 0 0, .slice none 0 0, .int .i64 lim, .int .i64 clock, .int .u64 chance, .map (some w1.heap.size), .string stdin, .slice none 0 0, .int .u64 chance, .slice none 0 0, .slice none 0 0, .slice none 0 0]
          rw [show (w1.alloc (.map #[] 0)).heap.size = w1.heap.size + 1 by simp] at h
          exact h
        map := by
          rw [hbm] at hmap0
          exact hmap0.of_block (((Below.refl (w1.alloc (.map #[] 0)).heap.size (w1.alloc (.map #[] 0))).alloc (Nat.le_refl _) _).block _ (by simp))
        rowO := World.ownsRow_nil _ _ _ _
        strm := fun i h => by simp at h
        nd := List.nodup_nil
        rowT := World.ownsRow_nil _ _ _ _
        rowR := World.ownsRow_nil _ _ _ _
        rowF := World.ownsRow_nil _ _ _ _ }
    have HB2 := Lib.hid (((HB0.out.alloc (by have := HB0.out.size; have := HBE.out; omega) (.map #[] 0)).alloc (by have := HB0.out.size; have := HBE.out; simp; omega) (.cells #[.bool true, .slice (some ⟨g, 0, none⟩) n cap, .string stdin, .slice none 0 0, .slice none 0 0, .int .i64 lim, .int .i64 clock, .int .u64 chance, .map (some w1.heap.size), .string stdin, .slice none 0 0, .int .u64 chance, .slice none 0 0, .slice none 0 0, .slice none 0 0] 84)).drew)
    have HBS : Hid (Blk ((w1.alloc (.map #[] 0)).alloc (.cells #[.bool true, .slice (some ⟨g, 0, none⟩) n cap, .string stdin, .slice none 0 0, .slice none 0 0, .int .i64 lim, .int .i64 clock, .int .u64 chance, .map (some w1.heap.size), .string stdin, .slice none 0 0, .int .u64 chance, .slice none 0 0, .slice none 0 0, .slice none 0 0] 84)).drew B 53 #[.slice (some ⟨g, 0, none⟩) n cap, .string stdin, .slice none 0 0, .slice none 0 0, .int .i64 lim, .int .i64 clock, .int .u64 chance]) :=
      below_blk HB.out (((((Below.refl w1.heap.size w1).alloc (Nat.le_refl _) (.map #[] 0)).alloc (by simp) (.cells #[.bool true, .slice (some ⟨g, 0, none⟩) n cap, .string stdin, .slice none 0 0, .slice none 0 0, .int .i64 lim, .int .i64 clock, .int .u64 chance, .map (some w1.heap.size), .string stdin, .slice none 0 0, .int .u64 chance, .slice none 0 0, .slice none 0 0, .slice none 0 0] 84)).drew)) HB.out.lt
    have HB1S := Lib.hid HB0.out.size
    clear hmap0 hbm c0 c1 c2 c3 c4 c5 c6 hmm
    generalize ((w1.alloc (.map #[] 0)).alloc (.cells #[.bool true, .slice (some ⟨g, 0, none⟩) n cap, .string stdin, .slice none 0 0, .slice none 0 0, .int .i64 lim, .int .i64 clock, .int .u64 chance, .map (some w1.heap.size), .string stdin, .slice none 0 0, .int .u64 chance, .slice none 0 0, .slice none 0 0, .slice none 0 0] 84)).drew = w2 at *
    obtain ⟨M0, hM0, hMv, hWA⟩ := HWA.out
    have HMV := Lib.hid hMv
    have c0 : w2.cell? ⟨B, 0, none⟩ = some (.slice (some ⟨g, 0, none⟩) n cap) := HBS.out.cell 0
    have HW0 := Lib.hid hWA
    have HM0 := Lib.hid hM0
    clear HWA hWA hM0 hMv
    obtain ⟨pb, hpb⟩ : ∃ pb, pb = w1.heap.size + 1 := ⟨_, rfl⟩
    rw [← hpb] at HW0 ⊢
    obtain ⟨F0, hF0⟩ : ∃ F0 : Nat → Prop, F0 = fun k => k = w1.heap.size ∨ k = pb := ⟨_, rfl⟩
    have HF0 : Hid (∀ k, F0 k → w.heap.size ≤ k) := by
      unfold Hid; intro k hk; rw [hF0] at hk; have := HB1S.out
      rcases hk with hk | hk <;> omega
    rw [← hF0] at HW0
    clear hF0 hpb
    generalize w1.heap.size = sz1 at *
    go_wp2_with fail
    go_loopw [28] (fun i wr => ∃ (k : Nat) (M' : Mem), k ≤ n ∧ i = .int .i64 k ∧ WAt wr F0 pb M' ⟨lim, clock, filesOf (l.take k), stdin, [], chance, [], [], []⟩ ∧ M'.m ≤ k ∧ M'.vr = .slice none 0 0 ∧ Below B w wr ∧ Blk wr B 53 #[.slice (some ⟨g, 0, none⟩) n cap, .string stdin, .slice none 0 0, .slice none 0 0, .int .i64 lim, .int .i64 clock, .int .u64 chance]) (fun i _ => n - (intOf i).toNat)
    case atStart => exact ⟨0, M0, Nat.zero_le _, rfl, HW0.out, by rw [HM0.out]; exact Nat.le_refl _, HMV.out, HB2.out, HBS.out⟩
    case round =>
      obtain ⟨k, M', hk, rfl, hW, hm, hvr, hb, hS⟩ := hrel
      have HVR := Lib.hid hvr
      have HW := Lib.hid hW
      have HM := Lib.hid hm
      have HBB := Lib.hid hb
      have HSS := Lib.hid hS
      have hgB : g < B := by have := HBE.out; omega
      clear hW hm hb hS hvr
      by_cases hlt : k < n
      · have hkl : k < l.length := by have := HNN.out; omega
        obtain ⟨d0, d1⟩ := HC.out k hkl
        have d0' := (HBB.out.cell (p := ⟨g, k * 2, none⟩) hgB).trans d0
        have d1' := (HBB.out.cell (p := ⟨g, k * 2 + 1, none⟩) hgB).trans d1
        obtain ⟨hs1, hs2⟩ := HSZ.out l[k] (List.getElem_mem _)
        have hnone := HNEW.out k hkl
        have hfs := filesOf_succ hkl
        generalize l[k].1 = fname at *
        generalize l[k].2 = fdata at *
        have HNONE := Lib.hid hnone
        have HFS := Lib.hid hfs
        clear d0 d1 hnone hfs
        have HBA := Lib.hid ((Below.refl wr.heap.size wr).alloc (Nat.le_refl _) (.cells #[.string fname, .string fdata] 47))
        have HBN := Lib.hid (Blk.new wr 47 #[.string fname, .string fdata])
        have HWB := Lib.hid (HW.out.pure HBA.out)
        have HSB := Lib.hid (below_blk HSS.out HBA.out HSS.out.lt)
        have HBC := Lib.hid (HBB.out.trans (HBA.out.mono (by have := HBB.out.size; have := HBE.out; omega)))
        have hgl : g < wr.heap.size := by have := HBB.out.size; omega
        go_wp2_with fail
        generalize wr.alloc (.cells #[.string fname, .string fdata] 47) = w3 at *
        obtain ⟨X, hX⟩ : ∃ X, X = wr.heap.size := ⟨_, rfl⟩
        rw [← hX] at HBN ⊢
        have HXE := Lib.hid hX
        clear hX d0' d1'
        have c8 : w3.cell? ⟨pb, 8, none⟩ = some (.map (some M'.bm)) := HWB.out.cell 8
        obtain ⟨⟨n0, n1⟩, -⟩ := HBN.out.two
        have hlk : ∀ q, (Instr.lookup 81 (.map (some M'.bm)) (.string fname) true).run Try.prog (w3.drewN q) = .ok (.tuple #[.string ⟨#[]⟩, .bool false]) (w3.drewN q) := fun q => run_look_none (HWB.out.drewN q).map klaw Try.underlying81 (zero_string _) (keyOf_string_mk Try.underlying9 hs1) (by show ((filesOf (l.take k)) fname.data.toList).map Value.string = none; rw [HNONE.out]; rfl)
        go_wp2_with fail
        go_quiet (fail)
        have HW4 := Lib.hid (HWB.out.drewN nq)
        have HS4 : Hid (Blk (w3.drewN nq) B 53 #[.slice (some ⟨g, 0, none⟩) n cap, .string stdin, .slice none 0 0, .slice none 0 0, .int .i64 lim, .int .i64 clock, .int .u64 chance]) := HSB.out
        have HX4 : Hid (Blk (w3.drewN nq) X 47 #[.string fname, .string fdata]) := HBN.out
        have HB4 := Lib.hid (HBC.out.trans ((below_drew w3 nq).mono (by have := HBC.out.size; have := HBE.out; omega)))
        clear hlk c8 n0 n1
        generalize w3.drewN nq = w4 at *
        have c8 : w4.cell? ⟨pb, 8, none⟩ = some (.map (some M'.bm)) := HW4.out.cell 8
        obtain ⟨⟨n0, n1⟩, -⟩ := HX4.out.two
        go_wp2_with fail
        go_still_tail 8, (by kernel_rfl)
        change wpList _ _ _ _ _ w4.drew
        have HW5 := Lib.hid HW4.out.drew
        have HS5 : Hid (Blk w4.drew B 53 #[.slice (some ⟨g, 0, none⟩) n cap, .string stdin, .slice none 0 0, .slice none 0 0, .int .i64 lim, .int .i64 clock, .int .u64 chance]) := HS4.out
        have HB5 := Lib.hid HB4.out.drew
        clear c8 n0 n1
        generalize w4.drew = w5 at *
        have hmm2 : M'.m < maxLen := by unfold maxLen; have := HM.out; omega
        have HBM2 := Lib.hid (show ¬ B = M'.bm from map_ne HS5.out HW5.out.map)
        have HMB := Lib.hid (show (if ((fun x => (filesOf (l.take k) x).map Value.string) fname.data.toList).isSome then M'.m else M'.m + 1) ≤ k + 1 by have := HM.out; split <;> omega)
        go_wp2_with (at_mapUpdate; refine wp_map_put rfl _ _ _ _ rfl klaw Try.underlying9 Try.underlying81 rfl HW5.out.map hmm2 _ (.string fdata) _ rfl rfl (keyOf_string_mk Try.underlying9 hs1) ⟨_, plainElem_string Try.underlying9 hs2⟩ ?_; intro w6 hmap6 hturn6; obtain ⟨h6', t6⟩ := HW5.out.put fname.data.toList fdata hmap6 hturn6; obtain ⟨M6, hm6, hv6, h6⟩ : ∃ M6 : Mem, M6.m ≤ k + 1 ∧ M6.vr = .slice none 0 0 ∧ WAt w6 F0 pb M6 ⟨lim, clock, setF (filesOf (l.take k)) fname.data.toList fdata, stdin, [], chance, [], [], []⟩ := ⟨{ M' with m := (if ((fun x => (filesOf (l.take k) x).map Value.string) fname.data.toList).isSome then M'.m else M'.m + 1) }, HMB.out, HVR.out, h6'⟩; clear h6'; have HW6 := Lib.hid h6; have HS6 := Lib.hid (HS5.out.keep ((Tur.of_grown hturn6.grown).mono (fun k _ e => (show k = M'.bm by injection e))) HBM2.out); have HB6 := Lib.hid (HB5.out.trans (t6.below B (by have := HB5.out.size; have := HBE.out; omega) (fun k hk hF => by have := HF0.out _ hF; have := HBE.out; omega))); clear h6 t6 hmap6 hturn6)
        go_roundw
        case rel => exact ⟨k + 1, M6, by omega, by go_num, by rw [HFS.out]; exact HW6.out, hm6, hv6, HB6.out, HS6.out⟩
        case measure => simp [intOf]; omega
      · obtain rfl : k = n := by omega
        have c13 : wr.cell? ⟨pb, 13, none⟩ = some M'.vr := HW.out.cell 13
        rw [HVR.out] at c13
        have c4 : wr.cell? ⟨B, 4, none⟩ = some (.int .i64 lim) := HSS.out.cell 4
        have hl1 : ¬ lim < 0 := by omega
        have hl2 : ¬ 16 < lim := by omega
        have HLK := Lib.hid (show l.take k = l by rw [HNN.out, List.take_length])
        go_wp2_with fail
        go_loopw [57] (fun i wx => i = .int .i64 0 ∧ wx = wr) (fun _ _ => 0)
        case atStart => exact ⟨rfl, rfl⟩
        case round =>
          obtain ⟨rfl, rfl⟩ := hrel
          go_wp2_with fail
          go_ret2
          exact ⟨pb, M', F0, rfl, by have := HW.out; rw [HLK.out] at this; exact this, by have := HBB.out; rw [HBE.out] at this; exact this, HF0.out, HM.out⟩
end Go.Proofs.Ytodjjnklelfgfaa
