/- A world: New where replies are handed in. -/
import Derived.Test.YtdbdmgmenojcaaaDoorG3
import Derived.StillTailTactics
set_option linter.unusedVariables false
set_option linter.unusedSimpArgs false
namespace Go.Proofs.YtdbdmgmenojcaaaDoor
open Go.RowKit Wd
open Go.WideMaps Go.WideElems Go.WideAt

theorem WAt_new {wy : World} {bm n : Nat} {vr s2 : Value} {lr : List Rp} (l : List (ByteArray × ByteArray)) (g cap : Nat) (stdin : ByteArray) (lim clock chance : Int) (hm : MapS Tryd.prog 9 9 wy bm 0 (fun _ => none)) (hr : wy.ownsRow 0 87 3 vr lr.length (rvals lr)) :
    ∃ M0 : Mem, M0.m = 0 ∧ M0.vr = vr ∧ WAt (wy.alloc (.cells #[.bool true, .slice (some ⟨g, 0, none⟩) n cap, .string stdin, s2, .slice none 0 0, .int .i64 lim, .int .i64 clock, .int .u64 chance, .map (some bm), .string stdin, .slice none 0 0, .int .u64 chance, .slice none 0 0, vr, .slice none 0 0] 93)) (fun k => k = bm ∨ k = wy.heap.size ∨ vr.ownBlock = some k) wy.heap.size M0 ⟨lim, clock, filesOf (l.take 0), stdin, [], chance, [], lr, []⟩ := by
  have hb := (Below.refl wy.heap.size wy).alloc (Nat.le_refl _) (.cells #[.bool true, .slice (some ⟨g, 0, none⟩) n cap, .string stdin, s2, .slice none 0 0, .int .i64 lim, .int .i64 clock, .int .u64 chance, .map (some bm), .string stdin, .slice none 0 0, .int .u64 chance, .slice none 0 0, vr, .slice none 0 0] 93)
  have hbl := hm.lt
  refine ⟨⟨.slice (some ⟨g, 0, none⟩) n cap, .string stdin, s2, .slice none 0 0, .int .u64 chance, bm, 0, .slice none 0 0, [], .slice none 0 0, vr, .slice none 0 0⟩, rfl, rfl, ?_⟩
  exact {
    flt := fun k hk => by
      show k < (wy.alloc _).heap.size
      rcases hk with hk | hk | hk
      · simp; omega
      · simp; omega
      · obtain ⟨cur, -, h2⟩ := own_lt hr hk
        simp; omega
    fp := .inr (.inl rfl)
    fm := .inl rfl
    fo := fun g hg => by cases hg
    ft := fun g hg => by cases hg
    fr := fun g hg => .inr (.inr hg)
    ff := fun g hg => by cases hg
    fg := fun g hg => by cases hg
    head := Blk.new wy _ _
    map := hm.of_block (hb.block _ hbl)
    rowO := World.ownsRow_nil _ _ _ _
    strm := fun i h => by simp at h
    nd := List.nodup_nil
    rowT := World.ownsRow_nil _ _ _ _
    rowR := own_of_block hr (fun g hg => hb.block g (own_lt hr hg).choose_spec.2)
    rowF := World.ownsRow_nil _ _ _ _ }
theorem own_ge {w : World} {base e sz n k : Nat} {v : Value} {cs : List Value} (h : w.ownsRow base e sz v n cs) (hk : v.ownBlock = some k) : base ≤ k := by
  rcases h.2 with ⟨h1, -⟩ | ⟨g', cap, cur, h1, hb, hh, _⟩
  · rw [h1] at hk; cases hk
  · rw [h1] at hk; injection hk with hk; change g' = k at hk; omega
theorem new_st {w wy : World} {B bm g cap n : Nat} {vs v2 : Value} {lr : List Rp} (l : List (ByteArray × ByteArray)) (stdin : ByteArray) (lim clock chance : Int) (hb : Below B w wy) (hB : B < wy.heap.size)
    (hS : Blk wy B 38 #[.slice (some ⟨g, 0, none⟩) n cap, .string stdin, vs, .slice none 0 0, .int .i64 lim, .int .i64 clock, .int .u64 chance]) (hm : MapS Tryd.prog 9 9 wy bm 0 (fun _ => none)) (hr : wy.ownsRow 0 87 3 v2 lr.length (rvals lr)) (hbm : B ≤ bm) (hv : ∀ k, v2.ownBlock = some k → B ≤ k) :
    ∃ (M0 : Mem) (F0 : Nat → Prop), M0.m = 0 ∧ M0.vr = v2 ∧ WAt (wy.alloc (.cells #[.bool true, .slice (some ⟨g, 0, none⟩) n cap, .string stdin, vs, .slice none 0 0, .int .i64 lim, .int .i64 clock, .int .u64 chance, .map (some bm), .string stdin, .slice none 0 0, .int .u64 chance, .slice none 0 0, v2, .slice none 0 0] 93)) F0 wy.heap.size M0 ⟨lim, clock, filesOf (l.take 0), stdin, [], chance, [], lr, []⟩ ∧ Below B w (wy.alloc (.cells #[.bool true, .slice (some ⟨g, 0, none⟩) n cap, .string stdin, vs, .slice none 0 0, .int .i64 lim, .int .i64 clock, .int .u64 chance, .map (some bm), .string stdin, .slice none 0 0, .int .u64 chance, .slice none 0 0, v2, .slice none 0 0] 93)) ∧ Blk (wy.alloc (.cells #[.bool true, .slice (some ⟨g, 0, none⟩) n cap, .string stdin, vs, .slice none 0 0, .int .i64 lim, .int .i64 clock, .int .u64 chance, .map (some bm), .string stdin, .slice none 0 0, .int .u64 chance, .slice none 0 0, v2, .slice none 0 0] 93)) B 38 #[.slice (some ⟨g, 0, none⟩) n cap, .string stdin, vs, .slice none 0 0, .int .i64 lim, .int .i64 clock, .int .u64 chance] ∧ ∀ k, F0 k → B ≤ k := by
  obtain ⟨M0, h1, h2, h3⟩ := WAt_new (n := n) (s2 := vs) l g cap stdin lim clock chance hm hr
  refine ⟨M0, _, h1, h2, h3, hb.alloc (by omega) _, below_blk hS ((Below.refl wy.heap.size wy).alloc (Nat.le_refl _) _) hB, ?_⟩
  rintro k (rfl | rfl | hk)
  · exact hbm
  · omega
  · exact hv k hk
set_option maxRecDepth 20000 in
set_option maxHeartbeats 4000000 in
theorem wo_newR {w : World} {g cap : Nat} {vs : Value} (l : List (ByteArray × ByteArray)) (lr : List Rp) (stdin : ByteArray) (lim clock chance : Int) (hg : g < w.heap.size) (hcells : ∀ i, (h : i < l.length) → w.cell? ⟨g, i * 2, none⟩ = some (.string l[i].1) ∧ w.cell? ⟨g, i * 2 + 1, none⟩ = some (.string l[i].2))
    (hcap : l.length ≤ cap) (hl : l.length ≤ 1000) (hsz : ∀ p ∈ l, p.1.size ≤ maxLen ∧ p.2.size ≤ maxLen) (hnew : ∀ k, (h : k < l.length) → filesOf (l.take k) l[k].1.data.toList = none) (hlim : 0 ≤ lim ∧ lim ≤ 16)
    (hrow : w.ownsRow 0 87 3 vs lr.length (rvals lr)) (hlr : lr.length ≤ 1000) (hdist : ∀ k, (h : k < lr.length) → (lr.take k).any (isRp lr[k].cmd) = false) :
    Calls Tryd.prog 12 #[.agg #[.slice (some ⟨g, 0, none⟩) l.length cap, .string stdin, vs, .slice none 0 0, .int .i64 lim, .int .i64 clock, .int .u64 chance]] w fun e w' => ∃ pb M F, e = .returned (.tuple #[.pointer (some ⟨pb, 0, none⟩), .int .i64 0]) ∧ WAt w' F pb M ⟨lim, clock, filesOf l, stdin, [], chance, [], lr, []⟩ ∧ Below w.heap.size w w' ∧ (∀ g, F g → w.heap.size ≤ g) ∧ M.m ≤ l.length := by
  have HC := Lib.hid hcells
  have HNEW := Lib.hid hnew
  have HSZ := Lib.hid hsz
  have HDIST := Lib.hid hdist
  have HLR : Hid (lr.length ≤ 1000000000) := Nat.le_trans hlr (by omega)
  have HB := Lib.hid (Blk.new w 38 #[.slice (some ⟨g, 0, none⟩) l.length cap, .string stdin, vs, .slice none 0 0, .int .i64 lim, .int .i64 clock, .int .u64 chance])
  have HB0 := Lib.hid ((Below.refl w.heap.size w).alloc (Nat.le_refl _) (.cells #[.slice (some ⟨g, 0, none⟩) l.length cap, .string stdin, vs, .slice none 0 0, .int .i64 lim, .int .i64 clock, .int .u64 chance] 38))
  have HR := Lib.hid (own_of_block hrow (fun g hg => HB0.out.block g (own_lt hrow hg).choose_spec.2))
  obtain ⟨n, hnn⟩ : ∃ n, n = l.length := ⟨_, rfl⟩
  rw [← hnn] at HB HB0 hcap hl HR ⊢
  have HNN := Lib.hid hnn
  clear hcells hnew hsz hnn hdist hrow hlr
  go_enter Tryd.func12, Tryd.ntmps12
  go_wp2_with fail
  generalize w.alloc (.cells #[.slice (some ⟨g, 0, none⟩) n cap, .string stdin, vs, .slice none 0 0, .int .i64 lim, .int .i64 clock, .int .u64 chance] 38) = w1 at *
  obtain ⟨B, hB⟩ : ∃ B, B = w.heap.size := ⟨_, rfl⟩
  rw [← hB] at HB HB0 ⊢
  have HBE := Lib.hid hB
  have S1 : ∀ w', Blk w' B 38 #[.slice (some ⟨g, 0, none⟩) n cap, .string stdin, vs, .slice none 0 0, .int .i64 lim, .int .i64 clock, .int .u64 chance] → w'.cell? ⟨B, 0, none⟩ = some (.slice (some ⟨g, 0, none⟩) n cap) ∧ w'.cell? ⟨B, 1, none⟩ = some (.string stdin) ∧ w'.cell? ⟨B, 2, none⟩ = some vs ∧ w'.cell? ⟨B, 3, none⟩ = some (.slice none 0 0) ∧ w'.cell? ⟨B, 4, none⟩ = some (.int .i64 lim) ∧ w'.cell? ⟨B, 5, none⟩ = some (.int .i64 clock) ∧ w'.cell? ⟨B, 6, none⟩ = some (.int .u64 chance) := fun w' h => ⟨h.cell 0, h.cell 1, h.cell 2, h.cell 3, h.cell 4, h.cell 5, h.cell 6⟩
  obtain ⟨c0, c1, c2, c3, c4, c5, c6⟩ := S1 w1 HB.out
  have HS1 := Lib.hid S1
  clear hB S1
  have HBm := Lib.hid (below_blk HB.out ((Below.refl w1.heap.size w1).alloc (Nat.le_refl _) (.map #[] 0)) HB.out.lt)
  have HRm := Lib.hid (own_of_block HR.out (fun g hg => ((Below.refl w1.heap.size w1).alloc (Nat.le_refl _) (.map #[] 0)).block g (own_lt HR.out hg).choose_spec.2))
  have HBd : Hid (Blk w1.drew B 38 #[.slice (some ⟨g, 0, none⟩) n cap, .string stdin, vs, .slice none 0 0, .int .i64 lim, .int .i64 clock, .int .u64 chance]) := HB.out
  have HBmd : Hid (Blk (w1.alloc (.map #[] 0)).drew B 38 #[.slice (some ⟨g, 0, none⟩) n cap, .string stdin, vs, .slice none 0 0, .int .i64 lim, .int .i64 clock, .int .u64 chance]) := HBm.out
  have HRd : Hid (w1.drew.ownsRow 0 87 3 vs lr.length (rvals lr)) := HR.out
  have HRmd : Hid ((w1.alloc (.map #[] 0)).drew.ownsRow 0 87 3 vs lr.length (rvals lr)) := HRm.out
  have hmm := @run_makeMap Tryd.prog
  go_region_held3 (fun w' => w'.cell? ⟨B, 0, none⟩ = some (.slice (some ⟨g, 0, none⟩) n cap) ∧ w'.cell? ⟨B, 1, none⟩ = some (.string stdin) ∧ w'.cell? ⟨B, 2, none⟩ = some vs ∧ w'.cell? ⟨B, 3, none⟩ = some (.slice none 0 0) ∧ w'.cell? ⟨B, 4, none⟩ = some (.int .i64 lim) ∧ w'.cell? ⟨B, 5, none⟩ = some (.int .i64 clock) ∧ w'.cell? ⟨B, 6, none⟩ = some (.int .u64 chance)) (first | exact HS1.out _ HBq.out | go_keep) (first | (go_at_call 32; refine (wo_cloneF0 _).mono ?_; rintro e w2 ⟨rfl, rfl⟩) | (go_at_call 31; refine (wo_cloneR lr (by first | exact HR.out | exact HRm.out | exact HRd.out | exact HRmd.out) HLR.out).mono ?_; rintro e w2 ⟨v2, rfl, hr2, hb2⟩; obtain ⟨A2, cap2, rfl, -, -⟩ := own_form hr2; have HBq : Hid (Blk w2 B 38 #[.slice (some ⟨g, 0, none⟩) n cap, .string stdin, vs, .slice none 0 0, .int .i64 lim, .int .i64 clock, .int .u64 chance]) := by (first | exact below_blk HB.out hb2 HB.out.lt | exact below_blk HBm.out hb2 HBm.out.lt | exact below_blk HBd.out hb2 HBd.out.lt | exact below_blk HBmd.out hb2 HBmd.out.lt)))
  all_goals
    have hsz0 := HB0.out.size
    have hlt0 := HB.out.lt
    have hbe := HBE.out
    have hqs := HBq.out.lt
    first
    | (have e1 : (w1.alloc (.map #[] 0)).drew.heap.size = w1.heap.size + 1 := by (show (w1.alloc _).heap.size = _; simp)
       have HST := Lib.hid (new_st (w := w) (wy := w2) (B := B) (bm := w1.heap.size) (g := g) (cap := cap) (n := n) (vs := vs) (v2 := .slice A2 lr.length cap2) l stdin lim clock chance
        ((HB0.out.alloc (by omega) (.map #[] 0)).drew.trans (hb2.mono (by rw [e1]; omega))) hqs HBq.out
        ((MapS.made Tryd.prog 9 9 w1).of_block (hb2.block w1.heap.size (by rw [e1]; omega)))
        (own_base hr2 (fun _ _ => Nat.zero_le _)) (by omega) (fun k hk => by have := own_ge hr2 hk; rw [e1] at this; omega))
       obtain ⟨bm, hbm⟩ : ∃ bm, bm = w1.heap.size := ⟨_, rfl⟩
       obtain ⟨pb, hpb⟩ : ∃ pb, pb = w2.heap.size := ⟨_, rfl⟩
       generalize w2.alloc (.cells #[.bool true, .slice (some ⟨g, 0, none⟩) n cap, .string stdin, vs, .slice none 0 0, .int .i64 lim, .int .i64 clock, .int .u64 chance, .map (some w1.heap.size), .string stdin, .slice none 0 0, .int .u64 chance, .slice none 0 0, .slice A2 lr.length cap2, .slice none 0 0] 93) = w5 at *
       rw [← hpb] at HST ⊢
       rw [← hbm]
       clear e1 hbm hpb)
    | (have e1 : (w2.alloc (.map #[] 0)).heap.size = w2.heap.size + 1 := by simp
       have e2 : w1.drew.heap.size = w1.heap.size := rfl
       have hba := (Below.refl w2.heap.size w2).alloc (Nat.le_refl _) (.map #[] 0)
       have HST := Lib.hid (new_st (w := w) (wy := w2.alloc (.map #[] 0)) (B := B) (bm := w2.heap.size) (g := g) (cap := cap) (n := n) (vs := vs) (v2 := .slice A2 lr.length cap2) l stdin lim clock chance
        ((HB0.out.drew.trans (hb2.mono (by rw [e2]; omega))).alloc (by omega) (.map #[] 0)) (by rw [e1]; omega) (below_blk HBq.out hba hqs)
        (MapS.made Tryd.prog 9 9 w2)
        (own_base (own_of_block hr2 (fun g hg => hba.block g (own_lt hr2 hg).choose_spec.2)) (fun _ _ => Nat.zero_le _)) (by omega) (fun k hk => by have := own_ge hr2 hk; rw [e2] at this; omega))
       rw [e1] at HST
       obtain ⟨bm, hbm⟩ : ∃ bm, bm = w2.heap.size := ⟨_, rfl⟩
       obtain ⟨pb, hpb⟩ : ∃ pb, pb = w2.heap.size + 1 := ⟨_, rfl⟩
       generalize (w2.alloc (.map #[] 0)).alloc (.cells #[.bool true, .slice (some ⟨g, 0, none⟩) n cap, .string stdin, vs, .slice none 0 0, .int .i64 lim, .int .i64 clock, .int .u64 chance, .map (some w2.heap.size), .string stdin, .slice none 0 0, .int .u64 chance, .slice none 0 0, .slice A2 lr.length cap2, .slice none 0 0] 93) = w5 at *
       rw [← hpb] at HST ⊢
       rw [← hbm]
       clear e1 e2 hba hbm hpb)
    clear hr2 hb2 HBq hsz0 hlt0 hbe hqs
    obtain ⟨M0, F0, hM0, hMv, hW0, hB5, hS5, hF0⟩ := HST.out
    generalize hv2 : Value.slice A2 lr.length cap2 = v2 at *
    have HM0 := Lib.hid hM0
    have HMV := Lib.hid hMv
    have HW0 := Lib.hid hW0
    have HB2 := Lib.hid hB5
    have HBS := Lib.hid hS5
    have HF0 := Lib.hid hF0
    have HV2 := Lib.hid hv2
    clear HST hM0 hMv hW0 hB5 hS5 hF0 hv2 HB HB0 HBm HBd HBmd HR HRd HRmd HRm HS1
    go_wp2_with fail
    go_loopw [28] (fun i wr => ∃ (k : Nat) (M' : Mem), k ≤ n ∧ i = .int .i64 k ∧ WAt wr F0 pb M' ⟨lim, clock, filesOf (l.take k), stdin, [], chance, [], lr, []⟩ ∧ M'.m ≤ k ∧ M'.vr = v2 ∧ Below B w wr ∧ Blk wr B 38 #[.slice (some ⟨g, 0, none⟩) n cap, .string stdin, vs, .slice none 0 0, .int .i64 lim, .int .i64 clock, .int .u64 chance]) (fun i _ => n - (intOf i).toNat)
    case atStart => exact ⟨0, M0, Nat.zero_le _, rfl, HW0.out, by rw [HM0.out]; exact Nat.le_refl _, HMV.out, HB2.out, HBS.out⟩
    case round =>
      obtain ⟨k, M', hk, rfl, hW, hm, hvr, hb, hS⟩ := hrel
      have HVR := Lib.hid hvr
      have HW := Lib.hid hW
      have HM := Lib.hid hm
      have HBB := Lib.hid hb
      have HSS := Lib.hid hS
      have hgB : g < B := by have := HBE.out; omega
      clear hW hm hb hS hvr
      by_cases hlt : k < n
      · have hkl : k < l.length := by have := HNN.out; omega
        obtain ⟨d0, d1⟩ := HC.out k hkl
        have d0' := (HBB.out.cell (p := ⟨g, k * 2, none⟩) hgB).trans d0
        have d1' := (HBB.out.cell (p := ⟨g, k * 2 + 1, none⟩) hgB).trans d1
        obtain ⟨hs1, hs2⟩ := HSZ.out l[k] (List.getElem_mem _)
        have hnone := HNEW.out k hkl
        have hfs := filesOf_succ hkl
        generalize l[k].1 = fname at *
        generalize l[k].2 = fdata at *
        have HNONE := Lib.hid hnone
        have HFS := Lib.hid hfs
        clear d0 d1 hnone hfs
        have HBA := Lib.hid ((Below.refl wr.heap.size wr).alloc (Nat.le_refl _) (.cells #[.string fname, .string fdata] 83))
        have HBN := Lib.hid (Blk.new wr 83 #[.string fname, .string fdata])
        have HWB := Lib.hid (HW.out.pure HBA.out)
        have HSB := Lib.hid (below_blk HSS.out HBA.out HSS.out.lt)
        have HBC := Lib.hid (HBB.out.trans (HBA.out.mono (by have := HBB.out.size; have := HBE.out; omega)))
        have hgl : g < wr.heap.size := by have := HBB.out.size; omega
        go_wp2_with fail
        generalize wr.alloc (.cells #[.string fname, .string fdata] 83) = w3 at *
        obtain ⟨X, hX⟩ : ∃ X, X = wr.heap.size := ⟨_, rfl⟩
        rw [← hX] at HBN ⊢
        have HXE := Lib.hid hX
        clear hX d0' d1'
        have c8 : w3.cell? ⟨pb, 8, none⟩ = some (.map (some M'.bm)) := HWB.out.cell 8
        obtain ⟨⟨n0, n1⟩, -⟩ := HBN.out.two
        have hlk : ∀ q, (Instr.lookup 88 (.map (some M'.bm)) (.string fname) true).run Tryd.prog (w3.drewN q) = .ok (.tuple #[.string ⟨#[]⟩, .bool false]) (w3.drewN q) := fun q => run_look_none (HWB.out.drewN q).map klaw Tryd.underlying88 (zero_string _) (keyOf_string_mk Tryd.underlying9 hs1) (by show ((filesOf (l.take k)) fname.data.toList).map Value.string = none; rw [HNONE.out]; rfl)
        go_wp2_with fail
        go_quiet (fail)
        have HW4 := Lib.hid (HWB.out.drewN nq)
        have HS4 : Hid (Blk (w3.drewN nq) B 38 #[.slice (some ⟨g, 0, none⟩) n cap, .string stdin, vs, .slice none 0 0, .int .i64 lim, .int .i64 clock, .int .u64 chance]) := HSB.out
        have HX4 : Hid (Blk (w3.drewN nq) X 83 #[.string fname, .string fdata]) := HBN.out
        have HB4 := Lib.hid (HBC.out.trans ((below_drew w3 nq).mono (by have := HBC.out.size; have := HBE.out; omega)))
        clear hlk c8 n0 n1
        generalize w3.drewN nq = w4 at *
        have c8 : w4.cell? ⟨pb, 8, none⟩ = some (.map (some M'.bm)) := HW4.out.cell 8
        obtain ⟨⟨n0, n1⟩, -⟩ := HX4.out.two
        go_wp2_with fail
        go_still_tail 8, (by kernel_rfl)
        change wpList _ _ _ _ _ w4.drew
        have HW5 := Lib.hid HW4.out.drew
        have HS5 : Hid (Blk w4.drew B 38 #[.slice (some ⟨g, 0, none⟩) n cap, .string stdin, vs, .slice none 0 0, .int .i64 lim, .int .i64 clock, .int .u64 chance]) := HS4.out
        have HB5 := Lib.hid HB4.out.drew
        clear c8 n0 n1
        generalize w4.drew = w5 at *
        have hmm2 : M'.m < maxLen := by unfold maxLen; have := HM.out; omega
        have HBM2 := Lib.hid (show ¬ B = M'.bm from map_ne HS5.out HW5.out.map)
        have HMB := Lib.hid (show (if ((fun x => (filesOf (l.take k) x).map Value.string) fname.data.toList).isSome then M'.m else M'.m + 1) ≤ k + 1 by have := HM.out; split <;> omega)
        go_wp2_with (at_mapUpdate; refine wp_map_put rfl _ _ _ _ rfl klaw Tryd.underlying9 Tryd.underlying88 rfl HW5.out.map hmm2 _ (.string fdata) _ rfl rfl (keyOf_string_mk Tryd.underlying9 hs1) ⟨_, plainElem_string Tryd.underlying9 hs2⟩ ?_; intro w6 hmap6 hturn6; obtain ⟨h6', t6⟩ := HW5.out.put fname.data.toList fdata hmap6 hturn6; obtain ⟨M6, hm6, hv6, h6⟩ : ∃ M6 : Mem, M6.m ≤ k + 1 ∧ M6.vr = v2 ∧ WAt w6 F0 pb M6 ⟨lim, clock, setF (filesOf (l.take k)) fname.data.toList fdata, stdin, [], chance, [], lr, []⟩ := ⟨{ M' with m := (if ((fun x => (filesOf (l.take k) x).map Value.string) fname.data.toList).isSome then M'.m else M'.m + 1) }, HMB.out, HVR.out, h6'⟩; clear h6'; have HW6 := Lib.hid h6; have HS6 := Lib.hid (HS5.out.keep ((Tur.of_grown hturn6.grown).mono (fun k _ e => (show k = M'.bm by injection e))) HBM2.out); have HB6 := Lib.hid (HB5.out.trans (t6.below B (by have := HB5.out.size; have := HBE.out; omega) (fun k hk hF => by have := HF0.out _ hF; have := HBE.out; omega))); clear h6 t6 hmap6 hturn6)
        go_roundw
        case rel => exact ⟨k + 1, M6, by omega, by go_num, by rw [HFS.out]; exact HW6.out, hm6, hv6, HB6.out, HS6.out⟩
        case measure => simp [intOf]; omega
      · obtain rfl : k = n := by omega
        have c13 : wr.cell? ⟨pb, 13, none⟩ = some M'.vr := HW.out.cell 13
        rw [HVR.out] at c13
        have c4 : wr.cell? ⟨B, 4, none⟩ = some (.int .i64 lim) := HSS.out.cell 4
        have hl1 : ¬ lim < 0 := by omega
        have hl2 : ¬ 16 < lim := by omega
        have HLK := Lib.hid (show l.take k = l by rw [HNN.out, List.take_length])
        rw [← HV2.out] at c13
        have HROW := Lib.hid (show wr.ownsRow 0 87 3 (.slice A2 lr.length cap2) lr.length (rvals lr) by have h := HW.out.rowR; rw [HVR.out, ← HV2.out] at h; exact h)
        obtain ⟨A3, cap3, hv3, hc31, hc32⟩ := own_form HROW.out
        obtain ⟨-, -, rfl⟩ := Value.slice.inj hv3
        clear hv3
        obtain ⟨N, hN⟩ : ∃ N, N = lr.length := ⟨_, rfl⟩
        have HNE := Lib.hid hN
        have hNl : N ≤ 1000000000 := by have := HLR.out; omega
        rw [← hN] at c13 hc31
        clear hN
        go_wp2_with fail
        generalize wr = wz at *
        go_loopw [57] (fun i wr => ∃ q : Nat, q ≤ N ∧ i = .int .i64 q ∧ Below wz.heap.size wz wr) (fun i _ => N - (intOf i).toNat)
        case atStart => exact ⟨0, Nat.zero_le _, rfl, Below.refl _ _⟩
        case round =>
          obtain ⟨q, hq, rfl, hbx⟩ := hrel
          have HBX := Lib.hid hbx
          clear hbx
          by_cases hql : q < N
          · have hqr : q < lr.length := by have := HNE.out; omega
            obtain ⟨gr, cap', hv, -, -⟩ := ownBlock_form HROW.out (by omega)
            obtain ⟨rfl, -, -⟩ := Value.slice.inj hv
            obtain ⟨cur, -, hgl'⟩ := own_lt HROW.out rfl
            have hgl : gr < wz.heap.size := hgl'
            have hcell : ∀ j, j < 3 → wr.cell? ⟨gr, q * 3 + j, none⟩ = (lr[q].vals)[j]? := by
              intro j hj
              have := HROW.out.cellAt (q * 3 + j) (by omega)
              rw [HBX.out.cell (p := ⟨gr, q * 3 + j, none⟩) (by show gr < _; omega), this, rvals_get lr q j hqr hj]
            have d0 : wr.cell? ⟨gr, q * 3, none⟩ = some (.string lr[q].cmd) := hcell 0 (by omega)
            have d1 : wr.cell? ⟨gr, q * 3 + 1, none⟩ = some (.string lr[q].out) := hcell 1 (by omega)
            have d2 : wr.cell? ⟨gr, q * 3 + 2, none⟩ = some (.int .i64 lr[q].status) := hcell 2 (by omega)
            have HD := Lib.hid (HDIST.out q hqr)
            clear hv hcell hgl' c13 c4
            generalize lr[q] = r at *
            obtain ⟨rc, ro, rs⟩ := r
            have hba := (Below.refl wr.heap.size wr).alloc (Nat.le_refl _) (.cells #[.string rc, .string ro, .int .i64 rs] 87)
            have HBA := Lib.hid (HBX.out.trans (hba.mono HBX.out.size))
            have HBN := Lib.hid (Blk.new wr 87 #[.string rc, .string ro, .int .i64 rs])
            have HROW4 : Hid (World.ownsRow (wr.alloc (.cells #[.string rc, .string ro, .int .i64 rs] 87)) 0 87 3 (.slice (some ⟨gr, 0, none⟩) q cap2) q (rvals (lr.take q))) := by
              have h := own_take (k := q) (own_of_block HROW.out (fun g hg => HBA.out.block g (own_lt HROW.out hg).choose_spec.2)) (by omega)
              rw [rvals_take] at h
              exact h
            have HLT : Hid (q = (lr.take q).length) := by unfold Hid; simp; omega
            have c13 : (wr.alloc (.cells #[.string rc, .string ro, .int .i64 rs] 87)).cell? ⟨pb, 13, none⟩ = some (.slice (some ⟨gr, 0, none⟩) N cap2) := by
              have h := (HW.out.pure HBA.out).cell 13
              rw [show (wcells M' _)[13]? = some M'.vr from rfl, HVR.out, ← HV2.out] at h
              rw [HNE.out]; exact h
            clear hba
            have HPB : Hid (pb < wz.heap.size) := HW.out.head.lt
            go_wp2_with fail
            generalize wr.alloc (.cells #[.string rc, .string ro, .int .i64 rs] 87) = w6 at *
            refine (wo_containsR (lr.take q) 34 _ (isRp rc) HROW4.out HLT.out enters_new1 (fun r wy hb => ?_) (by omega)).mono ?_
            · exact wo_new1 r ((hb.cell (p := ⟨_, 0, none⟩) HBN.out.lt).trans (HBN.out.cell 0)) (by have := hb.size; have := HBN.out.lt; omega)
            rintro e w7 ⟨rfl, hb7⟩
            have HB7 := Lib.hid (HBA.out.trans (hb7.mono HBA.out.size))
            rw [HD.out]
            clear hb7 c13 d0 d1 d2
            go_wp2_with fail
            go_roundw
            case rel => exact ⟨q + 1, by omega, by go_num, HB7.out⟩
            case measure => simp [intOf]; omega
          · obtain rfl : q = N := by omega
            have c4 : wr.cell? ⟨B, 4, none⟩ = some (.int .i64 lim) := (below_blk HSS.out HBX.out HSS.out.lt).cell 4
            clear c13
            go_wp2_with fail
            go_ret2
            exact ⟨pb, M', F0, rfl, by have := HW.out.pure HBX.out; rw [HLK.out] at this; exact this, by have := HBB.out.trans (HBX.out.mono (by have := HBB.out.size; have := HBE.out; omega)); rw [HBE.out] at this; exact this, fun g hg => by have := HF0.out g hg; have := HBE.out; omega, HM.out⟩
end Go.Proofs.YtdbdmgmenojcaaaDoor
