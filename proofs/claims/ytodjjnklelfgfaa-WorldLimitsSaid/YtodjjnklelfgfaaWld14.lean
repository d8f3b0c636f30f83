/- The law WorldLimits, walked: for every limit and script, no condition. -/
import Derived.Test.YtodjjnklelfgfaaWld13
import Derived.Test.YtodjjnklelfgfaaAwake
namespace Go.Proofs.Ytodjjnklelfgfaa
open Go.RowKit Wd
open Go.WideMaps Go.WideElems Go.WideAt
theorem pick_same (x n : Int) (r : Nat) (hr : x % n = r) (w : World) (hx : (Lit.int .i64 x).wf = true) (hn : 0 < n) (hn2 : n ≤ 1000000) :
    Calls Try.prog 10 #[.int .i64 x, .int .i64 n] w fun e w' => e = .returned (.int .i64 r) ∧ w' = w := (w_pick x n w hx hn hn2).mono fun _ _ ⟨h1, h2⟩ => ⟨by rw [h1, hr], h2.symm⟩
set_option maxRecDepth 100000 in
set_option maxHeartbeats 8000000 in
theorem l_limits' (w : World) (limit : Int) (A : Option Addr) (n cap : Nat) (ops : List OpV) (wf : (Lit.int .i64 limit).wf = true) (hx : Ops w w.heap.size A n ops) (hc : n ≤ cap) (hcm : cap ≤ maxLen) :
    Calls Try.prog 4 #[.int .i64 limit, .slice A n cap] w fun e w' => e = .returned (.bool true) ∧ Below w.heap.size w w' := by
  have HX := Lib.hid hx
  have hcl : cap < 9223372036854775808 := by unfold maxLen at hcm; omega
  clear hx
  go_enter Try.func4, Try.ntmps4
  go_wp2_with fail
  refine (w_pick limit 17 w wf (by decide) (by decide)).mono ?_
  rintro e w1 ⟨rfl, rfl⟩
  have hL1 : 0 ≤ limit % 17 := Int.emod_nonneg _ (by decide)
  have hL2 : limit % 17 < 17 := Int.emod_lt_of_pos _ (by decide)
  generalize limit % 17 = L at *
  have HNB := Lib.hid (Blk.new w 47 #[.string ⟨#[97]⟩, .string ⟨#[]⟩, .string ⟨#[98]⟩, .string ⟨#[]⟩])
  have HB0 := Lib.hid ((Below.refl w.heap.size w).alloc (Nat.le_refl _) (.cells #[.string ⟨#[97]⟩, .string ⟨#[]⟩, .string ⟨#[98]⟩, .string ⟨#[]⟩] 47))
  go_wp2_with fail
  generalize w.alloc (.cells #[.string ⟨#[97]⟩, .string ⟨#[]⟩, .string ⟨#[98]⟩, .string ⟨#[]⟩] 47) = w1 at *
  refine (wo_new0 (w := w1) (g := w.heap.size) (cap := 2) [(⟨#[97]⟩, ⟨#[]⟩), (⟨#[98]⟩, ⟨#[]⟩)] ⟨#[]⟩ L 0 0 HNB.out.lt ?_ (by decide) (by decide) ?_ ?_ ⟨hL1, by omega⟩).mono ?_
  · intro i hi
    have : i = 0 ∨ i = 1 := by have : i < 2 := hi; omega
    rcases this with rfl | rfl
    · exact ⟨HNB.out.cell 0, HNB.out.cell 1⟩
    · exact ⟨HNB.out.cell 2, HNB.out.cell 3⟩
  · intro p hp
    simp at hp
    rcases hp with rfl | rfl <;> exact ⟨by decide, by decide⟩
  · intro k hk
    have : k = 0 ∨ k = 1 := by have : k < 2 := hk; omega
    rcases this with rfl | rfl
    · rfl
    · rfl
  rintro e w2 ⟨pb, M, F, rfl, h2, hb2, hF2, hm2⟩
  obtain ⟨st0, hst0⟩ : ∃ st0 : St, st0 = ⟨L, 0, filesOf [(⟨#[97]⟩, ⟨#[]⟩), (⟨#[98]⟩, ⟨#[]⟩)], ⟨#[]⟩, [], 0, [], [], []⟩ := ⟨_, rfl⟩
  rw [← hst0] at h2
  have hfine0 : Fine L st0 := by rw [hst0]; exact ⟨rfl, hL1, (fun m h => by cases h), List.Pairwise.nil, rfl⟩
  have hz0 : st0.replies = [] ∧ st0.fails = [] ∧ st0.trace.length = 0 := by rw [hst0]; exact ⟨rfl, rfl, rfl⟩
  have HZ0 := Lib.hid hz0
  have HFI0 := Lib.hid hfine0
  have H2 := Lib.hid h2
  have HB2 := Lib.hid (HB0.out.trans (hb2.mono HB0.out.size))
  have HF2 : Hid (∀ g, F g → w.heap.size ≤ g) := fun g e => Nat.le_trans HB0.out.size (hF2 g e)
  have HM2 : Hid (M.m ≤ 2) := hm2
  clear hst0 hfine0 hz0 h2 hb2 hF2 hm2
  go_wp2_with fail
  go_loopw [7] (fun i wr => ∃ (k : Nat) (st : St) (M' : Mem) (F' : Nat → Prop), k ≤ n ∧ k ≤ 60 ∧ i = .int .i64 k ∧ WAt wr F' pb M' st ∧ Fine L st ∧ st.replies = [] ∧ st.fails = [] ∧ st.trace.length ≤ 5 * k ∧ M'.m ≤ 2 + k ∧ (∀ g, F' g → w.heap.size ≤ g) ∧ Below w.heap.size w wr) (fun i _ => n - (intOf i).toNat)
  case atStart => exact ⟨0, st0, M, F, Nat.zero_le _, by omega, rfl, H2.out, HFI0.out, HZ0.out.1, HZ0.out.2.1, by rw [HZ0.out.2.2]; omega, HM2.out, HF2.out, HB2.out⟩
  case round =>
    obtain ⟨k, st, M', F', hk, hk60, rfl, hW, hfine, hrep, hfai, htrl, hmml, hfl, hb⟩ := hrel
    have HW := Lib.hid hW
    have HFINE := Lib.hid hfine
    have HREP := Lib.hid hrep
    have HFAI := Lib.hid hfai
    have HTRL := Lib.hid htrl
    have HMML := Lib.hid hmml
    have HFL := Lib.hid hfl
    have HB := Lib.hid hb
    have HNO : Hid (st.opn.length ≤ 1000000000) := by unfold Hid; have := hfine.len; omega
    have HNT : Hid (st.trace.length ≤ 1000000000) := by unfold Hid; omega
    have HNR : Hid (st.replies.length ≤ 1000000000) := by unfold Hid; rw [hrep]; exact Nat.zero_le _
    have HNF : Hid (st.fails.length ≤ 1000000000) := by unfold Hid; rw [hfai]; exact Nat.zero_le _
    have HMM : Hid (M'.m ≤ 1000000000) := by unfold Hid; omega
    clear hW hfine hrep hfai htrl hmml hfl hb
    have hlen0 : (st.opn.length : Int) ≤ 16 := by have := HFINE.out.len; omega
    by_cases hlt : k < n ∧ k < 60
    · obtain ⟨hlt, hl60⟩ := hlt
      obtain ⟨hol, howf, hocell⟩ := HX.out
      have hko : k < ops.length := by omega
      obtain ⟨ob, oo, rfl, hobl, hoc⟩ := hocell (by omega)
      obtain ⟨q0, q1, q2, q3, q4⟩ := hoc k hko
      obtain ⟨wf0, wf1, wf2, wf3, wf4⟩ := howf _ (List.getElem_mem hko)
      generalize ops[k] = op at *
      obtain ⟨kd, k1, on, od, nn⟩ := op
      simp only [] at q0 q1 q2 q3 q4 wf0 wf1 wf2 wf3 wf4
      have q0' := (HB.out.cell (p := ⟨ob, oo + k * 5, none⟩) hobl).trans q0
      have q1' := (HB.out.cell (p := ⟨ob, oo + k * 5 + 1, none⟩) hobl).trans q1
      have q2' := (HB.out.cell (p := ⟨ob, oo + k * 5 + 2, none⟩) hobl).trans q2
      have q3' := (HB.out.cell (p := ⟨ob, oo + k * 5 + 3, none⟩) hobl).trans q3
      have q4' := (HB.out.cell (p := ⟨ob, oo + k * 5 + 4, none⟩) hobl).trans q4
      have hr0 : 0 ≤ nn % 4 := Int.emod_nonneg _ (by decide)
      have hr4 : nn % 4 < 4 := Int.emod_lt_of_pos _ (by decide)
      obtain ⟨r, hr⟩ : ∃ r : Nat, nn % 4 = r := ⟨(nn % 4).toNat, by omega⟩
      have hrl : r < 4 := by omega
      have HPK := Lib.hid (fun w : World => pick_same nn 4 r hr w wf4 (by decide) (by decide))
      obtain ⟨X, hX⟩ : ∃ X, X = wr.heap.size := ⟨_, rfl⟩
      have HXE := Lib.hid hX
      have hobX : ob < X := by have := HB.out.size; omega
      have HBA := Lib.hid ((Below.refl wr.heap.size wr).alloc (Nat.le_refl _) (.cells #[.int .i64 kd, .int .u8 k1, .string on, .string od, .int .i64 nn] 55))
      have HXB : Hid (Blk (wr.alloc (.cells #[.int .i64 kd, .int .u8 k1, .string on, .string od, .int .i64 nn] 55)) X 55 #[.int .i64 kd, .int .u8 k1, .string on, .string od, .int .i64 nn]) := by rw [hX]; exact Blk.new wr _ _
      have HW2 := Lib.hid (HW.out.pure HBA.out)
      have HB3 := Lib.hid (HB.out.trans (HBA.out.mono HB.out.size))
      have HXF := Lib.hid (show ¬ F' X from fun e => by have := HW.out.flt _ e; omega)
      clear q0 q1 q2 q3 q4 hol howf hocell hoc hr0 hr4 hr wf0 wf1 wf2 wf3 wf4
      go_wp2_with fail
      rw [← hX]
      clear hX q0' q1' q2' q3' q4'
      generalize wr.alloc (.cells #[.int .i64 kd, .int .u8 k1, .string on, .string od, .int .i64 nn] 55) = w3 at *
      obtain ⟨⟨x0, x1, x2, x3, x4⟩, -⟩ := HXB.out.five
      have hsum : IntKind.i64.wrap ((r : Int) + 1) = (r : Int) + 1 := IntWalk.i64_in _ (by omega)
      have hs1 : (0 : Int) ≤ (r : Int) + 1 := by omega
      have hs2 : ((r : Int) + 1).toNat = r + 1 := by omega
      have hs3 : (r : Int) + 1 ≤ 4 := by omega
      go_wp2_with fail
      go_quiet ((go_at_call 10; exact Calls.quiet_of_same (HPK.out _)))
      have HW4 := Lib.hid (HW2.out.drewN nq)
      have HX4 : Hid (Blk (w3.drewN nq) X 55 #[.int .i64 kd, .int .u8 k1, .string on, .string od, .int .i64 nn]) := HXB.out
      have HB4 := Lib.hid (HB3.out.trans ((below_drew w3 nq).mono HB3.out.size))
      clear hsum hs2 x0 x1 x2 x3 x4
      generalize w3.drewN nq = w4 at *
      obtain ⟨⟨x0, x1, x2, x3, x4⟩, -⟩ := HX4.out.five
      obtain ⟨nm, hnm⟩ : ∃ nm, nm = (⟨#[97, 98, 99, 100]⟩ : ByteArray).extract r (r + 1) := ⟨_, rfl⟩
      have hnm9 : nm.size ≤ maxLen := by rw [hnm]; unfold maxLen; simp; omega
      rw [← hnm]
      clear hnm
      by_cases hk3 : kd.tmod 3 = 0
      · have hk3b : (kd.tmod 3 == 0) = true := by simp [hk3]
        clear hk3
        go_wp2_with fail
        refine (wo_streams HW4.out).mono ?_
        rintro e w5 ⟨rfl, rfl⟩
        go_wp2_with fail
        refine (wo_close HW4.out nm HNO.out (by have := HTRL.out; omega) HNR.out).mono ?_
        rintro e w5 ⟨M2, F2, rfl, h5, t5, f5, m5⟩
        obtain ⟨hfine2, hok⟩ := fine_close HFINE.out nm
        have htr2 := closeL_trace st nm
        have hrp2 := closeL_rep st nm
        have hfa2 := closeL_fails st nm
        have HST2 := Lib.hid (And.intro hfine2 (And.intro htr2 (And.intro hrp2 hfa2)))
        rw [hok]
        clear hfine2 htr2 hrp2 hfa2 hok
        have H5 := Lib.hid h5
        have HB5 := Lib.hid (HB4.out.trans (t5.below w.heap.size HB4.out.size (fun i hi e => by have := HFL.out _ e; omega)))
        have HF5 : Hid (∀ g, F2 g → w.heap.size ≤ g) := fun g e => by
          rcases f5 g e with e | e
          · exact HFL.out _ e
          · have := HB4.out.size; omega
        have HM5 := Lib.hid m5
        clear h5 t5 f5 m5 x0 x1 x2 x3 x4
        generalize (closeL st nm).1 = st2 at *
        obtain ⟨a2, ha2⟩ : ∃ a2, a2 = st2.opn.length := ⟨_, rfl⟩
        obtain ⟨a1, ha1⟩ : ∃ a1, a1 = st.opn.length := ⟨_, rfl⟩
        have HA2 := Lib.hid ha2
        rw [← ha2, ← ha1]
        clear ha2 ha1
        have hcase : (a2 < a1) ∨ ¬ (a2 < a1) := by omega
        rcases hcase with hab | hab
        all_goals
          have hab1 : decide (a2 < a1) = true ∨ decide (a2 < a1) = false := by cases decide (a2 < a1) <;> simp
          go_wp2_with fail
          refine (wo_streams H5.out).mono ?_
          rintro e w6 ⟨rfl, rfl⟩
          rw [← HA2.out]
          go_wp2_with fail
          go_roundw
          case rel => exact ⟨k + 1, st2, M2, F2, by omega, by omega, by go_num, H5.out, HST2.out.1, HST2.out.2.2.1.trans HREP.out, HST2.out.2.2.2.trans HFAI.out, by have := HST2.out.2.1; have := HTRL.out; omega, by have := HM5.out; have := HMML.out; omega, HF5.out, HB5.out⟩
          case measure => simp [intOf]; omega
      · have hk3b : (kd.tmod 3 == 0) = false := by simp [hk3]
        clear hk3
        have HK1 := Lib.hid (fun w' (h : Blk w' X 55 #[.int .i64 kd, .int .u8 k1, .string on, .string od, .int .i64 nn]) => h.cell 1)
        go_wp2_with fail
        go_region_held3 (fun w' => w'.cell? ⟨X, 1, none⟩ = some (.int .u8 k1)) (first | exact hc9 | exact HX4.out.cell 1 | go_keep) (first | (go_at_call 16; refine (wo_streams (by first | exact HW4.out | exact HW4.out.drew | exact HW4.out.drew.drew | exact hw9 | exact hw9.drew)).mono ?_; rintro e wx ⟨rfl, rfl⟩) | (go_at_call 18; refine (wo_isopen (by first | exact HW4.out | exact HW4.out.drew | exact HW4.out.drew.drew) k1 nm HNO.out).mono ?_; rintro e w9 ⟨rfl, hb9⟩; have hb9' : Below w4.heap.size w4 w9 := ⟨hb9.os, hb9.tape, hb9.output, hb9.size, hb9.block⟩; have hw9 : WAt w9 F' pb M' st := HW4.out.pure hb9'; have hc9 : w9.cell? ⟨X, 1, none⟩ = some (.int .u8 k1) := (below_blk HX4.out hb9' HX4.out.lt).cell 1))
        have HB9 := Lib.hid (HB4.out.trans (hb9'.mono HB4.out.size))
        have HX9 := Lib.hid (below_blk HX4.out hb9' HX4.out.lt)
        have HW9 := Lib.hid hw9
        have hf6 : k1 = 6 → (openL st k1 nm).2 = 2 := fun e => by unfold openL; rw [if_pos (by omega)]
        clear hb9' hw9 x0 x1 x2 x3 x4
        have c9k : w9.cell? ⟨X, 1, none⟩ = some (.int .u8 k1) := HX9.out.cell 1
        go_wp2_with fail
        refine (wo_open HW9.out k1 nm hnm9 HNO.out HNT.out HNR.out HNF.out HMM.out).mono ?_
        rintro e w10 ⟨M2, F2, rfl, h10, t10, f10, m10⟩
        have hc10 : w10.cell? ⟨X, 1, none⟩ = some (.int .u8 k1) := (HX9.out.keep t10 HXF.out).cell 1
        have H10 := Lib.hid h10
        have HB10 := Lib.hid (HB9.out.trans (t10.below w.heap.size HB9.out.size (fun i hi e => by have := HFL.out _ e; omega)))
        have HM10 := Lib.hid m10
        have HF10 : Hid (∀ g, F2 g → w.heap.size ≤ g) := fun g e => by
          rcases f10 g e with e | e
          · exact HFL.out _ e
          · have := HB9.out.size; omega
        clear h10 t10 f10 m10 c9k
        have hst2 := fine_open HFINE.out k1 nm
        have htr2 := openL_trace st k1 nm
        have hno2 : (openL st k1 nm).1.opn.length ≤ 1000000000 := by have := hst2.1.len; omega
        have HF60 := Lib.hid hf6
        clear hf6
        generalize (openL st k1 nm).2 = f at *
        generalize (openL st k1 nm).1 = st2 at *
        obtain ⟨hfine2, hA2, hC2⟩ := hst2
        generalize (decide (k1 = 6) || (find st k1 nm).isSome) = op1 at *
        have HNO2 := Lib.hid hno2
        have HFINE2 := Lib.hid hfine2
        have HTR2 := Lib.hid htr2
        have HA2 := Lib.hid hA2
        have HC2 := Lib.hid hC2
        have hlim2 : ¬ L < (st2.opn.length : Int) := by have := hfine2.len; omega
        clear htr2 hno2 hfine2 hA2 hC2
        by_cases h6 : k1 = 6
        · have HF6 : Hid (¬ f = 0) := by unfold Hid; have := HF60.out h6; omega
          have e6 : (k1 == 6) = true := by simp [h6]
          have e6b : (k1 != 6) = false := by simp [h6]
          clear h6
          have hb6 : (f == 0) = false := beq_eq_false_iff_ne.2 HF6.out
          have hle : ((st2.opn.length : Int) == (st.opn.length : Int) + 1) = false := by
            have h := HC2.out
            rw [decide_eq_false HF6.out, Bool.false_and] at h
            exact beq_eq_false_iff_ne.2 (fun e => of_decide_eq_false h (by omega))
          go_wp2_with fail
          refine (wo_streams H10.out).mono ?_
          rintro e w11 ⟨rfl, rfl⟩
          go_wp2_with fail
          refine (wo_streams H10.out).mono ?_
          rintro e w11 ⟨rfl, rfl⟩
          go_wp2_with fail
          go_roundw
          case rel => exact ⟨k + 1, st2, M2, F2, by omega, by omega, by go_num, (H10.out), HFINE2.out, HTR2.out.2.1.trans HREP.out, HTR2.out.2.2.trans HFAI.out, by have := HTR2.out.1; have := HTRL.out; omega, by have := HM10.out; have := HMML.out; omega, HF10.out, HB10.out⟩
          case measure => simp [intOf]; omega
        · have e6 : (k1 == 6) = false := by simp [h6]
          have e6b : (k1 != 6) = true := by simp [h6]
          by_cases hf0 : f = 0
          · cases op1
            · have hb6 : (f == 0) = true := (by simp [hf0])
              have HI2 : Hid ((decide (k1 = 6) || (find st2 k1 nm).isSome) = true) := by
                unfold Hid; rw [HA2.out h6, decide_eq_false h6]; simp [hf0]
              have hle : ((st2.opn.length : Int) == (st.opn.length : Int) + 1) = true := by
                have h := HC2.out
                have h2 : decide (st2.opn.length = st.opn.length + 1) = true := by rw [h]; simp [hf0]
                have h3 := of_decide_eq_true h2
                rw [h3]; simp
              clear hf0
              go_wp2_with fail
              refine (wo_isopen H10.out k1 nm HNO2.out).mono ?_
              rintro e w11 ⟨rfl, hb11⟩
              rw [HI2.out]
              have H11 := Lib.hid (H10.out.pure hb11)
              have HB11 := Lib.hid (HB10.out.trans (hb11.mono HB10.out.size))
              clear hb11
              go_wp2_with fail
              refine (wo_streams H11.out).mono ?_
              rintro e w12 ⟨rfl, rfl⟩
              go_wp2_with fail
              refine (wo_streams H11.out).mono ?_
              rintro e w12 ⟨rfl, rfl⟩
              go_wp2_with fail
              go_roundw
              case rel => exact ⟨k + 1, st2, M2, F2, by omega, by omega, by go_num, (H11.out), HFINE2.out, HTR2.out.2.1.trans HREP.out, HTR2.out.2.2.trans HFAI.out, by have := HTR2.out.1; have := HTRL.out; omega, by have := HM10.out; have := HMML.out; omega, HF10.out, HB11.out⟩
              case measure => simp [intOf]; omega
            · have hb6 : (f == 0) = true := (by simp [hf0])
              have HI2 : Hid ((decide (k1 = 6) || (find st2 k1 nm).isSome) = true) := by
                unfold Hid; rw [HA2.out h6, decide_eq_false h6]; simp [hf0]
              have hle : ((st2.opn.length : Int) == (st.opn.length : Int) + 1) = false := by
                have h := HC2.out
                have h2 : decide (st2.opn.length = st.opn.length + 1) = false := by rw [h]; simp [hf0]
                have h3 := of_decide_eq_false h2
                exact beq_eq_false_iff_ne.2 (fun e => h3 (by omega))
              clear hf0
              go_wp2_with fail
              refine (wo_isopen H10.out k1 nm HNO2.out).mono ?_
              rintro e w11 ⟨rfl, hb11⟩
              rw [HI2.out]
              have H11 := Lib.hid (H10.out.pure hb11)
              have HB11 := Lib.hid (HB10.out.trans (hb11.mono HB10.out.size))
              clear hb11
              go_wp2_with fail
              refine (wo_streams H11.out).mono ?_
              rintro e w12 ⟨rfl, rfl⟩
              go_wp2_with fail
              refine (wo_streams H11.out).mono ?_
              rintro e w12 ⟨rfl, rfl⟩
              go_wp2_with fail
              go_roundw
              case rel => exact ⟨k + 1, st2, M2, F2, by omega, by omega, by go_num, (H11.out), HFINE2.out, HTR2.out.2.1.trans HREP.out, HTR2.out.2.2.trans HFAI.out, by have := HTR2.out.1; have := HTRL.out; omega, by have := HM10.out; have := HMML.out; omega, HF10.out, HB11.out⟩
              case measure => simp [intOf]; omega
          · have hb6 : (f == 0) = false := (by simp [hf0])
            have HI2 : Hid ((decide (k1 = 6) || (find st2 k1 nm).isSome) = false) := by
              unfold Hid; rw [HA2.out h6, decide_eq_false h6]; simp [hf0]
            have hle : ((st2.opn.length : Int) == (st.opn.length : Int) + 1) = false := by
              have h := HC2.out
              have h2 : decide (st2.opn.length = st.opn.length + 1) = false := by rw [h]; simp [hf0]
              have h3 := of_decide_eq_false h2
              exact beq_eq_false_iff_ne.2 (fun e => h3 (by omega))
            clear hf0
            go_wp2_with fail
            refine (wo_isopen H10.out k1 nm HNO2.out).mono ?_
            rintro e w11 ⟨rfl, hb11⟩
            rw [HI2.out]
            have H11 := Lib.hid (H10.out.pure hb11)
            have HB11 := Lib.hid (HB10.out.trans (hb11.mono HB10.out.size))
            clear hb11
            go_wp2_with fail
            refine (wo_streams H11.out).mono ?_
            rintro e w12 ⟨rfl, rfl⟩
            go_wp2_with fail
            refine (wo_streams H11.out).mono ?_
            rintro e w12 ⟨rfl, rfl⟩
            go_wp2_with fail
            go_roundw
            case rel => exact ⟨k + 1, st2, M2, F2, by omega, by omega, by go_num, (H11.out), HFINE2.out, HTR2.out.2.1.trans HREP.out, HTR2.out.2.2.trans HFAI.out, by have := HTR2.out.1; have := HTRL.out; omega, by have := HM10.out; have := HMML.out; omega, HF10.out, HB11.out⟩
            case measure => simp [intOf]; omega
    · have hkx : ¬ k < n ∨ ¬ k < 60 := by omega
      have hkx2 : (¬ k < n) ∨ (k < n ∧ ¬ k < 60) := by omega
      clear hlt hkx
      rcases hkx2 with hkx | ⟨hkn, hkx⟩
      all_goals
        go_wp2_with fail
        refine (wo_closeall HW.out (by omega) (by have := HTRL.out; omega) HNR.out).mono ?_
        rintro e w4 ⟨st2, M2, F2, rfl, hcl2, hop2, h4, t4, f4, htr4⟩
        have hfine2 := fine_closed HFINE.out hcl2
        have HBAL : Hid (opens st2.trace = closes st2.trace) := by unfold Hid; have := hfine2.bal; rw [hop2] at this; exact this
        have HOP2 : Hid (st2.opn.length = 0) := by unfold Hid; rw [hop2]; rfl
        have H4 := Lib.hid h4
        have HB4 := Lib.hid (HB.out.trans (t4.below w.heap.size HB.out.size (fun i hi e => by have := HFL.out _ e; omega)))
        have htl2 : st2.trace.length ≤ 100000 := by have := HTRL.out; omega
        clear hfine2 hcl2 hop2 h4 t4 f4 htr4
        go_wp2_with fail
        refine (wo_trace H4.out (by omega)).mono ?_
        rintro e w5 ⟨v5, rfl, hr5, hb5⟩
        obtain ⟨A5, cap5, rfl, hc5, hcm5⟩ := own_form hr5
        have H5 := Lib.hid (H4.out.pure hb5)
        have HB5 := Lib.hid (HB4.out.trans (hb5.mono HB4.out.size))
        have HR5 := Lib.hid hr5
        obtain ⟨N, hN⟩ : ∃ N, N = st2.trace.length := ⟨_, rfl⟩
        have HNN := Lib.hid hN
        rw [← hN] at hc5 htl2 ⊢
        clear hr5 hb5 hN
        have hcm5' : cap5 < 9223372036854775808 := by unfold maxLen at hcm5; omega
        go_wp2_with fail
        go_loopw [16, 17, 123] (fun ov cv i wx => ∃ j : Nat, j ≤ N ∧ i = .int .i64 j ∧ ov = .int .i64 (opens (st2.trace.take j) : Nat) ∧ cv = .int .i64 (closes (st2.trace.take j) : Nat) ∧ Below w5.heap.size w5 wx) (fun _ _ i _ => N - (intOf i).toNat)
        case atStart => exact ⟨0, Nat.zero_le _, rfl, rfl, rfl, Below.refl _ _⟩
        case round =>
          obtain ⟨j, hj, rfl, rfl, rfl, hbx⟩ := hrel
          have HBX := Lib.hid hbx
          have ho1 : opens (st2.trace.take j) ≤ j := Nat.le_trans List.countP_le_length (by simp; omega)
          have hc1 : closes (st2.trace.take j) ≤ j := Nat.le_trans List.countP_le_length (by simp; omega)
          by_cases hjl : j < N
          · have hjt : j < st2.trace.length := by have := HNN.out; omega
            have hN0 : 0 < st2.trace.length := by omega
            obtain ⟨g5, cap6, hv5, -, -⟩ := ownBlock_form HR5.out hN0
            obtain ⟨rfl, -, -⟩ := Value.slice.inj hv5
            obtain ⟨cur5, -, hg5'⟩ := own_lt HR5.out rfl
            have hg5 : g5 < w5.heap.size := hg5'
            have hcell : ∀ q, q < 5 → wr.cell? ⟨g5, j * 5 + q, none⟩ = (st2.trace[j].vals)[q]? := by
              intro q hq
              rw [hbx.cell (p := ⟨g5, j * 5 + q, none⟩) hg5, HR5.out.cellAt (j * 5 + q) (by omega), evals_get st2.trace j q hjt hq]
            have d0 : wr.cell? ⟨g5, j * 5, none⟩ = some (.int .u8 st2.trace[j].k) := hcell 0 (by omega)
            have d1 : wr.cell? ⟨g5, j * 5 + 1, none⟩ = some (.int .u8 st2.trace[j].st) := hcell 1 (by omega)
            have d2 : wr.cell? ⟨g5, j * 5 + 2, none⟩ = some (.string st2.trace[j].name) := hcell 2 (by omega)
            have d3 : wr.cell? ⟨g5, j * 5 + 3, none⟩ = some (.string st2.trace[j].data) := hcell 3 (by omega)
            have d4 : wr.cell? ⟨g5, j * 5 + 4, none⟩ = some (.int .i64 st2.trace[j].status) := hcell 4 (by omega)
            have hot : opens (st2.trace.take (j + 1)) = opens (st2.trace.take j) + if st2.trace[j].k = 1 then 1 else 0 := by
              unfold opens
              rw [List.take_succ_eq_append_getElem hjt, List.countP_append]
              simp [List.countP_cons]
            have hct : closes (st2.trace.take (j + 1)) = closes (st2.trace.take j) + if st2.trace[j].k = 3 then 1 else 0 := by
              unfold closes
              rw [List.take_succ_eq_append_getElem hjt, List.countP_append]
              simp [List.countP_cons]
            have HOT := Lib.hid hot
            have HCT := Lib.hid hct
            have hgx : g5 < wr.heap.size := by have := hbx.size; omega
            have HA5 := Lib.hid (HBX.out.trans (((Below.refl wr.heap.size wr).alloc (Nat.le_refl _) (.cells #[.int .u8 st2.trace[j].k, .int .u8 st2.trace[j].st, .string st2.trace[j].name, .string st2.trace[j].data, .int .i64 st2.trace[j].status] 41)).mono HBX.out.size))
            have hk3 : st2.trace[j].k = 1 ∨ (st2.trace[j].k ≠ 1 ∧ st2.trace[j].k = 3) ∨ (st2.trace[j].k ≠ 1 ∧ st2.trace[j].k ≠ 3) := by omega
            clear hcell hot hct hv5 hbx hg5'
            generalize st2.trace[j].k = ek at *
            generalize st2.trace[j].st = es at *
            generalize st2.trace[j].name = en at *
            generalize st2.trace[j].data = ed at *
            generalize st2.trace[j].status = et at *
            rcases hk3 with h1 | ⟨h1, h3⟩ | ⟨h1, h3⟩
            · have e1 : (ek == 1) = true := by simp [h1]
              have e3 : (ek == 3) = false := by simp [h1]
              have HO1 := HOT
              have HC1 := HCT
              rw [if_pos h1] at HO1
              rw [if_neg (by omega)] at HC1
              clear h1 HOT HCT
              go_wp2_with fail
              go_roundw
              case rel => exact ⟨j + 1, by omega, by go_num, by rw [HO1.out]; go_num, by rw [HC1.out]; rfl, HA5.out⟩
              case measure => simp [intOf]; omega
            · have e1 : (ek == 1) = false := by simp [h1]
              have e3 : (ek == 3) = true := by simp [h3]
              have HO1 := HOT
              have HC1 := HCT
              rw [if_neg h1] at HO1
              rw [if_pos h3] at HC1
              clear h1 h3 HOT HCT
              go_wp2_with fail
              go_roundw
              case rel => exact ⟨j + 1, by omega, by go_num, by rw [HO1.out]; rfl, by rw [HC1.out]; go_num, HA5.out⟩
              case measure => simp [intOf]; omega
            · have e1 : (ek == 1) = false := by simp [h1]
              have e3 : (ek == 3) = false := by simp [h3]
              have HO1 := HOT
              have HC1 := HCT
              rw [if_neg h1] at HO1
              rw [if_neg h3] at HC1
              clear h1 h3 HOT HCT
              go_wp2_with fail
              go_roundw
              case rel => exact ⟨j + 1, by omega, by go_num, by rw [HO1.out]; rfl, by rw [HC1.out]; rfl, HA5.out⟩
              case measure => simp [intOf]; omega
          · obtain rfl : j = N := by omega
            have hbal : opens (st2.trace.take j) = closes (st2.trace.take j) := by
              rw [HNN.out, List.take_length]; exact HBAL.out
            have H6 := Lib.hid (H5.out.pure hbx)
            have HB6 := Lib.hid (HB5.out.trans (hbx.mono HB5.out.size))
            rw [← hbal]
            clear hbal hbx
            generalize opens (st2.trace.take j) = oc at *
            go_wp2_with fail
            refine (wo_streams H6.out).mono ?_
            rintro e w7 ⟨rfl, rfl⟩
            rw [HOP2.out]
            go_wp2_with fail
            refine (Awake.walk _).mono ?_
            rintro e w8 ⟨rfl, hb8⟩
            go_wp2_with fail
            go_ret
            exact ⟨by simp [go_sem], HB6.out.trans (hb8.mono HB6.out.size)⟩
set_option maxRecDepth 100000 in
theorem l_limits {H : Type} {enc : TypeId × Value → H} {base : Nat} {d : DataW H} {p : List MemPlace} {spare : Nat → Bool} {held : Bool} {r} (limit : Int) (v0 : Value) (w : World) (hsh : w.ShapedOpen Try.prog) (wf : (Lit.int .i64 limit).wf = true)
    (hval : Value.okWide Try.prog w r base 43 v0) (k : DataW.Trod enc Try.prog w 0 spare held 43 v0 d p) :
    Calls Try.prog 4 #[.int .i64 limit, v0] w fun e w' => e = .returned (.bool true) ∧ Below w.heap.size w w' := by
  obtain ⟨A, n, cap, xs, rfl, hx, hc, hcm⟩ := ops_open hval k
  exact l_limits' w limit A n cap xs wf hx hc hcm
end Go.Proofs.Ytodjjnklelfgfaa
