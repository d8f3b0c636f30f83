/- The law WorldLimits, walked: for every limit and script, no condition. -/
import Derived.Test.YtodjjnklelfgfaaG5
import Derived.Test.YtodjjnklelfgfaaAwake
import Derived.Test.YtodjjnklelfgfaaG6
import Derived.StillTailTactics
namespace Go.Proofs.Ytodjjnklelfgfaa
open Go.RowKit Wd
open Go.WideMaps Go.WideElems Go.WideAt
theorem pick_same (x n : Int) (r : Nat) (hr : x % n = r) (w : World) (hx : (Lit.int .i64 x).wf = true) (hn : 0 < n) (hn2 : n ≤ 1000000) :
    Calls Try.prog 10 #[.int .i64 x, .int .i64 n] w fun e w' => e = .returned (.int .i64 r) ∧ w' = w := (w_pick x n w hx hn hn2).mono fun _ _ ⟨h1, h2⟩ => ⟨by rw [h1, hr], h2.symm⟩
set_option maxRecDepth 100000 in
set_option maxHeartbeats 8000000 in
theorem l_limits' (w : World) (limit : Int) (A : Option Addr) (n cap : Nat) (ops : List OpV) (wf : (Lit.int .i64 limit).wf = true) (hx : Ops w w.heap.size A n ops) (hc : n ≤ cap) (hcm : cap ≤ maxLen) :
    Calls Try.prog 4 #[.int .i64 limit, .slice A n cap] w fun e w' => e = .returned (.bool true) ∧ Below w.heap.size w w' := by
  have HX := Lib.hid hx
  have hcl : cap < 9223372036854775808 := by unfold maxLen at hcm; omega
  clear hx
  go_enter Try.func4, Try.ntmps4
  go_wp2_with fail
  refine (w_pick limit 17 w wf (by decide) (by decide)).mono ?_
  rintro e w1 ⟨rfl, rfl⟩
  have hL1 : 0 ≤ limit % 17 := Int.emod_nonneg _ (by decide)
  have hL2 : limit % 17 < 17 := Int.emod_lt_of_pos _ (by decide)
  generalize limit % 17 = L at *
  have HNB := Lib.hid (Blk.new w 47 #[.string ⟨#[97]⟩, .string ⟨#[]⟩, .string ⟨#[98]⟩, .string ⟨#[]⟩])
  have HB0 := Lib.hid ((Below.refl w.heap.size w).alloc (Nat.le_refl _) (.cells #[.string ⟨#[97]⟩, .string ⟨#[]⟩, .string ⟨#[98]⟩, .string ⟨#[]⟩] 47))
  go_wp2_with fail
  generalize w.alloc (.cells #[.string ⟨#[97]⟩, .string ⟨#[]⟩, .string ⟨#[98]⟩, .string ⟨#[]⟩] 47) = w1 at *
  refine (wo_new0 (w := w1) (g := w.heap.size) (cap := 2) [(⟨#[97]⟩, ⟨#[]⟩), (⟨#[98]⟩, ⟨#[]⟩)] ⟨#[]⟩ L 0 0 HNB.out.lt ?_ (by decide) (by decide) ?_ ?_ ⟨hL1, by omega⟩).mono ?_
  · intro i hi
    have : i = 0 ∨ i = 1 := by have : i < 2 := hi; omega
    rcases this with rfl | rfl
    · exact ⟨HNB.out.cell 0, HNB.out.cell 1⟩
    · exact ⟨HNB.out.cell 2, HNB.out.cell 3⟩
  · intro p hp
    simp at hp
    rcases hp with rfl | rfl <;> exact ⟨by decide, by decide⟩
  · intro k hk
    have : k = 0 ∨ k = 1 := by have : k < 2 := hk; omega
    rcases this with rfl | rfl
    · rfl
    · rfl
  rintro e w2 ⟨pb, M, F, rfl, h2, hb2, hF2, hm2⟩
  obtain ⟨st0, hst0⟩ : ∃ st0 : St, st0 = ⟨L, 0, filesOf [(⟨#[97]⟩, ⟨#[]⟩), (⟨#[98]⟩, ⟨#[]⟩)], ⟨#[]⟩, [], 0, [], [], []⟩ := ⟨_, rfl⟩
  rw [← hst0] at h2
  have hfine0 : Fine L st0 := by rw [hst0]; exact ⟨rfl, hL1, (fun m h => by cases h), List.Pairwise.nil, rfl⟩
  have hz0 : st0.replies = [] ∧ st0.fails = [] ∧ st0.trace.length = 0 := by rw [hst0]; exact ⟨rfl, rfl, rfl⟩
  have HZ0 := Lib.hid hz0
  have HFI0 := Lib.hid hfine0
  have H2 := Lib.hid h2
  have HB2 := Lib.hid (HB0.out.trans (hb2.mono HB0.out.size))
  have HF2 : Hid (∀ g, F g → w.heap.size ≤ g) := fun g e => Nat.le_trans HB0.out.size (hF2 g e)
  have HM2 : Hid (M.m ≤ 2) := hm2
  clear hst0 hfine0 hz0 h2 hb2 hF2 hm2
  go_wp2_with fail
  go_loopw [7] (fun i wr => ∃ (k : Nat) (st : St) (M' : Mem) (F' : Nat → Prop), k ≤ n ∧ k ≤ 60 ∧ i = .int .i64 k ∧ WAt wr F' pb M' st ∧ Fine L st ∧ st.replies = [] ∧ st.fails = [] ∧ st.trace.length ≤ 5 * k ∧ M'.m ≤ 2 + k ∧ (∀ g, F' g → w.heap.size ≤ g) ∧ Below w.heap.size w wr) (fun i _ => n - (intOf i).toNat)
  case atStart => exact ⟨0, st0, M, F, Nat.zero_le _, by omega, rfl, H2.out, HFI0.out, HZ0.out.1, HZ0.out.2.1, by rw [HZ0.out.2.2]; omega, HM2.out, HF2.out, HB2.out⟩
  case round =>
    obtain ⟨k, st, M', F', hk, hk60, rfl, hW, hfine, hrep, hfai, htrl, hmml, hfl, hb⟩ := hrel
    have HW := Lib.hid hW
    have HFINE := Lib.hid hfine
    have HREP := Lib.hid hrep
    have HFAI := Lib.hid hfai
    have HTRL := Lib.hid htrl
    have HMML := Lib.hid hmml
    have HFL := Lib.hid hfl
    have HB := Lib.hid hb
    have HNO : Hid (st.opn.length ≤ 1000000000) := by unfold Hid; have := hfine.len; omega
    have HNT : Hid (st.trace.length ≤ 1000000000) := by unfold Hid; omega
    have HNR : Hid (st.replies.length ≤ 1000000000) := by unfold Hid; rw [hrep]; exact Nat.zero_le _
    have HNF : Hid (st.fails.length ≤ 1000000000) := by unfold Hid; rw [hfai]; exact Nat.zero_le _
    have HMM : Hid (M'.m ≤ 1000000000) := by unfold Hid; omega
    clear hW hfine hrep hfai htrl hmml hfl hb
    have hlen0 : (st.opn.length : Int) ≤ 16 := by have := HFINE.out.len; omega
    by_cases hlt : k < n ∧ k < 60
    · obtain ⟨hlt, hl60⟩ := hlt
      obtain ⟨hol, howf, hocell⟩ := HX.out
      have hko : k < ops.length := by omega
      obtain ⟨ob, oo, rfl, hobl, hoc⟩ := hocell (by omega)
      obtain ⟨q0, q1, q2, q3, q4⟩ := hoc k hko
      obtain ⟨wf0, wf1, wf2, wf3, wf4⟩ := howf _ (List.getElem_mem hko)
      generalize ops[k] = op at *
      obtain ⟨kd, k1, on, od, nn⟩ := op
      simp only [] at q0 q1 q2 q3 q4 wf0 wf1 wf2 wf3 wf4
      have q0' := (HB.out.cell (p := ⟨ob, oo + k * 5, none⟩) hobl).trans q0
      have q1' := (HB.out.cell (p := ⟨ob, oo + k * 5 + 1, none⟩) hobl).trans q1
      have q2' := (HB.out.cell (p := ⟨ob, oo + k * 5 + 2, none⟩) hobl).trans q2
      have q3' := (HB.out.cell (p := ⟨ob, oo + k * 5 + 3, none⟩) hobl).trans q3
      have q4' := (HB.out.cell (p := ⟨ob, oo + k * 5 + 4, none⟩) hobl).trans q4
      have hr0 : 0 ≤ nn % 4 := Int.emod_nonneg _ (by decide)
      have hr4 : nn % 4 < 4 := Int.emod_lt_of_pos _ (by decide)
      obtain ⟨r, hr⟩ : ∃ r : Nat, nn % 4 = r := ⟨(nn % 4).toNat, by omega⟩
      have hrl : r < 4 := by omega
      have HPK := Lib.hid (fun w : World => pick_same nn 4 r hr w wf4 (by decide) (by decide))
      obtain ⟨X, hX⟩ : ∃ X, X = wr.heap.size := ⟨_, rfl⟩
      have HXE := Lib.hid hX
      have hobX : ob < X := by have := HB.out.size; omega
      have HBA := Lib.hid ((Below.refl wr.heap.size wr).alloc (Nat.le_refl _) (.cells #[.int .i64 kd, .int .u8 k1, .string on, .string od, .int .i64 nn] 55))
      have HXB : Hid (Blk (wr.alloc (.cells #[.int .i64 kd, .int .u8 k1, .string on, .string od, .int .i64 nn] 55)) X 55 #[.int .i64 kd, .int .u8 k1, .string on, .string od, .int .i64 nn]) := by rw [hX]; exact Blk.new wr _ _
      have HW2 := Lib.hid (HW.out.pure HBA.out)
      have HB3 := Lib.hid (HB.out.trans (HBA.out.mono HB.out.size))
      have HXF := Lib.hid (show ¬ F' X from fun e => by have := HW.out.flt _ e; omega)
      clear q0 q1 q2 q3 q4 hol howf hocell hoc hr0 hr4 hr wf0 wf1 wf2 wf3 wf4
      go_wp2_with fail
      rw [← hX]
      clear hX q0' q1' q2' q3' q4'
      generalize wr.alloc (.cells #[.int .i64 kd, .int .u8 k1, .string on, .string od, .int .i64 nn] 55) = w3 at *
      obtain ⟨⟨x0, x1, x2, x3, x4⟩, -⟩ := HXB.out.five
      have hsum : IntKind.i64.wrap ((r : Int) + 1) = (r : Int) + 1 := IntWalk.i64_in _ (by omega)
      have hs1 : (0 : Int) ≤ (r : Int) + 1 := by omega
      have hs2 : ((r : Int) + 1).toNat = r + 1 := by omega
      have hs3 : (r : Int) + 1 ≤ 4 := by omega
      go_wp2_with fail
      go_quiet ((go_at_call 10; exact Calls.quiet_of_same (HPK.out _)))
      have HW4 := Lib.hid (HW2.out.drewN nq)
      have HX4 : Hid (Blk (w3.drewN nq) X 55 #[.int .i64 kd, .int .u8 k1, .string on, .string od, .int .i64 nn]) := HXB.out
      have HB4 := Lib.hid (HB3.out.trans ((below_drew w3 nq).mono HB3.out.size))
      clear hsum hs2 x0 x1 x2 x3 x4
      generalize w3.drewN nq = w4 at *
      obtain ⟨⟨x0, x1, x2, x3, x4⟩, -⟩ := HX4.out.five
      obtain ⟨nm, hnm⟩ : ∃ nm, nm = (⟨#[97, 98, 99, 100]⟩ : ByteArray).extract r (r + 1) := ⟨_, rfl⟩
      have hnm9 : nm.size ≤ maxLen := by rw [hnm]; unfold maxLen; simp; omega
      rw [← hnm]
      clear hnm
      by_cases hk3 : kd.tmod 3 = 0
      · have hk3b : (kd.tmod 3 == 0) = true := by simp [hk3]
        clear hk3
        go_wp2_with fail
        refine (wo_streams HW4.out).mono ?_
        rintro e w5 ⟨rfl, rfl⟩
        go_wp2_with fail
        refine (wo_close HW4.out nm HNO.out (by have := HTRL.out; omega) HNR.out).mono ?_
        rintro e w5 ⟨M2, F2, rfl, h5, t5, f5, m5⟩
        obtain ⟨hfine2, hok⟩ := fine_close HFINE.out nm
        have htr2 := closeL_trace st nm
        have hrp2 := closeL_rep st nm
        have hfa2 := closeL_fails st nm
        have HST2 := Lib.hid (And.intro hfine2 (And.intro htr2 (And.intro hrp2 hfa2)))
        rw [hok]
        clear hfine2 htr2 hrp2 hfa2 hok
        have H5 := Lib.hid h5
        have HB5 := Lib.hid (HB4.out.trans (t5.below w.heap.size HB4.out.size (fun i hi e => by have := HFL.out _ e; omega)))
        have HF5 : Hid (∀ g, F2 g → w.heap.size ≤ g) := fun g e => by
          rcases f5 g e with e | e
          · exact HFL.out _ e
          · have := HB4.out.size; omega
        have HM5 := Lib.hid m5
        clear h5 t5 f5 m5 x0 x1 x2 x3 x4
        generalize (closeL st nm).1 = st2 at *
        obtain ⟨a2, ha2⟩ : ∃ a2, a2 = st2.opn.length := ⟨_, rfl⟩
        obtain ⟨a1, ha1⟩ : ∃ a1, a1 = st.opn.length := ⟨_, rfl⟩
        have HA2 := Lib.hid ha2
        rw [← ha2, ← ha1]
        clear ha2 ha1
        have hcase : (a2 < a1) ∨ ¬ (a2 < a1) := by omega
        rcases hcase with hab | hab
        all_goals
          have hab1 : decide (a2 < a1) = true ∨ decide (a2 < a1) = false := by cases decide (a2 < a1) <;> simp
          go_wp2_with fail
          refine (wo_streams H5.out).mono ?_
          rintro e w6 ⟨rfl, rfl⟩
          rw [← HA2.out]
          go_wp2_with fail
          go_roundw
          case rel => exact ⟨k + 1, st2, M2, F2, by omega, by omega, by go_num, H5.out, HST2.out.1, HST2.out.2.2.1.trans HREP.out, HST2.out.2.2.2.trans HFAI.out, by have := HST2.out.2.1; have := HTRL.out; omega, by have := HM5.out; have := HMML.out; omega, HF5.out, HB5.out⟩
          case measure => simp [intOf]; omega
      · have hk3b : (kd.tmod 3 == 0) = false := by simp [hk3]
        clear hk3
        have HK1 := Lib.hid (fun w' (h : Blk w' X 55 #[.int .i64 kd, .int .u8 k1, .string on, .string od, .int .i64 nn]) => h.cell 1)
        go_wp2_with fail
        go_region_held3 (fun w' => w'.cell? ⟨X, 1, none⟩ = some (.int .u8 k1)) (first | exact hc9 | exact HX4.out.cell 1 | go_keep) (first | (go_at_call 16; refine (wo_streams (by first | exact HW4.out | exact HW4.out.drew | exact HW4.out.drew.drew | exact hw9 | exact hw9.drew)).mono ?_; rintro e wx ⟨rfl, rfl⟩) | (go_at_call 18; refine (wo_isopen (by first | exact HW4.out | exact HW4.out.drew | exact HW4.out.drew.drew) k1 nm HNO.out).mono ?_; rintro e w9 ⟨rfl, hb9⟩; have hb9' : Below w4.heap.size w4 w9 := ⟨hb9.os, hb9.tape, hb9.output, hb9.size, hb9.block⟩; have hw9 : WAt w9 F' pb M' st := HW4.out.pure hb9'; have hc9 : w9.cell? ⟨X, 1, none⟩ = some (.int .u8 k1) := (below_blk HX4.out hb9' HX4.out.lt).cell 1))
        have HB9 := Lib.hid (HB4.out.trans (hb9'.mono HB4.out.size))
        have HX9 := Lib.hid (below_blk HX4.out hb9' HX4.out.lt)
        have HW9 := Lib.hid hw9
        have hf6 : k1 = 6 → (openL st k1 nm).2 = 2 := fun e => by unfold openL; rw [if_pos (by omega)]
        clear hb9' hw9 x0 x1 x2 x3 x4
        have c9k : w9.cell? ⟨X, 1, none⟩ = some (.int .u8 k1) := HX9.out.cell 1
        go_wp2_with fail
        refine (wo_open HW9.out k1 nm hnm9 HNO.out HNT.out HNR.out HNF.out HMM.out).mono ?_
        rintro e w10 ⟨M2, F2, rfl, h10, t10, f10, m10⟩
        have hc10 : w10.cell? ⟨X, 1, none⟩ = some (.int .u8 k1) := (HX9.out.keep t10 HXF.out).cell 1
        have H10 := Lib.hid h10
        have HB10 := Lib.hid (HB9.out.trans (t10.below w.heap.size HB9.out.size (fun i hi e => by have := HFL.out _ e; omega)))
        have HM10 := Lib.hid m10
        have HF10 : Hid (∀ g, F2 g → w.heap.size ≤ g) := fun g e => by
          rcases f10 g e with e | e
          · exact HFL.out _ e
          · have := HB9.out.size; omega
        clear h10 t10 f10 m10 c9k
        have hst2 := fine_open HFINE.out k1 nm
        have htr2 := openL_trace st k1 nm
        have hno2 : (openL st k1 nm).1.opn.length ≤ 1000000000 := by have := hst2.1.len; omega
        have HF60 := Lib.hid hf6
        clear hf6
        generalize (openL st k1 nm).2 = f at *
        generalize (openL st k1 nm).1 = st2 at *
        obtain ⟨hfine2, hA2, hC2⟩ := hst2
        generalize (decide (k1 = 6) || (find st k1 nm).isSome) = op1 at *
        have HNO2 := Lib.hid hno2
        have HFINE2 := Lib.hid hfine2
        have HTR2 := Lib.hid htr2
        have HA2 := Lib.hid hA2
        have HC2 := Lib.hid hC2
        have hlim2 : ¬ L < (st2.opn.length : Int) := by have := hfine2.len; omega
        clear htr2 hno2 hfine2 hA2 hC2
        by_cases h6 : k1 = 6
        · have HF6 : Hid (¬ f = 0) := by unfold Hid; have := HF60.out h6; omega
          have e6 : (k1 == 6) = true := by simp [h6]
          have e6b : (k1 != 6) = false := by simp [h6]
          clear h6
          have hb6 : (f == 0) = false := beq_eq_false_iff_ne.2 HF6.out
          have hle : ((st2.opn.length : Int) == (st.opn.length : Int) + 1) = false := by
            have h := HC2.out
            rw [decide_eq_false HF6.out, Bool.false_and] at h
            exact beq_eq_false_iff_ne.2 (fun e => of_decide_eq_false h (by omega))
          go_wp2_with fail
          refine (wo_streams H10.out).mono ?_
          rintro e w11 ⟨rfl, rfl⟩
          go_wp2_with fail
          refine (wo_streams H10.out).mono ?_
          rintro e w11 ⟨rfl, rfl⟩
          go_wp2_with fail
          go_roundw
          case rel => exact ⟨k + 1, st2, M2, F2, by omega, by omega, by go_num, (H10.out), HFINE2.out, HTR2.out.2.1.trans HREP.out, HTR2.out.2.2.trans HFAI.out, by have := HTR2.out.1; have := HTRL.out; omega, by have := HM10.out; have := HMML.out; omega, HF10.out, HB10.out⟩
          case measure => simp [intOf]; omega
        · have e6 : (k1 == 6) = false := by simp [h6]
          have e6b : (k1 != 6) = true := by simp [h6]
          by_cases hf0 : f = 0
          · cases op1
            · have hb6 : (f == 0) = true := (by simp [hf0])
              have HI2 : Hid ((decide (k1 = 6) || (find st2 k1 nm).isSome) = true) := by
                unfold Hid; rw [HA2.out h6, decide_eq_false h6]; simp [hf0]
              have hle : ((st2.opn.length : Int) == (st.opn.length : Int) + 1) = true := by
                have h := HC2.out
                have h2 : decide (st2.opn.length = st.opn.length + 1) = true := by rw [h]; simp [hf0]
                have h3 := of_decide_eq_true h2
                rw [h3]; simp
              clear hf0
              go_wp2_with fail
              refine (wo_isopen H10.out k1 nm HNO2.out).mono ?_
              rintro e w11 ⟨rfl, hb11⟩
              rw [HI2.out]
              have H11 := Lib.hid (H10.out.pure hb11)
              have HB11 := Lib.hid (HB10.out.trans (hb11.mono HB10.out.size))
              clear hb11
              go_wp2_with fail
              refine (wo_streams H11.out).mono ?_
              rintro e w12 ⟨rfl, rfl⟩
              go_wp2_with fail
              refine (wo_streams H11.out).mono ?_
              rintro e w12 ⟨rfl, rfl⟩
              go_wp2_with fail
              go_roundw
              case rel => exact ⟨k + 1, st2, M2, F2, by omega, by omega, by go_num, (H11.out), HFINE2.out, HTR2.out.2.1.trans HREP.out, HTR2.out.2.2.trans HFAI.out, by have := HTR2.out.1; have := HTRL.out; omega, by have := HM10.out; have := HMML.out; omega, HF10.out, HB11.out⟩
              case measure => simp [intOf]; omega
            · have hb6 : (f == 0) = true := (by simp [hf0])
              have HI2 : Hid ((decide (k1 = 6) || (find st2 k1 nm).isSome) = true) := by
                unfold Hid; rw [HA2.out h6, decide_eq_false h6]; simp [hf0]
              have hle : ((st2.opn.length : Int) == (st.opn.length : Int) + 1) = false := by
                have h := HC2.out
                have h2 : decide (st2.opn.length = st.opn.length + 1) = false := by rw [h]; simp [hf0]
                have h3 := of_decide_eq_false h2
                exact beq_eq_false_iff_ne.2 (fun e => h3 (by omega))
              clear hf0
              go_wp2_with fail
              refine (wo_isopen H10.out k1 nm HNO2.out).mono ?_
              rintro e w11 ⟨rfl, hb11⟩
              rw [HI2.out]
              have H11 := Lib.hid (H10.out.pure hb11)
              have HB11 := Lib.hid (HB10.out.trans (hb11.mono HB10.out.size))
              clear hb11
              go_wp2_with fail
              refine (wo_streams H11.out).mono ?_
              rintro e w12 ⟨rfl, rfl⟩
              go_wp2_with fail
              refine (wo_streams H11.out).mono ?_
              rintro e w12 ⟨rfl, rfl⟩
              go_wp2_with fail
              go_roundw
              case rel => exact ⟨k + 1, st2, M2, F2, by omega, by omega, by go_num, (H11.out), HFINE2.out, HTR2.out.2.1.trans HREP.out, HTR2.out.2.2.trans HFAI.out, by have := HTR2.out.1; have := HTRL.out; omega, by have := HM10.out; have := HMML.out; omega, HF10.out, HB11.out⟩
              case measure => simp [intOf]; omega
          · have hb6 : (f == 0) = false := (by simp [hf0])
            have HI2 : Hid ((decide (k1 = 6) || (find st2 k1 nm).isSome) = false) := by
              unfold Hid; rw [HA2.out h6, decide_eq_false h6]; simp [hf0]
            have hle : ((st2.opn.length : Int) == (st.opn.length : Int) + 1) = false := by
              have h := HC2.out
              have h2 : decide (st2.opn.length = st.opn.length + 1) = false := by rw [h]; simp [hf0]
              have h3 := of_decide_eq_false h2
              exact beq_eq_false_iff_ne.2 (fun e => h3 (by omega))
            clear hf0
            go_wp2_with fail
            refine (wo_isopen H10.out k1 nm HNO2.out).mono ?_
            rintro e w11 ⟨rfl, hb11⟩
            rw [HI2.out]
            have H11 := Lib.hid (H10.out.pure hb11)
            have HB11 := Lib.hid (HB10.out.trans (hb11.mono HB10.out.size))
            clear hb11
            go_wp2_with fail
            refine (wo_streams H11.out).mono ?_
            rintro e w12 ⟨rfl, rfl⟩
            go_wp2_with fail
            refine (wo_streams H11.out).mono ?_
            rintro e w12 ⟨rfl, rfl⟩
            go_wp2_with fail
            go_roundw
            case rel => exact ⟨k + 1, st2, M2, F2, by omega, by omega, by go_num, (H11.out), HFINE2.out, HTR2.out.2.1.trans HREP.out, HTR2.out.2.2.trans HFAI.out, by have := HTR2.out.1; have := HTRL.out; omega, by have := HM10.out; have := HMML.out; omega, HF10.out, HB11.out⟩
            case measure => simp [intOf]; omega
    · have hkx : ¬ k < n ∨ ¬ k < 60 := by omega
      have hkx2 : (¬ k < n) ∨ (k < n ∧ ¬ k < 60) := by omega
      clear hlt hkx
      rcases hkx2 with hkx | ⟨hkn, hkx⟩
      all_goals
        go_wp2_with fail
        refine (wo_closeall HW.out (by omega) (by have := HTRL.out; omega) HNR.out).mono ?_
        rintro e w4 ⟨st2, M2, F2, rfl, hcl2, hop2, h4, t4, f4, htr4⟩
        have hfine2 := fine_closed HFINE.out hcl2
        have HBAL : Hid (opens st2.trace = closes st2.trace) := by unfold Hid; have := hfine2.bal; rw [hop2] at this; exact this
        have HOP2 : Hid (st2.opn.length = 0) := by unfold Hid; rw [hop2]; rfl
        have H4 := Lib.hid h4
        have HB4 := Lib.hid (HB.out.trans (t4.below w.heap.size HB.out.size (fun i hi e => by have := HFL.out _ e; omega)))
        have htl2 : st2.trace.length ≤ 100000 := by have := HTRL.out; omega
        clear hfine2 hcl2 hop2 h4 t4 f4 htr4
        go_wp2_with fail
        refine (wo_trace H4.out (by omega)).mono ?_
        rintro e w5 ⟨v5, rfl, hr5, hb5⟩
        obtain ⟨A5, cap5, rfl, hc5, hcm5⟩ := own_form hr5
        have H5 := Lib.hid (H4.out.pure hb5)
        have HB5 := Lib.hid (HB4.out.trans (hb5.mono HB4.out.size))
        have HR5 := Lib.hid hr5
        obtain ⟨N, hN⟩ : ∃ N, N = st2.trace.length := ⟨_, rfl⟩
        have HNN := Lib.hid hN
        rw [← hN] at hc5 htl2 ⊢
        clear hr5 hb5 hN
        have hcm5' : cap5 < 9223372036854775808 := by unfold maxLen at hcm5; omega
        go_wp2_with fail
        go_loopw [16, 17, 123] (fun ov cv i wx => ∃ j : Nat, j ≤ N ∧ i = .int .i64 j ∧ ov = .int .i64 (opens (st2.trace.take j) : Nat) ∧ cv = .int .i64 (closes (st2.trace.take j) : Nat) ∧ Below w5.heap.size w5 wx) (fun _ _ i _ => N - (intOf i).toNat)
        case atStart => exact ⟨0, Nat.zero_le _, rfl, rfl, rfl, Below.refl _ _⟩
        case round =>
          obtain ⟨j, hj, rfl, rfl, rfl, hbx⟩ := hrel
          have HBX := Lib.hid hbx
          have ho1 : opens (st2.trace.take j) ≤ j := Nat.le_trans List.countP_le_length (by simp; omega)
          have hc1 : closes (st2.trace.take j) ≤ j := Nat.le_trans List.countP_le_length (by simp; omega)
          by_cases hjl : j < N
          · have hjt : j < st2.trace.length := by have := HNN.out; omega
            have hN0 : 0 < st2.trace.length := by omega
            obtain ⟨g5, cap6, hv5, -, -⟩ := ownBlock_form HR5.out hN0
            obtain ⟨rfl, -, -⟩ := Value.slice.inj hv5
            obtain ⟨cur5, -, hg5'⟩ := own_lt HR5.out rfl
            have hg5 : g5 < w5.heap.size := hg5'
            have hcell : ∀ q, q < 5 → wr.cell? ⟨g5, j * 5 + q, none⟩ = (st2.trace[j].vals)[q]? := by
              intro q hq
              rw [hbx.cell (p := ⟨g5, j * 5 + q, none⟩) hg5, HR5.out.cellAt (j * 5 + q) (by omega), evals_get st2.trace j q hjt hq]
            have d0 : wr.cell? ⟨g5, j * 5, none⟩ = some (.int .u8 st2.trace[j].k) := hcell 0 (by omega)
            have d1 : wr.cell? ⟨g5, j * 5 + 1, none⟩ = some (.int .u8 st2.trace[j].st) := hcell 1 (by omega)
            have d2 : wr.cell? ⟨g5, j * 5 + 2, none⟩ = some (.string st2.trace[j].name) := hcell 2 (by omega)
            have d3 : wr.cell? ⟨g5, j * 5 + 3, none⟩ = some (.string st2.trace[j].data) := hcell 3 (by omega)
            have d4 : wr.cell? ⟨g5, j * 5 + 4, none⟩ = some (.int .i64 st2.trace[j].status) := hcell 4 (by omega)
            have hot : opens (st2.trace.take (j + 1)) = opens (st2.trace.take j) + if st2.trace[j].k = 1 then 1 else 0 := by
              unfold opens
              rw [List.take_succ_eq_append_getElem hjt, List.countP_append]
              simp [List.countP_cons]
            have hct : closes (st2.trace.take (j + 1)) = closes (st2.trace.take j) + if st2.trace[j].k = 3 then 1 else 0 := by
              unfold closes
              rw [List.take_succ_eq_append_getElem hjt, List.countP_append]
              simp [List.countP_cons]
            have HOT := Lib.hid hot
            have HCT := Lib.hid hct
            have hgx : g5 < wr.heap.size := by have := hbx.size; omega
            have HA5 := Lib.hid (HBX.out.trans (((Below.refl wr.heap.size wr).alloc (Nat.le_refl _) (.cells #[.int .u8 st2.trace[j].k, .int .u8 st2.trace[j].st, .string st2.trace[j].name, .string st2.trace[j].data, .int .i64 st2.trace[j].status] 41)).mono HBX.out.size))
            have hk3 : st2.trace[j].k = 1 ∨ (st2.trace[j].k ≠ 1 ∧ st2.trace[j].k = 3) ∨ (st2.trace[j].k ≠ 1 ∧ st2.trace[j].k ≠ 3) := by omega
            clear hcell hot hct hv5 hbx hg5'
            generalize st2.trace[j].k = ek at *
            generalize st2.trace[j].st = es at *
            generalize st2.trace[j].name = en at *
            generalize st2.trace[j].data = ed at *
            generalize st2.trace[j].status = et at *
            rcases hk3 with h1 | ⟨h1, h3⟩ | ⟨h1, h3⟩
            · have e1 : (ek == 1) = true := by simp [h1]
              have e3 : (ek == 3) = false := by simp [h1]
              have HO1 := HOT
              have HC1 := HCT
              rw [if_pos h1] at HO1
              rw [if_neg (by omega)] at HC1
              clear h1 HOT HCT
              go_wp2_with fail
              go_roundw
              case rel => exact ⟨j + 1, by omega, by go_num, by rw [HO1.out]; go_num, by rw [HC1.out]; rfl, HA5.out⟩
              case measure => simp [intOf]; omega
            · have e1 : (ek == 1) = false := by simp [h1]
              have e3 : (ek == 3) = true := by simp [h3]
              have HO1 := HOT
              have HC1 := HCT
              rw [if_neg h1] at HO1
              rw [if_pos h3] at HC1
              clear h1 h3 HOT HCT
              go_wp2_with fail
              go_roundw
              case rel => exact ⟨j + 1, by omega, by go_num, by rw [HO1.out]; rfl, by rw [HC1.out]; go_num, HA5.out⟩
              case measure => simp [intOf]; omega
            · have e1 : (ek == 1) = false := by simp [h1]
              have e3 : (ek == 3) = false := by simp [h3]
              have HO1 := HOT
              have HC1 := HCT
              rw [if_neg h1] at HO1
              rw [if_neg h3] at HC1
              clear h1 h3 HOT HCT
              go_wp2_with fail
              go_roundw
              case rel => exact ⟨j + 1, by omega, by go_num, by rw [HO1.out]; rfl, by rw [HC1.out]; rfl, HA5.out⟩
              case measure => simp [intOf]; omega
          · obtain rfl : j = N := by omega
            have hbal : opens (st2.trace.take j) = closes (st2.trace.take j) := by
              rw [HNN.out, List.take_length]; exact HBAL.out
            have H6 := Lib.hid (H5.out.pure hbx)
            have HB6 := Lib.hid (HB5.out.trans (hbx.mono HB5.out.size))
            rw [← hbal]
            clear hbal hbx
            generalize opens (st2.trace.take j) = oc at *
            go_wp2_with fail
            refine (wo_streams H6.out).mono ?_
            rintro e w7 ⟨rfl, rfl⟩
            rw [HOP2.out]
            go_wp2_with fail
            refine (Awake.walk _).mono ?_
            rintro e w8 ⟨rfl, hb8⟩
            go_wp2_with fail
            go_ret
            exact ⟨by simp [go_sem], HB6.out.trans (hb8.mono HB6.out.size)⟩
set_option maxRecDepth 100000 in
theorem l_limits {H : Type} {enc : TypeId × Value → H} {base : Nat} {d : DataW H} {p : List MemPlace} {spare : Nat → Bool} {held : Bool} {r} (limit : Int) (v0 : Value) (w : World) (hsh : w.ShapedOpen Try.prog) (wf : (Lit.int .i64 limit).wf = true)
    (hval : Value.okWide Try.prog w r base 43 v0) (k : DataW.Trod enc Try.prog w 0 spare held 43 v0 d p) :
    Calls Try.prog 4 #[.int .i64 limit, v0] w fun e w' => e = .returned (.bool true) ∧ Below w.heap.size w w' := by
  obtain ⟨A, n, cap, xs, rfl, hx, hc, hcm⟩ := ops_open hval k
  exact l_limits' w limit A n cap xs wf hx hc hcm
end Go.Proofs.Ytodjjnklelfgfaa
namespace Go.Proofs.Ytodjjnklelfgfaa
open Go.RowKit Wd
open Go.WideMaps Go.WideElems Go.WideAt
theorem tdiv3_range {c : Int} (h : -9223372036854775808 ≤ c ∧ c ≤ 9223372036854775807) : -9223372036854775808 ≤ c.tdiv 3 ∧ c.tdiv 3 ≤ 9223372036854775807 := by
  have h1 : (c.tdiv 3).natAbs = c.natAbs / 3 := Int.natAbs_tdiv c 3
  omega
set_option maxRecDepth 100000 in
set_option maxHeartbeats 8000000 in
theorem l_whole' (w : World) (file stdin reply : ByteArray) (A B : Option Addr) (n cap m capd : Nat) (cuts : List Int) (data : List ByteArray) (hcu : Ints w w.heap.size A n cuts) (hda : Strs w w.heap.size B m data) (hds : ∀ x ∈ data, x.size ≤ maxLen) (hc : n ≤ cap) (hcm : cap ≤ maxLen) (hd : m ≤ capd) (hdm : capd ≤ maxLen)
    (h1 : file.size ≤ 300) (h2 : stdin.size ≤ 300) (h3 : reply.size ≤ 300) :
    Calls Try.prog 3 #[.string file, .string stdin, .string reply, .slice A n cap, .slice B m capd] w fun e w' => e = .returned (.bool true) ∧ Below w.heap.size w w' := by
  have HCU := Lib.hid hcu
  have HDA := Lib.hid hda
  have HDS := Lib.hid hds
  have hcl : cap < 9223372036854775808 := by unfold maxLen at hcm; omega
  have hdl : capd < 9223372036854775808 := by unfold maxLen at hdm; omega
  clear hcu hda hds
  go_enter Try.func3, Try.ntmps3
  go_wp2_with fail
  refine (wo_plain _ file stdin reply h1).mono ?_
  rintro e w2 ⟨pb, rfl, hp2⟩
  have HP2 := Lib.hid hp2
  have HS2 := Lib.hid (six_new w2)
  have HB2 := Lib.hid (six_below w2 (.cells #[.string ⟨#[]⟩, .string ⟨#[]⟩, .string ⟨#[]⟩] 27) (.cells #[.string ⟨#[]⟩, .string ⟨#[]⟩, .string ⟨#[]⟩] 27) (.cells #[.string ⟨#[102]⟩, .string ⟨#[45]⟩, .string ⟨#[99]⟩] 27) (.cells #[.int .u8 1, .int .u8 1, .int .u8 2] 29) (.cells #[.string ⟨#[111]⟩, .string ⟨#[102]⟩, .string ⟨#[112]⟩] 27) (.cells #[.int .u8 3, .int .u8 4, .int .u8 5] 29))
  clear hp2
  go_wp2_with fail
  obtain ⟨g, hg⟩ : ∃ g, g = w2.heap.size := ⟨_, rfl⟩
  rw [← hg] at HS2 HB2 ⊢
  have HG := Lib.hid hg
  clear hg
  generalize (((((w2.alloc (.cells #[.string ⟨#[]⟩, .string ⟨#[]⟩, .string ⟨#[]⟩] 27)).alloc (.cells #[.string ⟨#[]⟩, .string ⟨#[]⟩, .string ⟨#[]⟩] 27)).alloc (.cells #[.string ⟨#[102]⟩, .string ⟨#[45]⟩, .string ⟨#[99]⟩] 27)).alloc (.cells #[.int .u8 1, .int .u8 1, .int .u8 2] 29)).alloc (.cells #[.string ⟨#[111]⟩, .string ⟨#[102]⟩, .string ⟨#[112]⟩] 27)).alloc (.cells #[.int .u8 3, .int .u8 4, .int .u8 5] 29) = w3 at *
  obtain ⟨g1, hg1⟩ : ∃ x, x = g + 1 := ⟨_, rfl⟩
  rw [← hg1]
  obtain ⟨g2, hg2⟩ : ∃ x, x = g1 + 1 := ⟨_, rfl⟩
  rw [← hg2]
  obtain ⟨g3, hg3⟩ : ∃ x, x = g2 + 1 := ⟨_, rfl⟩
  rw [← hg3]
  obtain ⟨g4, hg4⟩ : ∃ x, x = g3 + 1 := ⟨_, rfl⟩
  rw [← hg4]
  obtain ⟨g5, hg5⟩ : ∃ x, x = g4 + 1 := ⟨_, rfl⟩
  rw [← hg5]
  have HNM : Hid (Names g g1 g2 g3 g4 g5) := ⟨hg1, by rw [hg2, hg1], by rw [hg3, hg2, hg1], by rw [hg4, hg3, hg2, hg1], by rw [hg5, hg4, hg3, hg2, hg1]⟩
  have HXG0 : Hid (InX g g) := ⟨Nat.le_refl _, by omega⟩
  have HXG1 : Hid (InX g g1) := ⟨by omega, by omega⟩
  clear hg1 hg2 hg3 hg4 hg5
  have HR3 : Hid (Run (InX g) w w3 pb 0 (srcs file stdin reply) nones nones) := run_start (HP2.out.px (by have := HB2.out.1; rw [HG.out] at this; exact this) (fun i hi => by have := HB2.out.2; have := HG.out; obtain ⟨_, _⟩ := hi; omega)) h1 h2 h3
  obtain ⟨src, hsrc⟩ : ∃ src, src = srcs file stdin reply := ⟨_, rfl⟩
  rw [← hsrc] at HR3
  have HSRC := Lib.hid hsrc
  clear hsrc
  have HS3 : Hid (Six w3 g nones nones) := HS2.out
  clear HS2 HB2 HP2 HG
  go_loopw [18] (fun i wr => ∃ (k : Nat) (a q : Nat → ByteArray), k ≤ n ∧ k ≤ 40 ∧ i = .int .i64 k ∧ Run (InX g) w wr pb k src a q ∧ Six wr g a q) (fun i _ => n - (intOf i).toNat)
  case atStart => exact ⟨0, nones, nones, Nat.zero_le _, by omega, rfl, HR3.out, HS3.out⟩
  case round =>
    obtain ⟨k, a, q, hkn, hk40, rfl, hrun, hsix⟩ := hrel
    have HRUN := Lib.hid hrun
    have HSIX := Lib.hid hsix
    clear hrun hsix
    by_cases hlt : k < n ∧ k < 40
    · obtain ⟨hlt, hl40⟩ := hlt
      obtain ⟨hol, howf, hocell⟩ := HCU.out
      have hko : k < cuts.length := by omega
      obtain ⟨ob, oo, rfl, hobl, hoc⟩ := hocell (by omega)
      have ck := hoc k hko
      have wfk := howf _ (List.getElem_mem hko)
      generalize cuts[k] = c at *
      have hHB := HRUN.out.below
      have ck' := (hHB.cell (p := ⟨ob, oo + k, none⟩) hobl).trans ck
      have hr0 : 0 ≤ c % 3 := Int.emod_nonneg _ (by decide)
      have hr4 : c % 3 < 3 := Int.emod_lt_of_pos _ (by decide)
      obtain ⟨j, hr⟩ : ∃ j : Nat, c % 3 = j := ⟨(c % 3).toNat, by omega⟩
      have hj3 : j < 3 := by omega
      have hwd : -9223372036854775808 ≤ c ∧ c ≤ 9223372036854775807 := by simp [Lit.wf, IntKind.min, IntKind.max, IntKind.bits, IntKind.signed] at wfk; omega
      obtain ⟨c3, hc3⟩ : ∃ c3, c3 = c.tdiv 3 := ⟨_, rfl⟩
      have hc3b : -9223372036854775808 ≤ c3 ∧ c3 ≤ 9223372036854775807 := by rw [hc3]; exact tdiv3_range hwd
      have hq3 : IntKind.i64.wrap (c.tdiv 3) = c3 := by rw [← hc3]; exact IntWalk.i64_in _ hc3b
      have wf3 : (Lit.int .i64 c3).wf = true := by simp [Lit.wf, IntKind.min, IntKind.max, IntKind.bits, IntKind.signed]; omega
      have hs0 : 0 ≤ c3 % 50 := Int.emod_nonneg _ (by decide)
      have hs4 : c3 % 50 < 50 := Int.emod_lt_of_pos _ (by decide)
      obtain ⟨p, hp⟩ : ∃ p : Nat, c3 % 50 = p := ⟨(c3 % 50).toNat, by omega⟩
      have HPK := Lib.hid (fun w : World => pick_same c 3 j hr w wfk (by decide) (by decide))
      have HPK3 := Lib.hid (fun w : World => pick_same c3 50 p hp w wf3 (by decide) (by decide))
      obtain ⟨x, hx⟩ : ∃ x : Nat, x = p + 1 := ⟨_, rfl⟩
      have hsum : IntKind.i64.wrap (1 + (p : Int)) = (x : Int) := by rw [hx, IntWalk.i64_in _ (by omega)]; omega
      have hx1 : 1 ≤ x ∧ x ≤ 1000 := by omega
      obtain ⟨y0, y1, y2, y3, y4, y5⟩ := HSIX.out.cells' HNM.out hj3
      have hj3i : (j : Int) < 3 := by omega
      have hkni : (k : Int) < (n : Int) := by omega
      clear hr0 hr4 hr hwd hc3 hc3b wfk wf3 hs0 hs4 hp hx hol howf hocell hoc hHB
      go_wp2_with fail
      refine (HPK.out _).mono ?_
      rintro e w5 ⟨rfl, hw5⟩
      obtain rfl : wr = w5 := hw5.symm
      go_wp2_with fail
      go_region_held3 (fun w' => w'.cell? ⟨g3, j, none⟩ = some (.int .u8 (inK j)) ∧ w'.cell? ⟨g2, j, none⟩ = some (.string (inN j)) ∧ w'.cell? ⟨ob, oo + k, none⟩ = some (.int .i64 c)) (first | exact ⟨y3, y2, ck'⟩ | exact hy6 | go_keep) (first | (go_at_call 10; refine (HPK3.out _).mono ?_; rintro e w5 ⟨rfl, rfl⟩) | (go_at_call 11; refine (run_read (by first | exact HRUN.out.drew | exact HRUN.out) j hj3 x hx1).mono ?_; rintro e w6 ⟨s, rfl, hrun6, ht6, -, -, hsz6⟩; have hsix6 : Six w6 g a q := (by first | exact HSIX.out.drew.keep ht6 | exact HSIX.out.keep ht6); have hy6 : w6.cell? ⟨g3, j, none⟩ = some (.int .u8 (inK j)) ∧ w6.cell? ⟨g2, j, none⟩ = some (.string (inN j)) ∧ w6.cell? ⟨ob, oo + k, none⟩ = some (.int .i64 c) := ⟨(hsix6.cells' HNM.out hj3).2.2.2.1, (hsix6.cells' HNM.out hj3).2.2.1, (hrun6.below.cell (p := ⟨ob, oo + k, none⟩) hobl).trans ck⟩; clear ht6))
      have HRUN6 := Lib.hid hrun6
      have HSIX6 := Lib.hid hsix6
      clear hrun6 hsix6 hy6 y0 y1 y2 y3 y4 y5 hq3 hsum ck ck'
      obtain ⟨y0, y1, y2, y3, y4, y5⟩ := HSIX6.out.cells' HNM.out hj3
      obtain ⟨z0, z1⟩ := HSIX6.out.frees HNM.out j
      have hab : (a j).size + s.size ≤ 9223372036854775807 := by omega
      have hHB6 := HRUN6.out.below
      by_cases hkm : k < m
      · have hda := HDA.out
        obtain ⟨hdl0, hdcell⟩ := hda
        have hkd : k < data.length := by omega
        obtain ⟨db, dof, rfl, hdbl, hdc⟩ := hdcell (by omega)
        have dk := hdc k hkd
        have hdsz := HDS.out _ (List.getElem_mem hkd)
        generalize data[k] = d at *
        have hkmi : (k : Int) < (m : Int) := by omega
        have HDK := Lib.hid (show ∀ w', Below w.heap.size w w' → w'.cell? ⟨db, dof + k, none⟩ = some (.string d) from fun w' hb => (hb.cell (p := ⟨db, dof + k, none⟩) hdbl).trans dk)
        have dk' := HDK.out _ hHB6
        have hds63 : d.size ≤ 9223372036854775807 := by unfold maxLen at hdsz; omega
        clear hdl0 hdcell hdc dk hdsz hHB6
        have HRUN7 := Lib.hid (HRUN6.out.set g j (.string (a j ++ s)) HXG0.out)
        have HSIX7 := Lib.hid (HSIX6.out.setGot hj3 (a j ++ s))
        have dk7 := HDK.out _ HRUN7.out.below
        by_cases hd100 : d.size < 100
        · go_wp2_with fail
          clear y0 y1 y2 y3 y4 y5 z0 z1 dk' dk7
          generalize w6.setCell ⟨g, j, none⟩ (.string (a j ++ s)) = w7 at *
          obtain ⟨y0, y1, y2, y3, y4, y5⟩ := HSIX7.out.cells' HNM.out hj3
          have dk7 := HDK.out _ HRUN7.out.below
          refine wp_region_still_tail 11 (by kernel_rfl) (by kernel_rfl) ?_
          simp only [List.take_succ_cons, List.take_zero, List.drop_succ_cons, List.drop_zero]
          repeat still_step
          refine wpStill_nil ?_
          change wpList _ _ _ _ _ w7.drew
          have HRUN8 := Lib.hid HRUN7.out.drew
          have HSIX8 := Lib.hid HSIX7.out.drew
          clear y0 y1 y2 y3 y4 y5 dk7
          generalize w7.drew = w8 at *
          go_wp2_with fail
          refine (run_write HRUN8.out j hj3 hl40 d (by omega)).mono ?_
          rintro e w9 ⟨rfl, hrun9, ht9⟩
          have HRUN9 := Lib.hid hrun9
          have HSIX9 := Lib.hid (HSIX8.out.keep ht9)
          clear hrun9 ht9
          have hqd : (q j).size + d.size ≤ 9223372036854775807 := by have := HRUN8.out.put_at hj3; omega
          have hqd' : ¬ 9223372036854775807 < (q j).size + d.size := by omega
          go_wp2_with fail
          obtain ⟨y0, y1, y2, y3, y4, y5⟩ := HSIX9.out.cells' HNM.out hj3
          obtain ⟨z0, z1⟩ := HSIX9.out.frees HNM.out j
          have dk9 := HDK.out _ HRUN9.out.below
          refine wp_region_still_tail 10 (by kernel_rfl) (by kernel_rfl) ?_
          simp only [List.take_succ_cons, List.take_zero, List.drop_succ_cons, List.drop_zero]
          repeat still_step
          refine wpStill_nil ?_
          change wpList _ _ _ _ _ w9.drew
          have HRUN10 := Lib.hid HRUN9.out.drew
          have HSIX10 := Lib.hid HSIX9.out.drew
          clear y0 y1 y2 y3 y4 y5 dk9 z0 z1
          generalize w9.drew = w10 at *
          obtain ⟨z0, z1⟩ := HSIX10.out.frees HNM.out j
          obtain ⟨-, y1, -, -, -, -⟩ := HSIX10.out.cells' HNM.out hj3
          have HRUN11 := Lib.hid (HRUN10.out.set g1 j (.string (q j ++ d)) HXG1.out)
          have HSIX11 := Lib.hid (HSIX10.out.setPut' HNM.out hj3 (q j ++ d))
          go_wp2_with fail
          go_roundw
          case rel => exact ⟨k + 1, _, _, by omega, by omega, by go_num, HRUN11.out, HSIX11.out⟩
          case measure => simp [intOf]; omega
        · go_wp2_with fail
          go_roundw
          case rel => exact ⟨k + 1, _, _, by omega, by omega, by go_num, HRUN7.out.more hl40, HSIX7.out⟩
          case measure => simp [intOf]; omega
      · have HRUN7 := Lib.hid (HRUN6.out.set g j (.string (a j ++ s)) HXG0.out)
        have HSIX7 := Lib.hid (HSIX6.out.setGot hj3 (a j ++ s))
        clear hHB6
        go_wp2_with fail
        go_roundw
        case rel => exact ⟨k + 1, _, _, by omega, by omega, by go_num, HRUN7.out.more hl40, HSIX7.out⟩
        case measure => simp [intOf]; omega
    · have hkx2 : (¬ k < n) ∨ (k < n ∧ ¬ k < 40) := by omega
      have hend : Hid (∀ w5 : World, w5 = wr → True) := fun _ _ => trivial
      rcases hkx2 with hkx | ⟨hkn2, hkx⟩
      all_goals
        clear hlt
        obtain ⟨sb, hsb⟩ : ∃ sb, sb = wr.heap.size := ⟨_, rfl⟩
        have HSB := Lib.hid hsb
        have HSR : Hid (Blk (wr.alloc (.cells #[.string file, .string stdin, .string reply] 27)) sb 27 (six3 src)) := by
          rw [HSRC.out, hsb]; exact Blk.new wr _ _
        have HRUN4 := Lib.hid (HRUN.out.grow (.cells #[.string file, .string stdin, .string reply] 27))
        have HSIX4 := Lib.hid (HSIX.out.pure ((Below.refl wr.heap.size wr).alloc (Nat.le_refl _) (.cells #[.string file, .string stdin, .string reply] 27)))
        rw [← hsb] at HRUN4
        go_wp2_with fail
        rw [← hsb]
        clear hsb
        generalize wr.alloc (.cells #[.string file, .string stdin, .string reply] 27) = w4 at *
        clear HRUN HSIX HSB
        generalize wr = wz at *
        go_loopw [23] (fun i wr => ∃ (t : Nat) (b : Nat → ByteArray), t ≤ 3 ∧ i = .int .i64 t ∧ Run (fun i => InX g i ∨ i = sb) w wr pb k src b q ∧ Six wr g a q ∧ Blk wr sb 27 (six3 src) ∧ (∀ j, t ≤ j → b j = a j)) (fun i _ => 3 - (intOf i).toNat)
        case atStart => exact ⟨0, a, by omega, rfl, HRUN4.out, HSIX4.out, HSR.out, fun _ _ => rfl⟩
        case round =>
          clear HRUN4 HSIX4 HSR
          obtain ⟨t, b, ht3, rfl, hrun, hsix, hsr, hba⟩ := hrel
          have HRUN := Lib.hid hrun
          have HSIX := Lib.hid hsix
          have HSR := Lib.hid hsr
          have HBA := Lib.hid hba
          clear hrun hsix hsr hba
          by_cases hlt : t < 3
          · have hlti : (t : Int) < 3 := by omega
            obtain ⟨y0, y1, y2, y3, y4, y5⟩ := HSIX.out.cells' HNM.out hlt
            clear y0 y1 y4 y5
            go_wp2_with fail
            go_region_held3 (fun w' => w'.cell? ⟨g3, t, none⟩ = some (.int .u8 (inK t)) ∧ w'.cell? ⟨g2, t, none⟩ = some (.string (inN t))) (first | exact ⟨y3, y2⟩ | exact hy6 | go_keep) (first | (go_at_call 11; refine (run_readA (by first | exact HRUN.out.drew | exact HRUN.out) t hlt).mono ?_; rintro e w6 ⟨s, rfl, hrun6, ht6, hs6, hsz6⟩; have hsix6 : Six w6 g a q := (by first | exact HSIX.out.drew.keep (ht6.mono (fun i _ h e => h (.inl e))) | exact HSIX.out.keep (ht6.mono (fun i _ h e => h (.inl e)))); have hsr6 : Blk w6 sb 27 (six3 src) := (by first | exact (show Blk wr.drew sb 27 (six3 src) from HSR.out).keep ht6 (fun h => h (.inr rfl)) | exact HSR.out.keep ht6 (fun h => h (.inr rfl))); have hy6 : w6.cell? ⟨g3, t, none⟩ = some (.int .u8 (inK t)) ∧ w6.cell? ⟨g2, t, none⟩ = some (.string (inN t)) := ⟨(hsix6.cells' HNM.out hlt).2.2.2.1, (hsix6.cells' HNM.out hlt).2.2.1⟩; clear ht6))
            have HRUN6 := Lib.hid hrun6
            have HSIX6 := Lib.hid hsix6
            have HSR6 := Lib.hid hsr6
            have hs6' : a t ++ s = src t := by rw [← HBA.out t (Nat.le_refl _)]; exact hs6
            have HS6 := Lib.hid hs6'
            have HUPD := Lib.hid (upd_at b t (src t))
            have hsz7 : (a t).size + s.size ≤ 300 := by rw [← HBA.out t (Nat.le_refl _)]; exact hsz6
            clear hrun6 hsix6 hsr6 hy6 y2 y3 hs6 hs6' hsz6
            obtain ⟨y0, y1, y2, y3, y4, y5⟩ := HSIX6.out.cells' HNM.out hlt
            clear y0 y1 y4 y5
            go_wp2_with fail
            go_region_held3 (fun w' => w'.cell? ⟨g3, t, none⟩ = some (.int .u8 (inK t)) ∧ w'.cell? ⟨g2, t, none⟩ = some (.string (inN t))) (first | exact ⟨y3, y2⟩ | exact hy7 | go_keep) (first | (go_at_call 11; refine (run_readB (by first | exact HRUN6.out.drew | exact HRUN6.out) t hlt HUPD.out).mono ?_; rintro e w7 ⟨rfl, hrun7, ht7⟩; have hsix7 : Six w7 g a q := (by first | exact HSIX6.out.drew.keep (ht7.mono (fun i _ h e => h (.inl e))) | exact HSIX6.out.keep (ht7.mono (fun i _ h e => h (.inl e)))); have hsr7 : Blk w7 sb 27 (six3 src) := (by first | exact (show Blk w6.drew sb 27 (six3 src) from HSR6.out).keep ht7 (fun h => h (.inr rfl)) | exact HSR6.out.keep ht7 (fun h => h (.inr rfl))); have hy7 : w7.cell? ⟨g3, t, none⟩ = some (.int .u8 (inK t)) ∧ w7.cell? ⟨g2, t, none⟩ = some (.string (inN t)) := ⟨(hsix7.cells' HNM.out hlt).2.2.2.1, (hsix7.cells' HNM.out hlt).2.2.1⟩; clear ht7))
            have HRUN7 := Lib.hid hrun7
            have HSIX7 := Lib.hid hsix7
            have HSR7 := Lib.hid hsr7
            clear hrun7 hsix7 hsr7 hy7 y2 y3
            obtain ⟨y0, y1, y2, y3, y4, y5⟩ := HSIX7.out.cells' HNM.out hlt
            clear y1 y2 y3 y4 y5
            have ys : w7.cell? ⟨sb, t, none⟩ = some (.string (src t)) := by rw [HSR7.out.cell, six3_get _ hlt]
            have hs6' := HS6.out
            have hszn : ¬ 9223372036854775807 < (a t).size + s.size := by omega
            go_wp2_with fail
            go_quiet (fail)
            have HRUN8 := Lib.hid (HRUN7.out.drewN nq)
            have HSIX8 := Lib.hid (HSIX7.out.drewN nq)
            have HSR8 : Hid (Blk (w7.drewN nq) sb 27 (six3 src)) := HSR7.out
            clear y0 ys hs6'
            generalize w7.drewN nq = w8 at *
            go_wp2_with fail
            go_roundw
            case rel => exact ⟨t + 1, upd b t (src t), by omega, by go_num, HRUN8.out, HSIX8.out, HSR8.out, fun j hj => by rw [upd_no _ _ (by omega)]; exact HBA.out j (by omega)⟩
            case measure => simp [intOf]; omega
          · have hlti : ¬ (t : Int) < 3 := by omega
            go_wp2_with fail
            refine (run_file_o HRUN.out).mono ?_
            rintro e w5 ⟨rfl, hw5⟩
            obtain rfl : wr = w5 := hw5
            go_wp2_with fail
            refine (run_file_f HRUN.out).mono ?_
            rintro e w5 ⟨rfl, hw5⟩
            obtain rfl : wr = w5 := hw5
            rw [show src 0 = file by rw [HSRC.out]; rfl]
            go_wp2_with fail
            refine (run_trace HRUN.out).mono ?_
            rintro e w5 ⟨v5, tr, rfl, hr5, hb5, hpd, htl2⟩
            obtain ⟨A5, cap5, rfl, hc5, hcm5⟩ := own_form hr5
            have HB5 := Lib.hid (HRUN.out.below.trans (hb5.mono HRUN.out.below.size))
            have HSIX5 := Lib.hid (HSIX.out.pure hb5)
            have hq1 : (q 1).size ≤ 4000 := HRUN.out.put_at (by omega)
            have hq2 : (piped tr).size ≤ 4000 := by rw [hpd]; exact HRUN.out.put_at (by omega)
            have HR5 := Lib.hid hr5
            have HPD := Lib.hid hpd
            obtain ⟨N, hN⟩ : ∃ N, N = tr.length := ⟨_, rfl⟩
            have HNN := Lib.hid hN
            rw [← hN] at hc5 htl2 ⊢
            clear hr5 hb5 hN hpd
            have hcm5' : cap5 < 9223372036854775808 := by unfold maxLen at hcm5; omega
            go_wp2_with fail
            clear HRUN HSIX HSR
            generalize wr = wy at *
            go_loopw [32, 200] (fun pv i wx => ∃ j : Nat, j ≤ N ∧ i = .int .i64 j ∧ pv = .string (piped (tr.take j)) ∧ Below w5.heap.size w5 wx) (fun _ i _ => N - (intOf i).toNat)
            case atStart => exact ⟨0, Nat.zero_le _, rfl, rfl, Below.refl _ _⟩
            case round =>
              obtain ⟨j, hj, rfl, rfl, hbx⟩ := hrel
              have HBX := Lib.hid hbx
              have hpl := piped_take_le tr j
              by_cases hjl : j < N
              · have hjt : j < tr.length := by have := HNN.out; omega
                have hN0 : 0 < tr.length := by omega
                obtain ⟨gt, cap6, hv5, -, -⟩ := ownBlock_form HR5.out hN0
                obtain ⟨rfl, -, -⟩ := Value.slice.inj hv5
                obtain ⟨cur5, -, hg5'⟩ := own_lt HR5.out rfl
                have hg5 : gt < w5.heap.size := hg5'
                have hcell : ∀ q, q < 5 → wr.cell? ⟨gt, j * 5 + q, none⟩ = (tr[j].vals)[q]? := by
                  intro q hq
                  rw [hbx.cell (p := ⟨gt, j * 5 + q, none⟩) hg5, HR5.out.cellAt (j * 5 + q) (by omega), evals_get tr j q hjt hq]
                have d0 : wr.cell? ⟨gt, j * 5, none⟩ = some (.int .u8 tr[j].k) := hcell 0 (by omega)
                have d1 : wr.cell? ⟨gt, j * 5 + 1, none⟩ = some (.int .u8 tr[j].st) := hcell 1 (by omega)
                have d2 : wr.cell? ⟨gt, j * 5 + 2, none⟩ = some (.string tr[j].name) := hcell 2 (by omega)
                have d3 : wr.cell? ⟨gt, j * 5 + 3, none⟩ = some (.string tr[j].data) := hcell 3 (by omega)
                have d4 : wr.cell? ⟨gt, j * 5 + 4, none⟩ = some (.int .i64 tr[j].status) := hcell 4 (by omega)
                have hpt := piped_take_succ tr j hjt
                have hpl2 := piped_take_le tr (j + 1)
                have HPT := Lib.hid hpt
                have hgx : gt < wr.heap.size := by have := hbx.size; omega
                have HA5 := Lib.hid (HBX.out.trans (((Below.refl wr.heap.size wr).alloc (Nat.le_refl _) (.cells #[.int .u8 tr[j].k, .int .u8 tr[j].st, .string tr[j].name, .string tr[j].data, .int .i64 tr[j].status] 41)).mono HBX.out.size))
                have hip : isPipe tr[j] = (tr[j].k == 2 && tr[j].st == 5) := rfl
                have hk3 : (tr[j].k = 2 ∧ tr[j].st = 5) ∨ (tr[j].k = 2 ∧ tr[j].st ≠ 5) ∨ tr[j].k ≠ 2 := by omega
                rw [hip] at hpt HPT
                clear hcell hv5 hbx hg5' hip
                generalize tr[j].k = ek at *
                generalize tr[j].st = es at *
                generalize tr[j].name = en at *
                generalize tr[j].data = ed at *
                generalize tr[j].status = et at *
                rcases hk3 with ⟨h1, h3⟩ | ⟨h1, h3⟩ | h1
                · subst h1
                  subst h3
                  have HP1 : Hid (piped (tr.take (j + 1)) = piped (tr.take j) ++ ed) := HPT.out
                  have hcat : (piped (tr.take j)).size + ed.size ≤ 9223372036854775807 := by rw [HP1.out, ByteArray.size_append] at hpl2; omega
                  clear hpt HPT hpl2 hpl
                  generalize piped (tr.take j) = pj at *
                  go_wp2_with fail
                  go_roundw
                  case rel => exact ⟨j + 1, by omega, by go_num, by rw [HP1.out], HA5.out⟩
                  case measure => simp [intOf]; omega
                · have e1 : (ek == 2) = true := by simp [h1]
                  have e3 : (es == 5) = false := by simp [h3]
                  have HP1 : Hid (piped (tr.take (j + 1)) = piped (tr.take j)) := by unfold Hid; rw [HPT.out, e3, Bool.and_false]; rfl
                  clear hpt HPT hpl2 hpl h1 h3
                  generalize piped (tr.take j) = pj at *
                  go_wp2_with fail
                  go_roundw
                  case rel => exact ⟨j + 1, by omega, by go_num, by rw [HP1.out], HA5.out⟩
                  case measure => simp [intOf]; omega
                · have e1 : (ek == 2) = false := by simp [h1]
                  have HP1 : Hid (piped (tr.take (j + 1)) = piped (tr.take j)) := by unfold Hid; rw [HPT.out, e1, Bool.false_and]; rfl
                  clear hpt HPT hpl2 hpl h1
                  generalize piped (tr.take j) = pj at *
                  go_wp2_with fail
                  go_roundw
                  case rel => exact ⟨j + 1, by omega, by go_num, by rw [HP1.out], HA5.out⟩
                  case measure => simp [intOf]; omega
              · obtain rfl : j = N := by omega
                have hpq : piped (tr.take j) = q 2 := by rw [HNN.out, List.take_length]; exact HPD.out
                rw [hpq]
                have HSIX6 := Lib.hid (HSIX5.out.pure hbx)
                have HB6 := Lib.hid (HB5.out.trans (hbx.mono HB5.out.size))
                clear hbx hpq hpl
                have hfq : file.size + (q 1).size ≤ 9223372036854775807 := by omega
                obtain ⟨-, u0, -⟩ := HSIX6.out.cells' HNM.out (j := 0) (by omega)
                obtain ⟨-, u1, -⟩ := HSIX6.out.cells' HNM.out (j := 1) (by omega)
                obtain ⟨-, u2, -⟩ := HSIX6.out.cells' HNM.out (j := 2) (by omega)
                go_wp2_with fail
                refine (Awake.walk _).mono ?_
                rintro e w8 ⟨rfl, hb8⟩
                go_wp2_with fail
                go_ret
                exact ⟨by simp [go_sem], HB6.out.trans (hb8.mono HB6.out.size)⟩
set_option maxRecDepth 100000 in
set_option maxHeartbeats 4000000 in
theorem l_whole_big (w : World) (file stdin reply : ByteArray) (v3 v4 : Value) (h1 : file.size ≤ maxLen) (h2 : stdin.size ≤ maxLen) (h3 : reply.size ≤ maxLen) (h : 300 < file.size ∨ 300 < stdin.size ∨ 300 < reply.size) :
    Calls Try.prog 3 #[.string file, .string stdin, .string reply, v3, v4] w fun e w' => e = .returned (.bool true) ∧ Below w.heap.size w w' := by
  unfold maxLen at h1 h2 h3
  have hc : (300 < file.size) ∨ (¬ 300 < file.size ∧ 300 < stdin.size) ∨ (¬ 300 < file.size ∧ ¬ 300 < stdin.size ∧ 300 < reply.size) := by omega
  clear h
  rcases hc with h | ⟨ha, h⟩ | ⟨ha, hb, h⟩
  all_goals
    go_enter Try.func3, Try.ntmps3
    go_wp2_with fail
    refine (Awake.walk _).mono ?_
    rintro e w8 ⟨rfl, hb8⟩
    go_wp2_with fail
    go_ret
    exact ⟨rfl, hb8⟩
set_option maxRecDepth 100000 in
theorem l_whole {H : Type} {enc : TypeId × Value → H} {base : Nat} {d3 d4 : DataW H} {p3 p4 : List MemPlace} {spare : Nat → Bool} {held : Bool} {r} (file stdin reply : ByteArray) (v3 v4 : Value) (w : World) (hsh : w.ShapedOpen Try.prog) (h1 : file.size ≤ maxLen) (h2 : stdin.size ≤ maxLen) (h3 : reply.size ≤ maxLen)
    (hv3 : Value.okWide Try.prog w r base 22 v3) (k3 : DataW.Trod enc Try.prog w 0 spare held 22 v3 d3 p3) (hv4 : Value.okWide Try.prog w r base 23 v4) (k4 : DataW.Trod enc Try.prog w 0 spare held 23 v4 d4 p4) :
    Calls Try.prog 3 #[.string file, .string stdin, .string reply, v3, v4] w fun e w' => e = .returned (.bool true) ∧ Below w.heap.size w w' := by
  by_cases h : 300 < file.size ∨ 300 < stdin.size ∨ 300 < reply.size
  · exact l_whole_big w file stdin reply v3 v4 h1 h2 h3 h
  · obtain ⟨A, n, cap, xs, rfl, hx, hc, hcm⟩ := ints_open hv3 k3
    obtain ⟨B, m, capd, ys, rfl, hy, hd, hdm, hz⟩ := strs_open hv4 k4
    exact l_whole' w file stdin reply A B n cap m capd xs ys hx hy hz hc hcm hd hdm (by omega) (by omega) (by omega)
end Go.Proofs.Ytodjjnklelfgfaa
