/- The document's world: Write. -/
import Derived.Test.YtodjjnklelfgfaaG7
set_option linter.unusedVariables false
set_option linter.unusedSimpArgs false
namespace Go.Proofs.Ytodjjnklelfgfaa
open Go.RowKit Wd
namespace Wd
def writeD (st : RSt) (k : Int) (name data : ByteArray) : RSt × Int :=
  if k ≠ 6 ∧ ((k ≠ 3 ∧ k ≠ 4 ∧ k ≠ 5) ∨ findF st k name = none) then (st, 16)
  else if st.fails.any (isFl 3 (if k = 6 then ⟨#[]⟩ else name)) = true then (st, 14)
  else if data.size = 0 then (st, 0)
  else ({ (if k = 3 ∨ k = 4 then { st with files := withL st.files name (((fileF st name).getD (⟨#[]⟩, ⟨#[]⟩)).2 ++ data) } else st) with events := st.events ++ [⟨2, k, (if k = 6 then ⟨#[]⟩ else name), data, 0⟩] }, 0)
end Wd
section
variable {K : Nat → Prop} {w : World} {f : Fm} {st : RSt}
/-- What Write tells at a name that is asked. -/
def WrPost (K : Nat → Prop) (w : World) (st' : RSt) (e' : Int) (e : Ending) (w' : World) : Prop := ∃ f', e = .returned (.tuple #[.agg (fcells f' st'), .int .i64 e']) ∧ RF (Nw K w) w' f' st' ∧ Below w.heap.size w w'
set_option maxRecDepth 100000 in
set_option maxHeartbeats 2000000 in
theorem fw_write1 (h : RF K w f st) (k : Int) (name data : ByteArray) (hk : k ≠ 6 ∧ k ≠ 3 ∧ k ≠ 4 ∧ k ≠ 5) :
    Calls Try.prog 46 #[.agg (fcells f st), .int .u8 k, .string name, .string data] w (WrPost K w st 16) := by
  have e6 : (k == 6) = false := by simp [hk.1]
  have e3 : (k == 3) = false := by simp [hk.2.1]
  have e4 : (k == 4) = false := by simp [hk.2.2.1]
  have e5 : (k == 5) = false := by simp [hk.2.2.2]
  have d3 : (k != 3) = true := by simp [hk.2.1]
  have d4 : (k != 4) = true := by simp [hk.2.2.1]
  have d5 : (k != 5) = true := by simp [hk.2.2.2]
  clear hk
  have HX0 := Lib.hid (RW.start h)
  have HRF := Lib.hid h
  clear h
  go_enter Try.func46, Try.ntmps46
  go_upto_region 1 with (fail)
  obtain ⟨B, hB⟩ : ∃ B, B = w.heap.size := ⟨_, rfl⟩
  rw [← hB] at HX0 ⊢
  obtain ⟨R, hR⟩ : ∃ R, R = B + 1 := ⟨_, rfl⟩
  rw [← hR] at HX0 ⊢
  clear hB hR
  generalize (w.alloc (.cells (fcells f st) 73)).alloc (.cells #[.slice none 0 0, .string ⟨#[]⟩, .slice none 0 0, .slice none 0 0, .int .i64 0, .int .i64 0, .int .u64 0, .slice none 0 0, .int .i64 0, .slice none 0 0, .int .u64 0, .slice none 0 0] 73) = w1 at *
  obtain ⟨⟨b0, b1, b2, b3, b4, b5, b6, b7, b8, b9, b10, b11⟩, p0, p1, p2, p3, p4, p5, p6, p7, p8, p9, p10, p11⟩ := HX0.out.blk.twelve
  obtain ⟨⟨r0, r1, r2, r3, r4, r5, r6, r7, r8, r9, r10, r11⟩, q0, q1, q2, q3, q4, q5, q6, q7, q8, q9, q10, q11⟩ := HX0.out.res.twelve
  go_wp2_with fail
  clear b0 b1 b2 b3 b4 b5 b6 b7 b8 b9 b10 b11 r0 r1 r2 r3 r4 r5 r6 r7 r8 r9 r10 r11 q0 q1 q2 q3 q4 q5 q6 q7 q8 q9 q10 q11 p0 p1 p2 p3 p4 p5 p6 p7 p8 p9 p10 p11
  have HD := Lib.hid (HX0.out.done (wj := w1) (f' := f) (st' := st) (Below.refl _ _) HX0.out.same)
  generalize ((((((((((((w1.setCell ⟨R, 0, none⟩ (.slice f.A0 f.n0 f.c0)).setCell ⟨R, 1, none⟩ (.string st.stdin)).setCell ⟨R, 2, none⟩ (.slice f.A2 st.replies.length f.c2)).setCell ⟨R, 3, none⟩ (.slice f.A3 st.fails.length f.c3)).setCell ⟨R, 4, none⟩ (.int .i64 st.lim)).setCell ⟨R, 5, none⟩ (.int .i64 st.clock)).setCell ⟨R, 6, none⟩ (.int .u64 st.ch)).setCell ⟨R, 7, none⟩ (.slice f.AF st.files.length f.cF)).setCell ⟨R, 8, none⟩ (.int .i64 st.taken)).setCell ⟨R, 9, none⟩ (.slice f.AO st.opn.length f.cO)).setCell ⟨R, 10, none⟩ (.int .u64 st.num)).setCell ⟨R, 11, none⟩ (.slice f.AE st.events.length f.cE)) = w99 at *
  obtain ⟨⟨x0, x1, x2, x3, x4, x5, x6, x7, x8, x9, x10, x11⟩, -⟩ := HD.out.1.twelve
  refine bodyPost_ret (v := .tuple #[.agg #[.slice f.A0 f.n0 f.c0, .string st.stdin, .slice f.A2 st.replies.length f.c2, .slice f.A3 st.fails.length f.c3, .int .i64 st.lim, .int .i64 st.clock, .int .u64 st.ch, .slice f.AF st.files.length f.cF, .int .i64 st.taken, .slice f.AO st.opn.length f.cO, .int .u64 st.num, .slice f.AE st.events.length f.cE], .int .i64 16]) (by simp [results, Try.results46, go_sem, x0, x1, x2, x3, x4, x5, x6, x7, x8, x9, x10, x11]) rfl ⟨f, rfl, HD.out.2.1, HD.out.2.2⟩
set_option maxRecDepth 100000 in
set_option maxHeartbeats 4000000 in
theorem fw_write_3 (h : RF K w f st) (name data : ByteArray) (hev : st.events.length ≤ 100000) (hfil : st.files.length ≤ 100000) (hcat0 : ((fileF st name).getD (⟨#[]⟩, ⟨#[]⟩)).2.size + data.size ≤ 9223372036854775807) :
    Calls Try.prog 46 #[.agg (fcells f st), .int .u8 3, .string name, .string data] w (WrPost K w (writeD st 3 name data).1 (writeD st 3 name data).2) := by
  obtain ⟨o, ho⟩ : ∃ o, o = writeD st 3 name data := ⟨_, rfl⟩
  rw [← ho]
  have HO := Lib.hid ho
  clear ho
  have HX0 := Lib.hid (RW.start h)
  have HRF := Lib.hid h
  clear h
  go_enter Try.func46, Try.ntmps46
  go_upto_region 1 with (fail)
  obtain ⟨B, hB⟩ : ∃ B, B = w.heap.size := ⟨_, rfl⟩
  rw [← hB] at HX0 ⊢
  obtain ⟨R, hR⟩ : ∃ R, R = B + 1 := ⟨_, rfl⟩
  rw [← hR] at HX0 ⊢
  clear hB hR
  generalize (w.alloc (.cells (fcells f st) 73)).alloc (.cells #[.slice none 0 0, .string ⟨#[]⟩, .slice none 0 0, .slice none 0 0, .int .i64 0, .int .i64 0, .int .u64 0, .slice none 0 0, .int .i64 0, .slice none 0 0, .int .u64 0, .slice none 0 0] 73) = w1 at *
  obtain ⟨⟨b0, b1, b2, b3, b4, b5, b6, b7, b8, b9, b10, b11⟩, p0, p1, p2, p3, p4, p5, p6, p7, p8, p9, p10, p11⟩ := HX0.out.blk.twelve
  obtain ⟨⟨r0, r1, r2, r3, r4, r5, r6, r7, r8, r9, r10, r11⟩, q0, q1, q2, q3, q4, q5, q6, q7, q8, q9, q10, q11⟩ := HX0.out.res.twelve
  go_wp2_with fail
  refine (fw_find HX0.out.rat 3 name).mono ?_
  rintro e w2 ⟨rfl, hb2⟩
  have HX2 := Lib.hid (HX0.out.pure hb2)
  clear b0 b1 b2 b3 b4 b5 b6 b7 b8 b9 b10 b11 r0 r1 r2 r3 r4 r5 r6 r7 r8 r9 r10 r11 q0 q1 q2 q3 q4 q5 q6 q7 q8 q9 q10 q11 p0 p1 p2 p3 p4 p5 p6 p7 p8 p9 p10 p11
  clear hb2
  obtain ⟨⟨b0, b1, b2, b3, b4, b5, b6, b7, b8, b9, b10, b11⟩, p0, p1, p2, p3, p4, p5, p6, p7, p8, p9, p10, p11⟩ := HX2.out.blk.twelve
  obtain ⟨⟨r0, r1, r2, r3, r4, r5, r6, r7, r8, r9, r10, r11⟩, q0, q1, q2, q3, q4, q5, q6, q7, q8, q9, q10, q11⟩ := HX2.out.res.twelve
  cases hf : findF st 3 name
  · have HE : Hid (o = (st, 16)) := by unfold Hid; rw [HO.out]; unfold writeD; rw [if_pos ⟨by decide, .inr hf⟩]
    clear hf
    rw [show ixV none = -1 from rfl]
    go_wp2_with fail
    clear b0 b1 b2 b3 b4 b5 b6 b7 b8 b9 b10 b11 r0 r1 r2 r3 r4 r5 r6 r7 r8 r9 r10 r11 q0 q1 q2 q3 q4 q5 q6 q7 q8 q9 q10 q11 p0 p1 p2 p3 p4 p5 p6 p7 p8 p9 p10 p11
    have HD := Lib.hid (HX2.out.done (wj := w2) (f' := f) (st' := st) (Below.refl _ _) HX2.out.same)
    generalize ((((((((((((w2.setCell ⟨R, 0, none⟩ (.slice f.A0 f.n0 f.c0)).setCell ⟨R, 1, none⟩ (.string st.stdin)).setCell ⟨R, 2, none⟩ (.slice f.A2 st.replies.length f.c2)).setCell ⟨R, 3, none⟩ (.slice f.A3 st.fails.length f.c3)).setCell ⟨R, 4, none⟩ (.int .i64 st.lim)).setCell ⟨R, 5, none⟩ (.int .i64 st.clock)).setCell ⟨R, 6, none⟩ (.int .u64 st.ch)).setCell ⟨R, 7, none⟩ (.slice f.AF st.files.length f.cF)).setCell ⟨R, 8, none⟩ (.int .i64 st.taken)).setCell ⟨R, 9, none⟩ (.slice f.AO st.opn.length f.cO)).setCell ⟨R, 10, none⟩ (.int .u64 st.num)).setCell ⟨R, 11, none⟩ (.slice f.AE st.events.length f.cE)) = w99 at *
    obtain ⟨⟨x0, x1, x2, x3, x4, x5, x6, x7, x8, x9, x10, x11⟩, -⟩ := HD.out.1.twelve
    refine bodyPost_ret (v := .tuple #[.agg #[.slice f.A0 f.n0 f.c0, .string st.stdin, .slice f.A2 st.replies.length f.c2, .slice f.A3 st.fails.length f.c3, .int .i64 st.lim, .int .i64 st.clock, .int .u64 st.ch, .slice f.AF st.files.length f.cF, .int .i64 st.taken, .slice f.AO st.opn.length f.cO, .int .u64 st.num, .slice f.AE st.events.length f.cE], .int .i64 16]) (by simp [results, Try.results46, go_sem, x0, x1, x2, x3, x4, x5, x6, x7, x8, x9, x10, x11]) rfl (by rw [HE.out]; exact ⟨f, rfl, HD.out.2.1, HD.out.2.2⟩)
  · rename_i ix
    have HFND := Lib.hid hf
    clear hf
    rw [show ixV (some ix) = (ix : Int) from rfl]
    have hix : ¬ (ix : Int) < 0 := by omega
    go_wp2_with fail
    refine (fw_fails HX2.out.rat 3 name).mono ?_
    rintro e w3 ⟨rfl, hb3⟩
    have HX3 := Lib.hid (HX2.out.pure hb3)
    clear b0 b1 b2 b3 b4 b5 b6 b7 b8 b9 b10 b11 r0 r1 r2 r3 r4 r5 r6 r7 r8 r9 r10 r11 q0 q1 q2 q3 q4 q5 q6 q7 q8 q9 q10 q11 p0 p1 p2 p3 p4 p5 p6 p7 p8 p9 p10 p11
    clear hb3
    obtain ⟨⟨b0, b1, b2, b3, b4, b5, b6, b7, b8, b9, b10, b11⟩, p0, p1, p2, p3, p4, p5, p6, p7, p8, p9, p10, p11⟩ := HX3.out.blk.twelve
    obtain ⟨⟨r0, r1, r2, r3, r4, r5, r6, r7, r8, r9, r10, r11⟩, q0, q1, q2, q3, q4, q5, q6, q7, q8, q9, q10, q11⟩ := HX3.out.res.twelve
    cases hfl : st.fails.any (isFl 3 name)
    · have HFL := Lib.hid hfl
      clear hfl
      by_cases h0 : data.size = 0
      · have e0 : ((data.size : Int) == 0) = true := by simp [h0]
        have HE : Hid (o = (st, 0)) := by unfold Hid; rw [HO.out]; unfold writeD; rw [if_neg (fun h => by rcases h.2 with h2 | h2; exact h2.1 rfl; rw [HFND.out] at h2; cases h2)]; rw [if_neg (by decide : ¬ (3 : Int) = 6), if_neg (by rw [HFL.out]; decide), if_pos h0]
        clear h0
        go_wp2_with fail
        clear b0 b1 b2 b3 b4 b5 b6 b7 b8 b9 b10 b11 r0 r1 r2 r3 r4 r5 r6 r7 r8 r9 r10 r11 q0 q1 q2 q3 q4 q5 q6 q7 q8 q9 q10 q11 p0 p1 p2 p3 p4 p5 p6 p7 p8 p9 p10 p11
        have HD := Lib.hid (HX3.out.done (wj := w3) (f' := f) (st' := st) (Below.refl _ _) HX3.out.same)
        generalize ((((((((((((w3.setCell ⟨R, 0, none⟩ (.slice f.A0 f.n0 f.c0)).setCell ⟨R, 1, none⟩ (.string st.stdin)).setCell ⟨R, 2, none⟩ (.slice f.A2 st.replies.length f.c2)).setCell ⟨R, 3, none⟩ (.slice f.A3 st.fails.length f.c3)).setCell ⟨R, 4, none⟩ (.int .i64 st.lim)).setCell ⟨R, 5, none⟩ (.int .i64 st.clock)).setCell ⟨R, 6, none⟩ (.int .u64 st.ch)).setCell ⟨R, 7, none⟩ (.slice f.AF st.files.length f.cF)).setCell ⟨R, 8, none⟩ (.int .i64 st.taken)).setCell ⟨R, 9, none⟩ (.slice f.AO st.opn.length f.cO)).setCell ⟨R, 10, none⟩ (.int .u64 st.num)).setCell ⟨R, 11, none⟩ (.slice f.AE st.events.length f.cE)) = w99 at *
        obtain ⟨⟨x0, x1, x2, x3, x4, x5, x6, x7, x8, x9, x10, x11⟩, -⟩ := HD.out.1.twelve
        refine bodyPost_ret (v := .tuple #[.agg #[.slice f.A0 f.n0 f.c0, .string st.stdin, .slice f.A2 st.replies.length f.c2, .slice f.A3 st.fails.length f.c3, .int .i64 st.lim, .int .i64 st.clock, .int .u64 st.ch, .slice f.AF st.files.length f.cF, .int .i64 st.taken, .slice f.AO st.opn.length f.cO, .int .u64 st.num, .slice f.AE st.events.length f.cE], .int .i64 0]) (by simp [results, Try.results46, go_sem, x0, x1, x2, x3, x4, x5, x6, x7, x8, x9, x10, x11]) rfl (by rw [HE.out]; exact ⟨f, rfl, HD.out.2.1, HD.out.2.2⟩)
      · have e0 : ((data.size : Int) == 0) = false := by simp [h0]
        obtain ⟨was, hwas⟩ : ∃ was, was = ((fileF st name).getD (⟨#[]⟩, ⟨#[]⟩)).2 := ⟨_, rfl⟩
        have hcat : was.size + data.size ≤ 9223372036854775807 := by rw [hwas]; omega
        obtain ⟨st5, hst5⟩ : ∃ s, s = { st with files := withL st.files name (was ++ data) } := ⟨_, rfl⟩
        have HE : Hid (o = ({ st5 with events := st5.events ++ [⟨2, 3, name, data, 0⟩] }, 0)) := by unfold Hid; rw [HO.out]; unfold writeD; rw [if_neg (fun h => by rcases h.2 with h2 | h2; exact h2.1 rfl; rw [HFND.out] at h2; cases h2)]; rw [if_neg (by decide : ¬ (3 : Int) = 6), if_neg (by rw [HFL.out]; decide), if_neg h0, if_pos (by decide), hst5, hwas]
        have hev5 : st5.events.length ≤ 100000 := by rw [hst5]; exact hev
        have HFI := Lib.hid (fw_file HX3.out.rat name)
        rw [← hwas] at HFI
        have HWI := fun (w : World) (K : Nat → Prop) (h : RF K w f st) => fw_with h name (was ++ data) hfil
        rw [← hst5] at HWI
        have HWIH := Lib.hid HWI
        clear h0 hwas hst5 HWI hcat0
        go_wp2_with fail
        refine HFI.out.mono ?_
        rintro e w4 ⟨rfl, hb4⟩
        have HX4 := Lib.hid (HX3.out.pure hb4)
        clear b0 b1 b2 b3 b4 b5 b6 b7 b8 b9 b10 b11 r0 r1 r2 r3 r4 r5 r6 r7 r8 r9 r10 r11 q0 q1 q2 q3 q4 q5 q6 q7 q8 q9 q10 q11 p0 p1 p2 p3 p4 p5 p6 p7 p8 p9 p10 p11
        clear hb4 HFI
        obtain ⟨⟨b0, b1, b2, b3, b4, b5, b6, b7, b8, b9, b10, b11⟩, p0, p1, p2, p3, p4, p5, p6, p7, p8, p9, p10, p11⟩ := HX4.out.blk.twelve
        obtain ⟨⟨r0, r1, r2, r3, r4, r5, r6, r7, r8, r9, r10, r11⟩, q0, q1, q2, q3, q4, q5, q6, q7, q8, q9, q10, q11⟩ := HX4.out.res.twelve
        go_wp2_with fail
        refine (HWIH.out _ _ HX4.out.rat).mono ?_
        rintro e w5 ⟨f5, rfl, hr5, hb5⟩
        have HX5 := Lib.hid (HX4.out.pure hb5)
        have HX6 := Lib.hid (HX4.out.stored hb5 hr5)
        clear b0 b1 b2 b3 b4 b5 b6 b7 b8 b9 b10 b11 r0 r1 r2 r3 r4 r5 r6 r7 r8 r9 r10 r11 q0 q1 q2 q3 q4 q5 q6 q7 q8 q9 q10 q11 p0 p1 p2 p3 p4 p5 p6 p7 p8 p9 p10 p11
        clear hr5 hb5
        obtain ⟨⟨b0, b1, b2, b3, b4, b5, b6, b7, b8, b9, b10, b11⟩, p0, p1, p2, p3, p4, p5, p6, p7, p8, p9, p10, p11⟩ := HX5.out.blk.twelve
        unfold fcells
        go_upto_region 12 with (fail)
        clear b0 b1 b2 b3 b4 b5 b6 b7 b8 b9 b10 b11 p0 p1 p2 p3 p4 p5 p6 p7 p8 p9 p10 p11
        generalize ((((((((((((w5.setCell ⟨B, 0, none⟩ (.slice f5.A0 f5.n0 f5.c0)).setCell ⟨B, 1, none⟩ (.string st5.stdin)).setCell ⟨B, 2, none⟩ (.slice f5.A2 st5.replies.length f5.c2)).setCell ⟨B, 3, none⟩ (.slice f5.A3 st5.fails.length f5.c3)).setCell ⟨B, 4, none⟩ (.int .i64 st5.lim)).setCell ⟨B, 5, none⟩ (.int .i64 st5.clock)).setCell ⟨B, 6, none⟩ (.int .u64 st5.ch)).setCell ⟨B, 7, none⟩ (.slice f5.AF st5.files.length f5.cF)).setCell ⟨B, 8, none⟩ (.int .i64 st5.taken)).setCell ⟨B, 9, none⟩ (.slice f5.AO st5.opn.length f5.cO)).setCell ⟨B, 10, none⟩ (.int .u64 st5.num)).setCell ⟨B, 11, none⟩ (.slice f5.AE st5.events.length f5.cE)) = w6 at *
        obtain ⟨⟨b0, b1, b2, b3, b4, b5, b6, b7, b8, b9, b10, b11⟩, p0, p1, p2, p3, p4, p5, p6, p7, p8, p9, p10, p11⟩ := HX6.out.blk.twelve
        obtain ⟨⟨r0, r1, r2, r3, r4, r5, r6, r7, r8, r9, r10, r11⟩, q0, q1, q2, q3, q4, q5, q6, q7, q8, q9, q10, q11⟩ := HX6.out.res.twelve
        go_wp2_with fail
        obtain ⟨st7, hst7⟩ : ∃ s, s = { st5 with events := st5.events ++ [(⟨2, 3, name, data, 0⟩ : Ev)] } := ⟨_, rfl⟩
        have HEV := fw_event HX6.out.rat ⟨2, 3, name, data, 0⟩ hev5
        rw [← hst7] at HEV HE
        clear hst7
        refine HEV.mono ?_
        rintro e w7 ⟨f7, rfl, hr7, hb7⟩
        have HX7 := Lib.hid (HX6.out.pure hb7)
        have HR7 := Lib.hid hr7
        have HB7 := Lib.hid hb7
        clear b0 b1 b2 b3 b4 b5 b6 b7 b8 b9 b10 b11 r0 r1 r2 r3 r4 r5 r6 r7 r8 r9 r10 r11 q0 q1 q2 q3 q4 q5 q6 q7 q8 q9 q10 q11 p0 p1 p2 p3 p4 p5 p6 p7 p8 p9 p10 p11
        clear HEV hr7 hb7
        obtain ⟨⟨r0, r1, r2, r3, r4, r5, r6, r7, r8, r9, r10, r11⟩, q0, q1, q2, q3, q4, q5, q6, q7, q8, q9, q10, q11⟩ := HX7.out.res.twelve
        unfold fcells
        go_wp2_with fail
        clear r0 r1 r2 r3 r4 r5 r6 r7 r8 r9 r10 r11 q0 q1 q2 q3 q4 q5 q6 q7 q8 q9 q10 q11
        have HD := Lib.hid (HX6.out.done (wj := w7) (f' := f7) (st' := st7) HB7.out HR7.out)
        generalize ((((((((((((w7.setCell ⟨R, 0, none⟩ (.slice f7.A0 f7.n0 f7.c0)).setCell ⟨R, 1, none⟩ (.string st7.stdin)).setCell ⟨R, 2, none⟩ (.slice f7.A2 st7.replies.length f7.c2)).setCell ⟨R, 3, none⟩ (.slice f7.A3 st7.fails.length f7.c3)).setCell ⟨R, 4, none⟩ (.int .i64 st7.lim)).setCell ⟨R, 5, none⟩ (.int .i64 st7.clock)).setCell ⟨R, 6, none⟩ (.int .u64 st7.ch)).setCell ⟨R, 7, none⟩ (.slice f7.AF st7.files.length f7.cF)).setCell ⟨R, 8, none⟩ (.int .i64 st7.taken)).setCell ⟨R, 9, none⟩ (.slice f7.AO st7.opn.length f7.cO)).setCell ⟨R, 10, none⟩ (.int .u64 st7.num)).setCell ⟨R, 11, none⟩ (.slice f7.AE st7.events.length f7.cE)) = w99 at *
        obtain ⟨⟨x0, x1, x2, x3, x4, x5, x6, x7, x8, x9, x10, x11⟩, -⟩ := HD.out.1.twelve
        refine bodyPost_ret (v := .tuple #[.agg #[.slice f7.A0 f7.n0 f7.c0, .string st7.stdin, .slice f7.A2 st7.replies.length f7.c2, .slice f7.A3 st7.fails.length f7.c3, .int .i64 st7.lim, .int .i64 st7.clock, .int .u64 st7.ch, .slice f7.AF st7.files.length f7.cF, .int .i64 st7.taken, .slice f7.AO st7.opn.length f7.cO, .int .u64 st7.num, .slice f7.AE st7.events.length f7.cE], .int .i64 0]) (by simp [results, Try.results46, go_sem, x0, x1, x2, x3, x4, x5, x6, x7, x8, x9, x10, x11]) rfl (by rw [HE.out]; exact ⟨f7, rfl, HD.out.2.1, HD.out.2.2⟩)
    · have HE : Hid (o = (st, 14)) := by unfold Hid; rw [HO.out]; unfold writeD; rw [if_neg (fun h => by rcases h.2 with h2 | h2; exact h2.1 rfl; rw [HFND.out] at h2; cases h2)]; rw [if_neg (by decide : ¬ (3 : Int) = 6), if_pos (by rw [hfl])]
      clear hfl
      go_wp2_with fail
      clear b0 b1 b2 b3 b4 b5 b6 b7 b8 b9 b10 b11 r0 r1 r2 r3 r4 r5 r6 r7 r8 r9 r10 r11 q0 q1 q2 q3 q4 q5 q6 q7 q8 q9 q10 q11 p0 p1 p2 p3 p4 p5 p6 p7 p8 p9 p10 p11
      have HD := Lib.hid (HX3.out.done (wj := w3) (f' := f) (st' := st) (Below.refl _ _) HX3.out.same)
      generalize ((((((((((((w3.setCell ⟨R, 0, none⟩ (.slice f.A0 f.n0 f.c0)).setCell ⟨R, 1, none⟩ (.string st.stdin)).setCell ⟨R, 2, none⟩ (.slice f.A2 st.replies.length f.c2)).setCell ⟨R, 3, none⟩ (.slice f.A3 st.fails.length f.c3)).setCell ⟨R, 4, none⟩ (.int .i64 st.lim)).setCell ⟨R, 5, none⟩ (.int .i64 st.clock)).setCell ⟨R, 6, none⟩ (.int .u64 st.ch)).setCell ⟨R, 7, none⟩ (.slice f.AF st.files.length f.cF)).setCell ⟨R, 8, none⟩ (.int .i64 st.taken)).setCell ⟨R, 9, none⟩ (.slice f.AO st.opn.length f.cO)).setCell ⟨R, 10, none⟩ (.int .u64 st.num)).setCell ⟨R, 11, none⟩ (.slice f.AE st.events.length f.cE)) = w99 at *
      obtain ⟨⟨x0, x1, x2, x3, x4, x5, x6, x7, x8, x9, x10, x11⟩, -⟩ := HD.out.1.twelve
      refine bodyPost_ret (v := .tuple #[.agg #[.slice f.A0 f.n0 f.c0, .string st.stdin, .slice f.A2 st.replies.length f.c2, .slice f.A3 st.fails.length f.c3, .int .i64 st.lim, .int .i64 st.clock, .int .u64 st.ch, .slice f.AF st.files.length f.cF, .int .i64 st.taken, .slice f.AO st.opn.length f.cO, .int .u64 st.num, .slice f.AE st.events.length f.cE], .int .i64 14]) (by simp [results, Try.results46, go_sem, x0, x1, x2, x3, x4, x5, x6, x7, x8, x9, x10, x11]) rfl (by rw [HE.out]; exact ⟨f, rfl, HD.out.2.1, HD.out.2.2⟩)
set_option maxRecDepth 100000 in
set_option maxHeartbeats 4000000 in
theorem fw_write_4 (h : RF K w f st) (name data : ByteArray) (hev : st.events.length ≤ 100000) (hfil : st.files.length ≤ 100000) (hcat0 : ((fileF st name).getD (⟨#[]⟩, ⟨#[]⟩)).2.size + data.size ≤ 9223372036854775807) :
    Calls Try.prog 46 #[.agg (fcells f st), .int .u8 4, .string name, .string data] w (WrPost K w (writeD st 4 name data).1 (writeD st 4 name data).2) := by
  obtain ⟨o, ho⟩ : ∃ o, o = writeD st 4 name data := ⟨_, rfl⟩
  rw [← ho]
  have HO := Lib.hid ho
  clear ho
  have HX0 := Lib.hid (RW.start h)
  have HRF := Lib.hid h
  clear h
  go_enter Try.func46, Try.ntmps46
  go_upto_region 1 with (fail)
  obtain ⟨B, hB⟩ : ∃ B, B = w.heap.size := ⟨_, rfl⟩
  rw [← hB] at HX0 ⊢
  obtain ⟨R, hR⟩ : ∃ R, R = B + 1 := ⟨_, rfl⟩
  rw [← hR] at HX0 ⊢
  clear hB hR
  generalize (w.alloc (.cells (fcells f st) 73)).alloc (.cells #[.slice none 0 0, .string ⟨#[]⟩, .slice none 0 0, .slice none 0 0, .int .i64 0, .int .i64 0, .int .u64 0, .slice none 0 0, .int .i64 0, .slice none 0 0, .int .u64 0, .slice none 0 0] 73) = w1 at *
  obtain ⟨⟨b0, b1, b2, b3, b4, b5, b6, b7, b8, b9, b10, b11⟩, p0, p1, p2, p3, p4, p5, p6, p7, p8, p9, p10, p11⟩ := HX0.out.blk.twelve
  obtain ⟨⟨r0, r1, r2, r3, r4, r5, r6, r7, r8, r9, r10, r11⟩, q0, q1, q2, q3, q4, q5, q6, q7, q8, q9, q10, q11⟩ := HX0.out.res.twelve
  go_wp2_with fail
  refine (fw_find HX0.out.rat 4 name).mono ?_
  rintro e w2 ⟨rfl, hb2⟩
  have HX2 := Lib.hid (HX0.out.pure hb2)
  clear b0 b1 b2 b3 b4 b5 b6 b7 b8 b9 b10 b11 r0 r1 r2 r3 r4 r5 r6 r7 r8 r9 r10 r11 q0 q1 q2 q3 q4 q5 q6 q7 q8 q9 q10 q11 p0 p1 p2 p3 p4 p5 p6 p7 p8 p9 p10 p11
  clear hb2
  obtain ⟨⟨b0, b1, b2, b3, b4, b5, b6, b7, b8, b9, b10, b11⟩, p0, p1, p2, p3, p4, p5, p6, p7, p8, p9, p10, p11⟩ := HX2.out.blk.twelve
  obtain ⟨⟨r0, r1, r2, r3, r4, r5, r6, r7, r8, r9, r10, r11⟩, q0, q1, q2, q3, q4, q5, q6, q7, q8, q9, q10, q11⟩ := HX2.out.res.twelve
  cases hf : findF st 4 name
  · have HE : Hid (o = (st, 16)) := by unfold Hid; rw [HO.out]; unfold writeD; rw [if_pos ⟨by decide, .inr hf⟩]
    clear hf
    rw [show ixV none = -1 from rfl]
    go_wp2_with fail
    clear b0 b1 b2 b3 b4 b5 b6 b7 b8 b9 b10 b11 r0 r1 r2 r3 r4 r5 r6 r7 r8 r9 r10 r11 q0 q1 q2 q3 q4 q5 q6 q7 q8 q9 q10 q11 p0 p1 p2 p3 p4 p5 p6 p7 p8 p9 p10 p11
    have HD := Lib.hid (HX2.out.done (wj := w2) (f' := f) (st' := st) (Below.refl _ _) HX2.out.same)
    generalize ((((((((((((w2.setCell ⟨R, 0, none⟩ (.slice f.A0 f.n0 f.c0)).setCell ⟨R, 1, none⟩ (.string st.stdin)).setCell ⟨R, 2, none⟩ (.slice f.A2 st.replies.length f.c2)).setCell ⟨R, 3, none⟩ (.slice f.A3 st.fails.length f.c3)).setCell ⟨R, 4, none⟩ (.int .i64 st.lim)).setCell ⟨R, 5, none⟩ (.int .i64 st.clock)).setCell ⟨R, 6, none⟩ (.int .u64 st.ch)).setCell ⟨R, 7, none⟩ (.slice f.AF st.files.length f.cF)).setCell ⟨R, 8, none⟩ (.int .i64 st.taken)).setCell ⟨R, 9, none⟩ (.slice f.AO st.opn.length f.cO)).setCell ⟨R, 10, none⟩ (.int .u64 st.num)).setCell ⟨R, 11, none⟩ (.slice f.AE st.events.length f.cE)) = w99 at *
    obtain ⟨⟨x0, x1, x2, x3, x4, x5, x6, x7, x8, x9, x10, x11⟩, -⟩ := HD.out.1.twelve
    refine bodyPost_ret (v := .tuple #[.agg #[.slice f.A0 f.n0 f.c0, .string st.stdin, .slice f.A2 st.replies.length f.c2, .slice f.A3 st.fails.length f.c3, .int .i64 st.lim, .int .i64 st.clock, .int .u64 st.ch, .slice f.AF st.files.length f.cF, .int .i64 st.taken, .slice f.AO st.opn.length f.cO, .int .u64 st.num, .slice f.AE st.events.length f.cE], .int .i64 16]) (by simp [results, Try.results46, go_sem, x0, x1, x2, x3, x4, x5, x6, x7, x8, x9, x10, x11]) rfl (by rw [HE.out]; exact ⟨f, rfl, HD.out.2.1, HD.out.2.2⟩)
  · rename_i ix
    have HFND := Lib.hid hf
    clear hf
    rw [show ixV (some ix) = (ix : Int) from rfl]
    have hix : ¬ (ix : Int) < 0 := by omega
    go_wp2_with fail
    refine (fw_fails HX2.out.rat 3 name).mono ?_
    rintro e w3 ⟨rfl, hb3⟩
    have HX3 := Lib.hid (HX2.out.pure hb3)
    clear b0 b1 b2 b3 b4 b5 b6 b7 b8 b9 b10 b11 r0 r1 r2 r3 r4 r5 r6 r7 r8 r9 r10 r11 q0 q1 q2 q3 q4 q5 q6 q7 q8 q9 q10 q11 p0 p1 p2 p3 p4 p5 p6 p7 p8 p9 p10 p11
    clear hb3
    obtain ⟨⟨b0, b1, b2, b3, b4, b5, b6, b7, b8, b9, b10, b11⟩, p0, p1, p2, p3, p4, p5, p6, p7, p8, p9, p10, p11⟩ := HX3.out.blk.twelve
    obtain ⟨⟨r0, r1, r2, r3, r4, r5, r6, r7, r8, r9, r10, r11⟩, q0, q1, q2, q3, q4, q5, q6, q7, q8, q9, q10, q11⟩ := HX3.out.res.twelve
    cases hfl : st.fails.any (isFl 3 name)
    · have HFL := Lib.hid hfl
      clear hfl
      by_cases h0 : data.size = 0
      · have e0 : ((data.size : Int) == 0) = true := by simp [h0]
        have HE : Hid (o = (st, 0)) := by unfold Hid; rw [HO.out]; unfold writeD; rw [if_neg (fun h => by rcases h.2 with h2 | h2; exact h2.2.1 rfl; rw [HFND.out] at h2; cases h2)]; rw [if_neg (by decide : ¬ (4 : Int) = 6), if_neg (by rw [HFL.out]; decide), if_pos h0]
        clear h0
        go_wp2_with fail
        clear b0 b1 b2 b3 b4 b5 b6 b7 b8 b9 b10 b11 r0 r1 r2 r3 r4 r5 r6 r7 r8 r9 r10 r11 q0 q1 q2 q3 q4 q5 q6 q7 q8 q9 q10 q11 p0 p1 p2 p3 p4 p5 p6 p7 p8 p9 p10 p11
        have HD := Lib.hid (HX3.out.done (wj := w3) (f' := f) (st' := st) (Below.refl _ _) HX3.out.same)
        generalize ((((((((((((w3.setCell ⟨R, 0, none⟩ (.slice f.A0 f.n0 f.c0)).setCell ⟨R, 1, none⟩ (.string st.stdin)).setCell ⟨R, 2, none⟩ (.slice f.A2 st.replies.length f.c2)).setCell ⟨R, 3, none⟩ (.slice f.A3 st.fails.length f.c3)).setCell ⟨R, 4, none⟩ (.int .i64 st.lim)).setCell ⟨R, 5, none⟩ (.int .i64 st.clock)).setCell ⟨R, 6, none⟩ (.int .u64 st.ch)).setCell ⟨R, 7, none⟩ (.slice f.AF st.files.length f.cF)).setCell ⟨R, 8, none⟩ (.int .i64 st.taken)).setCell ⟨R, 9, none⟩ (.slice f.AO st.opn.length f.cO)).setCell ⟨R, 10, none⟩ (.int .u64 st.num)).setCell ⟨R, 11, none⟩ (.slice f.AE st.events.length f.cE)) = w99 at *
        obtain ⟨⟨x0, x1, x2, x3, x4, x5, x6, x7, x8, x9, x10, x11⟩, -⟩ := HD.out.1.twelve
        refine bodyPost_ret (v := .tuple #[.agg #[.slice f.A0 f.n0 f.c0, .string st.stdin, .slice f.A2 st.replies.length f.c2, .slice f.A3 st.fails.length f.c3, .int .i64 st.lim, .int .i64 st.clock, .int .u64 st.ch, .slice f.AF st.files.length f.cF, .int .i64 st.taken, .slice f.AO st.opn.length f.cO, .int .u64 st.num, .slice f.AE st.events.length f.cE], .int .i64 0]) (by simp [results, Try.results46, go_sem, x0, x1, x2, x3, x4, x5, x6, x7, x8, x9, x10, x11]) rfl (by rw [HE.out]; exact ⟨f, rfl, HD.out.2.1, HD.out.2.2⟩)
      · have e0 : ((data.size : Int) == 0) = false := by simp [h0]
        obtain ⟨was, hwas⟩ : ∃ was, was = ((fileF st name).getD (⟨#[]⟩, ⟨#[]⟩)).2 := ⟨_, rfl⟩
        have hcat : was.size + data.size ≤ 9223372036854775807 := by rw [hwas]; omega
        obtain ⟨st5, hst5⟩ : ∃ s, s = { st with files := withL st.files name (was ++ data) } := ⟨_, rfl⟩
        have HE : Hid (o = ({ st5 with events := st5.events ++ [⟨2, 4, name, data, 0⟩] }, 0)) := by unfold Hid; rw [HO.out]; unfold writeD; rw [if_neg (fun h => by rcases h.2 with h2 | h2; exact h2.2.1 rfl; rw [HFND.out] at h2; cases h2)]; rw [if_neg (by decide : ¬ (4 : Int) = 6), if_neg (by rw [HFL.out]; decide), if_neg h0, if_pos (by decide), hst5, hwas]
        have hev5 : st5.events.length ≤ 100000 := by rw [hst5]; exact hev
        have HFI := Lib.hid (fw_file HX3.out.rat name)
        rw [← hwas] at HFI
        have HWI := fun (w : World) (K : Nat → Prop) (h : RF K w f st) => fw_with h name (was ++ data) hfil
        rw [← hst5] at HWI
        have HWIH := Lib.hid HWI
        clear h0 hwas hst5 HWI hcat0
        go_wp2_with fail
        refine HFI.out.mono ?_
        rintro e w4 ⟨rfl, hb4⟩
        have HX4 := Lib.hid (HX3.out.pure hb4)
        clear b0 b1 b2 b3 b4 b5 b6 b7 b8 b9 b10 b11 r0 r1 r2 r3 r4 r5 r6 r7 r8 r9 r10 r11 q0 q1 q2 q3 q4 q5 q6 q7 q8 q9 q10 q11 p0 p1 p2 p3 p4 p5 p6 p7 p8 p9 p10 p11
        clear hb4 HFI
        obtain ⟨⟨b0, b1, b2, b3, b4, b5, b6, b7, b8, b9, b10, b11⟩, p0, p1, p2, p3, p4, p5, p6, p7, p8, p9, p10, p11⟩ := HX4.out.blk.twelve
        obtain ⟨⟨r0, r1, r2, r3, r4, r5, r6, r7, r8, r9, r10, r11⟩, q0, q1, q2, q3, q4, q5, q6, q7, q8, q9, q10, q11⟩ := HX4.out.res.twelve
        go_wp2_with fail
        refine (HWIH.out _ _ HX4.out.rat).mono ?_
        rintro e w5 ⟨f5, rfl, hr5, hb5⟩
        have HX5 := Lib.hid (HX4.out.pure hb5)
        have HX6 := Lib.hid (HX4.out.stored hb5 hr5)
        clear b0 b1 b2 b3 b4 b5 b6 b7 b8 b9 b10 b11 r0 r1 r2 r3 r4 r5 r6 r7 r8 r9 r10 r11 q0 q1 q2 q3 q4 q5 q6 q7 q8 q9 q10 q11 p0 p1 p2 p3 p4 p5 p6 p7 p8 p9 p10 p11
        clear hr5 hb5
        obtain ⟨⟨b0, b1, b2, b3, b4, b5, b6, b7, b8, b9, b10, b11⟩, p0, p1, p2, p3, p4, p5, p6, p7, p8, p9, p10, p11⟩ := HX5.out.blk.twelve
        unfold fcells
        go_upto_region 12 with (fail)
        clear b0 b1 b2 b3 b4 b5 b6 b7 b8 b9 b10 b11 p0 p1 p2 p3 p4 p5 p6 p7 p8 p9 p10 p11
        generalize ((((((((((((w5.setCell ⟨B, 0, none⟩ (.slice f5.A0 f5.n0 f5.c0)).setCell ⟨B, 1, none⟩ (.string st5.stdin)).setCell ⟨B, 2, none⟩ (.slice f5.A2 st5.replies.length f5.c2)).setCell ⟨B, 3, none⟩ (.slice f5.A3 st5.fails.length f5.c3)).setCell ⟨B, 4, none⟩ (.int .i64 st5.lim)).setCell ⟨B, 5, none⟩ (.int .i64 st5.clock)).setCell ⟨B, 6, none⟩ (.int .u64 st5.ch)).setCell ⟨B, 7, none⟩ (.slice f5.AF st5.files.length f5.cF)).setCell ⟨B, 8, none⟩ (.int .i64 st5.taken)).setCell ⟨B, 9, none⟩ (.slice f5.AO st5.opn.length f5.cO)).setCell ⟨B, 10, none⟩ (.int .u64 st5.num)).setCell ⟨B, 11, none⟩ (.slice f5.AE st5.events.length f5.cE)) = w6 at *
        obtain ⟨⟨b0, b1, b2, b3, b4, b5, b6, b7, b8, b9, b10, b11⟩, p0, p1, p2, p3, p4, p5, p6, p7, p8, p9, p10, p11⟩ := HX6.out.blk.twelve
        obtain ⟨⟨r0, r1, r2, r3, r4, r5, r6, r7, r8, r9, r10, r11⟩, q0, q1, q2, q3, q4, q5, q6, q7, q8, q9, q10, q11⟩ := HX6.out.res.twelve
        go_wp2_with fail
        obtain ⟨st7, hst7⟩ : ∃ s, s = { st5 with events := st5.events ++ [(⟨2, 4, name, data, 0⟩ : Ev)] } := ⟨_, rfl⟩
        have HEV := fw_event HX6.out.rat ⟨2, 4, name, data, 0⟩ hev5
        rw [← hst7] at HEV HE
        clear hst7
        refine HEV.mono ?_
        rintro e w7 ⟨f7, rfl, hr7, hb7⟩
        have HX7 := Lib.hid (HX6.out.pure hb7)
        have HR7 := Lib.hid hr7
        have HB7 := Lib.hid hb7
        clear b0 b1 b2 b3 b4 b5 b6 b7 b8 b9 b10 b11 r0 r1 r2 r3 r4 r5 r6 r7 r8 r9 r10 r11 q0 q1 q2 q3 q4 q5 q6 q7 q8 q9 q10 q11 p0 p1 p2 p3 p4 p5 p6 p7 p8 p9 p10 p11
        clear HEV hr7 hb7
        obtain ⟨⟨r0, r1, r2, r3, r4, r5, r6, r7, r8, r9, r10, r11⟩, q0, q1, q2, q3, q4, q5, q6, q7, q8, q9, q10, q11⟩ := HX7.out.res.twelve
        unfold fcells
        go_wp2_with fail
        clear r0 r1 r2 r3 r4 r5 r6 r7 r8 r9 r10 r11 q0 q1 q2 q3 q4 q5 q6 q7 q8 q9 q10 q11
        have HD := Lib.hid (HX6.out.done (wj := w7) (f' := f7) (st' := st7) HB7.out HR7.out)
        generalize ((((((((((((w7.setCell ⟨R, 0, none⟩ (.slice f7.A0 f7.n0 f7.c0)).setCell ⟨R, 1, none⟩ (.string st7.stdin)).setCell ⟨R, 2, none⟩ (.slice f7.A2 st7.replies.length f7.c2)).setCell ⟨R, 3, none⟩ (.slice f7.A3 st7.fails.length f7.c3)).setCell ⟨R, 4, none⟩ (.int .i64 st7.lim)).setCell ⟨R, 5, none⟩ (.int .i64 st7.clock)).setCell ⟨R, 6, none⟩ (.int .u64 st7.ch)).setCell ⟨R, 7, none⟩ (.slice f7.AF st7.files.length f7.cF)).setCell ⟨R, 8, none⟩ (.int .i64 st7.taken)).setCell ⟨R, 9, none⟩ (.slice f7.AO st7.opn.length f7.cO)).setCell ⟨R, 10, none⟩ (.int .u64 st7.num)).setCell ⟨R, 11, none⟩ (.slice f7.AE st7.events.length f7.cE)) = w99 at *
        obtain ⟨⟨x0, x1, x2, x3, x4, x5, x6, x7, x8, x9, x10, x11⟩, -⟩ := HD.out.1.twelve
        refine bodyPost_ret (v := .tuple #[.agg #[.slice f7.A0 f7.n0 f7.c0, .string st7.stdin, .slice f7.A2 st7.replies.length f7.c2, .slice f7.A3 st7.fails.length f7.c3, .int .i64 st7.lim, .int .i64 st7.clock, .int .u64 st7.ch, .slice f7.AF st7.files.length f7.cF, .int .i64 st7.taken, .slice f7.AO st7.opn.length f7.cO, .int .u64 st7.num, .slice f7.AE st7.events.length f7.cE], .int .i64 0]) (by simp [results, Try.results46, go_sem, x0, x1, x2, x3, x4, x5, x6, x7, x8, x9, x10, x11]) rfl (by rw [HE.out]; exact ⟨f7, rfl, HD.out.2.1, HD.out.2.2⟩)
    · have HE : Hid (o = (st, 14)) := by unfold Hid; rw [HO.out]; unfold writeD; rw [if_neg (fun h => by rcases h.2 with h2 | h2; exact h2.2.1 rfl; rw [HFND.out] at h2; cases h2)]; rw [if_neg (by decide : ¬ (4 : Int) = 6), if_pos (by rw [hfl])]
      clear hfl
      go_wp2_with fail
      clear b0 b1 b2 b3 b4 b5 b6 b7 b8 b9 b10 b11 r0 r1 r2 r3 r4 r5 r6 r7 r8 r9 r10 r11 q0 q1 q2 q3 q4 q5 q6 q7 q8 q9 q10 q11 p0 p1 p2 p3 p4 p5 p6 p7 p8 p9 p10 p11
      have HD := Lib.hid (HX3.out.done (wj := w3) (f' := f) (st' := st) (Below.refl _ _) HX3.out.same)
      generalize ((((((((((((w3.setCell ⟨R, 0, none⟩ (.slice f.A0 f.n0 f.c0)).setCell ⟨R, 1, none⟩ (.string st.stdin)).setCell ⟨R, 2, none⟩ (.slice f.A2 st.replies.length f.c2)).setCell ⟨R, 3, none⟩ (.slice f.A3 st.fails.length f.c3)).setCell ⟨R, 4, none⟩ (.int .i64 st.lim)).setCell ⟨R, 5, none⟩ (.int .i64 st.clock)).setCell ⟨R, 6, none⟩ (.int .u64 st.ch)).setCell ⟨R, 7, none⟩ (.slice f.AF st.files.length f.cF)).setCell ⟨R, 8, none⟩ (.int .i64 st.taken)).setCell ⟨R, 9, none⟩ (.slice f.AO st.opn.length f.cO)).setCell ⟨R, 10, none⟩ (.int .u64 st.num)).setCell ⟨R, 11, none⟩ (.slice f.AE st.events.length f.cE)) = w99 at *
      obtain ⟨⟨x0, x1, x2, x3, x4, x5, x6, x7, x8, x9, x10, x11⟩, -⟩ := HD.out.1.twelve
      refine bodyPost_ret (v := .tuple #[.agg #[.slice f.A0 f.n0 f.c0, .string st.stdin, .slice f.A2 st.replies.length f.c2, .slice f.A3 st.fails.length f.c3, .int .i64 st.lim, .int .i64 st.clock, .int .u64 st.ch, .slice f.AF st.files.length f.cF, .int .i64 st.taken, .slice f.AO st.opn.length f.cO, .int .u64 st.num, .slice f.AE st.events.length f.cE], .int .i64 14]) (by simp [results, Try.results46, go_sem, x0, x1, x2, x3, x4, x5, x6, x7, x8, x9, x10, x11]) rfl (by rw [HE.out]; exact ⟨f, rfl, HD.out.2.1, HD.out.2.2⟩)
set_option maxRecDepth 100000 in
set_option maxHeartbeats 4000000 in
theorem fw_write_5 (h : RF K w f st) (name data : ByteArray) (hev : st.events.length ≤ 100000) :
    Calls Try.prog 46 #[.agg (fcells f st), .int .u8 5, .string name, .string data] w (WrPost K w (writeD st 5 name data).1 (writeD st 5 name data).2) := by
  obtain ⟨o, ho⟩ : ∃ o, o = writeD st 5 name data := ⟨_, rfl⟩
  rw [← ho]
  have HO := Lib.hid ho
  clear ho
  have HX0 := Lib.hid (RW.start h)
  have HRF := Lib.hid h
  clear h
  go_enter Try.func46, Try.ntmps46
  go_upto_region 1 with (fail)
  obtain ⟨B, hB⟩ : ∃ B, B = w.heap.size := ⟨_, rfl⟩
  rw [← hB] at HX0 ⊢
  obtain ⟨R, hR⟩ : ∃ R, R = B + 1 := ⟨_, rfl⟩
  rw [← hR] at HX0 ⊢
  clear hB hR
  generalize (w.alloc (.cells (fcells f st) 73)).alloc (.cells #[.slice none 0 0, .string ⟨#[]⟩, .slice none 0 0, .slice none 0 0, .int .i64 0, .int .i64 0, .int .u64 0, .slice none 0 0, .int .i64 0, .slice none 0 0, .int .u64 0, .slice none 0 0] 73) = w1 at *
  obtain ⟨⟨b0, b1, b2, b3, b4, b5, b6, b7, b8, b9, b10, b11⟩, p0, p1, p2, p3, p4, p5, p6, p7, p8, p9, p10, p11⟩ := HX0.out.blk.twelve
  obtain ⟨⟨r0, r1, r2, r3, r4, r5, r6, r7, r8, r9, r10, r11⟩, q0, q1, q2, q3, q4, q5, q6, q7, q8, q9, q10, q11⟩ := HX0.out.res.twelve
  go_wp2_with fail
  refine (fw_find HX0.out.rat 5 name).mono ?_
  rintro e w2 ⟨rfl, hb2⟩
  have HX2 := Lib.hid (HX0.out.pure hb2)
  clear b0 b1 b2 b3 b4 b5 b6 b7 b8 b9 b10 b11 r0 r1 r2 r3 r4 r5 r6 r7 r8 r9 r10 r11 q0 q1 q2 q3 q4 q5 q6 q7 q8 q9 q10 q11 p0 p1 p2 p3 p4 p5 p6 p7 p8 p9 p10 p11
  clear hb2
  obtain ⟨⟨b0, b1, b2, b3, b4, b5, b6, b7, b8, b9, b10, b11⟩, p0, p1, p2, p3, p4, p5, p6, p7, p8, p9, p10, p11⟩ := HX2.out.blk.twelve
  obtain ⟨⟨r0, r1, r2, r3, r4, r5, r6, r7, r8, r9, r10, r11⟩, q0, q1, q2, q3, q4, q5, q6, q7, q8, q9, q10, q11⟩ := HX2.out.res.twelve
  cases hf : findF st 5 name
  · have HE : Hid (o = (st, 16)) := by unfold Hid; rw [HO.out]; unfold writeD; rw [if_pos ⟨by decide, .inr hf⟩]
    clear hf
    rw [show ixV none = -1 from rfl]
    go_wp2_with fail
    clear b0 b1 b2 b3 b4 b5 b6 b7 b8 b9 b10 b11 r0 r1 r2 r3 r4 r5 r6 r7 r8 r9 r10 r11 q0 q1 q2 q3 q4 q5 q6 q7 q8 q9 q10 q11 p0 p1 p2 p3 p4 p5 p6 p7 p8 p9 p10 p11
    have HD := Lib.hid (HX2.out.done (wj := w2) (f' := f) (st' := st) (Below.refl _ _) HX2.out.same)
    generalize ((((((((((((w2.setCell ⟨R, 0, none⟩ (.slice f.A0 f.n0 f.c0)).setCell ⟨R, 1, none⟩ (.string st.stdin)).setCell ⟨R, 2, none⟩ (.slice f.A2 st.replies.length f.c2)).setCell ⟨R, 3, none⟩ (.slice f.A3 st.fails.length f.c3)).setCell ⟨R, 4, none⟩ (.int .i64 st.lim)).setCell ⟨R, 5, none⟩ (.int .i64 st.clock)).setCell ⟨R, 6, none⟩ (.int .u64 st.ch)).setCell ⟨R, 7, none⟩ (.slice f.AF st.files.length f.cF)).setCell ⟨R, 8, none⟩ (.int .i64 st.taken)).setCell ⟨R, 9, none⟩ (.slice f.AO st.opn.length f.cO)).setCell ⟨R, 10, none⟩ (.int .u64 st.num)).setCell ⟨R, 11, none⟩ (.slice f.AE st.events.length f.cE)) = w99 at *
    obtain ⟨⟨x0, x1, x2, x3, x4, x5, x6, x7, x8, x9, x10, x11⟩, -⟩ := HD.out.1.twelve
    refine bodyPost_ret (v := .tuple #[.agg #[.slice f.A0 f.n0 f.c0, .string st.stdin, .slice f.A2 st.replies.length f.c2, .slice f.A3 st.fails.length f.c3, .int .i64 st.lim, .int .i64 st.clock, .int .u64 st.ch, .slice f.AF st.files.length f.cF, .int .i64 st.taken, .slice f.AO st.opn.length f.cO, .int .u64 st.num, .slice f.AE st.events.length f.cE], .int .i64 16]) (by simp [results, Try.results46, go_sem, x0, x1, x2, x3, x4, x5, x6, x7, x8, x9, x10, x11]) rfl (by rw [HE.out]; exact ⟨f, rfl, HD.out.2.1, HD.out.2.2⟩)
  · rename_i ix
    have HFND := Lib.hid hf
    clear hf
    rw [show ixV (some ix) = (ix : Int) from rfl]
    have hix : ¬ (ix : Int) < 0 := by omega
    go_wp2_with fail
    refine (fw_fails HX2.out.rat 3 name).mono ?_
    rintro e w3 ⟨rfl, hb3⟩
    have HX3 := Lib.hid (HX2.out.pure hb3)
    clear b0 b1 b2 b3 b4 b5 b6 b7 b8 b9 b10 b11 r0 r1 r2 r3 r4 r5 r6 r7 r8 r9 r10 r11 q0 q1 q2 q3 q4 q5 q6 q7 q8 q9 q10 q11 p0 p1 p2 p3 p4 p5 p6 p7 p8 p9 p10 p11
    clear hb3
    obtain ⟨⟨b0, b1, b2, b3, b4, b5, b6, b7, b8, b9, b10, b11⟩, p0, p1, p2, p3, p4, p5, p6, p7, p8, p9, p10, p11⟩ := HX3.out.blk.twelve
    obtain ⟨⟨r0, r1, r2, r3, r4, r5, r6, r7, r8, r9, r10, r11⟩, q0, q1, q2, q3, q4, q5, q6, q7, q8, q9, q10, q11⟩ := HX3.out.res.twelve
    cases hfl : st.fails.any (isFl 3 name)
    · have HFL := Lib.hid hfl
      clear hfl
      by_cases h0 : data.size = 0
      · have e0 : ((data.size : Int) == 0) = true := by simp [h0]
        have HE : Hid (o = (st, 0)) := by unfold Hid; rw [HO.out]; unfold writeD; rw [if_neg (fun h => by rcases h.2 with h2 | h2; exact h2.2.2 rfl; rw [HFND.out] at h2; cases h2)]; rw [if_neg (by decide : ¬ (5 : Int) = 6), if_neg (by rw [HFL.out]; decide), if_pos h0]
        clear h0
        go_wp2_with fail
        clear b0 b1 b2 b3 b4 b5 b6 b7 b8 b9 b10 b11 r0 r1 r2 r3 r4 r5 r6 r7 r8 r9 r10 r11 q0 q1 q2 q3 q4 q5 q6 q7 q8 q9 q10 q11 p0 p1 p2 p3 p4 p5 p6 p7 p8 p9 p10 p11
        have HD := Lib.hid (HX3.out.done (wj := w3) (f' := f) (st' := st) (Below.refl _ _) HX3.out.same)
        generalize ((((((((((((w3.setCell ⟨R, 0, none⟩ (.slice f.A0 f.n0 f.c0)).setCell ⟨R, 1, none⟩ (.string st.stdin)).setCell ⟨R, 2, none⟩ (.slice f.A2 st.replies.length f.c2)).setCell ⟨R, 3, none⟩ (.slice f.A3 st.fails.length f.c3)).setCell ⟨R, 4, none⟩ (.int .i64 st.lim)).setCell ⟨R, 5, none⟩ (.int .i64 st.clock)).setCell ⟨R, 6, none⟩ (.int .u64 st.ch)).setCell ⟨R, 7, none⟩ (.slice f.AF st.files.length f.cF)).setCell ⟨R, 8, none⟩ (.int .i64 st.taken)).setCell ⟨R, 9, none⟩ (.slice f.AO st.opn.length f.cO)).setCell ⟨R, 10, none⟩ (.int .u64 st.num)).setCell ⟨R, 11, none⟩ (.slice f.AE st.events.length f.cE)) = w99 at *
        obtain ⟨⟨x0, x1, x2, x3, x4, x5, x6, x7, x8, x9, x10, x11⟩, -⟩ := HD.out.1.twelve
        refine bodyPost_ret (v := .tuple #[.agg #[.slice f.A0 f.n0 f.c0, .string st.stdin, .slice f.A2 st.replies.length f.c2, .slice f.A3 st.fails.length f.c3, .int .i64 st.lim, .int .i64 st.clock, .int .u64 st.ch, .slice f.AF st.files.length f.cF, .int .i64 st.taken, .slice f.AO st.opn.length f.cO, .int .u64 st.num, .slice f.AE st.events.length f.cE], .int .i64 0]) (by simp [results, Try.results46, go_sem, x0, x1, x2, x3, x4, x5, x6, x7, x8, x9, x10, x11]) rfl (by rw [HE.out]; exact ⟨f, rfl, HD.out.2.1, HD.out.2.2⟩)
      · have e0 : ((data.size : Int) == 0) = false := by simp [h0]
        obtain ⟨st7, hst7⟩ : ∃ s, s = { st with events := st.events ++ [(⟨2, 5, name, data, 0⟩ : Ev)] } := ⟨_, rfl⟩
        have HE : Hid (o = (st7, 0)) := by unfold Hid; rw [HO.out]; unfold writeD; rw [if_neg (fun h => by rcases h.2 with h2 | h2; exact h2.2.2 rfl; rw [HFND.out] at h2; cases h2)]; rw [if_neg (by decide : ¬ (5 : Int) = 6), if_neg (by rw [HFL.out]; decide), if_neg h0, if_neg (by decide), hst7]
        have HEV := fw_event HX3.out.rat ⟨2, 5, name, data, 0⟩ hev
        rw [← hst7] at HEV
        have HEVH := Lib.hid HEV
        clear hst7 HEV h0
        go_wp2_with fail
        refine HEVH.out.mono ?_
        rintro e w7 ⟨f7, rfl, hr7, hb7⟩
        have HX7 := Lib.hid (HX3.out.pure hb7)
        have HR7 := Lib.hid hr7
        have HB7 := Lib.hid hb7
        clear b0 b1 b2 b3 b4 b5 b6 b7 b8 b9 b10 b11 r0 r1 r2 r3 r4 r5 r6 r7 r8 r9 r10 r11 q0 q1 q2 q3 q4 q5 q6 q7 q8 q9 q10 q11 p0 p1 p2 p3 p4 p5 p6 p7 p8 p9 p10 p11
        clear HEVH hr7 hb7
        obtain ⟨⟨r0, r1, r2, r3, r4, r5, r6, r7, r8, r9, r10, r11⟩, q0, q1, q2, q3, q4, q5, q6, q7, q8, q9, q10, q11⟩ := HX7.out.res.twelve
        unfold fcells
        go_wp2_with fail
        clear r0 r1 r2 r3 r4 r5 r6 r7 r8 r9 r10 r11 q0 q1 q2 q3 q4 q5 q6 q7 q8 q9 q10 q11
        have HD := Lib.hid (HX3.out.done (wj := w7) (f' := f7) (st' := st7) HB7.out HR7.out)
        generalize ((((((((((((w7.setCell ⟨R, 0, none⟩ (.slice f7.A0 f7.n0 f7.c0)).setCell ⟨R, 1, none⟩ (.string st7.stdin)).setCell ⟨R, 2, none⟩ (.slice f7.A2 st7.replies.length f7.c2)).setCell ⟨R, 3, none⟩ (.slice f7.A3 st7.fails.length f7.c3)).setCell ⟨R, 4, none⟩ (.int .i64 st7.lim)).setCell ⟨R, 5, none⟩ (.int .i64 st7.clock)).setCell ⟨R, 6, none⟩ (.int .u64 st7.ch)).setCell ⟨R, 7, none⟩ (.slice f7.AF st7.files.length f7.cF)).setCell ⟨R, 8, none⟩ (.int .i64 st7.taken)).setCell ⟨R, 9, none⟩ (.slice f7.AO st7.opn.length f7.cO)).setCell ⟨R, 10, none⟩ (.int .u64 st7.num)).setCell ⟨R, 11, none⟩ (.slice f7.AE st7.events.length f7.cE)) = w99 at *
        obtain ⟨⟨x0, x1, x2, x3, x4, x5, x6, x7, x8, x9, x10, x11⟩, -⟩ := HD.out.1.twelve
        refine bodyPost_ret (v := .tuple #[.agg #[.slice f7.A0 f7.n0 f7.c0, .string st7.stdin, .slice f7.A2 st7.replies.length f7.c2, .slice f7.A3 st7.fails.length f7.c3, .int .i64 st7.lim, .int .i64 st7.clock, .int .u64 st7.ch, .slice f7.AF st7.files.length f7.cF, .int .i64 st7.taken, .slice f7.AO st7.opn.length f7.cO, .int .u64 st7.num, .slice f7.AE st7.events.length f7.cE], .int .i64 0]) (by simp [results, Try.results46, go_sem, x0, x1, x2, x3, x4, x5, x6, x7, x8, x9, x10, x11]) rfl (by rw [HE.out]; exact ⟨f7, rfl, HD.out.2.1, HD.out.2.2⟩)
    · have HE : Hid (o = (st, 14)) := by unfold Hid; rw [HO.out]; unfold writeD; rw [if_neg (fun h => by rcases h.2 with h2 | h2; exact h2.2.2 rfl; rw [HFND.out] at h2; cases h2)]; rw [if_neg (by decide : ¬ (5 : Int) = 6), if_pos (by rw [hfl])]
      clear hfl
      go_wp2_with fail
      clear b0 b1 b2 b3 b4 b5 b6 b7 b8 b9 b10 b11 r0 r1 r2 r3 r4 r5 r6 r7 r8 r9 r10 r11 q0 q1 q2 q3 q4 q5 q6 q7 q8 q9 q10 q11 p0 p1 p2 p3 p4 p5 p6 p7 p8 p9 p10 p11
      have HD := Lib.hid (HX3.out.done (wj := w3) (f' := f) (st' := st) (Below.refl _ _) HX3.out.same)
      generalize ((((((((((((w3.setCell ⟨R, 0, none⟩ (.slice f.A0 f.n0 f.c0)).setCell ⟨R, 1, none⟩ (.string st.stdin)).setCell ⟨R, 2, none⟩ (.slice f.A2 st.replies.length f.c2)).setCell ⟨R, 3, none⟩ (.slice f.A3 st.fails.length f.c3)).setCell ⟨R, 4, none⟩ (.int .i64 st.lim)).setCell ⟨R, 5, none⟩ (.int .i64 st.clock)).setCell ⟨R, 6, none⟩ (.int .u64 st.ch)).setCell ⟨R, 7, none⟩ (.slice f.AF st.files.length f.cF)).setCell ⟨R, 8, none⟩ (.int .i64 st.taken)).setCell ⟨R, 9, none⟩ (.slice f.AO st.opn.length f.cO)).setCell ⟨R, 10, none⟩ (.int .u64 st.num)).setCell ⟨R, 11, none⟩ (.slice f.AE st.events.length f.cE)) = w99 at *
      obtain ⟨⟨x0, x1, x2, x3, x4, x5, x6, x7, x8, x9, x10, x11⟩, -⟩ := HD.out.1.twelve
      refine bodyPost_ret (v := .tuple #[.agg #[.slice f.A0 f.n0 f.c0, .string st.stdin, .slice f.A2 st.replies.length f.c2, .slice f.A3 st.fails.length f.c3, .int .i64 st.lim, .int .i64 st.clock, .int .u64 st.ch, .slice f.AF st.files.length f.cF, .int .i64 st.taken, .slice f.AO st.opn.length f.cO, .int .u64 st.num, .slice f.AE st.events.length f.cE], .int .i64 14]) (by simp [results, Try.results46, go_sem, x0, x1, x2, x3, x4, x5, x6, x7, x8, x9, x10, x11]) rfl (by rw [HE.out]; exact ⟨f, rfl, HD.out.2.1, HD.out.2.2⟩)
set_option maxRecDepth 100000 in
set_option maxHeartbeats 4000000 in
theorem fw_write_6 (h : RF K w f st) (name data : ByteArray) (hev : st.events.length ≤ 100000) :
    Calls Try.prog 46 #[.agg (fcells f st), .int .u8 6, .string name, .string data] w (WrPost K w (writeD st 6 name data).1 (writeD st 6 name data).2) := by
  obtain ⟨o, ho⟩ : ∃ o, o = writeD st 6 name data := ⟨_, rfl⟩
  rw [← ho]
  have HO := Lib.hid ho
  clear ho
  have HX0 := Lib.hid (RW.start h)
  have HRF := Lib.hid h
  clear h
  go_enter Try.func46, Try.ntmps46
  go_upto_region 1 with (fail)
  obtain ⟨B, hB⟩ : ∃ B, B = w.heap.size := ⟨_, rfl⟩
  rw [← hB] at HX0 ⊢
  obtain ⟨R, hR⟩ : ∃ R, R = B + 1 := ⟨_, rfl⟩
  rw [← hR] at HX0 ⊢
  clear hB hR
  generalize (w.alloc (.cells (fcells f st) 73)).alloc (.cells #[.slice none 0 0, .string ⟨#[]⟩, .slice none 0 0, .slice none 0 0, .int .i64 0, .int .i64 0, .int .u64 0, .slice none 0 0, .int .i64 0, .slice none 0 0, .int .u64 0, .slice none 0 0] 73) = w1 at *
  obtain ⟨⟨b0, b1, b2, b3, b4, b5, b6, b7, b8, b9, b10, b11⟩, p0, p1, p2, p3, p4, p5, p6, p7, p8, p9, p10, p11⟩ := HX0.out.blk.twelve
  obtain ⟨⟨r0, r1, r2, r3, r4, r5, r6, r7, r8, r9, r10, r11⟩, q0, q1, q2, q3, q4, q5, q6, q7, q8, q9, q10, q11⟩ := HX0.out.res.twelve
  go_wp2_with fail
  refine (fw_fails HX0.out.rat 3 ⟨#[]⟩).mono ?_
  rintro e w3 ⟨rfl, hb3⟩
  have HX3 := Lib.hid (HX0.out.pure hb3)
  clear b0 b1 b2 b3 b4 b5 b6 b7 b8 b9 b10 b11 r0 r1 r2 r3 r4 r5 r6 r7 r8 r9 r10 r11 q0 q1 q2 q3 q4 q5 q6 q7 q8 q9 q10 q11 p0 p1 p2 p3 p4 p5 p6 p7 p8 p9 p10 p11
  clear hb3
  obtain ⟨⟨b0, b1, b2, b3, b4, b5, b6, b7, b8, b9, b10, b11⟩, p0, p1, p2, p3, p4, p5, p6, p7, p8, p9, p10, p11⟩ := HX3.out.blk.twelve
  obtain ⟨⟨r0, r1, r2, r3, r4, r5, r6, r7, r8, r9, r10, r11⟩, q0, q1, q2, q3, q4, q5, q6, q7, q8, q9, q10, q11⟩ := HX3.out.res.twelve
  cases hfl : st.fails.any (isFl 3 ⟨#[]⟩)
  · have HFL := Lib.hid hfl
    clear hfl
    by_cases h0 : data.size = 0
    · have e0 : ((data.size : Int) == 0) = true := by simp [h0]
      have HE : Hid (o = (st, 0)) := by unfold Hid; rw [HO.out]; unfold writeD; rw [if_neg (fun h => h.1 rfl)]; rw [if_pos rfl, if_neg (by rw [HFL.out]; decide), if_pos h0]
      clear h0
      go_wp2_with fail
      clear b0 b1 b2 b3 b4 b5 b6 b7 b8 b9 b10 b11 r0 r1 r2 r3 r4 r5 r6 r7 r8 r9 r10 r11 q0 q1 q2 q3 q4 q5 q6 q7 q8 q9 q10 q11 p0 p1 p2 p3 p4 p5 p6 p7 p8 p9 p10 p11
      have HD := Lib.hid (HX3.out.done (wj := w3) (f' := f) (st' := st) (Below.refl _ _) HX3.out.same)
      generalize ((((((((((((w3.setCell ⟨R, 0, none⟩ (.slice f.A0 f.n0 f.c0)).setCell ⟨R, 1, none⟩ (.string st.stdin)).setCell ⟨R, 2, none⟩ (.slice f.A2 st.replies.length f.c2)).setCell ⟨R, 3, none⟩ (.slice f.A3 st.fails.length f.c3)).setCell ⟨R, 4, none⟩ (.int .i64 st.lim)).setCell ⟨R, 5, none⟩ (.int .i64 st.clock)).setCell ⟨R, 6, none⟩ (.int .u64 st.ch)).setCell ⟨R, 7, none⟩ (.slice f.AF st.files.length f.cF)).setCell ⟨R, 8, none⟩ (.int .i64 st.taken)).setCell ⟨R, 9, none⟩ (.slice f.AO st.opn.length f.cO)).setCell ⟨R, 10, none⟩ (.int .u64 st.num)).setCell ⟨R, 11, none⟩ (.slice f.AE st.events.length f.cE)) = w99 at *
      obtain ⟨⟨x0, x1, x2, x3, x4, x5, x6, x7, x8, x9, x10, x11⟩, -⟩ := HD.out.1.twelve
      refine bodyPost_ret (v := .tuple #[.agg #[.slice f.A0 f.n0 f.c0, .string st.stdin, .slice f.A2 st.replies.length f.c2, .slice f.A3 st.fails.length f.c3, .int .i64 st.lim, .int .i64 st.clock, .int .u64 st.ch, .slice f.AF st.files.length f.cF, .int .i64 st.taken, .slice f.AO st.opn.length f.cO, .int .u64 st.num, .slice f.AE st.events.length f.cE], .int .i64 0]) (by simp [results, Try.results46, go_sem, x0, x1, x2, x3, x4, x5, x6, x7, x8, x9, x10, x11]) rfl (by rw [HE.out]; exact ⟨f, rfl, HD.out.2.1, HD.out.2.2⟩)
    · have e0 : ((data.size : Int) == 0) = false := by simp [h0]
      obtain ⟨st7, hst7⟩ : ∃ s, s = { st with events := st.events ++ [(⟨2, 6, ⟨#[]⟩, data, 0⟩ : Ev)] } := ⟨_, rfl⟩
      have HE : Hid (o = (st7, 0)) := by unfold Hid; rw [HO.out]; unfold writeD; rw [if_neg (fun h => h.1 rfl)]; rw [if_pos rfl, if_neg (by rw [HFL.out]; decide), if_neg h0, if_neg (by decide), hst7]
      have HEV := fw_event HX3.out.rat ⟨2, 6, ⟨#[]⟩, data, 0⟩ hev
      rw [← hst7] at HEV
      have HEVH := Lib.hid HEV
      clear hst7 HEV h0
      go_wp2_with fail
      refine HEVH.out.mono ?_
      rintro e w7 ⟨f7, rfl, hr7, hb7⟩
      have HX7 := Lib.hid (HX3.out.pure hb7)
      have HR7 := Lib.hid hr7
      have HB7 := Lib.hid hb7
      clear b0 b1 b2 b3 b4 b5 b6 b7 b8 b9 b10 b11 r0 r1 r2 r3 r4 r5 r6 r7 r8 r9 r10 r11 q0 q1 q2 q3 q4 q5 q6 q7 q8 q9 q10 q11 p0 p1 p2 p3 p4 p5 p6 p7 p8 p9 p10 p11
      clear HEVH hr7 hb7
      obtain ⟨⟨r0, r1, r2, r3, r4, r5, r6, r7, r8, r9, r10, r11⟩, q0, q1, q2, q3, q4, q5, q6, q7, q8, q9, q10, q11⟩ := HX7.out.res.twelve
      unfold fcells
      go_wp2_with fail
      clear r0 r1 r2 r3 r4 r5 r6 r7 r8 r9 r10 r11 q0 q1 q2 q3 q4 q5 q6 q7 q8 q9 q10 q11
      have HD := Lib.hid (HX3.out.done (wj := w7) (f' := f7) (st' := st7) HB7.out HR7.out)
      generalize ((((((((((((w7.setCell ⟨R, 0, none⟩ (.slice f7.A0 f7.n0 f7.c0)).setCell ⟨R, 1, none⟩ (.string st7.stdin)).setCell ⟨R, 2, none⟩ (.slice f7.A2 st7.replies.length f7.c2)).setCell ⟨R, 3, none⟩ (.slice f7.A3 st7.fails.length f7.c3)).setCell ⟨R, 4, none⟩ (.int .i64 st7.lim)).setCell ⟨R, 5, none⟩ (.int .i64 st7.clock)).setCell ⟨R, 6, none⟩ (.int .u64 st7.ch)).setCell ⟨R, 7, none⟩ (.slice f7.AF st7.files.length f7.cF)).setCell ⟨R, 8, none⟩ (.int .i64 st7.taken)).setCell ⟨R, 9, none⟩ (.slice f7.AO st7.opn.length f7.cO)).setCell ⟨R, 10, none⟩ (.int .u64 st7.num)).setCell ⟨R, 11, none⟩ (.slice f7.AE st7.events.length f7.cE)) = w99 at *
      obtain ⟨⟨x0, x1, x2, x3, x4, x5, x6, x7, x8, x9, x10, x11⟩, -⟩ := HD.out.1.twelve
      refine bodyPost_ret (v := .tuple #[.agg #[.slice f7.A0 f7.n0 f7.c0, .string st7.stdin, .slice f7.A2 st7.replies.length f7.c2, .slice f7.A3 st7.fails.length f7.c3, .int .i64 st7.lim, .int .i64 st7.clock, .int .u64 st7.ch, .slice f7.AF st7.files.length f7.cF, .int .i64 st7.taken, .slice f7.AO st7.opn.length f7.cO, .int .u64 st7.num, .slice f7.AE st7.events.length f7.cE], .int .i64 0]) (by simp [results, Try.results46, go_sem, x0, x1, x2, x3, x4, x5, x6, x7, x8, x9, x10, x11]) rfl (by rw [HE.out]; exact ⟨f7, rfl, HD.out.2.1, HD.out.2.2⟩)
  · have HE : Hid (o = (st, 14)) := by unfold Hid; rw [HO.out]; unfold writeD; rw [if_neg (fun h => h.1 rfl)]; rw [if_pos rfl, if_pos (by rw [hfl])]
    clear hfl
    go_wp2_with fail
    clear b0 b1 b2 b3 b4 b5 b6 b7 b8 b9 b10 b11 r0 r1 r2 r3 r4 r5 r6 r7 r8 r9 r10 r11 q0 q1 q2 q3 q4 q5 q6 q7 q8 q9 q10 q11 p0 p1 p2 p3 p4 p5 p6 p7 p8 p9 p10 p11
    have HD := Lib.hid (HX3.out.done (wj := w3) (f' := f) (st' := st) (Below.refl _ _) HX3.out.same)
    generalize ((((((((((((w3.setCell ⟨R, 0, none⟩ (.slice f.A0 f.n0 f.c0)).setCell ⟨R, 1, none⟩ (.string st.stdin)).setCell ⟨R, 2, none⟩ (.slice f.A2 st.replies.length f.c2)).setCell ⟨R, 3, none⟩ (.slice f.A3 st.fails.length f.c3)).setCell ⟨R, 4, none⟩ (.int .i64 st.lim)).setCell ⟨R, 5, none⟩ (.int .i64 st.clock)).setCell ⟨R, 6, none⟩ (.int .u64 st.ch)).setCell ⟨R, 7, none⟩ (.slice f.AF st.files.length f.cF)).setCell ⟨R, 8, none⟩ (.int .i64 st.taken)).setCell ⟨R, 9, none⟩ (.slice f.AO st.opn.length f.cO)).setCell ⟨R, 10, none⟩ (.int .u64 st.num)).setCell ⟨R, 11, none⟩ (.slice f.AE st.events.length f.cE)) = w99 at *
    obtain ⟨⟨x0, x1, x2, x3, x4, x5, x6, x7, x8, x9, x10, x11⟩, -⟩ := HD.out.1.twelve
    refine bodyPost_ret (v := .tuple #[.agg #[.slice f.A0 f.n0 f.c0, .string st.stdin, .slice f.A2 st.replies.length f.c2, .slice f.A3 st.fails.length f.c3, .int .i64 st.lim, .int .i64 st.clock, .int .u64 st.ch, .slice f.AF st.files.length f.cF, .int .i64 st.taken, .slice f.AO st.opn.length f.cO, .int .u64 st.num, .slice f.AE st.events.length f.cE], .int .i64 14]) (by simp [results, Try.results46, go_sem, x0, x1, x2, x3, x4, x5, x6, x7, x8, x9, x10, x11]) rfl (by rw [HE.out]; exact ⟨f, rfl, HD.out.2.1, HD.out.2.2⟩)
end
end Go.Proofs.Ytodjjnklelfgfaa
namespace Go.Proofs.Ytodjjnklelfgfaa
open Go.RowKit Wd
theorem info_sm : (Try.prog.info? 116).map (fun i => (i.zero, i.size, i.bytes)) = some (some (.agg #[.int .u8 0, .string ⟨#[]⟩, .string ⟨#[]⟩, .int .i64 0]), 4, 48) := by kernel_rfl
theorem one_sms (l : List RSm) : ∀ u ∈ svals4 l, u.oneCell' = true := by
  intro u hu
  simp only [svals4, List.mem_flatMap] at hu
  obtain ⟨e, -, hu⟩ := hu
  simp [RSm.vals] at hu
  rcases hu with rfl | rfl | rfl | rfl <;> rfl
theorem one_sm4 {a d : Int} {b c : ByteArray} : ∀ u ∈ [Value.int .u8 a, .string b, .string c, .int .i64 d], u.oneCell' = true := by
  intro u hu
  simp at hu
  rcases hu with rfl | rfl | rfl | rfl <;> rfl
theorem svals4_snoc (l : List RSm) (s : RSm) : svals4 l ++ [.int .u8 s.k, .string s.name, .string s.src, .int .i64 s.tk] = svals4 (l ++ [s]) := by simp [svals4, RSm.vals]
section
variable {K : Nat → Prop} {w wi wj : World} {B R : Nat} {f f' : Fm} {st st' : RSt}
theorem RF.setO {l : List RSm} {A : Option Addr} {c : Nat} (h : RF K wi f st) (hb : Below wi.heap.size wi wj) (ho : wj.ownsRow wi.heap.size 116 4 (.slice A l.length c) l.length (svals4 l)) (hl : l.length ≤ 1000000) :
    RF (Nw K wi) wj { f with AO := A, cO := c } { st with opn := l } := RAt.upO h hb ho hl
theorem RW.setO {l : List RSm} {A : Option Addr} {c : Nat} (h : RW K w wi B R f st) (hb : Below wi.heap.size wi wj) (ho : wj.ownsRow wi.heap.size 116 4 (.slice A l.length c) l.length (svals4 l)) (hl : l.length ≤ 1000000) :
    RW K w (wj.setCell ⟨B, 9, none⟩ (.slice A l.length c)) B R { f with AO := A, cO := c } { st with opn := l } := by
  have h1 := h.pure hb
  have hRB : R ≠ B := by have := h.hR; omega
  refine ⟨h.hB, h.hR, h1.below.trans ((Tur.of_set ⟨B, 9, none⟩ _).below _ h1.below.size (fun k hk e => by have e : k = B := e; have := h.hB; omega)), by have := h1.big; simpa [World.setCell] using this, h1.blk.set 9 _, h1.res.keep (Tur.of_set ⟨B, 9, none⟩ _) hRB, (h.told (RF.setO h.rat hb ho hl)).kset (by simp [World.setCell]) (fun b h1 _ => Below.heap_setCell _ _ _ _ h1)⟩
end
namespace Wd
def openF (st : RSt) (k : Int) (name : ByteArray) : List (ByteArray × ByteArray) :=
  if k = 3 then withL st.files name ⟨#[]⟩ else if k = 4 then withL st.files name ((fileF st name).getD (⟨#[]⟩, ⟨#[]⟩)).2 else st.files
def openS (st : RSt) (k : Int) (name : ByteArray) : ByteArray :=
  if k = 1 then ((fileF st name).getD (⟨#[]⟩, ⟨#[]⟩)).2 else if k = 2 then ((replyF st name).getD rpZero).out else ⟨#[]⟩
def openD (st : RSt) (k : Int) (name : ByteArray) : RSt × Int :=
  if k < 1 ∨ 5 < k then (st, 2)
  else if (findF st k name).isSome then (st, 0)
  else if st.lim ≤ st.opn.length then (st, 15)
  else if st.fails.any (isFl 1 name) = true ∨ (k = 1 ∧ name ≠ minus ∧ (fileF st name).isSome = false) then (st, 12)
  else ({ st with files := openF st k name, opn := st.opn ++ [⟨k, name, openS st k name, 0⟩], events := st.events ++ [⟨1, k, name, ⟨#[]⟩, 0⟩] }, 0)
end Wd
theorem sm_cells {w : World} {g : Nat} {t : TypeId} {a b c d : Value} (h : Blk w g t #[a, b, c, d]) : w.cell? ⟨g, 0, none⟩ = some a ∧ w.cell? ⟨g, 1, none⟩ = some b ∧ w.cell? ⟨g, 2, none⟩ = some c ∧ w.cell? ⟨g, 3, none⟩ = some d := ⟨h.cell 0, h.cell 1, h.cell 2, h.cell 3⟩
end Go.Proofs.Ytodjjnklelfgfaa
