/- The document's world: Opened, by kinds. -/
import Derived.Test.YtodjjnklelfgfaaG8
set_option linter.unusedVariables false
set_option linter.unusedSimpArgs false
namespace Go.Proofs.Ytodjjnklelfgfaa
open Go.RowKit Wd
section
variable {K : Nat → Prop} {w : World} {f : Fm} {st : RSt}
set_option maxRecDepth 100000 in
set_option maxHeartbeats 4000000 in
theorem fw_open_no (h : RF K w f st) (k : Int) (name : ByteArray) (hk : k < 1 ∨ 5 < k) :
    Calls Try.prog 44 #[.agg (fcells f st), .int .u8 k, .string name] w (WrPost K w (openD st k name).1 (openD st k name).2) := by
  obtain ⟨o, ho⟩ : ∃ o, o = openD st k name := ⟨_, rfl⟩
  rw [← ho]
  have HE : Hid (o = (st, 2)) := by unfold Hid; rw [ho]; unfold openD; rw [if_pos hk]
  clear ho
  have hk' : k < 1 ∨ (¬ k < 1 ∧ 5 < k) := by omega
  clear hk
  rcases hk' with hk | ⟨hk, hk5⟩
  all_goals
    have HX0 := Lib.hid (RW.start h)
    have HRF := Lib.hid h
    clear h
    go_enter Try.func44, Try.ntmps44
    go_upto_region 1 with (fail)
    obtain ⟨B, hB⟩ : ∃ B, B = w.heap.size := ⟨_, rfl⟩
    rw [← hB] at HX0 ⊢
    obtain ⟨R, hR⟩ : ∃ R, R = B + 1 := ⟨_, rfl⟩
    rw [← hR] at HX0 ⊢
    clear hB hR
    generalize (w.alloc (.cells (fcells f st) 73)).alloc (.cells #[.slice none 0 0, .string ⟨#[]⟩, .slice none 0 0, .slice none 0 0, .int .i64 0, .int .i64 0, .int .u64 0, .slice none 0 0, .int .i64 0, .slice none 0 0, .int .u64 0, .slice none 0 0] 73) = w1 at *
    obtain ⟨⟨b0, b1, b2, b3, b4, b5, b6, b7, b8, b9, b10, b11⟩, p0, p1, p2, p3, p4, p5, p6, p7, p8, p9, p10, p11⟩ := HX0.out.blk.twelve
    obtain ⟨⟨r0, r1, r2, r3, r4, r5, r6, r7, r8, r9, r10, r11⟩, q0, q1, q2, q3, q4, q5, q6, q7, q8, q9, q10, q11⟩ := HX0.out.res.twelve
    go_wp2_with fail
    clear b0 b1 b2 b3 b4 b5 b6 b7 b8 b9 b10 b11 r0 r1 r2 r3 r4 r5 r6 r7 r8 r9 r10 r11 q0 q1 q2 q3 q4 q5 q6 q7 q8 q9 q10 q11 p0 p1 p2 p3 p4 p5 p6 p7 p8 p9 p10 p11
    have HD := Lib.hid (HX0.out.done (wj := w1) (f' := f) (st' := st) (Below.refl _ _) HX0.out.same)
    generalize ((((((((((((w1.setCell ⟨R, 0, none⟩ (.slice f.A0 f.n0 f.c0)).setCell ⟨R, 1, none⟩ (.string st.stdin)).setCell ⟨R, 2, none⟩ (.slice f.A2 st.replies.length f.c2)).setCell ⟨R, 3, none⟩ (.slice f.A3 st.fails.length f.c3)).setCell ⟨R, 4, none⟩ (.int .i64 st.lim)).setCell ⟨R, 5, none⟩ (.int .i64 st.clock)).setCell ⟨R, 6, none⟩ (.int .u64 st.ch)).setCell ⟨R, 7, none⟩ (.slice f.AF st.files.length f.cF)).setCell ⟨R, 8, none⟩ (.int .i64 st.taken)).setCell ⟨R, 9, none⟩ (.slice f.AO st.opn.length f.cO)).setCell ⟨R, 10, none⟩ (.int .u64 st.num)).setCell ⟨R, 11, none⟩ (.slice f.AE st.events.length f.cE)) = w99 at *
    obtain ⟨⟨x0, x1, x2, x3, x4, x5, x6, x7, x8, x9, x10, x11⟩, -⟩ := HD.out.1.twelve
    refine bodyPost_ret (v := .tuple #[.agg #[.slice f.A0 f.n0 f.c0, .string st.stdin, .slice f.A2 st.replies.length f.c2, .slice f.A3 st.fails.length f.c3, .int .i64 st.lim, .int .i64 st.clock, .int .u64 st.ch, .slice f.AF st.files.length f.cF, .int .i64 st.taken, .slice f.AO st.opn.length f.cO, .int .u64 st.num, .slice f.AE st.events.length f.cE], .int .i64 2]) (by simp [results, Try.results44, go_sem, x0, x1, x2, x3, x4, x5, x6, x7, x8, x9, x10, x11]) rfl (by rw [HE.out]; exact ⟨f, rfl, HD.out.2.1, HD.out.2.2⟩)
set_option maxRecDepth 100000 in
set_option maxHeartbeats 4000000 in
theorem fw_open_1 (h : RF K w f st) (name : ByteArray) (hev : st.events.length ≤ 100000) (hop : st.opn.length ≤ 100000) (hfil : st.files.length ≤ 100000) :
    Calls Try.prog 44 #[.agg (fcells f st), .int .u8 1, .string name] w (WrPost K w (openD st 1 name).1 (openD st 1 name).2) := by
  obtain ⟨o, ho⟩ : ∃ o, o = openD st 1 name := ⟨_, rfl⟩
  rw [← ho]
  have HO := Lib.hid ho
  clear ho
  have HX0 := Lib.hid (RW.start h)
  have HRF := Lib.hid h
  clear h
  go_enter Try.func44, Try.ntmps44
  go_upto_region 1 with (fail)
  obtain ⟨B, hB⟩ : ∃ B, B = w.heap.size := ⟨_, rfl⟩
  rw [← hB] at HX0 ⊢
  obtain ⟨R, hR⟩ : ∃ R, R = B + 1 := ⟨_, rfl⟩
  rw [← hR] at HX0 ⊢
  clear hB hR
  generalize (w.alloc (.cells (fcells f st) 73)).alloc (.cells #[.slice none 0 0, .string ⟨#[]⟩, .slice none 0 0, .slice none 0 0, .int .i64 0, .int .i64 0, .int .u64 0, .slice none 0 0, .int .i64 0, .slice none 0 0, .int .u64 0, .slice none 0 0] 73) = w1 at *
  obtain ⟨⟨b0, b1, b2, b3, b4, b5, b6, b7, b8, b9, b10, b11⟩, p0, p1, p2, p3, p4, p5, p6, p7, p8, p9, p10, p11⟩ := HX0.out.blk.twelve
  obtain ⟨⟨r0, r1, r2, r3, r4, r5, r6, r7, r8, r9, r10, r11⟩, q0, q1, q2, q3, q4, q5, q6, q7, q8, q9, q10, q11⟩ := HX0.out.res.twelve
  go_wp2_with fail
  refine (fw_find HX0.out.rat 1 name).mono ?_
  rintro e w2 ⟨rfl, hb2⟩
  have HX2 := Lib.hid (HX0.out.pure hb2)
  clear b0 b1 b2 b3 b4 b5 b6 b7 b8 b9 b10 b11 r0 r1 r2 r3 r4 r5 r6 r7 r8 r9 r10 r11 q0 q1 q2 q3 q4 q5 q6 q7 q8 q9 q10 q11 p0 p1 p2 p3 p4 p5 p6 p7 p8 p9 p10 p11
  clear hb2
  obtain ⟨⟨b0, b1, b2, b3, b4, b5, b6, b7, b8, b9, b10, b11⟩, p0, p1, p2, p3, p4, p5, p6, p7, p8, p9, p10, p11⟩ := HX2.out.blk.twelve
  obtain ⟨⟨r0, r1, r2, r3, r4, r5, r6, r7, r8, r9, r10, r11⟩, q0, q1, q2, q3, q4, q5, q6, q7, q8, q9, q10, q11⟩ := HX2.out.res.twelve
  cases hf : findF st 1 name
  rotate_left
  · rename_i ix
    have HE : Hid (o = (st, 0)) := by unfold Hid; rw [HO.out]; unfold openD; rw [if_neg (by decide), hf, if_pos (show (some ix).isSome = true from rfl)]
    clear hf
    rw [show ixV (some ix) = (ix : Int) from rfl]
    have hix : (0 : Int) ≤ (ix : Int) := by omega
    go_wp2_with fail
    clear b0 b1 b2 b3 b4 b5 b6 b7 b8 b9 b10 b11 r0 r1 r2 r3 r4 r5 r6 r7 r8 r9 r10 r11 q0 q1 q2 q3 q4 q5 q6 q7 q8 q9 q10 q11 p0 p1 p2 p3 p4 p5 p6 p7 p8 p9 p10 p11
    have HD := Lib.hid (HX2.out.done (wj := w2) (f' := f) (st' := st) (Below.refl _ _) HX2.out.same)
    generalize ((((((((((((w2.setCell ⟨R, 0, none⟩ (.slice f.A0 f.n0 f.c0)).setCell ⟨R, 1, none⟩ (.string st.stdin)).setCell ⟨R, 2, none⟩ (.slice f.A2 st.replies.length f.c2)).setCell ⟨R, 3, none⟩ (.slice f.A3 st.fails.length f.c3)).setCell ⟨R, 4, none⟩ (.int .i64 st.lim)).setCell ⟨R, 5, none⟩ (.int .i64 st.clock)).setCell ⟨R, 6, none⟩ (.int .u64 st.ch)).setCell ⟨R, 7, none⟩ (.slice f.AF st.files.length f.cF)).setCell ⟨R, 8, none⟩ (.int .i64 st.taken)).setCell ⟨R, 9, none⟩ (.slice f.AO st.opn.length f.cO)).setCell ⟨R, 10, none⟩ (.int .u64 st.num)).setCell ⟨R, 11, none⟩ (.slice f.AE st.events.length f.cE)) = w99 at *
    obtain ⟨⟨x0, x1, x2, x3, x4, x5, x6, x7, x8, x9, x10, x11⟩, -⟩ := HD.out.1.twelve
    refine bodyPost_ret (v := .tuple #[.agg #[.slice f.A0 f.n0 f.c0, .string st.stdin, .slice f.A2 st.replies.length f.c2, .slice f.A3 st.fails.length f.c3, .int .i64 st.lim, .int .i64 st.clock, .int .u64 st.ch, .slice f.AF st.files.length f.cF, .int .i64 st.taken, .slice f.AO st.opn.length f.cO, .int .u64 st.num, .slice f.AE st.events.length f.cE], .int .i64 0]) (by simp [results, Try.results44, go_sem, x0, x1, x2, x3, x4, x5, x6, x7, x8, x9, x10, x11]) rfl (by rw [HE.out]; exact ⟨f, rfl, HD.out.2.1, HD.out.2.2⟩)
  · have HFND := Lib.hid hf
    clear hf
    rw [show ixV none = -1 from rfl]
    by_cases hlim : st.lim ≤ st.opn.length
    · have HE : Hid (o = (st, 15)) := by unfold Hid; rw [HO.out]; unfold openD; rw [if_neg (by decide), HFND.out, if_neg (by decide), if_pos hlim]
      go_wp2_with fail
      clear b0 b1 b2 b3 b4 b5 b6 b7 b8 b9 b10 b11 r0 r1 r2 r3 r4 r5 r6 r7 r8 r9 r10 r11 q0 q1 q2 q3 q4 q5 q6 q7 q8 q9 q10 q11 p0 p1 p2 p3 p4 p5 p6 p7 p8 p9 p10 p11
      have HD := Lib.hid (HX2.out.done (wj := w2) (f' := f) (st' := st) (Below.refl _ _) HX2.out.same)
      generalize ((((((((((((w2.setCell ⟨R, 0, none⟩ (.slice f.A0 f.n0 f.c0)).setCell ⟨R, 1, none⟩ (.string st.stdin)).setCell ⟨R, 2, none⟩ (.slice f.A2 st.replies.length f.c2)).setCell ⟨R, 3, none⟩ (.slice f.A3 st.fails.length f.c3)).setCell ⟨R, 4, none⟩ (.int .i64 st.lim)).setCell ⟨R, 5, none⟩ (.int .i64 st.clock)).setCell ⟨R, 6, none⟩ (.int .u64 st.ch)).setCell ⟨R, 7, none⟩ (.slice f.AF st.files.length f.cF)).setCell ⟨R, 8, none⟩ (.int .i64 st.taken)).setCell ⟨R, 9, none⟩ (.slice f.AO st.opn.length f.cO)).setCell ⟨R, 10, none⟩ (.int .u64 st.num)).setCell ⟨R, 11, none⟩ (.slice f.AE st.events.length f.cE)) = w99 at *
      obtain ⟨⟨x0, x1, x2, x3, x4, x5, x6, x7, x8, x9, x10, x11⟩, -⟩ := HD.out.1.twelve
      refine bodyPost_ret (v := .tuple #[.agg #[.slice f.A0 f.n0 f.c0, .string st.stdin, .slice f.A2 st.replies.length f.c2, .slice f.A3 st.fails.length f.c3, .int .i64 st.lim, .int .i64 st.clock, .int .u64 st.ch, .slice f.AF st.files.length f.cF, .int .i64 st.taken, .slice f.AO st.opn.length f.cO, .int .u64 st.num, .slice f.AE st.events.length f.cE], .int .i64 15]) (by simp [results, Try.results44, go_sem, x0, x1, x2, x3, x4, x5, x6, x7, x8, x9, x10, x11]) rfl (by rw [HE.out]; exact ⟨f, rfl, HD.out.2.1, HD.out.2.2⟩)
    · have HLIM := Lib.hid hlim
      obtain ⟨was, hwas⟩ : ∃ was, was = ((fileF st name).getD (⟨#[]⟩, ⟨#[]⟩)).2 := ⟨_, rfl⟩
      obtain ⟨there, hthere⟩ : ∃ there, there = (fileF st name).isSome := ⟨_, rfl⟩
      have HFI := Lib.hid (fw_file HX2.out.rat name)
      rw [← hwas, ← hthere] at HFI
      have HWAS := Lib.hid hwas
      have HTH := Lib.hid hthere
      clear hwas hthere
      go_wp2_with fail
      refine HFI.out.mono ?_
      rintro e w3 ⟨rfl, hb3⟩
      have HX3 := Lib.hid (HX2.out.pure hb3)
      clear b0 b1 b2 b3 b4 b5 b6 b7 b8 b9 b10 b11 r0 r1 r2 r3 r4 r5 r6 r7 r8 r9 r10 r11 q0 q1 q2 q3 q4 q5 q6 q7 q8 q9 q10 q11 p0 p1 p2 p3 p4 p5 p6 p7 p8 p9 p10 p11
      clear hb3 HFI hlim
      obtain ⟨⟨b0, b1, b2, b3, b4, b5, b6, b7, b8, b9, b10, b11⟩, p0, p1, p2, p3, p4, p5, p6, p7, p8, p9, p10, p11⟩ := HX3.out.blk.twelve
      obtain ⟨⟨r0, r1, r2, r3, r4, r5, r6, r7, r8, r9, r10, r11⟩, q0, q1, q2, q3, q4, q5, q6, q7, q8, q9, q10, q11⟩ := HX3.out.res.twelve
      go_wp2_with fail
      refine (fw_fails HX3.out.rat 1 name).mono ?_
      rintro e w4 ⟨rfl, hb4⟩
      have HX4 := Lib.hid (HX3.out.pure hb4)
      clear b0 b1 b2 b3 b4 b5 b6 b7 b8 b9 b10 b11 r0 r1 r2 r3 r4 r5 r6 r7 r8 r9 r10 r11 q0 q1 q2 q3 q4 q5 q6 q7 q8 q9 q10 q11 p0 p1 p2 p3 p4 p5 p6 p7 p8 p9 p10 p11
      clear hb4
      obtain ⟨⟨b0, b1, b2, b3, b4, b5, b6, b7, b8, b9, b10, b11⟩, p0, p1, p2, p3, p4, p5, p6, p7, p8, p9, p10, p11⟩ := HX4.out.blk.twelve
      obtain ⟨⟨r0, r1, r2, r3, r4, r5, r6, r7, r8, r9, r10, r11⟩, q0, q1, q2, q3, q4, q5, q6, q7, q8, q9, q10, q11⟩ := HX4.out.res.twelve
      cases hfl : st.fails.any (isFl 1 name)
      rotate_left
      · have HE : Hid (o = (st, 12)) := by unfold Hid; rw [HO.out]; unfold openD; rw [if_neg (by decide), HFND.out, if_neg (by decide), if_neg (by have := HLIM.out; omega), if_pos (.inl hfl)]
        clear hfl
        go_wp2_with fail
        clear b0 b1 b2 b3 b4 b5 b6 b7 b8 b9 b10 b11 r0 r1 r2 r3 r4 r5 r6 r7 r8 r9 r10 r11 q0 q1 q2 q3 q4 q5 q6 q7 q8 q9 q10 q11 p0 p1 p2 p3 p4 p5 p6 p7 p8 p9 p10 p11
        have HD := Lib.hid (HX4.out.done (wj := w4) (f' := f) (st' := st) (Below.refl _ _) HX4.out.same)
        generalize ((((((((((((w4.setCell ⟨R, 0, none⟩ (.slice f.A0 f.n0 f.c0)).setCell ⟨R, 1, none⟩ (.string st.stdin)).setCell ⟨R, 2, none⟩ (.slice f.A2 st.replies.length f.c2)).setCell ⟨R, 3, none⟩ (.slice f.A3 st.fails.length f.c3)).setCell ⟨R, 4, none⟩ (.int .i64 st.lim)).setCell ⟨R, 5, none⟩ (.int .i64 st.clock)).setCell ⟨R, 6, none⟩ (.int .u64 st.ch)).setCell ⟨R, 7, none⟩ (.slice f.AF st.files.length f.cF)).setCell ⟨R, 8, none⟩ (.int .i64 st.taken)).setCell ⟨R, 9, none⟩ (.slice f.AO st.opn.length f.cO)).setCell ⟨R, 10, none⟩ (.int .u64 st.num)).setCell ⟨R, 11, none⟩ (.slice f.AE st.events.length f.cE)) = w99 at *
        obtain ⟨⟨x0, x1, x2, x3, x4, x5, x6, x7, x8, x9, x10, x11⟩, -⟩ := HD.out.1.twelve
        refine bodyPost_ret (v := .tuple #[.agg #[.slice f.A0 f.n0 f.c0, .string st.stdin, .slice f.A2 st.replies.length f.c2, .slice f.A3 st.fails.length f.c3, .int .i64 st.lim, .int .i64 st.clock, .int .u64 st.ch, .slice f.AF st.files.length f.cF, .int .i64 st.taken, .slice f.AO st.opn.length f.cO, .int .u64 st.num, .slice f.AE st.events.length f.cE], .int .i64 12]) (by simp [results, Try.results44, go_sem, x0, x1, x2, x3, x4, x5, x6, x7, x8, x9, x10, x11]) rfl (by rw [HE.out]; exact ⟨f, rfl, HD.out.2.1, HD.out.2.2⟩)
      · have HFL := Lib.hid hfl
        clear hfl
        by_cases hmi : name = minus
        · have HMI := Lib.hid hmi
          have emi : (name.toList == [45]) = true := by rw [← minus_list, str_eq]; exact decide_eq_true HMI.out
          have emi2 : (name.toList != [45]) = false := by rw [bne, emi]; rfl
          clear hmi
          have HE0 : Hid (o = ({ st with opn := st.opn ++ [⟨1, name, was, 0⟩], events := st.events ++ [⟨1, 1, name, ⟨#[]⟩, 0⟩] }, 0)) := by unfold Hid; rw [HO.out]; unfold openD; rw [if_neg (by decide), HFND.out, if_neg (by decide), if_neg (by have := HLIM.out; omega), if_neg (by rintro (h | ⟨h, h2, h3⟩); rw [HFL.out] at h; cases h; exact h2 HMI.out), HWAS.out]; rfl
          have hop5 : st.opn.length ≤ 100000 := hop
          have hev5 : st.events.length ≤ 100000 := hev
          obtain ⟨X, hX⟩ : ∃ X, X = w4.heap.size := ⟨_, rfl⟩
          have HXE := Lib.hid hX
          have HXR := Lib.hid (show R < X by have := HX4.out.big; omega)
          have HXB := Lib.hid (show B < X by have := HX4.out.big; have := HX4.out.hR; omega)
          have HXA := Lib.hid (HX4.out.pure ((Below.refl w4.heap.size w4).alloc (Nat.le_refl _) (.cells #[.int .u8 1, .string name, .string was, .int .i64 0] 116)))
          have HXS := Lib.hid (Blk.new w4 116 #[.int .u8 1, .string name, .string was, .int .i64 0])
          rw [← hX] at HXS
          go_upto_region 21 with (fail)
          clear b0 b1 b2 b3 b4 b5 b6 b7 b8 b9 b10 b11 r0 r1 r2 r3 r4 r5 r6 r7 r8 r9 r10 r11 q0 q1 q2 q3 q4 q5 q6 q7 q8 q9 q10 q11 p0 p1 p2 p3 p4 p5 p6 p7 p8 p9 p10 p11
          rw [← hX]
          clear hX
          generalize w4.alloc (.cells #[.int .u8 1, .string name, .string was, .int .i64 0] 116) = wA at *
          have HOA := Lib.hid HXA.out.rat.oO.1
          have c9 : wA.cell? ⟨B, 9, none⟩ = some (.slice f.AO st.opn.length f.cO) := HXA.out.blk.cell 9
          have hz1 : 0 + st.opn.length ≤ maxLen := by unfold maxLen; omega
          have hz2 : (0 + st.opn.length) * 48 ≤ 140737488355328 := by omega
          have hz3 : st.opn.length + 1 ≤ maxLen := by unfold maxLen; omega
          have hz4 : (st.opn.length + 1) * 48 ≤ 140737488355328 := by omega
          go_upto_region 24 with (first | (at_builtin; refine wp_appn rfl (.tmp 87) (.tmp 89) _ rfl 116 4 48 _ Try.underlying71 info_sm rfl (by decide) wA.heap.size (.slice none 0 0) 0 [] rfl (World.ownsRow_nil _ _ _ _) 0 (.slice f.AO st.opn.length f.cO) st.opn.length (svals4 st.opn) rfl HOA.out (one_sms _) hz1 hz2 (Nat.le_refl _) ?_; intro P2 cap2 wc hown2 hgrow2 hat2; simp only [Nat.zero_add, List.nil_append] at hown2 hat2; rw [Nat.zero_add]; have ht2 := Tur.of_grown hgrow2; have HBc2 := Lib.hid (ht2.below wA.heap.size (Nat.le_refl _) (fun q hq h => by cases h)); have HXSc2 := Lib.hid (below_blk HXS.out HBc2.out HXS.out.lt); have HO2 := Lib.hid hown2; have HAT2 := Lib.hid hat2; have hbs2 : wA.heap.size ≤ wc.heap.size := ht2.size; obtain ⟨x0, x1, x2, x3⟩ := sm_cells HXSc2.out; clear c9 hown2 hgrow2 hat2 ht2 hz1 hz2) | (at_builtin; refine wp_app1_at rfl (.tmp 91) (.tmp 93) _ rfl 116 4 48 _ Try.underlying71 info_sm rfl (by decide) wA.heap.size (.slice P2 st.opn.length cap2) st.opn.length _ rfl HO2.out [.int .u8 1, .string name, .string was, .int .i64 0] wc.heap.size rfl rfl rfl one_sm4 hz3 hz4 hbs2 ?_; intro g3 cap3 wd hlc3 hcm3 hown3 hgrow3 hat3; have HBd2 := Lib.hid (HBc2.out.trans ((Tur.of_grown hgrow3).below wA.heap.size hbs2 (fun q hq h => by rcases HAT2.out q h.symm with h | h; cases h; omega))); have HXd2 := Lib.hid (HXA.out.pure HBd2.out); have y9 := HXd2.out.blk.free 9; have y9c := HXd2.out.blk.cell 9; rw [show (fcells f st)[9]? = some (.slice f.AO st.opn.length f.cO) from rfl] at y9c; have HO3 := Lib.hid hown3; clear x0 x1 x2 x3 hown3 hgrow3 hat3 hz3 hz4))
          obtain ⟨ln, hln⟩ : ∃ ln, ln = st.opn ++ [(⟨1, name, was, 0⟩ : RSm)] := ⟨_, rfl⟩
          have hlz : st.opn.length + 1 = ln.length := by rw [hln]; simp
          have HO4 : Hid (wd.ownsRow wA.heap.size 116 4 (.slice (some ⟨g3, 0, none⟩) ln.length cap3) ln.length (svals4 ln)) := by unfold Hid; rw [← hlz, hln, ← svals4_snoc]; exact HO3.out
          have HX6 := Lib.hid (HXA.out.setO HBd2.out HO4.out (by omega))
          rw [hlz]
          obtain ⟨f6, hf6⟩ : ∃ x, x = { f with AO := some ⟨g3, 0, none⟩, cO := cap3 } := ⟨_, rfl⟩
          obtain ⟨st6, hst6⟩ : ∃ x, x = { st with opn := ln } := ⟨_, rfl⟩
          rw [← hf6, ← hst6] at HX6
          have hev6 : st6.events.length ≤ 100000 := by rw [hst6]; exact hev5
          have HE1 : Hid (o = ({ st6 with events := st6.events ++ [⟨1, 1, name, ⟨#[]⟩, 0⟩] }, 0)) := by unfold Hid; rw [HE0.out, hst6, hln]
          clear y9 y9c hf6 hst6 hln hlz
          generalize wd.setCell ⟨B, 9, none⟩ (.slice (some ⟨g3, 0, none⟩) ln.length cap3) = w6 at *
          obtain ⟨⟨b0, b1, b2, b3, b4, b5, b6, b7, b8, b9, b10, b11⟩, p0, p1, p2, p3, p4, p5, p6, p7, p8, p9, p10, p11⟩ := HX6.out.blk.twelve
          obtain ⟨⟨r0, r1, r2, r3, r4, r5, r6, r7, r8, r9, r10, r11⟩, q0, q1, q2, q3, q4, q5, q6, q7, q8, q9, q10, q11⟩ := HX6.out.res.twelve
          go_wp2_with fail
          obtain ⟨st7, hst7⟩ : ∃ s, s = { st6 with events := st6.events ++ [(⟨1, 1, name, ⟨#[]⟩, 0⟩ : Ev)] } := ⟨_, rfl⟩
          have HE := HE1
          have HEV := fw_event HX6.out.rat ⟨1, 1, name, ⟨#[]⟩, 0⟩ hev6
          rw [← hst7] at HEV HE
          clear hst7
          refine HEV.mono ?_
          rintro e w7 ⟨f7, rfl, hr7, hb7⟩
          have HX7 := Lib.hid (HX6.out.pure hb7)
          have HR7 := Lib.hid hr7
          have HB7 := Lib.hid hb7
          clear b0 b1 b2 b3 b4 b5 b6 b7 b8 b9 b10 b11 r0 r1 r2 r3 r4 r5 r6 r7 r8 r9 r10 r11 q0 q1 q2 q3 q4 q5 q6 q7 q8 q9 q10 q11 p0 p1 p2 p3 p4 p5 p6 p7 p8 p9 p10 p11
          clear HEV hr7 hb7
          obtain ⟨⟨r0, r1, r2, r3, r4, r5, r6, r7, r8, r9, r10, r11⟩, q0, q1, q2, q3, q4, q5, q6, q7, q8, q9, q10, q11⟩ := HX7.out.res.twelve
          unfold fcells
          go_wp2_with fail
          clear r0 r1 r2 r3 r4 r5 r6 r7 r8 r9 r10 r11 q0 q1 q2 q3 q4 q5 q6 q7 q8 q9 q10 q11
          have HD := Lib.hid (HX6.out.done (wj := w7) (f' := f7) (st' := st7) HB7.out HR7.out)
          generalize ((((((((((((w7.setCell ⟨R, 0, none⟩ (.slice f7.A0 f7.n0 f7.c0)).setCell ⟨R, 1, none⟩ (.string st7.stdin)).setCell ⟨R, 2, none⟩ (.slice f7.A2 st7.replies.length f7.c2)).setCell ⟨R, 3, none⟩ (.slice f7.A3 st7.fails.length f7.c3)).setCell ⟨R, 4, none⟩ (.int .i64 st7.lim)).setCell ⟨R, 5, none⟩ (.int .i64 st7.clock)).setCell ⟨R, 6, none⟩ (.int .u64 st7.ch)).setCell ⟨R, 7, none⟩ (.slice f7.AF st7.files.length f7.cF)).setCell ⟨R, 8, none⟩ (.int .i64 st7.taken)).setCell ⟨R, 9, none⟩ (.slice f7.AO st7.opn.length f7.cO)).setCell ⟨R, 10, none⟩ (.int .u64 st7.num)).setCell ⟨R, 11, none⟩ (.slice f7.AE st7.events.length f7.cE)) = w99 at *
          obtain ⟨⟨x0, x1, x2, x3, x4, x5, x6, x7, x8, x9, x10, x11⟩, -⟩ := HD.out.1.twelve
          refine bodyPost_ret (v := .tuple #[.agg #[.slice f7.A0 f7.n0 f7.c0, .string st7.stdin, .slice f7.A2 st7.replies.length f7.c2, .slice f7.A3 st7.fails.length f7.c3, .int .i64 st7.lim, .int .i64 st7.clock, .int .u64 st7.ch, .slice f7.AF st7.files.length f7.cF, .int .i64 st7.taken, .slice f7.AO st7.opn.length f7.cO, .int .u64 st7.num, .slice f7.AE st7.events.length f7.cE], .int .i64 0]) (by simp [results, Try.results44, go_sem, x0, x1, x2, x3, x4, x5, x6, x7, x8, x9, x10, x11]) rfl (by rw [HE.out]; exact ⟨f7, rfl, HD.out.2.1, HD.out.2.2⟩)
        · have HMI := Lib.hid hmi
          have emi : (name.toList == [45]) = false := by rw [← minus_list, str_eq]; exact decide_eq_false HMI.out
          have emi2 : (name.toList != [45]) = true := by rw [bne, emi]; rfl
          clear hmi
          cases there
          · have HE : Hid (o = (st, 12)) := by unfold Hid; rw [HO.out]; unfold openD; rw [if_neg (by decide), HFND.out, if_neg (by decide), if_neg (by have := HLIM.out; omega), if_pos (.inr ⟨rfl, HMI.out, HTH.out.symm⟩)]
            go_wp2_with fail
            clear b0 b1 b2 b3 b4 b5 b6 b7 b8 b9 b10 b11 r0 r1 r2 r3 r4 r5 r6 r7 r8 r9 r10 r11 q0 q1 q2 q3 q4 q5 q6 q7 q8 q9 q10 q11 p0 p1 p2 p3 p4 p5 p6 p7 p8 p9 p10 p11
            have HD := Lib.hid (HX4.out.done (wj := w4) (f' := f) (st' := st) (Below.refl _ _) HX4.out.same)
            generalize ((((((((((((w4.setCell ⟨R, 0, none⟩ (.slice f.A0 f.n0 f.c0)).setCell ⟨R, 1, none⟩ (.string st.stdin)).setCell ⟨R, 2, none⟩ (.slice f.A2 st.replies.length f.c2)).setCell ⟨R, 3, none⟩ (.slice f.A3 st.fails.length f.c3)).setCell ⟨R, 4, none⟩ (.int .i64 st.lim)).setCell ⟨R, 5, none⟩ (.int .i64 st.clock)).setCell ⟨R, 6, none⟩ (.int .u64 st.ch)).setCell ⟨R, 7, none⟩ (.slice f.AF st.files.length f.cF)).setCell ⟨R, 8, none⟩ (.int .i64 st.taken)).setCell ⟨R, 9, none⟩ (.slice f.AO st.opn.length f.cO)).setCell ⟨R, 10, none⟩ (.int .u64 st.num)).setCell ⟨R, 11, none⟩ (.slice f.AE st.events.length f.cE)) = w99 at *
            obtain ⟨⟨x0, x1, x2, x3, x4, x5, x6, x7, x8, x9, x10, x11⟩, -⟩ := HD.out.1.twelve
            refine bodyPost_ret (v := .tuple #[.agg #[.slice f.A0 f.n0 f.c0, .string st.stdin, .slice f.A2 st.replies.length f.c2, .slice f.A3 st.fails.length f.c3, .int .i64 st.lim, .int .i64 st.clock, .int .u64 st.ch, .slice f.AF st.files.length f.cF, .int .i64 st.taken, .slice f.AO st.opn.length f.cO, .int .u64 st.num, .slice f.AE st.events.length f.cE], .int .i64 12]) (by simp [results, Try.results44, go_sem, x0, x1, x2, x3, x4, x5, x6, x7, x8, x9, x10, x11]) rfl (by rw [HE.out]; exact ⟨f, rfl, HD.out.2.1, HD.out.2.2⟩)
          · have hdummy : True := trivial
            have HE0 : Hid (o = ({ st with opn := st.opn ++ [⟨1, name, was, 0⟩], events := st.events ++ [⟨1, 1, name, ⟨#[]⟩, 0⟩] }, 0)) := by unfold Hid; rw [HO.out]; unfold openD; rw [if_neg (by decide), HFND.out, if_neg (by decide), if_neg (by have := HLIM.out; omega), if_neg (by rintro (h | ⟨h, h2, h3⟩); rw [HFL.out] at h; cases h; rw [← HTH.out] at h3; cases h3), HWAS.out]; rfl
            have hop5 : st.opn.length ≤ 100000 := hop
            have hev5 : st.events.length ≤ 100000 := hev
            obtain ⟨X, hX⟩ : ∃ X, X = w4.heap.size := ⟨_, rfl⟩
            have HXE := Lib.hid hX
            have HXR := Lib.hid (show R < X by have := HX4.out.big; omega)
            have HXB := Lib.hid (show B < X by have := HX4.out.big; have := HX4.out.hR; omega)
            have HXA := Lib.hid (HX4.out.pure ((Below.refl w4.heap.size w4).alloc (Nat.le_refl _) (.cells #[.int .u8 1, .string name, .string was, .int .i64 0] 116)))
            have HXS := Lib.hid (Blk.new w4 116 #[.int .u8 1, .string name, .string was, .int .i64 0])
            rw [← hX] at HXS
            go_upto_region 21 with (fail)
            clear b0 b1 b2 b3 b4 b5 b6 b7 b8 b9 b10 b11 r0 r1 r2 r3 r4 r5 r6 r7 r8 r9 r10 r11 q0 q1 q2 q3 q4 q5 q6 q7 q8 q9 q10 q11 p0 p1 p2 p3 p4 p5 p6 p7 p8 p9 p10 p11
            rw [← hX]
            clear hX
            generalize w4.alloc (.cells #[.int .u8 1, .string name, .string was, .int .i64 0] 116) = wA at *
            have HOA := Lib.hid HXA.out.rat.oO.1
            have c9 : wA.cell? ⟨B, 9, none⟩ = some (.slice f.AO st.opn.length f.cO) := HXA.out.blk.cell 9
            have hz1 : 0 + st.opn.length ≤ maxLen := by unfold maxLen; omega
            have hz2 : (0 + st.opn.length) * 48 ≤ 140737488355328 := by omega
            have hz3 : st.opn.length + 1 ≤ maxLen := by unfold maxLen; omega
            have hz4 : (st.opn.length + 1) * 48 ≤ 140737488355328 := by omega
            go_upto_region 24 with (first | (at_builtin; refine wp_appn rfl (.tmp 87) (.tmp 89) _ rfl 116 4 48 _ Try.underlying71 info_sm rfl (by decide) wA.heap.size (.slice none 0 0) 0 [] rfl (World.ownsRow_nil _ _ _ _) 0 (.slice f.AO st.opn.length f.cO) st.opn.length (svals4 st.opn) rfl HOA.out (one_sms _) hz1 hz2 (Nat.le_refl _) ?_; intro P2 cap2 wc hown2 hgrow2 hat2; simp only [Nat.zero_add, List.nil_append] at hown2 hat2; rw [Nat.zero_add]; have ht2 := Tur.of_grown hgrow2; have HBc2 := Lib.hid (ht2.below wA.heap.size (Nat.le_refl _) (fun q hq h => by cases h)); have HXSc2 := Lib.hid (below_blk HXS.out HBc2.out HXS.out.lt); have HO2 := Lib.hid hown2; have HAT2 := Lib.hid hat2; have hbs2 : wA.heap.size ≤ wc.heap.size := ht2.size; obtain ⟨x0, x1, x2, x3⟩ := sm_cells HXSc2.out; clear c9 hown2 hgrow2 hat2 ht2 hz1 hz2) | (at_builtin; refine wp_app1_at rfl (.tmp 91) (.tmp 93) _ rfl 116 4 48 _ Try.underlying71 info_sm rfl (by decide) wA.heap.size (.slice P2 st.opn.length cap2) st.opn.length _ rfl HO2.out [.int .u8 1, .string name, .string was, .int .i64 0] wc.heap.size rfl rfl rfl one_sm4 hz3 hz4 hbs2 ?_; intro g3 cap3 wd hlc3 hcm3 hown3 hgrow3 hat3; have HBd2 := Lib.hid (HBc2.out.trans ((Tur.of_grown hgrow3).below wA.heap.size hbs2 (fun q hq h => by rcases HAT2.out q h.symm with h | h; cases h; omega))); have HXd2 := Lib.hid (HXA.out.pure HBd2.out); have y9 := HXd2.out.blk.free 9; have y9c := HXd2.out.blk.cell 9; rw [show (fcells f st)[9]? = some (.slice f.AO st.opn.length f.cO) from rfl] at y9c; have HO3 := Lib.hid hown3; clear x0 x1 x2 x3 hown3 hgrow3 hat3 hz3 hz4))
            obtain ⟨ln, hln⟩ : ∃ ln, ln = st.opn ++ [(⟨1, name, was, 0⟩ : RSm)] := ⟨_, rfl⟩
            have hlz : st.opn.length + 1 = ln.length := by rw [hln]; simp
            have HO4 : Hid (wd.ownsRow wA.heap.size 116 4 (.slice (some ⟨g3, 0, none⟩) ln.length cap3) ln.length (svals4 ln)) := by unfold Hid; rw [← hlz, hln, ← svals4_snoc]; exact HO3.out
            have HX6 := Lib.hid (HXA.out.setO HBd2.out HO4.out (by omega))
            rw [hlz]
            obtain ⟨f6, hf6⟩ : ∃ x, x = { f with AO := some ⟨g3, 0, none⟩, cO := cap3 } := ⟨_, rfl⟩
            obtain ⟨st6, hst6⟩ : ∃ x, x = { st with opn := ln } := ⟨_, rfl⟩
            rw [← hf6, ← hst6] at HX6
            have hev6 : st6.events.length ≤ 100000 := by rw [hst6]; exact hev5
            have HE1 : Hid (o = ({ st6 with events := st6.events ++ [⟨1, 1, name, ⟨#[]⟩, 0⟩] }, 0)) := by unfold Hid; rw [HE0.out, hst6, hln]
            clear y9 y9c hf6 hst6 hln hlz
            generalize wd.setCell ⟨B, 9, none⟩ (.slice (some ⟨g3, 0, none⟩) ln.length cap3) = w6 at *
            obtain ⟨⟨b0, b1, b2, b3, b4, b5, b6, b7, b8, b9, b10, b11⟩, p0, p1, p2, p3, p4, p5, p6, p7, p8, p9, p10, p11⟩ := HX6.out.blk.twelve
            obtain ⟨⟨r0, r1, r2, r3, r4, r5, r6, r7, r8, r9, r10, r11⟩, q0, q1, q2, q3, q4, q5, q6, q7, q8, q9, q10, q11⟩ := HX6.out.res.twelve
            go_wp2_with fail
            obtain ⟨st7, hst7⟩ : ∃ s, s = { st6 with events := st6.events ++ [(⟨1, 1, name, ⟨#[]⟩, 0⟩ : Ev)] } := ⟨_, rfl⟩
            have HE := HE1
            have HEV := fw_event HX6.out.rat ⟨1, 1, name, ⟨#[]⟩, 0⟩ hev6
            rw [← hst7] at HEV HE
            clear hst7
            refine HEV.mono ?_
            rintro e w7 ⟨f7, rfl, hr7, hb7⟩
            have HX7 := Lib.hid (HX6.out.pure hb7)
            have HR7 := Lib.hid hr7
            have HB7 := Lib.hid hb7
            clear b0 b1 b2 b3 b4 b5 b6 b7 b8 b9 b10 b11 r0 r1 r2 r3 r4 r5 r6 r7 r8 r9 r10 r11 q0 q1 q2 q3 q4 q5 q6 q7 q8 q9 q10 q11 p0 p1 p2 p3 p4 p5 p6 p7 p8 p9 p10 p11
            clear HEV hr7 hb7
            obtain ⟨⟨r0, r1, r2, r3, r4, r5, r6, r7, r8, r9, r10, r11⟩, q0, q1, q2, q3, q4, q5, q6, q7, q8, q9, q10, q11⟩ := HX7.out.res.twelve
            unfold fcells
            go_wp2_with fail
            clear r0 r1 r2 r3 r4 r5 r6 r7 r8 r9 r10 r11 q0 q1 q2 q3 q4 q5 q6 q7 q8 q9 q10 q11
            have HD := Lib.hid (HX6.out.done (wj := w7) (f' := f7) (st' := st7) HB7.out HR7.out)
            generalize ((((((((((((w7.setCell ⟨R, 0, none⟩ (.slice f7.A0 f7.n0 f7.c0)).setCell ⟨R, 1, none⟩ (.string st7.stdin)).setCell ⟨R, 2, none⟩ (.slice f7.A2 st7.replies.length f7.c2)).setCell ⟨R, 3, none⟩ (.slice f7.A3 st7.fails.length f7.c3)).setCell ⟨R, 4, none⟩ (.int .i64 st7.lim)).setCell ⟨R, 5, none⟩ (.int .i64 st7.clock)).setCell ⟨R, 6, none⟩ (.int .u64 st7.ch)).setCell ⟨R, 7, none⟩ (.slice f7.AF st7.files.length f7.cF)).setCell ⟨R, 8, none⟩ (.int .i64 st7.taken)).setCell ⟨R, 9, none⟩ (.slice f7.AO st7.opn.length f7.cO)).setCell ⟨R, 10, none⟩ (.int .u64 st7.num)).setCell ⟨R, 11, none⟩ (.slice f7.AE st7.events.length f7.cE)) = w99 at *
            obtain ⟨⟨x0, x1, x2, x3, x4, x5, x6, x7, x8, x9, x10, x11⟩, -⟩ := HD.out.1.twelve
            refine bodyPost_ret (v := .tuple #[.agg #[.slice f7.A0 f7.n0 f7.c0, .string st7.stdin, .slice f7.A2 st7.replies.length f7.c2, .slice f7.A3 st7.fails.length f7.c3, .int .i64 st7.lim, .int .i64 st7.clock, .int .u64 st7.ch, .slice f7.AF st7.files.length f7.cF, .int .i64 st7.taken, .slice f7.AO st7.opn.length f7.cO, .int .u64 st7.num, .slice f7.AE st7.events.length f7.cE], .int .i64 0]) (by simp [results, Try.results44, go_sem, x0, x1, x2, x3, x4, x5, x6, x7, x8, x9, x10, x11]) rfl (by rw [HE.out]; exact ⟨f7, rfl, HD.out.2.1, HD.out.2.2⟩)
set_option maxRecDepth 100000 in
set_option maxHeartbeats 4000000 in
theorem fw_open_2 (h : RF K w f st) (name : ByteArray) (hev : st.events.length ≤ 100000) (hop : st.opn.length ≤ 100000) (hfil : st.files.length ≤ 100000) :
    Calls Try.prog 44 #[.agg (fcells f st), .int .u8 2, .string name] w (WrPost K w (openD st 2 name).1 (openD st 2 name).2) := by
  obtain ⟨o, ho⟩ : ∃ o, o = openD st 2 name := ⟨_, rfl⟩
  rw [← ho]
  have HO := Lib.hid ho
  clear ho
  have HX0 := Lib.hid (RW.start h)
  have HRF := Lib.hid h
  clear h
  go_enter Try.func44, Try.ntmps44
  go_upto_region 1 with (fail)
  obtain ⟨B, hB⟩ : ∃ B, B = w.heap.size := ⟨_, rfl⟩
  rw [← hB] at HX0 ⊢
  obtain ⟨R, hR⟩ : ∃ R, R = B + 1 := ⟨_, rfl⟩
  rw [← hR] at HX0 ⊢
  clear hB hR
  generalize (w.alloc (.cells (fcells f st) 73)).alloc (.cells #[.slice none 0 0, .string ⟨#[]⟩, .slice none 0 0, .slice none 0 0, .int .i64 0, .int .i64 0, .int .u64 0, .slice none 0 0, .int .i64 0, .slice none 0 0, .int .u64 0, .slice none 0 0] 73) = w1 at *
  obtain ⟨⟨b0, b1, b2, b3, b4, b5, b6, b7, b8, b9, b10, b11⟩, p0, p1, p2, p3, p4, p5, p6, p7, p8, p9, p10, p11⟩ := HX0.out.blk.twelve
  obtain ⟨⟨r0, r1, r2, r3, r4, r5, r6, r7, r8, r9, r10, r11⟩, q0, q1, q2, q3, q4, q5, q6, q7, q8, q9, q10, q11⟩ := HX0.out.res.twelve
  go_wp2_with fail
  refine (fw_find HX0.out.rat 2 name).mono ?_
  rintro e w2 ⟨rfl, hb2⟩
  have HX2 := Lib.hid (HX0.out.pure hb2)
  clear b0 b1 b2 b3 b4 b5 b6 b7 b8 b9 b10 b11 r0 r1 r2 r3 r4 r5 r6 r7 r8 r9 r10 r11 q0 q1 q2 q3 q4 q5 q6 q7 q8 q9 q10 q11 p0 p1 p2 p3 p4 p5 p6 p7 p8 p9 p10 p11
  clear hb2
  obtain ⟨⟨b0, b1, b2, b3, b4, b5, b6, b7, b8, b9, b10, b11⟩, p0, p1, p2, p3, p4, p5, p6, p7, p8, p9, p10, p11⟩ := HX2.out.blk.twelve
  obtain ⟨⟨r0, r1, r2, r3, r4, r5, r6, r7, r8, r9, r10, r11⟩, q0, q1, q2, q3, q4, q5, q6, q7, q8, q9, q10, q11⟩ := HX2.out.res.twelve
  cases hf : findF st 2 name
  rotate_left
  · rename_i ix
    have HE : Hid (o = (st, 0)) := by unfold Hid; rw [HO.out]; unfold openD; rw [if_neg (by decide), hf, if_pos (show (some ix).isSome = true from rfl)]
    clear hf
    rw [show ixV (some ix) = (ix : Int) from rfl]
    have hix : (0 : Int) ≤ (ix : Int) := by omega
    go_wp2_with fail
    clear b0 b1 b2 b3 b4 b5 b6 b7 b8 b9 b10 b11 r0 r1 r2 r3 r4 r5 r6 r7 r8 r9 r10 r11 q0 q1 q2 q3 q4 q5 q6 q7 q8 q9 q10 q11 p0 p1 p2 p3 p4 p5 p6 p7 p8 p9 p10 p11
    have HD := Lib.hid (HX2.out.done (wj := w2) (f' := f) (st' := st) (Below.refl _ _) HX2.out.same)
    generalize ((((((((((((w2.setCell ⟨R, 0, none⟩ (.slice f.A0 f.n0 f.c0)).setCell ⟨R, 1, none⟩ (.string st.stdin)).setCell ⟨R, 2, none⟩ (.slice f.A2 st.replies.length f.c2)).setCell ⟨R, 3, none⟩ (.slice f.A3 st.fails.length f.c3)).setCell ⟨R, 4, none⟩ (.int .i64 st.lim)).setCell ⟨R, 5, none⟩ (.int .i64 st.clock)).setCell ⟨R, 6, none⟩ (.int .u64 st.ch)).setCell ⟨R, 7, none⟩ (.slice f.AF st.files.length f.cF)).setCell ⟨R, 8, none⟩ (.int .i64 st.taken)).setCell ⟨R, 9, none⟩ (.slice f.AO st.opn.length f.cO)).setCell ⟨R, 10, none⟩ (.int .u64 st.num)).setCell ⟨R, 11, none⟩ (.slice f.AE st.events.length f.cE)) = w99 at *
    obtain ⟨⟨x0, x1, x2, x3, x4, x5, x6, x7, x8, x9, x10, x11⟩, -⟩ := HD.out.1.twelve
    refine bodyPost_ret (v := .tuple #[.agg #[.slice f.A0 f.n0 f.c0, .string st.stdin, .slice f.A2 st.replies.length f.c2, .slice f.A3 st.fails.length f.c3, .int .i64 st.lim, .int .i64 st.clock, .int .u64 st.ch, .slice f.AF st.files.length f.cF, .int .i64 st.taken, .slice f.AO st.opn.length f.cO, .int .u64 st.num, .slice f.AE st.events.length f.cE], .int .i64 0]) (by simp [results, Try.results44, go_sem, x0, x1, x2, x3, x4, x5, x6, x7, x8, x9, x10, x11]) rfl (by rw [HE.out]; exact ⟨f, rfl, HD.out.2.1, HD.out.2.2⟩)
  · have HFND := Lib.hid hf
    clear hf
    rw [show ixV none = -1 from rfl]
    by_cases hlim : st.lim ≤ st.opn.length
    · have HE : Hid (o = (st, 15)) := by unfold Hid; rw [HO.out]; unfold openD; rw [if_neg (by decide), HFND.out, if_neg (by decide), if_pos hlim]
      go_wp2_with fail
      clear b0 b1 b2 b3 b4 b5 b6 b7 b8 b9 b10 b11 r0 r1 r2 r3 r4 r5 r6 r7 r8 r9 r10 r11 q0 q1 q2 q3 q4 q5 q6 q7 q8 q9 q10 q11 p0 p1 p2 p3 p4 p5 p6 p7 p8 p9 p10 p11
      have HD := Lib.hid (HX2.out.done (wj := w2) (f' := f) (st' := st) (Below.refl _ _) HX2.out.same)
      generalize ((((((((((((w2.setCell ⟨R, 0, none⟩ (.slice f.A0 f.n0 f.c0)).setCell ⟨R, 1, none⟩ (.string st.stdin)).setCell ⟨R, 2, none⟩ (.slice f.A2 st.replies.length f.c2)).setCell ⟨R, 3, none⟩ (.slice f.A3 st.fails.length f.c3)).setCell ⟨R, 4, none⟩ (.int .i64 st.lim)).setCell ⟨R, 5, none⟩ (.int .i64 st.clock)).setCell ⟨R, 6, none⟩ (.int .u64 st.ch)).setCell ⟨R, 7, none⟩ (.slice f.AF st.files.length f.cF)).setCell ⟨R, 8, none⟩ (.int .i64 st.taken)).setCell ⟨R, 9, none⟩ (.slice f.AO st.opn.length f.cO)).setCell ⟨R, 10, none⟩ (.int .u64 st.num)).setCell ⟨R, 11, none⟩ (.slice f.AE st.events.length f.cE)) = w99 at *
      obtain ⟨⟨x0, x1, x2, x3, x4, x5, x6, x7, x8, x9, x10, x11⟩, -⟩ := HD.out.1.twelve
      refine bodyPost_ret (v := .tuple #[.agg #[.slice f.A0 f.n0 f.c0, .string st.stdin, .slice f.A2 st.replies.length f.c2, .slice f.A3 st.fails.length f.c3, .int .i64 st.lim, .int .i64 st.clock, .int .u64 st.ch, .slice f.AF st.files.length f.cF, .int .i64 st.taken, .slice f.AO st.opn.length f.cO, .int .u64 st.num, .slice f.AE st.events.length f.cE], .int .i64 15]) (by simp [results, Try.results44, go_sem, x0, x1, x2, x3, x4, x5, x6, x7, x8, x9, x10, x11]) rfl (by rw [HE.out]; exact ⟨f, rfl, HD.out.2.1, HD.out.2.2⟩)
    · have HLIM := Lib.hid hlim
      obtain ⟨was, hwas⟩ : ∃ was, was = ((fileF st name).getD (⟨#[]⟩, ⟨#[]⟩)).2 := ⟨_, rfl⟩
      obtain ⟨there, hthere⟩ : ∃ there, there = (fileF st name).isSome := ⟨_, rfl⟩
      have HFI := Lib.hid (fw_file HX2.out.rat name)
      rw [← hwas, ← hthere] at HFI
      have HWAS := Lib.hid hwas
      have HTH := Lib.hid hthere
      clear hwas hthere
      go_wp2_with fail
      refine HFI.out.mono ?_
      rintro e w3 ⟨rfl, hb3⟩
      have HX3 := Lib.hid (HX2.out.pure hb3)
      clear b0 b1 b2 b3 b4 b5 b6 b7 b8 b9 b10 b11 r0 r1 r2 r3 r4 r5 r6 r7 r8 r9 r10 r11 q0 q1 q2 q3 q4 q5 q6 q7 q8 q9 q10 q11 p0 p1 p2 p3 p4 p5 p6 p7 p8 p9 p10 p11
      clear hb3 HFI hlim
      obtain ⟨⟨b0, b1, b2, b3, b4, b5, b6, b7, b8, b9, b10, b11⟩, p0, p1, p2, p3, p4, p5, p6, p7, p8, p9, p10, p11⟩ := HX3.out.blk.twelve
      obtain ⟨⟨r0, r1, r2, r3, r4, r5, r6, r7, r8, r9, r10, r11⟩, q0, q1, q2, q3, q4, q5, q6, q7, q8, q9, q10, q11⟩ := HX3.out.res.twelve
      go_wp2_with fail
      refine (fw_fails HX3.out.rat 1 name).mono ?_
      rintro e w4 ⟨rfl, hb4⟩
      have HX4 := Lib.hid (HX3.out.pure hb4)
      clear b0 b1 b2 b3 b4 b5 b6 b7 b8 b9 b10 b11 r0 r1 r2 r3 r4 r5 r6 r7 r8 r9 r10 r11 q0 q1 q2 q3 q4 q5 q6 q7 q8 q9 q10 q11 p0 p1 p2 p3 p4 p5 p6 p7 p8 p9 p10 p11
      clear hb4
      obtain ⟨⟨b0, b1, b2, b3, b4, b5, b6, b7, b8, b9, b10, b11⟩, p0, p1, p2, p3, p4, p5, p6, p7, p8, p9, p10, p11⟩ := HX4.out.blk.twelve
      obtain ⟨⟨r0, r1, r2, r3, r4, r5, r6, r7, r8, r9, r10, r11⟩, q0, q1, q2, q3, q4, q5, q6, q7, q8, q9, q10, q11⟩ := HX4.out.res.twelve
      cases hfl : st.fails.any (isFl 1 name)
      rotate_left
      · have HE : Hid (o = (st, 12)) := by unfold Hid; rw [HO.out]; unfold openD; rw [if_neg (by decide), HFND.out, if_neg (by decide), if_neg (by have := HLIM.out; omega), if_pos (.inl hfl)]
        clear hfl
        go_wp2_with fail
        clear b0 b1 b2 b3 b4 b5 b6 b7 b8 b9 b10 b11 r0 r1 r2 r3 r4 r5 r6 r7 r8 r9 r10 r11 q0 q1 q2 q3 q4 q5 q6 q7 q8 q9 q10 q11 p0 p1 p2 p3 p4 p5 p6 p7 p8 p9 p10 p11
        have HD := Lib.hid (HX4.out.done (wj := w4) (f' := f) (st' := st) (Below.refl _ _) HX4.out.same)
        generalize ((((((((((((w4.setCell ⟨R, 0, none⟩ (.slice f.A0 f.n0 f.c0)).setCell ⟨R, 1, none⟩ (.string st.stdin)).setCell ⟨R, 2, none⟩ (.slice f.A2 st.replies.length f.c2)).setCell ⟨R, 3, none⟩ (.slice f.A3 st.fails.length f.c3)).setCell ⟨R, 4, none⟩ (.int .i64 st.lim)).setCell ⟨R, 5, none⟩ (.int .i64 st.clock)).setCell ⟨R, 6, none⟩ (.int .u64 st.ch)).setCell ⟨R, 7, none⟩ (.slice f.AF st.files.length f.cF)).setCell ⟨R, 8, none⟩ (.int .i64 st.taken)).setCell ⟨R, 9, none⟩ (.slice f.AO st.opn.length f.cO)).setCell ⟨R, 10, none⟩ (.int .u64 st.num)).setCell ⟨R, 11, none⟩ (.slice f.AE st.events.length f.cE)) = w99 at *
        obtain ⟨⟨x0, x1, x2, x3, x4, x5, x6, x7, x8, x9, x10, x11⟩, -⟩ := HD.out.1.twelve
        refine bodyPost_ret (v := .tuple #[.agg #[.slice f.A0 f.n0 f.c0, .string st.stdin, .slice f.A2 st.replies.length f.c2, .slice f.A3 st.fails.length f.c3, .int .i64 st.lim, .int .i64 st.clock, .int .u64 st.ch, .slice f.AF st.files.length f.cF, .int .i64 st.taken, .slice f.AO st.opn.length f.cO, .int .u64 st.num, .slice f.AE st.events.length f.cE], .int .i64 12]) (by simp [results, Try.results44, go_sem, x0, x1, x2, x3, x4, x5, x6, x7, x8, x9, x10, x11]) rfl (by rw [HE.out]; exact ⟨f, rfl, HD.out.2.1, HD.out.2.2⟩)
      · have HFL := Lib.hid hfl
        clear hfl
        obtain ⟨⟨rc, ro, rs⟩, hrr⟩ : ∃ r, r = (replyF st name).getD rpZero := ⟨_, rfl⟩
        have HRR := Lib.hid hrr
        clear hrr
        have HE0 : Hid (o = ({ st with opn := st.opn ++ [⟨2, name, ro, 0⟩], events := st.events ++ [⟨1, 2, name, ⟨#[]⟩, 0⟩] }, 0)) := by unfold Hid; rw [HO.out]; unfold openD; rw [if_neg (by decide), HFND.out, if_neg (by decide), if_neg (by have := HLIM.out; omega), if_neg (by rintro (h | ⟨h, h2, h3⟩); rw [HFL.out] at h; cases h; exact absurd h (by decide)), show ro = ((replyF st name).getD rpZero).out by rw [← HRR.out]]; rfl
        have hop5 : st.opn.length ≤ 100000 := hop
        have hev5 : st.events.length ≤ 100000 := hev
        obtain ⟨X, hX⟩ : ∃ X, X = w4.heap.size := ⟨_, rfl⟩
        have HXE := Lib.hid hX
        have HXR := Lib.hid (show R < X by have := HX4.out.big; omega)
        have HXB := Lib.hid (show B < X by have := HX4.out.big; have := HX4.out.hR; omega)
        have hal := (Below.refl w4.heap.size w4).alloc (Nat.le_refl _) (.cells #[.int .u8 2, .string name, .string ⟨#[]⟩, .int .i64 0] 116)
        have HAL := Lib.hid hal
        have HXa := Lib.hid (HX4.out.pure hal)
        have HXSa := Lib.hid (Blk.new w4 116 #[.int .u8 2, .string name, .string ⟨#[]⟩, .int .i64 0])
        rw [← hX] at HXSa HAL
        clear hal
        go_upto_region 15 with (fail)
        clear b0 b1 b2 b3 b4 b5 b6 b7 b8 b9 b10 b11 r0 r1 r2 r3 r4 r5 r6 r7 r8 r9 r10 r11 q0 q1 q2 q3 q4 q5 q6 q7 q8 q9 q10 q11 p0 p1 p2 p3 p4 p5 p6 p7 p8 p9 p10 p11
        rw [← hX]
        clear hX
        generalize w4.alloc (.cells #[.int .u8 2, .string name, .string ⟨#[]⟩, .int .i64 0] 116) = wa at *
        obtain ⟨⟨b0, b1, b2, b3, b4, b5, b6, b7, b8, b9, b10, b11⟩, p0, p1, p2, p3, p4, p5, p6, p7, p8, p9, p10, p11⟩ := HXa.out.blk.twelve
        obtain ⟨⟨r0, r1, r2, r3, r4, r5, r6, r7, r8, r9, r10, r11⟩, q0, q1, q2, q3, q4, q5, q6, q7, q8, q9, q10, q11⟩ := HXa.out.res.twelve
        have HRP := fw_reply HXa.out.rat name
        rw [← HRR.out] at HRP
        have HRPH := Lib.hid HRP
        clear HRP
        go_wp2_with fail
        refine HRPH.out.mono ?_
        rintro e wb ⟨rfl, hbb⟩
        rw [show Rp.val ⟨rc, ro, rs⟩ = .agg #[.string rc, .string ro, .int .i64 rs] from rfl]
        have HBb := Lib.hid (HAL.out.trans (hbb.mono (by have := HXSa.out.lt; omega)))
        have HXSb := Lib.hid (below_blk HXSa.out hbb HXSa.out.lt)
        clear b0 b1 b2 b3 b4 b5 b6 b7 b8 b9 b10 b11 r0 r1 r2 r3 r4 r5 r6 r7 r8 r9 r10 r11 q0 q1 q2 q3 q4 q5 q6 q7 q8 q9 q10 q11 p0 p1 p2 p3 p4 p5 p6 p7 p8 p9 p10 p11
        clear hbb HRPH
        have hbc := (Below.refl wb.heap.size wb).alloc (Nat.le_refl _) (.cells #[.string rc, .string ro, .int .i64 rs] 63)
        have HXSc := Lib.hid (below_blk HXSb.out hbc HXSb.out.lt)
        have HBc := Lib.hid (HBb.out.trans (hbc.mono (by have := HXSb.out.lt; omega)))
        clear hbc
        have x2 : (wb.alloc (.cells #[.string rc, .string ro, .int .i64 rs] 63)).cell? ⟨X, 2, none⟩ = some (.string ⟨#[]⟩) := HXSc.out.cell 2
        have x2f : (wb.alloc (.cells #[.string rc, .string ro, .int .i64 rs] 63)).frozen? ⟨X, 2, none⟩ = false := HXSc.out.free 2
        have HXS : Hid (Blk ((wb.alloc (.cells #[.string rc, .string ro, .int .i64 rs] 63)).setCell ⟨X, 2, none⟩ (.string ro)) X 116 #[.int .u8 2, .string name, .string ro, .int .i64 0]) := HXSc.out.set 2 _
        have HBd := Lib.hid (HBc.out.setCell (p := ⟨X, 2, none⟩) (Nat.le_refl X) (.string ro))
        have HXA := Lib.hid (HX4.out.pure (wj := (wb.alloc (.cells #[.string rc, .string ro, .int .i64 rs] 63)).setCell ⟨X, 2, none⟩ (.string ro)) (HBd.out.mono (by have := HXE.out; omega)))
        go_upto_region 21 with (fail)
        clear x2 x2f
        generalize (wb.alloc (.cells #[.string rc, .string ro, .int .i64 rs] 63)).setCell ⟨X, 2, none⟩ (.string ro) = wA at *
        have HOA := Lib.hid HXA.out.rat.oO.1
        have c9 : wA.cell? ⟨B, 9, none⟩ = some (.slice f.AO st.opn.length f.cO) := HXA.out.blk.cell 9
        have hz1 : 0 + st.opn.length ≤ maxLen := by unfold maxLen; omega
        have hz2 : (0 + st.opn.length) * 48 ≤ 140737488355328 := by omega
        have hz3 : st.opn.length + 1 ≤ maxLen := by unfold maxLen; omega
        have hz4 : (st.opn.length + 1) * 48 ≤ 140737488355328 := by omega
        go_upto_region 24 with (first | (at_builtin; refine wp_appn rfl (.tmp 87) (.tmp 89) _ rfl 116 4 48 _ Try.underlying71 info_sm rfl (by decide) wA.heap.size (.slice none 0 0) 0 [] rfl (World.ownsRow_nil _ _ _ _) 0 (.slice f.AO st.opn.length f.cO) st.opn.length (svals4 st.opn) rfl HOA.out (one_sms _) hz1 hz2 (Nat.le_refl _) ?_; intro P2 cap2 wc hown2 hgrow2 hat2; simp only [Nat.zero_add, List.nil_append] at hown2 hat2; rw [Nat.zero_add]; have ht2 := Tur.of_grown hgrow2; have HBc2 := Lib.hid (ht2.below wA.heap.size (Nat.le_refl _) (fun q hq h => by cases h)); have HXSc2 := Lib.hid (below_blk HXS.out HBc2.out HXS.out.lt); have HO2 := Lib.hid hown2; have HAT2 := Lib.hid hat2; have hbs2 : wA.heap.size ≤ wc.heap.size := ht2.size; obtain ⟨x0, x1, x2, x3⟩ := sm_cells HXSc2.out; clear c9 hown2 hgrow2 hat2 ht2 hz1 hz2) | (at_builtin; refine wp_app1_at rfl (.tmp 91) (.tmp 93) _ rfl 116 4 48 _ Try.underlying71 info_sm rfl (by decide) wA.heap.size (.slice P2 st.opn.length cap2) st.opn.length _ rfl HO2.out [.int .u8 2, .string name, .string ro, .int .i64 0] wc.heap.size rfl rfl rfl one_sm4 hz3 hz4 hbs2 ?_; intro g3 cap3 wd hlc3 hcm3 hown3 hgrow3 hat3; have HBd2 := Lib.hid (HBc2.out.trans ((Tur.of_grown hgrow3).below wA.heap.size hbs2 (fun q hq h => by rcases HAT2.out q h.symm with h | h; cases h; omega))); have HXd2 := Lib.hid (HXA.out.pure HBd2.out); have y9 := HXd2.out.blk.free 9; have y9c := HXd2.out.blk.cell 9; rw [show (fcells f st)[9]? = some (.slice f.AO st.opn.length f.cO) from rfl] at y9c; have HO3 := Lib.hid hown3; clear x0 x1 x2 x3 hown3 hgrow3 hat3 hz3 hz4))
        obtain ⟨ln, hln⟩ : ∃ ln, ln = st.opn ++ [(⟨2, name, ro, 0⟩ : RSm)] := ⟨_, rfl⟩
        have hlz : st.opn.length + 1 = ln.length := by rw [hln]; simp
        have HO4 : Hid (wd.ownsRow wA.heap.size 116 4 (.slice (some ⟨g3, 0, none⟩) ln.length cap3) ln.length (svals4 ln)) := by unfold Hid; rw [← hlz, hln, ← svals4_snoc]; exact HO3.out
        have HX6 := Lib.hid (HXA.out.setO HBd2.out HO4.out (by omega))
        rw [hlz]
        obtain ⟨f6, hf6⟩ : ∃ x, x = { f with AO := some ⟨g3, 0, none⟩, cO := cap3 } := ⟨_, rfl⟩
        obtain ⟨st6, hst6⟩ : ∃ x, x = { st with opn := ln } := ⟨_, rfl⟩
        rw [← hf6, ← hst6] at HX6
        have hev6 : st6.events.length ≤ 100000 := by rw [hst6]; exact hev5
        have HE1 : Hid (o = ({ st6 with events := st6.events ++ [⟨1, 2, name, ⟨#[]⟩, 0⟩] }, 0)) := by unfold Hid; rw [HE0.out, hst6, hln]
        clear y9 y9c hf6 hst6 hln hlz
        generalize wd.setCell ⟨B, 9, none⟩ (.slice (some ⟨g3, 0, none⟩) ln.length cap3) = w6 at *
        obtain ⟨⟨b0, b1, b2, b3, b4, b5, b6, b7, b8, b9, b10, b11⟩, p0, p1, p2, p3, p4, p5, p6, p7, p8, p9, p10, p11⟩ := HX6.out.blk.twelve
        obtain ⟨⟨r0, r1, r2, r3, r4, r5, r6, r7, r8, r9, r10, r11⟩, q0, q1, q2, q3, q4, q5, q6, q7, q8, q9, q10, q11⟩ := HX6.out.res.twelve
        go_wp2_with fail
        obtain ⟨st7, hst7⟩ : ∃ s, s = { st6 with events := st6.events ++ [(⟨1, 2, name, ⟨#[]⟩, 0⟩ : Ev)] } := ⟨_, rfl⟩
        have HE := HE1
        have HEV := fw_event HX6.out.rat ⟨1, 2, name, ⟨#[]⟩, 0⟩ hev6
        rw [← hst7] at HEV HE
        clear hst7
        refine HEV.mono ?_
        rintro e w7 ⟨f7, rfl, hr7, hb7⟩
        have HX7 := Lib.hid (HX6.out.pure hb7)
        have HR7 := Lib.hid hr7
        have HB7 := Lib.hid hb7
        clear b0 b1 b2 b3 b4 b5 b6 b7 b8 b9 b10 b11 r0 r1 r2 r3 r4 r5 r6 r7 r8 r9 r10 r11 q0 q1 q2 q3 q4 q5 q6 q7 q8 q9 q10 q11 p0 p1 p2 p3 p4 p5 p6 p7 p8 p9 p10 p11
        clear HEV hr7 hb7
        obtain ⟨⟨r0, r1, r2, r3, r4, r5, r6, r7, r8, r9, r10, r11⟩, q0, q1, q2, q3, q4, q5, q6, q7, q8, q9, q10, q11⟩ := HX7.out.res.twelve
        unfold fcells
        go_wp2_with fail
        clear r0 r1 r2 r3 r4 r5 r6 r7 r8 r9 r10 r11 q0 q1 q2 q3 q4 q5 q6 q7 q8 q9 q10 q11
        have HD := Lib.hid (HX6.out.done (wj := w7) (f' := f7) (st' := st7) HB7.out HR7.out)
        generalize ((((((((((((w7.setCell ⟨R, 0, none⟩ (.slice f7.A0 f7.n0 f7.c0)).setCell ⟨R, 1, none⟩ (.string st7.stdin)).setCell ⟨R, 2, none⟩ (.slice f7.A2 st7.replies.length f7.c2)).setCell ⟨R, 3, none⟩ (.slice f7.A3 st7.fails.length f7.c3)).setCell ⟨R, 4, none⟩ (.int .i64 st7.lim)).setCell ⟨R, 5, none⟩ (.int .i64 st7.clock)).setCell ⟨R, 6, none⟩ (.int .u64 st7.ch)).setCell ⟨R, 7, none⟩ (.slice f7.AF st7.files.length f7.cF)).setCell ⟨R, 8, none⟩ (.int .i64 st7.taken)).setCell ⟨R, 9, none⟩ (.slice f7.AO st7.opn.length f7.cO)).setCell ⟨R, 10, none⟩ (.int .u64 st7.num)).setCell ⟨R, 11, none⟩ (.slice f7.AE st7.events.length f7.cE)) = w99 at *
        obtain ⟨⟨x0, x1, x2, x3, x4, x5, x6, x7, x8, x9, x10, x11⟩, -⟩ := HD.out.1.twelve
        refine bodyPost_ret (v := .tuple #[.agg #[.slice f7.A0 f7.n0 f7.c0, .string st7.stdin, .slice f7.A2 st7.replies.length f7.c2, .slice f7.A3 st7.fails.length f7.c3, .int .i64 st7.lim, .int .i64 st7.clock, .int .u64 st7.ch, .slice f7.AF st7.files.length f7.cF, .int .i64 st7.taken, .slice f7.AO st7.opn.length f7.cO, .int .u64 st7.num, .slice f7.AE st7.events.length f7.cE], .int .i64 0]) (by simp [results, Try.results44, go_sem, x0, x1, x2, x3, x4, x5, x6, x7, x8, x9, x10, x11]) rfl (by rw [HE.out]; exact ⟨f7, rfl, HD.out.2.1, HD.out.2.2⟩)
set_option maxRecDepth 100000 in
set_option maxHeartbeats 4000000 in
theorem fw_open_3 (h : RF K w f st) (name : ByteArray) (hev : st.events.length ≤ 100000) (hop : st.opn.length ≤ 100000) (hfil : st.files.length ≤ 100000) :
    Calls Try.prog 44 #[.agg (fcells f st), .int .u8 3, .string name] w (WrPost K w (openD st 3 name).1 (openD st 3 name).2) := by
  obtain ⟨o, ho⟩ : ∃ o, o = openD st 3 name := ⟨_, rfl⟩
  rw [← ho]
  have HO := Lib.hid ho
  clear ho
  have HX0 := Lib.hid (RW.start h)
  have HRF := Lib.hid h
  clear h
  go_enter Try.func44, Try.ntmps44
  go_upto_region 1 with (fail)
  obtain ⟨B, hB⟩ : ∃ B, B = w.heap.size := ⟨_, rfl⟩
  rw [← hB] at HX0 ⊢
  obtain ⟨R, hR⟩ : ∃ R, R = B + 1 := ⟨_, rfl⟩
  rw [← hR] at HX0 ⊢
  clear hB hR
  generalize (w.alloc (.cells (fcells f st) 73)).alloc (.cells #[.slice none 0 0, .string ⟨#[]⟩, .slice none 0 0, .slice none 0 0, .int .i64 0, .int .i64 0, .int .u64 0, .slice none 0 0, .int .i64 0, .slice none 0 0, .int .u64 0, .slice none 0 0] 73) = w1 at *
  obtain ⟨⟨b0, b1, b2, b3, b4, b5, b6, b7, b8, b9, b10, b11⟩, p0, p1, p2, p3, p4, p5, p6, p7, p8, p9, p10, p11⟩ := HX0.out.blk.twelve
  obtain ⟨⟨r0, r1, r2, r3, r4, r5, r6, r7, r8, r9, r10, r11⟩, q0, q1, q2, q3, q4, q5, q6, q7, q8, q9, q10, q11⟩ := HX0.out.res.twelve
  go_wp2_with fail
  refine (fw_find HX0.out.rat 3 name).mono ?_
  rintro e w2 ⟨rfl, hb2⟩
  have HX2 := Lib.hid (HX0.out.pure hb2)
  clear b0 b1 b2 b3 b4 b5 b6 b7 b8 b9 b10 b11 r0 r1 r2 r3 r4 r5 r6 r7 r8 r9 r10 r11 q0 q1 q2 q3 q4 q5 q6 q7 q8 q9 q10 q11 p0 p1 p2 p3 p4 p5 p6 p7 p8 p9 p10 p11
  clear hb2
  obtain ⟨⟨b0, b1, b2, b3, b4, b5, b6, b7, b8, b9, b10, b11⟩, p0, p1, p2, p3, p4, p5, p6, p7, p8, p9, p10, p11⟩ := HX2.out.blk.twelve
  obtain ⟨⟨r0, r1, r2, r3, r4, r5, r6, r7, r8, r9, r10, r11⟩, q0, q1, q2, q3, q4, q5, q6, q7, q8, q9, q10, q11⟩ := HX2.out.res.twelve
  cases hf : findF st 3 name
  rotate_left
  · rename_i ix
    have HE : Hid (o = (st, 0)) := by unfold Hid; rw [HO.out]; unfold openD; rw [if_neg (by decide), hf, if_pos (show (some ix).isSome = true from rfl)]
    clear hf
    rw [show ixV (some ix) = (ix : Int) from rfl]
    have hix : (0 : Int) ≤ (ix : Int) := by omega
    go_wp2_with fail
    clear b0 b1 b2 b3 b4 b5 b6 b7 b8 b9 b10 b11 r0 r1 r2 r3 r4 r5 r6 r7 r8 r9 r10 r11 q0 q1 q2 q3 q4 q5 q6 q7 q8 q9 q10 q11 p0 p1 p2 p3 p4 p5 p6 p7 p8 p9 p10 p11
    have HD := Lib.hid (HX2.out.done (wj := w2) (f' := f) (st' := st) (Below.refl _ _) HX2.out.same)
    generalize ((((((((((((w2.setCell ⟨R, 0, none⟩ (.slice f.A0 f.n0 f.c0)).setCell ⟨R, 1, none⟩ (.string st.stdin)).setCell ⟨R, 2, none⟩ (.slice f.A2 st.replies.length f.c2)).setCell ⟨R, 3, none⟩ (.slice f.A3 st.fails.length f.c3)).setCell ⟨R, 4, none⟩ (.int .i64 st.lim)).setCell ⟨R, 5, none⟩ (.int .i64 st.clock)).setCell ⟨R, 6, none⟩ (.int .u64 st.ch)).setCell ⟨R, 7, none⟩ (.slice f.AF st.files.length f.cF)).setCell ⟨R, 8, none⟩ (.int .i64 st.taken)).setCell ⟨R, 9, none⟩ (.slice f.AO st.opn.length f.cO)).setCell ⟨R, 10, none⟩ (.int .u64 st.num)).setCell ⟨R, 11, none⟩ (.slice f.AE st.events.length f.cE)) = w99 at *
    obtain ⟨⟨x0, x1, x2, x3, x4, x5, x6, x7, x8, x9, x10, x11⟩, -⟩ := HD.out.1.twelve
    refine bodyPost_ret (v := .tuple #[.agg #[.slice f.A0 f.n0 f.c0, .string st.stdin, .slice f.A2 st.replies.length f.c2, .slice f.A3 st.fails.length f.c3, .int .i64 st.lim, .int .i64 st.clock, .int .u64 st.ch, .slice f.AF st.files.length f.cF, .int .i64 st.taken, .slice f.AO st.opn.length f.cO, .int .u64 st.num, .slice f.AE st.events.length f.cE], .int .i64 0]) (by simp [results, Try.results44, go_sem, x0, x1, x2, x3, x4, x5, x6, x7, x8, x9, x10, x11]) rfl (by rw [HE.out]; exact ⟨f, rfl, HD.out.2.1, HD.out.2.2⟩)
  · have HFND := Lib.hid hf
    clear hf
    rw [show ixV none = -1 from rfl]
    by_cases hlim : st.lim ≤ st.opn.length
    · have HE : Hid (o = (st, 15)) := by unfold Hid; rw [HO.out]; unfold openD; rw [if_neg (by decide), HFND.out, if_neg (by decide), if_pos hlim]
      go_wp2_with fail
      clear b0 b1 b2 b3 b4 b5 b6 b7 b8 b9 b10 b11 r0 r1 r2 r3 r4 r5 r6 r7 r8 r9 r10 r11 q0 q1 q2 q3 q4 q5 q6 q7 q8 q9 q10 q11 p0 p1 p2 p3 p4 p5 p6 p7 p8 p9 p10 p11
      have HD := Lib.hid (HX2.out.done (wj := w2) (f' := f) (st' := st) (Below.refl _ _) HX2.out.same)
      generalize ((((((((((((w2.setCell ⟨R, 0, none⟩ (.slice f.A0 f.n0 f.c0)).setCell ⟨R, 1, none⟩ (.string st.stdin)).setCell ⟨R, 2, none⟩ (.slice f.A2 st.replies.length f.c2)).setCell ⟨R, 3, none⟩ (.slice f.A3 st.fails.length f.c3)).setCell ⟨R, 4, none⟩ (.int .i64 st.lim)).setCell ⟨R, 5, none⟩ (.int .i64 st.clock)).setCell ⟨R, 6, none⟩ (.int .u64 st.ch)).setCell ⟨R, 7, none⟩ (.slice f.AF st.files.length f.cF)).setCell ⟨R, 8, none⟩ (.int .i64 st.taken)).setCell ⟨R, 9, none⟩ (.slice f.AO st.opn.length f.cO)).setCell ⟨R, 10, none⟩ (.int .u64 st.num)).setCell ⟨R, 11, none⟩ (.slice f.AE st.events.length f.cE)) = w99 at *
      obtain ⟨⟨x0, x1, x2, x3, x4, x5, x6, x7, x8, x9, x10, x11⟩, -⟩ := HD.out.1.twelve
      refine bodyPost_ret (v := .tuple #[.agg #[.slice f.A0 f.n0 f.c0, .string st.stdin, .slice f.A2 st.replies.length f.c2, .slice f.A3 st.fails.length f.c3, .int .i64 st.lim, .int .i64 st.clock, .int .u64 st.ch, .slice f.AF st.files.length f.cF, .int .i64 st.taken, .slice f.AO st.opn.length f.cO, .int .u64 st.num, .slice f.AE st.events.length f.cE], .int .i64 15]) (by simp [results, Try.results44, go_sem, x0, x1, x2, x3, x4, x5, x6, x7, x8, x9, x10, x11]) rfl (by rw [HE.out]; exact ⟨f, rfl, HD.out.2.1, HD.out.2.2⟩)
    · have HLIM := Lib.hid hlim
      obtain ⟨was, hwas⟩ : ∃ was, was = ((fileF st name).getD (⟨#[]⟩, ⟨#[]⟩)).2 := ⟨_, rfl⟩
      obtain ⟨there, hthere⟩ : ∃ there, there = (fileF st name).isSome := ⟨_, rfl⟩
      have HFI := Lib.hid (fw_file HX2.out.rat name)
      rw [← hwas, ← hthere] at HFI
      have HWAS := Lib.hid hwas
      have HTH := Lib.hid hthere
      clear hwas hthere
      go_wp2_with fail
      refine HFI.out.mono ?_
      rintro e w3 ⟨rfl, hb3⟩
      have HX3 := Lib.hid (HX2.out.pure hb3)
      clear b0 b1 b2 b3 b4 b5 b6 b7 b8 b9 b10 b11 r0 r1 r2 r3 r4 r5 r6 r7 r8 r9 r10 r11 q0 q1 q2 q3 q4 q5 q6 q7 q8 q9 q10 q11 p0 p1 p2 p3 p4 p5 p6 p7 p8 p9 p10 p11
      clear hb3 HFI hlim
      obtain ⟨⟨b0, b1, b2, b3, b4, b5, b6, b7, b8, b9, b10, b11⟩, p0, p1, p2, p3, p4, p5, p6, p7, p8, p9, p10, p11⟩ := HX3.out.blk.twelve
      obtain ⟨⟨r0, r1, r2, r3, r4, r5, r6, r7, r8, r9, r10, r11⟩, q0, q1, q2, q3, q4, q5, q6, q7, q8, q9, q10, q11⟩ := HX3.out.res.twelve
      go_wp2_with fail
      refine (fw_fails HX3.out.rat 1 name).mono ?_
      rintro e w4 ⟨rfl, hb4⟩
      have HX4 := Lib.hid (HX3.out.pure hb4)
      clear b0 b1 b2 b3 b4 b5 b6 b7 b8 b9 b10 b11 r0 r1 r2 r3 r4 r5 r6 r7 r8 r9 r10 r11 q0 q1 q2 q3 q4 q5 q6 q7 q8 q9 q10 q11 p0 p1 p2 p3 p4 p5 p6 p7 p8 p9 p10 p11
      clear hb4
      obtain ⟨⟨b0, b1, b2, b3, b4, b5, b6, b7, b8, b9, b10, b11⟩, p0, p1, p2, p3, p4, p5, p6, p7, p8, p9, p10, p11⟩ := HX4.out.blk.twelve
      obtain ⟨⟨r0, r1, r2, r3, r4, r5, r6, r7, r8, r9, r10, r11⟩, q0, q1, q2, q3, q4, q5, q6, q7, q8, q9, q10, q11⟩ := HX4.out.res.twelve
      cases hfl : st.fails.any (isFl 1 name)
      rotate_left
      · have HE : Hid (o = (st, 12)) := by unfold Hid; rw [HO.out]; unfold openD; rw [if_neg (by decide), HFND.out, if_neg (by decide), if_neg (by have := HLIM.out; omega), if_pos (.inl hfl)]
        clear hfl
        go_wp2_with fail
        clear b0 b1 b2 b3 b4 b5 b6 b7 b8 b9 b10 b11 r0 r1 r2 r3 r4 r5 r6 r7 r8 r9 r10 r11 q0 q1 q2 q3 q4 q5 q6 q7 q8 q9 q10 q11 p0 p1 p2 p3 p4 p5 p6 p7 p8 p9 p10 p11
        have HD := Lib.hid (HX4.out.done (wj := w4) (f' := f) (st' := st) (Below.refl _ _) HX4.out.same)
        generalize ((((((((((((w4.setCell ⟨R, 0, none⟩ (.slice f.A0 f.n0 f.c0)).setCell ⟨R, 1, none⟩ (.string st.stdin)).setCell ⟨R, 2, none⟩ (.slice f.A2 st.replies.length f.c2)).setCell ⟨R, 3, none⟩ (.slice f.A3 st.fails.length f.c3)).setCell ⟨R, 4, none⟩ (.int .i64 st.lim)).setCell ⟨R, 5, none⟩ (.int .i64 st.clock)).setCell ⟨R, 6, none⟩ (.int .u64 st.ch)).setCell ⟨R, 7, none⟩ (.slice f.AF st.files.length f.cF)).setCell ⟨R, 8, none⟩ (.int .i64 st.taken)).setCell ⟨R, 9, none⟩ (.slice f.AO st.opn.length f.cO)).setCell ⟨R, 10, none⟩ (.int .u64 st.num)).setCell ⟨R, 11, none⟩ (.slice f.AE st.events.length f.cE)) = w99 at *
        obtain ⟨⟨x0, x1, x2, x3, x4, x5, x6, x7, x8, x9, x10, x11⟩, -⟩ := HD.out.1.twelve
        refine bodyPost_ret (v := .tuple #[.agg #[.slice f.A0 f.n0 f.c0, .string st.stdin, .slice f.A2 st.replies.length f.c2, .slice f.A3 st.fails.length f.c3, .int .i64 st.lim, .int .i64 st.clock, .int .u64 st.ch, .slice f.AF st.files.length f.cF, .int .i64 st.taken, .slice f.AO st.opn.length f.cO, .int .u64 st.num, .slice f.AE st.events.length f.cE], .int .i64 12]) (by simp [results, Try.results44, go_sem, x0, x1, x2, x3, x4, x5, x6, x7, x8, x9, x10, x11]) rfl (by rw [HE.out]; exact ⟨f, rfl, HD.out.2.1, HD.out.2.2⟩)
      · have HFL := Lib.hid hfl
        clear hfl
        obtain ⟨st5, hst5⟩ : ∃ s, s = { st with files := withL st.files name ⟨#[]⟩ } := ⟨_, rfl⟩
        have HE0 : Hid (o = ({ st5 with opn := st5.opn ++ [⟨3, name, ⟨#[]⟩, 0⟩], events := st5.events ++ [⟨1, 3, name, ⟨#[]⟩, 0⟩] }, 0)) := by unfold Hid; rw [HO.out]; unfold openD; rw [if_neg (by decide), HFND.out, if_neg (by decide), if_neg (by have := HLIM.out; omega), if_neg (by rintro (h | ⟨h, h2, h3⟩); rw [HFL.out] at h; cases h; exact absurd h (by decide)), hst5]; rfl
        have hop5 : st5.opn.length ≤ 100000 := by rw [hst5]; exact hop
        have hev5 : st5.events.length ≤ 100000 := by rw [hst5]; exact hev
        have HWI := fun (w : World) (K : Nat → Prop) (h : RF K w f st) => fw_with h name ⟨#[]⟩ hfil
        rw [← hst5] at HWI
        have HWIH := Lib.hid HWI
        clear HWI hst5
        obtain ⟨X, hX⟩ : ∃ X, X = w4.heap.size := ⟨_, rfl⟩
        have HXE := Lib.hid hX
        have HXR := Lib.hid (show R < X by have := HX4.out.big; omega)
        have HXB := Lib.hid (show B < X by have := HX4.out.big; have := HX4.out.hR; omega)
        have hal := (Below.refl w4.heap.size w4).alloc (Nat.le_refl _) (.cells #[.int .u8 3, .string name, .string ⟨#[]⟩, .int .i64 0] 116)
        have HXa := Lib.hid (HX4.out.pure hal)
        have HXSa := Lib.hid (Blk.new w4 116 #[.int .u8 3, .string name, .string ⟨#[]⟩, .int .i64 0])
        rw [← hX] at HXSa
        clear hal
        go_upto_region 18 with (fail)
        clear b0 b1 b2 b3 b4 b5 b6 b7 b8 b9 b10 b11 r0 r1 r2 r3 r4 r5 r6 r7 r8 r9 r10 r11 q0 q1 q2 q3 q4 q5 q6 q7 q8 q9 q10 q11 p0 p1 p2 p3 p4 p5 p6 p7 p8 p9 p10 p11
        rw [← hX]
        clear hX
        generalize w4.alloc (.cells #[.int .u8 3, .string name, .string ⟨#[]⟩, .int .i64 0] 116) = wa at *
        obtain ⟨⟨b0, b1, b2, b3, b4, b5, b6, b7, b8, b9, b10, b11⟩, p0, p1, p2, p3, p4, p5, p6, p7, p8, p9, p10, p11⟩ := HXa.out.blk.twelve
        obtain ⟨⟨r0, r1, r2, r3, r4, r5, r6, r7, r8, r9, r10, r11⟩, q0, q1, q2, q3, q4, q5, q6, q7, q8, q9, q10, q11⟩ := HXa.out.res.twelve
        go_wp2_with fail
        refine (HWIH.out _ _ HXa.out.rat).mono ?_
        rintro e w5 ⟨f5, rfl, hr5, hb5⟩
        have HX5 := Lib.hid (HXa.out.pure hb5)
        have HXA := Lib.hid (HXa.out.stored hb5 hr5)
        have HXS := Lib.hid ((below_blk HXSa.out hb5 HXSa.out.lt).keep (Tur.set12 (w := w5) (g := B) (.slice f5.A0 f5.n0 f5.c0) (.string st5.stdin) (.slice f5.A2 st5.replies.length f5.c2) (.slice f5.A3 st5.fails.length f5.c3) (.int .i64 st5.lim) (.int .i64 st5.clock) (.int .u64 st5.ch) (.slice f5.AF st5.files.length f5.cF) (.int .i64 st5.taken) (.slice f5.AO st5.opn.length f5.cO) (.int .u64 st5.num) (.slice f5.AE st5.events.length f5.cE)) (by have := HXB.out; omega))
        clear b0 b1 b2 b3 b4 b5 b6 b7 b8 b9 b10 b11 r0 r1 r2 r3 r4 r5 r6 r7 r8 r9 r10 r11 q0 q1 q2 q3 q4 q5 q6 q7 q8 q9 q10 q11 p0 p1 p2 p3 p4 p5 p6 p7 p8 p9 p10 p11
        clear hr5 hb5
        obtain ⟨⟨b0, b1, b2, b3, b4, b5, b6, b7, b8, b9, b10, b11⟩, p0, p1, p2, p3, p4, p5, p6, p7, p8, p9, p10, p11⟩ := HX5.out.blk.twelve
        unfold fcells
        go_upto_region 21 with (fail)
        clear b0 b1 b2 b3 b4 b5 b6 b7 b8 b9 b10 b11 p0 p1 p2 p3 p4 p5 p6 p7 p8 p9 p10 p11
        generalize ((((((((((((w5.setCell ⟨B, 0, none⟩ (.slice f5.A0 f5.n0 f5.c0)).setCell ⟨B, 1, none⟩ (.string st5.stdin)).setCell ⟨B, 2, none⟩ (.slice f5.A2 st5.replies.length f5.c2)).setCell ⟨B, 3, none⟩ (.slice f5.A3 st5.fails.length f5.c3)).setCell ⟨B, 4, none⟩ (.int .i64 st5.lim)).setCell ⟨B, 5, none⟩ (.int .i64 st5.clock)).setCell ⟨B, 6, none⟩ (.int .u64 st5.ch)).setCell ⟨B, 7, none⟩ (.slice f5.AF st5.files.length f5.cF)).setCell ⟨B, 8, none⟩ (.int .i64 st5.taken)).setCell ⟨B, 9, none⟩ (.slice f5.AO st5.opn.length f5.cO)).setCell ⟨B, 10, none⟩ (.int .u64 st5.num)).setCell ⟨B, 11, none⟩ (.slice f5.AE st5.events.length f5.cE)) = wA at *
        have HOA := Lib.hid HXA.out.rat.oO.1
        have c9 : wA.cell? ⟨B, 9, none⟩ = some (.slice f5.AO st5.opn.length f5.cO) := HXA.out.blk.cell 9
        have hz1 : 0 + st5.opn.length ≤ maxLen := by unfold maxLen; omega
        have hz2 : (0 + st5.opn.length) * 48 ≤ 140737488355328 := by omega
        have hz3 : st5.opn.length + 1 ≤ maxLen := by unfold maxLen; omega
        have hz4 : (st5.opn.length + 1) * 48 ≤ 140737488355328 := by omega
        go_upto_region 24 with (first | (at_builtin; refine wp_appn rfl (.tmp 87) (.tmp 89) _ rfl 116 4 48 _ Try.underlying71 info_sm rfl (by decide) wA.heap.size (.slice none 0 0) 0 [] rfl (World.ownsRow_nil _ _ _ _) 0 (.slice f5.AO st5.opn.length f5.cO) st5.opn.length (svals4 st5.opn) rfl HOA.out (one_sms _) hz1 hz2 (Nat.le_refl _) ?_; intro P2 cap2 wc hown2 hgrow2 hat2; simp only [Nat.zero_add, List.nil_append] at hown2 hat2; rw [Nat.zero_add]; have ht2 := Tur.of_grown hgrow2; have HBc2 := Lib.hid (ht2.below wA.heap.size (Nat.le_refl _) (fun q hq h => by cases h)); have HXSc2 := Lib.hid (below_blk HXS.out HBc2.out HXS.out.lt); have HO2 := Lib.hid hown2; have HAT2 := Lib.hid hat2; have hbs2 : wA.heap.size ≤ wc.heap.size := ht2.size; obtain ⟨x0, x1, x2, x3⟩ := sm_cells HXSc2.out; clear c9 hown2 hgrow2 hat2 ht2 hz1 hz2) | (at_builtin; refine wp_app1_at rfl (.tmp 91) (.tmp 93) _ rfl 116 4 48 _ Try.underlying71 info_sm rfl (by decide) wA.heap.size (.slice P2 st5.opn.length cap2) st5.opn.length _ rfl HO2.out [.int .u8 3, .string name, .string ⟨#[]⟩, .int .i64 0] wc.heap.size rfl rfl rfl one_sm4 hz3 hz4 hbs2 ?_; intro g3 cap3 wd hlc3 hcm3 hown3 hgrow3 hat3; have HBd2 := Lib.hid (HBc2.out.trans ((Tur.of_grown hgrow3).below wA.heap.size hbs2 (fun q hq h => by rcases HAT2.out q h.symm with h | h; cases h; omega))); have HXd2 := Lib.hid (HXA.out.pure HBd2.out); have y9 := HXd2.out.blk.free 9; have y9c := HXd2.out.blk.cell 9; rw [show (fcells f5 st5)[9]? = some (.slice f5.AO st5.opn.length f5.cO) from rfl] at y9c; have HO3 := Lib.hid hown3; clear x0 x1 x2 x3 hown3 hgrow3 hat3 hz3 hz4))
        obtain ⟨ln, hln⟩ : ∃ ln, ln = st5.opn ++ [(⟨3, name, ⟨#[]⟩, 0⟩ : RSm)] := ⟨_, rfl⟩
        have hlz : st5.opn.length + 1 = ln.length := by rw [hln]; simp
        have HO4 : Hid (wd.ownsRow wA.heap.size 116 4 (.slice (some ⟨g3, 0, none⟩) ln.length cap3) ln.length (svals4 ln)) := by unfold Hid; rw [← hlz, hln, ← svals4_snoc]; exact HO3.out
        have HX6 := Lib.hid (HXA.out.setO HBd2.out HO4.out (by omega))
        rw [hlz]
        obtain ⟨f6, hf6⟩ : ∃ x, x = { f5 with AO := some ⟨g3, 0, none⟩, cO := cap3 } := ⟨_, rfl⟩
        obtain ⟨st6, hst6⟩ : ∃ x, x = { st5 with opn := ln } := ⟨_, rfl⟩
        rw [← hf6, ← hst6] at HX6
        have hev6 : st6.events.length ≤ 100000 := by rw [hst6]; exact hev5
        have HE1 : Hid (o = ({ st6 with events := st6.events ++ [⟨1, 3, name, ⟨#[]⟩, 0⟩] }, 0)) := by unfold Hid; rw [HE0.out, hst6, hln]
        clear y9 y9c hf6 hst6 hln hlz
        generalize wd.setCell ⟨B, 9, none⟩ (.slice (some ⟨g3, 0, none⟩) ln.length cap3) = w6 at *
        obtain ⟨⟨b0, b1, b2, b3, b4, b5, b6, b7, b8, b9, b10, b11⟩, p0, p1, p2, p3, p4, p5, p6, p7, p8, p9, p10, p11⟩ := HX6.out.blk.twelve
        obtain ⟨⟨r0, r1, r2, r3, r4, r5, r6, r7, r8, r9, r10, r11⟩, q0, q1, q2, q3, q4, q5, q6, q7, q8, q9, q10, q11⟩ := HX6.out.res.twelve
        go_wp2_with fail
        obtain ⟨st7, hst7⟩ : ∃ s, s = { st6 with events := st6.events ++ [(⟨1, 3, name, ⟨#[]⟩, 0⟩ : Ev)] } := ⟨_, rfl⟩
        have HE := HE1
        have HEV := fw_event HX6.out.rat ⟨1, 3, name, ⟨#[]⟩, 0⟩ hev6
        rw [← hst7] at HEV HE
        clear hst7
        refine HEV.mono ?_
        rintro e w7 ⟨f7, rfl, hr7, hb7⟩
        have HX7 := Lib.hid (HX6.out.pure hb7)
        have HR7 := Lib.hid hr7
        have HB7 := Lib.hid hb7
        clear b0 b1 b2 b3 b4 b5 b6 b7 b8 b9 b10 b11 r0 r1 r2 r3 r4 r5 r6 r7 r8 r9 r10 r11 q0 q1 q2 q3 q4 q5 q6 q7 q8 q9 q10 q11 p0 p1 p2 p3 p4 p5 p6 p7 p8 p9 p10 p11
        clear HEV hr7 hb7
        obtain ⟨⟨r0, r1, r2, r3, r4, r5, r6, r7, r8, r9, r10, r11⟩, q0, q1, q2, q3, q4, q5, q6, q7, q8, q9, q10, q11⟩ := HX7.out.res.twelve
        unfold fcells
        go_wp2_with fail
        clear r0 r1 r2 r3 r4 r5 r6 r7 r8 r9 r10 r11 q0 q1 q2 q3 q4 q5 q6 q7 q8 q9 q10 q11
        have HD := Lib.hid (HX6.out.done (wj := w7) (f' := f7) (st' := st7) HB7.out HR7.out)
        generalize ((((((((((((w7.setCell ⟨R, 0, none⟩ (.slice f7.A0 f7.n0 f7.c0)).setCell ⟨R, 1, none⟩ (.string st7.stdin)).setCell ⟨R, 2, none⟩ (.slice f7.A2 st7.replies.length f7.c2)).setCell ⟨R, 3, none⟩ (.slice f7.A3 st7.fails.length f7.c3)).setCell ⟨R, 4, none⟩ (.int .i64 st7.lim)).setCell ⟨R, 5, none⟩ (.int .i64 st7.clock)).setCell ⟨R, 6, none⟩ (.int .u64 st7.ch)).setCell ⟨R, 7, none⟩ (.slice f7.AF st7.files.length f7.cF)).setCell ⟨R, 8, none⟩ (.int .i64 st7.taken)).setCell ⟨R, 9, none⟩ (.slice f7.AO st7.opn.length f7.cO)).setCell ⟨R, 10, none⟩ (.int .u64 st7.num)).setCell ⟨R, 11, none⟩ (.slice f7.AE st7.events.length f7.cE)) = w99 at *
        obtain ⟨⟨x0, x1, x2, x3, x4, x5, x6, x7, x8, x9, x10, x11⟩, -⟩ := HD.out.1.twelve
        refine bodyPost_ret (v := .tuple #[.agg #[.slice f7.A0 f7.n0 f7.c0, .string st7.stdin, .slice f7.A2 st7.replies.length f7.c2, .slice f7.A3 st7.fails.length f7.c3, .int .i64 st7.lim, .int .i64 st7.clock, .int .u64 st7.ch, .slice f7.AF st7.files.length f7.cF, .int .i64 st7.taken, .slice f7.AO st7.opn.length f7.cO, .int .u64 st7.num, .slice f7.AE st7.events.length f7.cE], .int .i64 0]) (by simp [results, Try.results44, go_sem, x0, x1, x2, x3, x4, x5, x6, x7, x8, x9, x10, x11]) rfl (by rw [HE.out]; exact ⟨f7, rfl, HD.out.2.1, HD.out.2.2⟩)
set_option maxRecDepth 100000 in
set_option maxHeartbeats 4000000 in
theorem fw_open_4 (h : RF K w f st) (name : ByteArray) (hev : st.events.length ≤ 100000) (hop : st.opn.length ≤ 100000) (hfil : st.files.length ≤ 100000) :
    Calls Try.prog 44 #[.agg (fcells f st), .int .u8 4, .string name] w (WrPost K w (openD st 4 name).1 (openD st 4 name).2) := by
  obtain ⟨o, ho⟩ : ∃ o, o = openD st 4 name := ⟨_, rfl⟩
  rw [← ho]
  have HO := Lib.hid ho
  clear ho
  have HX0 := Lib.hid (RW.start h)
  have HRF := Lib.hid h
  clear h
  go_enter Try.func44, Try.ntmps44
  go_upto_region 1 with (fail)
  obtain ⟨B, hB⟩ : ∃ B, B = w.heap.size := ⟨_, rfl⟩
  rw [← hB] at HX0 ⊢
  obtain ⟨R, hR⟩ : ∃ R, R = B + 1 := ⟨_, rfl⟩
  rw [← hR] at HX0 ⊢
  clear hB hR
  generalize (w.alloc (.cells (fcells f st) 73)).alloc (.cells #[.slice none 0 0, .string ⟨#[]⟩, .slice none 0 0, .slice none 0 0, .int .i64 0, .int .i64 0, .int .u64 0, .slice none 0 0, .int .i64 0, .slice none 0 0, .int .u64 0, .slice none 0 0] 73) = w1 at *
  obtain ⟨⟨b0, b1, b2, b3, b4, b5, b6, b7, b8, b9, b10, b11⟩, p0, p1, p2, p3, p4, p5, p6, p7, p8, p9, p10, p11⟩ := HX0.out.blk.twelve
  obtain ⟨⟨r0, r1, r2, r3, r4, r5, r6, r7, r8, r9, r10, r11⟩, q0, q1, q2, q3, q4, q5, q6, q7, q8, q9, q10, q11⟩ := HX0.out.res.twelve
  go_wp2_with fail
  refine (fw_find HX0.out.rat 4 name).mono ?_
  rintro e w2 ⟨rfl, hb2⟩
  have HX2 := Lib.hid (HX0.out.pure hb2)
  clear b0 b1 b2 b3 b4 b5 b6 b7 b8 b9 b10 b11 r0 r1 r2 r3 r4 r5 r6 r7 r8 r9 r10 r11 q0 q1 q2 q3 q4 q5 q6 q7 q8 q9 q10 q11 p0 p1 p2 p3 p4 p5 p6 p7 p8 p9 p10 p11
  clear hb2
  obtain ⟨⟨b0, b1, b2, b3, b4, b5, b6, b7, b8, b9, b10, b11⟩, p0, p1, p2, p3, p4, p5, p6, p7, p8, p9, p10, p11⟩ := HX2.out.blk.twelve
  obtain ⟨⟨r0, r1, r2, r3, r4, r5, r6, r7, r8, r9, r10, r11⟩, q0, q1, q2, q3, q4, q5, q6, q7, q8, q9, q10, q11⟩ := HX2.out.res.twelve
  cases hf : findF st 4 name
  rotate_left
  · rename_i ix
    have HE : Hid (o = (st, 0)) := by unfold Hid; rw [HO.out]; unfold openD; rw [if_neg (by decide), hf, if_pos (show (some ix).isSome = true from rfl)]
    clear hf
    rw [show ixV (some ix) = (ix : Int) from rfl]
    have hix : (0 : Int) ≤ (ix : Int) := by omega
    go_wp2_with fail
    clear b0 b1 b2 b3 b4 b5 b6 b7 b8 b9 b10 b11 r0 r1 r2 r3 r4 r5 r6 r7 r8 r9 r10 r11 q0 q1 q2 q3 q4 q5 q6 q7 q8 q9 q10 q11 p0 p1 p2 p3 p4 p5 p6 p7 p8 p9 p10 p11
    have HD := Lib.hid (HX2.out.done (wj := w2) (f' := f) (st' := st) (Below.refl _ _) HX2.out.same)
    generalize ((((((((((((w2.setCell ⟨R, 0, none⟩ (.slice f.A0 f.n0 f.c0)).setCell ⟨R, 1, none⟩ (.string st.stdin)).setCell ⟨R, 2, none⟩ (.slice f.A2 st.replies.length f.c2)).setCell ⟨R, 3, none⟩ (.slice f.A3 st.fails.length f.c3)).setCell ⟨R, 4, none⟩ (.int .i64 st.lim)).setCell ⟨R, 5, none⟩ (.int .i64 st.clock)).setCell ⟨R, 6, none⟩ (.int .u64 st.ch)).setCell ⟨R, 7, none⟩ (.slice f.AF st.files.length f.cF)).setCell ⟨R, 8, none⟩ (.int .i64 st.taken)).setCell ⟨R, 9, none⟩ (.slice f.AO st.opn.length f.cO)).setCell ⟨R, 10, none⟩ (.int .u64 st.num)).setCell ⟨R, 11, none⟩ (.slice f.AE st.events.length f.cE)) = w99 at *
    obtain ⟨⟨x0, x1, x2, x3, x4, x5, x6, x7, x8, x9, x10, x11⟩, -⟩ := HD.out.1.twelve
    refine bodyPost_ret (v := .tuple #[.agg #[.slice f.A0 f.n0 f.c0, .string st.stdin, .slice f.A2 st.replies.length f.c2, .slice f.A3 st.fails.length f.c3, .int .i64 st.lim, .int .i64 st.clock, .int .u64 st.ch, .slice f.AF st.files.length f.cF, .int .i64 st.taken, .slice f.AO st.opn.length f.cO, .int .u64 st.num, .slice f.AE st.events.length f.cE], .int .i64 0]) (by simp [results, Try.results44, go_sem, x0, x1, x2, x3, x4, x5, x6, x7, x8, x9, x10, x11]) rfl (by rw [HE.out]; exact ⟨f, rfl, HD.out.2.1, HD.out.2.2⟩)
  · have HFND := Lib.hid hf
    clear hf
    rw [show ixV none = -1 from rfl]
    by_cases hlim : st.lim ≤ st.opn.length
    · have HE : Hid (o = (st, 15)) := by unfold Hid; rw [HO.out]; unfold openD; rw [if_neg (by decide), HFND.out, if_neg (by decide), if_pos hlim]
      go_wp2_with fail
      clear b0 b1 b2 b3 b4 b5 b6 b7 b8 b9 b10 b11 r0 r1 r2 r3 r4 r5 r6 r7 r8 r9 r10 r11 q0 q1 q2 q3 q4 q5 q6 q7 q8 q9 q10 q11 p0 p1 p2 p3 p4 p5 p6 p7 p8 p9 p10 p11
      have HD := Lib.hid (HX2.out.done (wj := w2) (f' := f) (st' := st) (Below.refl _ _) HX2.out.same)
      generalize ((((((((((((w2.setCell ⟨R, 0, none⟩ (.slice f.A0 f.n0 f.c0)).setCell ⟨R, 1, none⟩ (.string st.stdin)).setCell ⟨R, 2, none⟩ (.slice f.A2 st.replies.length f.c2)).setCell ⟨R, 3, none⟩ (.slice f.A3 st.fails.length f.c3)).setCell ⟨R, 4, none⟩ (.int .i64 st.lim)).setCell ⟨R, 5, none⟩ (.int .i64 st.clock)).setCell ⟨R, 6, none⟩ (.int .u64 st.ch)).setCell ⟨R, 7, none⟩ (.slice f.AF st.files.length f.cF)).setCell ⟨R, 8, none⟩ (.int .i64 st.taken)).setCell ⟨R, 9, none⟩ (.slice f.AO st.opn.length f.cO)).setCell ⟨R, 10, none⟩ (.int .u64 st.num)).setCell ⟨R, 11, none⟩ (.slice f.AE st.events.length f.cE)) = w99 at *
      obtain ⟨⟨x0, x1, x2, x3, x4, x5, x6, x7, x8, x9, x10, x11⟩, -⟩ := HD.out.1.twelve
      refine bodyPost_ret (v := .tuple #[.agg #[.slice f.A0 f.n0 f.c0, .string st.stdin, .slice f.A2 st.replies.length f.c2, .slice f.A3 st.fails.length f.c3, .int .i64 st.lim, .int .i64 st.clock, .int .u64 st.ch, .slice f.AF st.files.length f.cF, .int .i64 st.taken, .slice f.AO st.opn.length f.cO, .int .u64 st.num, .slice f.AE st.events.length f.cE], .int .i64 15]) (by simp [results, Try.results44, go_sem, x0, x1, x2, x3, x4, x5, x6, x7, x8, x9, x10, x11]) rfl (by rw [HE.out]; exact ⟨f, rfl, HD.out.2.1, HD.out.2.2⟩)
    · have HLIM := Lib.hid hlim
      obtain ⟨was, hwas⟩ : ∃ was, was = ((fileF st name).getD (⟨#[]⟩, ⟨#[]⟩)).2 := ⟨_, rfl⟩
      obtain ⟨there, hthere⟩ : ∃ there, there = (fileF st name).isSome := ⟨_, rfl⟩
      have HFI := Lib.hid (fw_file HX2.out.rat name)
      rw [← hwas, ← hthere] at HFI
      have HWAS := Lib.hid hwas
      have HTH := Lib.hid hthere
      clear hwas hthere
      go_wp2_with fail
      refine HFI.out.mono ?_
      rintro e w3 ⟨rfl, hb3⟩
      have HX3 := Lib.hid (HX2.out.pure hb3)
      clear b0 b1 b2 b3 b4 b5 b6 b7 b8 b9 b10 b11 r0 r1 r2 r3 r4 r5 r6 r7 r8 r9 r10 r11 q0 q1 q2 q3 q4 q5 q6 q7 q8 q9 q10 q11 p0 p1 p2 p3 p4 p5 p6 p7 p8 p9 p10 p11
      clear hb3 HFI hlim
      obtain ⟨⟨b0, b1, b2, b3, b4, b5, b6, b7, b8, b9, b10, b11⟩, p0, p1, p2, p3, p4, p5, p6, p7, p8, p9, p10, p11⟩ := HX3.out.blk.twelve
      obtain ⟨⟨r0, r1, r2, r3, r4, r5, r6, r7, r8, r9, r10, r11⟩, q0, q1, q2, q3, q4, q5, q6, q7, q8, q9, q10, q11⟩ := HX3.out.res.twelve
      go_wp2_with fail
      refine (fw_fails HX3.out.rat 1 name).mono ?_
      rintro e w4 ⟨rfl, hb4⟩
      have HX4 := Lib.hid (HX3.out.pure hb4)
      clear b0 b1 b2 b3 b4 b5 b6 b7 b8 b9 b10 b11 r0 r1 r2 r3 r4 r5 r6 r7 r8 r9 r10 r11 q0 q1 q2 q3 q4 q5 q6 q7 q8 q9 q10 q11 p0 p1 p2 p3 p4 p5 p6 p7 p8 p9 p10 p11
      clear hb4
      obtain ⟨⟨b0, b1, b2, b3, b4, b5, b6, b7, b8, b9, b10, b11⟩, p0, p1, p2, p3, p4, p5, p6, p7, p8, p9, p10, p11⟩ := HX4.out.blk.twelve
      obtain ⟨⟨r0, r1, r2, r3, r4, r5, r6, r7, r8, r9, r10, r11⟩, q0, q1, q2, q3, q4, q5, q6, q7, q8, q9, q10, q11⟩ := HX4.out.res.twelve
      cases hfl : st.fails.any (isFl 1 name)
      rotate_left
      · have HE : Hid (o = (st, 12)) := by unfold Hid; rw [HO.out]; unfold openD; rw [if_neg (by decide), HFND.out, if_neg (by decide), if_neg (by have := HLIM.out; omega), if_pos (.inl hfl)]
        clear hfl
        go_wp2_with fail
        clear b0 b1 b2 b3 b4 b5 b6 b7 b8 b9 b10 b11 r0 r1 r2 r3 r4 r5 r6 r7 r8 r9 r10 r11 q0 q1 q2 q3 q4 q5 q6 q7 q8 q9 q10 q11 p0 p1 p2 p3 p4 p5 p6 p7 p8 p9 p10 p11
        have HD := Lib.hid (HX4.out.done (wj := w4) (f' := f) (st' := st) (Below.refl _ _) HX4.out.same)
        generalize ((((((((((((w4.setCell ⟨R, 0, none⟩ (.slice f.A0 f.n0 f.c0)).setCell ⟨R, 1, none⟩ (.string st.stdin)).setCell ⟨R, 2, none⟩ (.slice f.A2 st.replies.length f.c2)).setCell ⟨R, 3, none⟩ (.slice f.A3 st.fails.length f.c3)).setCell ⟨R, 4, none⟩ (.int .i64 st.lim)).setCell ⟨R, 5, none⟩ (.int .i64 st.clock)).setCell ⟨R, 6, none⟩ (.int .u64 st.ch)).setCell ⟨R, 7, none⟩ (.slice f.AF st.files.length f.cF)).setCell ⟨R, 8, none⟩ (.int .i64 st.taken)).setCell ⟨R, 9, none⟩ (.slice f.AO st.opn.length f.cO)).setCell ⟨R, 10, none⟩ (.int .u64 st.num)).setCell ⟨R, 11, none⟩ (.slice f.AE st.events.length f.cE)) = w99 at *
        obtain ⟨⟨x0, x1, x2, x3, x4, x5, x6, x7, x8, x9, x10, x11⟩, -⟩ := HD.out.1.twelve
        refine bodyPost_ret (v := .tuple #[.agg #[.slice f.A0 f.n0 f.c0, .string st.stdin, .slice f.A2 st.replies.length f.c2, .slice f.A3 st.fails.length f.c3, .int .i64 st.lim, .int .i64 st.clock, .int .u64 st.ch, .slice f.AF st.files.length f.cF, .int .i64 st.taken, .slice f.AO st.opn.length f.cO, .int .u64 st.num, .slice f.AE st.events.length f.cE], .int .i64 12]) (by simp [results, Try.results44, go_sem, x0, x1, x2, x3, x4, x5, x6, x7, x8, x9, x10, x11]) rfl (by rw [HE.out]; exact ⟨f, rfl, HD.out.2.1, HD.out.2.2⟩)
      · have HFL := Lib.hid hfl
        clear hfl
        obtain ⟨st5, hst5⟩ : ∃ s, s = { st with files := withL st.files name was } := ⟨_, rfl⟩
        have HE0 : Hid (o = ({ st5 with opn := st5.opn ++ [⟨4, name, ⟨#[]⟩, 0⟩], events := st5.events ++ [⟨1, 4, name, ⟨#[]⟩, 0⟩] }, 0)) := by unfold Hid; rw [HO.out]; unfold openD; rw [if_neg (by decide), HFND.out, if_neg (by decide), if_neg (by have := HLIM.out; omega), if_neg (by rintro (h | ⟨h, h2, h3⟩); rw [HFL.out] at h; cases h; exact absurd h (by decide)), hst5, HWAS.out]; rfl
        have hop5 : st5.opn.length ≤ 100000 := by rw [hst5]; exact hop
        have hev5 : st5.events.length ≤ 100000 := by rw [hst5]; exact hev
        have HWI := fun (w : World) (K : Nat → Prop) (h : RF K w f st) => fw_with h name was hfil
        rw [← hst5] at HWI
        have HWIH := Lib.hid HWI
        clear HWI hst5
        obtain ⟨X, hX⟩ : ∃ X, X = w4.heap.size := ⟨_, rfl⟩
        have HXE := Lib.hid hX
        have HXR := Lib.hid (show R < X by have := HX4.out.big; omega)
        have HXB := Lib.hid (show B < X by have := HX4.out.big; have := HX4.out.hR; omega)
        have hal := (Below.refl w4.heap.size w4).alloc (Nat.le_refl _) (.cells #[.int .u8 4, .string name, .string ⟨#[]⟩, .int .i64 0] 116)
        have HXa := Lib.hid (HX4.out.pure hal)
        have HXSa := Lib.hid (Blk.new w4 116 #[.int .u8 4, .string name, .string ⟨#[]⟩, .int .i64 0])
        rw [← hX] at HXSa
        clear hal
        go_upto_region 20 with (fail)
        clear b0 b1 b2 b3 b4 b5 b6 b7 b8 b9 b10 b11 r0 r1 r2 r3 r4 r5 r6 r7 r8 r9 r10 r11 q0 q1 q2 q3 q4 q5 q6 q7 q8 q9 q10 q11 p0 p1 p2 p3 p4 p5 p6 p7 p8 p9 p10 p11
        rw [← hX]
        clear hX
        generalize w4.alloc (.cells #[.int .u8 4, .string name, .string ⟨#[]⟩, .int .i64 0] 116) = wa at *
        obtain ⟨⟨b0, b1, b2, b3, b4, b5, b6, b7, b8, b9, b10, b11⟩, p0, p1, p2, p3, p4, p5, p6, p7, p8, p9, p10, p11⟩ := HXa.out.blk.twelve
        obtain ⟨⟨r0, r1, r2, r3, r4, r5, r6, r7, r8, r9, r10, r11⟩, q0, q1, q2, q3, q4, q5, q6, q7, q8, q9, q10, q11⟩ := HXa.out.res.twelve
        go_wp2_with fail
        refine (HWIH.out _ _ HXa.out.rat).mono ?_
        rintro e w5 ⟨f5, rfl, hr5, hb5⟩
        have HX5 := Lib.hid (HXa.out.pure hb5)
        have HXA := Lib.hid (HXa.out.stored hb5 hr5)
        have HXS := Lib.hid ((below_blk HXSa.out hb5 HXSa.out.lt).keep (Tur.set12 (w := w5) (g := B) (.slice f5.A0 f5.n0 f5.c0) (.string st5.stdin) (.slice f5.A2 st5.replies.length f5.c2) (.slice f5.A3 st5.fails.length f5.c3) (.int .i64 st5.lim) (.int .i64 st5.clock) (.int .u64 st5.ch) (.slice f5.AF st5.files.length f5.cF) (.int .i64 st5.taken) (.slice f5.AO st5.opn.length f5.cO) (.int .u64 st5.num) (.slice f5.AE st5.events.length f5.cE)) (by have := HXB.out; omega))
        clear b0 b1 b2 b3 b4 b5 b6 b7 b8 b9 b10 b11 r0 r1 r2 r3 r4 r5 r6 r7 r8 r9 r10 r11 q0 q1 q2 q3 q4 q5 q6 q7 q8 q9 q10 q11 p0 p1 p2 p3 p4 p5 p6 p7 p8 p9 p10 p11
        clear hr5 hb5
        obtain ⟨⟨b0, b1, b2, b3, b4, b5, b6, b7, b8, b9, b10, b11⟩, p0, p1, p2, p3, p4, p5, p6, p7, p8, p9, p10, p11⟩ := HX5.out.blk.twelve
        unfold fcells
        go_upto_region 21 with (fail)
        clear b0 b1 b2 b3 b4 b5 b6 b7 b8 b9 b10 b11 p0 p1 p2 p3 p4 p5 p6 p7 p8 p9 p10 p11
        generalize ((((((((((((w5.setCell ⟨B, 0, none⟩ (.slice f5.A0 f5.n0 f5.c0)).setCell ⟨B, 1, none⟩ (.string st5.stdin)).setCell ⟨B, 2, none⟩ (.slice f5.A2 st5.replies.length f5.c2)).setCell ⟨B, 3, none⟩ (.slice f5.A3 st5.fails.length f5.c3)).setCell ⟨B, 4, none⟩ (.int .i64 st5.lim)).setCell ⟨B, 5, none⟩ (.int .i64 st5.clock)).setCell ⟨B, 6, none⟩ (.int .u64 st5.ch)).setCell ⟨B, 7, none⟩ (.slice f5.AF st5.files.length f5.cF)).setCell ⟨B, 8, none⟩ (.int .i64 st5.taken)).setCell ⟨B, 9, none⟩ (.slice f5.AO st5.opn.length f5.cO)).setCell ⟨B, 10, none⟩ (.int .u64 st5.num)).setCell ⟨B, 11, none⟩ (.slice f5.AE st5.events.length f5.cE)) = wA at *
        have HOA := Lib.hid HXA.out.rat.oO.1
        have c9 : wA.cell? ⟨B, 9, none⟩ = some (.slice f5.AO st5.opn.length f5.cO) := HXA.out.blk.cell 9
        have hz1 : 0 + st5.opn.length ≤ maxLen := by unfold maxLen; omega
        have hz2 : (0 + st5.opn.length) * 48 ≤ 140737488355328 := by omega
        have hz3 : st5.opn.length + 1 ≤ maxLen := by unfold maxLen; omega
        have hz4 : (st5.opn.length + 1) * 48 ≤ 140737488355328 := by omega
        go_upto_region 24 with (first | (at_builtin; refine wp_appn rfl (.tmp 87) (.tmp 89) _ rfl 116 4 48 _ Try.underlying71 info_sm rfl (by decide) wA.heap.size (.slice none 0 0) 0 [] rfl (World.ownsRow_nil _ _ _ _) 0 (.slice f5.AO st5.opn.length f5.cO) st5.opn.length (svals4 st5.opn) rfl HOA.out (one_sms _) hz1 hz2 (Nat.le_refl _) ?_; intro P2 cap2 wc hown2 hgrow2 hat2; simp only [Nat.zero_add, List.nil_append] at hown2 hat2; rw [Nat.zero_add]; have ht2 := Tur.of_grown hgrow2; have HBc2 := Lib.hid (ht2.below wA.heap.size (Nat.le_refl _) (fun q hq h => by cases h)); have HXSc2 := Lib.hid (below_blk HXS.out HBc2.out HXS.out.lt); have HO2 := Lib.hid hown2; have HAT2 := Lib.hid hat2; have hbs2 : wA.heap.size ≤ wc.heap.size := ht2.size; obtain ⟨x0, x1, x2, x3⟩ := sm_cells HXSc2.out; clear c9 hown2 hgrow2 hat2 ht2 hz1 hz2) | (at_builtin; refine wp_app1_at rfl (.tmp 91) (.tmp 93) _ rfl 116 4 48 _ Try.underlying71 info_sm rfl (by decide) wA.heap.size (.slice P2 st5.opn.length cap2) st5.opn.length _ rfl HO2.out [.int .u8 4, .string name, .string ⟨#[]⟩, .int .i64 0] wc.heap.size rfl rfl rfl one_sm4 hz3 hz4 hbs2 ?_; intro g3 cap3 wd hlc3 hcm3 hown3 hgrow3 hat3; have HBd2 := Lib.hid (HBc2.out.trans ((Tur.of_grown hgrow3).below wA.heap.size hbs2 (fun q hq h => by rcases HAT2.out q h.symm with h | h; cases h; omega))); have HXd2 := Lib.hid (HXA.out.pure HBd2.out); have y9 := HXd2.out.blk.free 9; have y9c := HXd2.out.blk.cell 9; rw [show (fcells f5 st5)[9]? = some (.slice f5.AO st5.opn.length f5.cO) from rfl] at y9c; have HO3 := Lib.hid hown3; clear x0 x1 x2 x3 hown3 hgrow3 hat3 hz3 hz4))
        obtain ⟨ln, hln⟩ : ∃ ln, ln = st5.opn ++ [(⟨4, name, ⟨#[]⟩, 0⟩ : RSm)] := ⟨_, rfl⟩
        have hlz : st5.opn.length + 1 = ln.length := by rw [hln]; simp
        have HO4 : Hid (wd.ownsRow wA.heap.size 116 4 (.slice (some ⟨g3, 0, none⟩) ln.length cap3) ln.length (svals4 ln)) := by unfold Hid; rw [← hlz, hln, ← svals4_snoc]; exact HO3.out
        have HX6 := Lib.hid (HXA.out.setO HBd2.out HO4.out (by omega))
        rw [hlz]
        obtain ⟨f6, hf6⟩ : ∃ x, x = { f5 with AO := some ⟨g3, 0, none⟩, cO := cap3 } := ⟨_, rfl⟩
        obtain ⟨st6, hst6⟩ : ∃ x, x = { st5 with opn := ln } := ⟨_, rfl⟩
        rw [← hf6, ← hst6] at HX6
        have hev6 : st6.events.length ≤ 100000 := by rw [hst6]; exact hev5
        have HE1 : Hid (o = ({ st6 with events := st6.events ++ [⟨1, 4, name, ⟨#[]⟩, 0⟩] }, 0)) := by unfold Hid; rw [HE0.out, hst6, hln]
        clear y9 y9c hf6 hst6 hln hlz
        generalize wd.setCell ⟨B, 9, none⟩ (.slice (some ⟨g3, 0, none⟩) ln.length cap3) = w6 at *
        obtain ⟨⟨b0, b1, b2, b3, b4, b5, b6, b7, b8, b9, b10, b11⟩, p0, p1, p2, p3, p4, p5, p6, p7, p8, p9, p10, p11⟩ := HX6.out.blk.twelve
        obtain ⟨⟨r0, r1, r2, r3, r4, r5, r6, r7, r8, r9, r10, r11⟩, q0, q1, q2, q3, q4, q5, q6, q7, q8, q9, q10, q11⟩ := HX6.out.res.twelve
        go_wp2_with fail
        obtain ⟨st7, hst7⟩ : ∃ s, s = { st6 with events := st6.events ++ [(⟨1, 4, name, ⟨#[]⟩, 0⟩ : Ev)] } := ⟨_, rfl⟩
        have HE := HE1
        have HEV := fw_event HX6.out.rat ⟨1, 4, name, ⟨#[]⟩, 0⟩ hev6
        rw [← hst7] at HEV HE
        clear hst7
        refine HEV.mono ?_
        rintro e w7 ⟨f7, rfl, hr7, hb7⟩
        have HX7 := Lib.hid (HX6.out.pure hb7)
        have HR7 := Lib.hid hr7
        have HB7 := Lib.hid hb7
        clear b0 b1 b2 b3 b4 b5 b6 b7 b8 b9 b10 b11 r0 r1 r2 r3 r4 r5 r6 r7 r8 r9 r10 r11 q0 q1 q2 q3 q4 q5 q6 q7 q8 q9 q10 q11 p0 p1 p2 p3 p4 p5 p6 p7 p8 p9 p10 p11
        clear HEV hr7 hb7
        obtain ⟨⟨r0, r1, r2, r3, r4, r5, r6, r7, r8, r9, r10, r11⟩, q0, q1, q2, q3, q4, q5, q6, q7, q8, q9, q10, q11⟩ := HX7.out.res.twelve
        unfold fcells
        go_wp2_with fail
        clear r0 r1 r2 r3 r4 r5 r6 r7 r8 r9 r10 r11 q0 q1 q2 q3 q4 q5 q6 q7 q8 q9 q10 q11
        have HD := Lib.hid (HX6.out.done (wj := w7) (f' := f7) (st' := st7) HB7.out HR7.out)
        generalize ((((((((((((w7.setCell ⟨R, 0, none⟩ (.slice f7.A0 f7.n0 f7.c0)).setCell ⟨R, 1, none⟩ (.string st7.stdin)).setCell ⟨R, 2, none⟩ (.slice f7.A2 st7.replies.length f7.c2)).setCell ⟨R, 3, none⟩ (.slice f7.A3 st7.fails.length f7.c3)).setCell ⟨R, 4, none⟩ (.int .i64 st7.lim)).setCell ⟨R, 5, none⟩ (.int .i64 st7.clock)).setCell ⟨R, 6, none⟩ (.int .u64 st7.ch)).setCell ⟨R, 7, none⟩ (.slice f7.AF st7.files.length f7.cF)).setCell ⟨R, 8, none⟩ (.int .i64 st7.taken)).setCell ⟨R, 9, none⟩ (.slice f7.AO st7.opn.length f7.cO)).setCell ⟨R, 10, none⟩ (.int .u64 st7.num)).setCell ⟨R, 11, none⟩ (.slice f7.AE st7.events.length f7.cE)) = w99 at *
        obtain ⟨⟨x0, x1, x2, x3, x4, x5, x6, x7, x8, x9, x10, x11⟩, -⟩ := HD.out.1.twelve
        refine bodyPost_ret (v := .tuple #[.agg #[.slice f7.A0 f7.n0 f7.c0, .string st7.stdin, .slice f7.A2 st7.replies.length f7.c2, .slice f7.A3 st7.fails.length f7.c3, .int .i64 st7.lim, .int .i64 st7.clock, .int .u64 st7.ch, .slice f7.AF st7.files.length f7.cF, .int .i64 st7.taken, .slice f7.AO st7.opn.length f7.cO, .int .u64 st7.num, .slice f7.AE st7.events.length f7.cE], .int .i64 0]) (by simp [results, Try.results44, go_sem, x0, x1, x2, x3, x4, x5, x6, x7, x8, x9, x10, x11]) rfl (by rw [HE.out]; exact ⟨f7, rfl, HD.out.2.1, HD.out.2.2⟩)
set_option maxRecDepth 100000 in
set_option maxHeartbeats 4000000 in
theorem fw_open_5 (h : RF K w f st) (name : ByteArray) (hev : st.events.length ≤ 100000) (hop : st.opn.length ≤ 100000) (hfil : st.files.length ≤ 100000) :
    Calls Try.prog 44 #[.agg (fcells f st), .int .u8 5, .string name] w (WrPost K w (openD st 5 name).1 (openD st 5 name).2) := by
  obtain ⟨o, ho⟩ : ∃ o, o = openD st 5 name := ⟨_, rfl⟩
  rw [← ho]
  have HO := Lib.hid ho
  clear ho
  have HX0 := Lib.hid (RW.start h)
  have HRF := Lib.hid h
  clear h
  go_enter Try.func44, Try.ntmps44
  go_upto_region 1 with (fail)
  obtain ⟨B, hB⟩ : ∃ B, B = w.heap.size := ⟨_, rfl⟩
  rw [← hB] at HX0 ⊢
  obtain ⟨R, hR⟩ : ∃ R, R = B + 1 := ⟨_, rfl⟩
  rw [← hR] at HX0 ⊢
  clear hB hR
  generalize (w.alloc (.cells (fcells f st) 73)).alloc (.cells #[.slice none 0 0, .string ⟨#[]⟩, .slice none 0 0, .slice none 0 0, .int .i64 0, .int .i64 0, .int .u64 0, .slice none 0 0, .int .i64 0, .slice none 0 0, .int .u64 0, .slice none 0 0] 73) = w1 at *
  obtain ⟨⟨b0, b1, b2, b3, b4, b5, b6, b7, b8, b9, b10, b11⟩, p0, p1, p2, p3, p4, p5, p6, p7, p8, p9, p10, p11⟩ := HX0.out.blk.twelve
  obtain ⟨⟨r0, r1, r2, r3, r4, r5, r6, r7, r8, r9, r10, r11⟩, q0, q1, q2, q3, q4, q5, q6, q7, q8, q9, q10, q11⟩ := HX0.out.res.twelve
  go_wp2_with fail
  refine (fw_find HX0.out.rat 5 name).mono ?_
  rintro e w2 ⟨rfl, hb2⟩
  have HX2 := Lib.hid (HX0.out.pure hb2)
  clear b0 b1 b2 b3 b4 b5 b6 b7 b8 b9 b10 b11 r0 r1 r2 r3 r4 r5 r6 r7 r8 r9 r10 r11 q0 q1 q2 q3 q4 q5 q6 q7 q8 q9 q10 q11 p0 p1 p2 p3 p4 p5 p6 p7 p8 p9 p10 p11
  clear hb2
  obtain ⟨⟨b0, b1, b2, b3, b4, b5, b6, b7, b8, b9, b10, b11⟩, p0, p1, p2, p3, p4, p5, p6, p7, p8, p9, p10, p11⟩ := HX2.out.blk.twelve
  obtain ⟨⟨r0, r1, r2, r3, r4, r5, r6, r7, r8, r9, r10, r11⟩, q0, q1, q2, q3, q4, q5, q6, q7, q8, q9, q10, q11⟩ := HX2.out.res.twelve
  cases hf : findF st 5 name
  rotate_left
  · rename_i ix
    have HE : Hid (o = (st, 0)) := by unfold Hid; rw [HO.out]; unfold openD; rw [if_neg (by decide), hf, if_pos (show (some ix).isSome = true from rfl)]
    clear hf
    rw [show ixV (some ix) = (ix : Int) from rfl]
    have hix : (0 : Int) ≤ (ix : Int) := by omega
    go_wp2_with fail
    clear b0 b1 b2 b3 b4 b5 b6 b7 b8 b9 b10 b11 r0 r1 r2 r3 r4 r5 r6 r7 r8 r9 r10 r11 q0 q1 q2 q3 q4 q5 q6 q7 q8 q9 q10 q11 p0 p1 p2 p3 p4 p5 p6 p7 p8 p9 p10 p11
    have HD := Lib.hid (HX2.out.done (wj := w2) (f' := f) (st' := st) (Below.refl _ _) HX2.out.same)
    generalize ((((((((((((w2.setCell ⟨R, 0, none⟩ (.slice f.A0 f.n0 f.c0)).setCell ⟨R, 1, none⟩ (.string st.stdin)).setCell ⟨R, 2, none⟩ (.slice f.A2 st.replies.length f.c2)).setCell ⟨R, 3, none⟩ (.slice f.A3 st.fails.length f.c3)).setCell ⟨R, 4, none⟩ (.int .i64 st.lim)).setCell ⟨R, 5, none⟩ (.int .i64 st.clock)).setCell ⟨R, 6, none⟩ (.int .u64 st.ch)).setCell ⟨R, 7, none⟩ (.slice f.AF st.files.length f.cF)).setCell ⟨R, 8, none⟩ (.int .i64 st.taken)).setCell ⟨R, 9, none⟩ (.slice f.AO st.opn.length f.cO)).setCell ⟨R, 10, none⟩ (.int .u64 st.num)).setCell ⟨R, 11, none⟩ (.slice f.AE st.events.length f.cE)) = w99 at *
    obtain ⟨⟨x0, x1, x2, x3, x4, x5, x6, x7, x8, x9, x10, x11⟩, -⟩ := HD.out.1.twelve
    refine bodyPost_ret (v := .tuple #[.agg #[.slice f.A0 f.n0 f.c0, .string st.stdin, .slice f.A2 st.replies.length f.c2, .slice f.A3 st.fails.length f.c3, .int .i64 st.lim, .int .i64 st.clock, .int .u64 st.ch, .slice f.AF st.files.length f.cF, .int .i64 st.taken, .slice f.AO st.opn.length f.cO, .int .u64 st.num, .slice f.AE st.events.length f.cE], .int .i64 0]) (by simp [results, Try.results44, go_sem, x0, x1, x2, x3, x4, x5, x6, x7, x8, x9, x10, x11]) rfl (by rw [HE.out]; exact ⟨f, rfl, HD.out.2.1, HD.out.2.2⟩)
  · have HFND := Lib.hid hf
    clear hf
    rw [show ixV none = -1 from rfl]
    by_cases hlim : st.lim ≤ st.opn.length
    · have HE : Hid (o = (st, 15)) := by unfold Hid; rw [HO.out]; unfold openD; rw [if_neg (by decide), HFND.out, if_neg (by decide), if_pos hlim]
      go_wp2_with fail
      clear b0 b1 b2 b3 b4 b5 b6 b7 b8 b9 b10 b11 r0 r1 r2 r3 r4 r5 r6 r7 r8 r9 r10 r11 q0 q1 q2 q3 q4 q5 q6 q7 q8 q9 q10 q11 p0 p1 p2 p3 p4 p5 p6 p7 p8 p9 p10 p11
      have HD := Lib.hid (HX2.out.done (wj := w2) (f' := f) (st' := st) (Below.refl _ _) HX2.out.same)
      generalize ((((((((((((w2.setCell ⟨R, 0, none⟩ (.slice f.A0 f.n0 f.c0)).setCell ⟨R, 1, none⟩ (.string st.stdin)).setCell ⟨R, 2, none⟩ (.slice f.A2 st.replies.length f.c2)).setCell ⟨R, 3, none⟩ (.slice f.A3 st.fails.length f.c3)).setCell ⟨R, 4, none⟩ (.int .i64 st.lim)).setCell ⟨R, 5, none⟩ (.int .i64 st.clock)).setCell ⟨R, 6, none⟩ (.int .u64 st.ch)).setCell ⟨R, 7, none⟩ (.slice f.AF st.files.length f.cF)).setCell ⟨R, 8, none⟩ (.int .i64 st.taken)).setCell ⟨R, 9, none⟩ (.slice f.AO st.opn.length f.cO)).setCell ⟨R, 10, none⟩ (.int .u64 st.num)).setCell ⟨R, 11, none⟩ (.slice f.AE st.events.length f.cE)) = w99 at *
      obtain ⟨⟨x0, x1, x2, x3, x4, x5, x6, x7, x8, x9, x10, x11⟩, -⟩ := HD.out.1.twelve
      refine bodyPost_ret (v := .tuple #[.agg #[.slice f.A0 f.n0 f.c0, .string st.stdin, .slice f.A2 st.replies.length f.c2, .slice f.A3 st.fails.length f.c3, .int .i64 st.lim, .int .i64 st.clock, .int .u64 st.ch, .slice f.AF st.files.length f.cF, .int .i64 st.taken, .slice f.AO st.opn.length f.cO, .int .u64 st.num, .slice f.AE st.events.length f.cE], .int .i64 15]) (by simp [results, Try.results44, go_sem, x0, x1, x2, x3, x4, x5, x6, x7, x8, x9, x10, x11]) rfl (by rw [HE.out]; exact ⟨f, rfl, HD.out.2.1, HD.out.2.2⟩)
    · have HLIM := Lib.hid hlim
      obtain ⟨was, hwas⟩ : ∃ was, was = ((fileF st name).getD (⟨#[]⟩, ⟨#[]⟩)).2 := ⟨_, rfl⟩
      obtain ⟨there, hthere⟩ : ∃ there, there = (fileF st name).isSome := ⟨_, rfl⟩
      have HFI := Lib.hid (fw_file HX2.out.rat name)
      rw [← hwas, ← hthere] at HFI
      have HWAS := Lib.hid hwas
      have HTH := Lib.hid hthere
      clear hwas hthere
      go_wp2_with fail
      refine HFI.out.mono ?_
      rintro e w3 ⟨rfl, hb3⟩
      have HX3 := Lib.hid (HX2.out.pure hb3)
      clear b0 b1 b2 b3 b4 b5 b6 b7 b8 b9 b10 b11 r0 r1 r2 r3 r4 r5 r6 r7 r8 r9 r10 r11 q0 q1 q2 q3 q4 q5 q6 q7 q8 q9 q10 q11 p0 p1 p2 p3 p4 p5 p6 p7 p8 p9 p10 p11
      clear hb3 HFI hlim
      obtain ⟨⟨b0, b1, b2, b3, b4, b5, b6, b7, b8, b9, b10, b11⟩, p0, p1, p2, p3, p4, p5, p6, p7, p8, p9, p10, p11⟩ := HX3.out.blk.twelve
      obtain ⟨⟨r0, r1, r2, r3, r4, r5, r6, r7, r8, r9, r10, r11⟩, q0, q1, q2, q3, q4, q5, q6, q7, q8, q9, q10, q11⟩ := HX3.out.res.twelve
      go_wp2_with fail
      refine (fw_fails HX3.out.rat 1 name).mono ?_
      rintro e w4 ⟨rfl, hb4⟩
      have HX4 := Lib.hid (HX3.out.pure hb4)
      clear b0 b1 b2 b3 b4 b5 b6 b7 b8 b9 b10 b11 r0 r1 r2 r3 r4 r5 r6 r7 r8 r9 r10 r11 q0 q1 q2 q3 q4 q5 q6 q7 q8 q9 q10 q11 p0 p1 p2 p3 p4 p5 p6 p7 p8 p9 p10 p11
      clear hb4
      obtain ⟨⟨b0, b1, b2, b3, b4, b5, b6, b7, b8, b9, b10, b11⟩, p0, p1, p2, p3, p4, p5, p6, p7, p8, p9, p10, p11⟩ := HX4.out.blk.twelve
      obtain ⟨⟨r0, r1, r2, r3, r4, r5, r6, r7, r8, r9, r10, r11⟩, q0, q1, q2, q3, q4, q5, q6, q7, q8, q9, q10, q11⟩ := HX4.out.res.twelve
      cases hfl : st.fails.any (isFl 1 name)
      rotate_left
      · have HE : Hid (o = (st, 12)) := by unfold Hid; rw [HO.out]; unfold openD; rw [if_neg (by decide), HFND.out, if_neg (by decide), if_neg (by have := HLIM.out; omega), if_pos (.inl hfl)]
        clear hfl
        go_wp2_with fail
        clear b0 b1 b2 b3 b4 b5 b6 b7 b8 b9 b10 b11 r0 r1 r2 r3 r4 r5 r6 r7 r8 r9 r10 r11 q0 q1 q2 q3 q4 q5 q6 q7 q8 q9 q10 q11 p0 p1 p2 p3 p4 p5 p6 p7 p8 p9 p10 p11
        have HD := Lib.hid (HX4.out.done (wj := w4) (f' := f) (st' := st) (Below.refl _ _) HX4.out.same)
        generalize ((((((((((((w4.setCell ⟨R, 0, none⟩ (.slice f.A0 f.n0 f.c0)).setCell ⟨R, 1, none⟩ (.string st.stdin)).setCell ⟨R, 2, none⟩ (.slice f.A2 st.replies.length f.c2)).setCell ⟨R, 3, none⟩ (.slice f.A3 st.fails.length f.c3)).setCell ⟨R, 4, none⟩ (.int .i64 st.lim)).setCell ⟨R, 5, none⟩ (.int .i64 st.clock)).setCell ⟨R, 6, none⟩ (.int .u64 st.ch)).setCell ⟨R, 7, none⟩ (.slice f.AF st.files.length f.cF)).setCell ⟨R, 8, none⟩ (.int .i64 st.taken)).setCell ⟨R, 9, none⟩ (.slice f.AO st.opn.length f.cO)).setCell ⟨R, 10, none⟩ (.int .u64 st.num)).setCell ⟨R, 11, none⟩ (.slice f.AE st.events.length f.cE)) = w99 at *
        obtain ⟨⟨x0, x1, x2, x3, x4, x5, x6, x7, x8, x9, x10, x11⟩, -⟩ := HD.out.1.twelve
        refine bodyPost_ret (v := .tuple #[.agg #[.slice f.A0 f.n0 f.c0, .string st.stdin, .slice f.A2 st.replies.length f.c2, .slice f.A3 st.fails.length f.c3, .int .i64 st.lim, .int .i64 st.clock, .int .u64 st.ch, .slice f.AF st.files.length f.cF, .int .i64 st.taken, .slice f.AO st.opn.length f.cO, .int .u64 st.num, .slice f.AE st.events.length f.cE], .int .i64 12]) (by simp [results, Try.results44, go_sem, x0, x1, x2, x3, x4, x5, x6, x7, x8, x9, x10, x11]) rfl (by rw [HE.out]; exact ⟨f, rfl, HD.out.2.1, HD.out.2.2⟩)
      · have HFL := Lib.hid hfl
        clear hfl
        have HE0 : Hid (o = ({ st with opn := st.opn ++ [⟨5, name, ⟨#[]⟩, 0⟩], events := st.events ++ [⟨1, 5, name, ⟨#[]⟩, 0⟩] }, 0)) := by unfold Hid; rw [HO.out]; unfold openD; rw [if_neg (by decide), HFND.out, if_neg (by decide), if_neg (by have := HLIM.out; omega), if_neg (by rintro (h | ⟨h, h2, h3⟩); rw [HFL.out] at h; cases h; exact absurd h (by decide))]; rfl
        have hop5 : st.opn.length ≤ 100000 := hop
        have hev5 : st.events.length ≤ 100000 := hev
        obtain ⟨X, hX⟩ : ∃ X, X = w4.heap.size := ⟨_, rfl⟩
        have HXE := Lib.hid hX
        have HXR := Lib.hid (show R < X by have := HX4.out.big; omega)
        have HXB := Lib.hid (show B < X by have := HX4.out.big; have := HX4.out.hR; omega)
        have HXA := Lib.hid (HX4.out.pure ((Below.refl w4.heap.size w4).alloc (Nat.le_refl _) (.cells #[.int .u8 5, .string name, .string ⟨#[]⟩, .int .i64 0] 116)))
        have HXS := Lib.hid (Blk.new w4 116 #[.int .u8 5, .string name, .string ⟨#[]⟩, .int .i64 0])
        rw [← hX] at HXS
        go_upto_region 21 with (fail)
        clear b0 b1 b2 b3 b4 b5 b6 b7 b8 b9 b10 b11 r0 r1 r2 r3 r4 r5 r6 r7 r8 r9 r10 r11 q0 q1 q2 q3 q4 q5 q6 q7 q8 q9 q10 q11 p0 p1 p2 p3 p4 p5 p6 p7 p8 p9 p10 p11
        rw [← hX]
        clear hX
        generalize w4.alloc (.cells #[.int .u8 5, .string name, .string ⟨#[]⟩, .int .i64 0] 116) = wA at *
        have HOA := Lib.hid HXA.out.rat.oO.1
        have c9 : wA.cell? ⟨B, 9, none⟩ = some (.slice f.AO st.opn.length f.cO) := HXA.out.blk.cell 9
        have hz1 : 0 + st.opn.length ≤ maxLen := by unfold maxLen; omega
        have hz2 : (0 + st.opn.length) * 48 ≤ 140737488355328 := by omega
        have hz3 : st.opn.length + 1 ≤ maxLen := by unfold maxLen; omega
        have hz4 : (st.opn.length + 1) * 48 ≤ 140737488355328 := by omega
        go_upto_region 24 with (first | (at_builtin; refine wp_appn rfl (.tmp 87) (.tmp 89) _ rfl 116 4 48 _ Try.underlying71 info_sm rfl (by decide) wA.heap.size (.slice none 0 0) 0 [] rfl (World.ownsRow_nil _ _ _ _) 0 (.slice f.AO st.opn.length f.cO) st.opn.length (svals4 st.opn) rfl HOA.out (one_sms _) hz1 hz2 (Nat.le_refl _) ?_; intro P2 cap2 wc hown2 hgrow2 hat2; simp only [Nat.zero_add, List.nil_append] at hown2 hat2; rw [Nat.zero_add]; have ht2 := Tur.of_grown hgrow2; have HBc2 := Lib.hid (ht2.below wA.heap.size (Nat.le_refl _) (fun q hq h => by cases h)); have HXSc2 := Lib.hid (below_blk HXS.out HBc2.out HXS.out.lt); have HO2 := Lib.hid hown2; have HAT2 := Lib.hid hat2; have hbs2 : wA.heap.size ≤ wc.heap.size := ht2.size; obtain ⟨x0, x1, x2, x3⟩ := sm_cells HXSc2.out; clear c9 hown2 hgrow2 hat2 ht2 hz1 hz2) | (at_builtin; refine wp_app1_at rfl (.tmp 91) (.tmp 93) _ rfl 116 4 48 _ Try.underlying71 info_sm rfl (by decide) wA.heap.size (.slice P2 st.opn.length cap2) st.opn.length _ rfl HO2.out [.int .u8 5, .string name, .string ⟨#[]⟩, .int .i64 0] wc.heap.size rfl rfl rfl one_sm4 hz3 hz4 hbs2 ?_; intro g3 cap3 wd hlc3 hcm3 hown3 hgrow3 hat3; have HBd2 := Lib.hid (HBc2.out.trans ((Tur.of_grown hgrow3).below wA.heap.size hbs2 (fun q hq h => by rcases HAT2.out q h.symm with h | h; cases h; omega))); have HXd2 := Lib.hid (HXA.out.pure HBd2.out); have y9 := HXd2.out.blk.free 9; have y9c := HXd2.out.blk.cell 9; rw [show (fcells f st)[9]? = some (.slice f.AO st.opn.length f.cO) from rfl] at y9c; have HO3 := Lib.hid hown3; clear x0 x1 x2 x3 hown3 hgrow3 hat3 hz3 hz4))
        obtain ⟨ln, hln⟩ : ∃ ln, ln = st.opn ++ [(⟨5, name, ⟨#[]⟩, 0⟩ : RSm)] := ⟨_, rfl⟩
        have hlz : st.opn.length + 1 = ln.length := by rw [hln]; simp
        have HO4 : Hid (wd.ownsRow wA.heap.size 116 4 (.slice (some ⟨g3, 0, none⟩) ln.length cap3) ln.length (svals4 ln)) := by unfold Hid; rw [← hlz, hln, ← svals4_snoc]; exact HO3.out
        have HX6 := Lib.hid (HXA.out.setO HBd2.out HO4.out (by omega))
        rw [hlz]
        obtain ⟨f6, hf6⟩ : ∃ x, x = { f with AO := some ⟨g3, 0, none⟩, cO := cap3 } := ⟨_, rfl⟩
        obtain ⟨st6, hst6⟩ : ∃ x, x = { st with opn := ln } := ⟨_, rfl⟩
        rw [← hf6, ← hst6] at HX6
        have hev6 : st6.events.length ≤ 100000 := by rw [hst6]; exact hev5
        have HE1 : Hid (o = ({ st6 with events := st6.events ++ [⟨1, 5, name, ⟨#[]⟩, 0⟩] }, 0)) := by unfold Hid; rw [HE0.out, hst6, hln]
        clear y9 y9c hf6 hst6 hln hlz
        generalize wd.setCell ⟨B, 9, none⟩ (.slice (some ⟨g3, 0, none⟩) ln.length cap3) = w6 at *
        obtain ⟨⟨b0, b1, b2, b3, b4, b5, b6, b7, b8, b9, b10, b11⟩, p0, p1, p2, p3, p4, p5, p6, p7, p8, p9, p10, p11⟩ := HX6.out.blk.twelve
        obtain ⟨⟨r0, r1, r2, r3, r4, r5, r6, r7, r8, r9, r10, r11⟩, q0, q1, q2, q3, q4, q5, q6, q7, q8, q9, q10, q11⟩ := HX6.out.res.twelve
        go_wp2_with fail
        obtain ⟨st7, hst7⟩ : ∃ s, s = { st6 with events := st6.events ++ [(⟨1, 5, name, ⟨#[]⟩, 0⟩ : Ev)] } := ⟨_, rfl⟩
        have HE := HE1
        have HEV := fw_event HX6.out.rat ⟨1, 5, name, ⟨#[]⟩, 0⟩ hev6
        rw [← hst7] at HEV HE
        clear hst7
        refine HEV.mono ?_
        rintro e w7 ⟨f7, rfl, hr7, hb7⟩
        have HX7 := Lib.hid (HX6.out.pure hb7)
        have HR7 := Lib.hid hr7
        have HB7 := Lib.hid hb7
        clear b0 b1 b2 b3 b4 b5 b6 b7 b8 b9 b10 b11 r0 r1 r2 r3 r4 r5 r6 r7 r8 r9 r10 r11 q0 q1 q2 q3 q4 q5 q6 q7 q8 q9 q10 q11 p0 p1 p2 p3 p4 p5 p6 p7 p8 p9 p10 p11
        clear HEV hr7 hb7
        obtain ⟨⟨r0, r1, r2, r3, r4, r5, r6, r7, r8, r9, r10, r11⟩, q0, q1, q2, q3, q4, q5, q6, q7, q8, q9, q10, q11⟩ := HX7.out.res.twelve
        unfold fcells
        go_wp2_with fail
        clear r0 r1 r2 r3 r4 r5 r6 r7 r8 r9 r10 r11 q0 q1 q2 q3 q4 q5 q6 q7 q8 q9 q10 q11
        have HD := Lib.hid (HX6.out.done (wj := w7) (f' := f7) (st' := st7) HB7.out HR7.out)
        generalize ((((((((((((w7.setCell ⟨R, 0, none⟩ (.slice f7.A0 f7.n0 f7.c0)).setCell ⟨R, 1, none⟩ (.string st7.stdin)).setCell ⟨R, 2, none⟩ (.slice f7.A2 st7.replies.length f7.c2)).setCell ⟨R, 3, none⟩ (.slice f7.A3 st7.fails.length f7.c3)).setCell ⟨R, 4, none⟩ (.int .i64 st7.lim)).setCell ⟨R, 5, none⟩ (.int .i64 st7.clock)).setCell ⟨R, 6, none⟩ (.int .u64 st7.ch)).setCell ⟨R, 7, none⟩ (.slice f7.AF st7.files.length f7.cF)).setCell ⟨R, 8, none⟩ (.int .i64 st7.taken)).setCell ⟨R, 9, none⟩ (.slice f7.AO st7.opn.length f7.cO)).setCell ⟨R, 10, none⟩ (.int .u64 st7.num)).setCell ⟨R, 11, none⟩ (.slice f7.AE st7.events.length f7.cE)) = w99 at *
        obtain ⟨⟨x0, x1, x2, x3, x4, x5, x6, x7, x8, x9, x10, x11⟩, -⟩ := HD.out.1.twelve
        refine bodyPost_ret (v := .tuple #[.agg #[.slice f7.A0 f7.n0 f7.c0, .string st7.stdin, .slice f7.A2 st7.replies.length f7.c2, .slice f7.A3 st7.fails.length f7.c3, .int .i64 st7.lim, .int .i64 st7.clock, .int .u64 st7.ch, .slice f7.AF st7.files.length f7.cF, .int .i64 st7.taken, .slice f7.AO st7.opn.length f7.cO, .int .u64 st7.num, .slice f7.AE st7.events.length f7.cE], .int .i64 0]) (by simp [results, Try.results44, go_sem, x0, x1, x2, x3, x4, x5, x6, x7, x8, x9, x10, x11]) rfl (by rw [HE.out]; exact ⟨f7, rfl, HD.out.2.1, HD.out.2.2⟩)
end
end Go.Proofs.Ytodjjnklelfgfaa
