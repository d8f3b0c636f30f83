/- The document's world: Opened, by kinds. -/
import Derived.Test.YtdbdmgmenojcaaaDoorG7
import Derived.Test.YtdbdmgmenojcaaaDoorG14
set_option linter.unusedVariables false
set_option linter.unusedSimpArgs false
namespace Go.Proofs.YtdbdmgmenojcaaaDoor
open Go.RowKit Wd
section
variable {K : Nat → Prop} {w : World} {f : Fm} {st : RSt}
set_option maxRecDepth 100000 in
set_option maxHeartbeats 4000000 in
theorem fw_open_no (h : RF K w f st) (k : Int) (name : ByteArray) (hk : k < 1 ∨ 5 < k) :
    Calls Tryd.prog 36 #[.agg (fcells f st), .int .u8 k, .string name] w (WrPost K w (openD st k name).1 (openD st k name).2) := by
  obtain ⟨o, ho⟩ : ∃ o, o = openD st k name := ⟨_, rfl⟩
  rw [← ho]
  have HE : Hid (o = (st, 2)) := by unfold Hid; rw [ho]; unfold openD; rw [if_pos hk]
  clear ho
  have hk' : k < 1 ∨ (¬ k < 1 ∧ 5 < k) := by omega
  clear hk
  rcases hk' with hk | ⟨hk, hk5⟩
  all_goals
    have HX0 := Lib.hid (RW.start h)
    have HRF := Lib.hid h
    clear h
    go_enter Tryd.func36, Tryd.ntmps36
    go_upto_region 1 with (fail)
    obtain ⟨B, hB⟩ : ∃ B, B = w.heap.size := ⟨_, rfl⟩
    rw [← hB] at HX0 ⊢
    obtain ⟨R, hR⟩ : ∃ R, R = B + 1 := ⟨_, rfl⟩
    rw [← hR] at HX0 ⊢
    clear hB hR
    generalize (w.alloc (.cells (fcells f st) 46)).alloc (.cells #[.slice none 0 0, .string ⟨#[]⟩, .slice none 0 0, .slice none 0 0, .int .i64 0, .int .i64 0, .int .u64 0, .slice none 0 0, .int .i64 0, .slice none 0 0, .int .u64 0, .slice none 0 0] 46) = w1 at *
    obtain ⟨⟨b0, b1, b2, b3, b4, b5, b6, b7, b8, b9, b10, b11⟩, p0, p1, p2, p3, p4, p5, p6, p7, p8, p9, p10, p11⟩ := HX0.out.blk.twelve
    obtain ⟨⟨r0, r1, r2, r3, r4, r5, r6, r7, r8, r9, r10, r11⟩, q0, q1, q2, q3, q4, q5, q6, q7, q8, q9, q10, q11⟩ := HX0.out.res.twelve
    go_wp2_with fail
    clear b0 b1 b2 b3 b4 b5 b6 b7 b8 b9 b10 b11 r0 r1 r2 r3 r4 r5 r6 r7 r8 r9 r10 r11 q0 q1 q2 q3 q4 q5 q6 q7 q8 q9 q10 q11 p0 p1 p2 p3 p4 p5 p6 p7 p8 p9 p10 p11
    have HD := Lib.hid (HX0.out.done (wj := w1) (f' := f) (st' := st) (Below.refl _ _) HX0.out.same)
    generalize ((((((((((((w1.setCell ⟨R, 0, none⟩ (.slice f.A0 f.n0 f.c0)).setCell ⟨R, 1, none⟩ (.string st.stdin)).setCell ⟨R, 2, none⟩ (.slice f.A2 st.replies.length f.c2)).setCell ⟨R, 3, none⟩ (.slice f.A3 st.fails.length f.c3)).setCell ⟨R, 4, none⟩ (.int .i64 st.lim)).setCell ⟨R, 5, none⟩ (.int .i64 st.clock)).setCell ⟨R, 6, none⟩ (.int .u64 st.ch)).setCell ⟨R, 7, none⟩ (.slice f.AF st.files.length f.cF)).setCell ⟨R, 8, none⟩ (.int .i64 st.taken)).setCell ⟨R, 9, none⟩ (.slice f.AO st.opn.length f.cO)).setCell ⟨R, 10, none⟩ (.int .u64 st.num)).setCell ⟨R, 11, none⟩ (.slice f.AE st.events.length f.cE)) = w99 at *
    obtain ⟨⟨x0, x1, x2, x3, x4, x5, x6, x7, x8, x9, x10, x11⟩, -⟩ := HD.out.1.twelve
    refine bodyPost_ret (v := .tuple #[.agg #[.slice f.A0 f.n0 f.c0, .string st.stdin, .slice f.A2 st.replies.length f.c2, .slice f.A3 st.fails.length f.c3, .int .i64 st.lim, .int .i64 st.clock, .int .u64 st.ch, .slice f.AF st.files.length f.cF, .int .i64 st.taken, .slice f.AO st.opn.length f.cO, .int .u64 st.num, .slice f.AE st.events.length f.cE], .int .i64 2]) (by simp [results, Tryd.results36, go_sem, x0, x1, x2, x3, x4, x5, x6, x7, x8, x9, x10, x11]) rfl (by rw [HE.out]; exact ⟨f, rfl, HD.out.2.1, HD.out.2.2⟩)
set_option maxRecDepth 100000 in
set_option maxHeartbeats 4000000 in
theorem fw_open_1 (h : RF K w f st) (name : ByteArray) (hev : st.events.length ≤ 100000) (hop : st.opn.length ≤ 100000) (hfil : st.files.length ≤ 100000) :
    Calls Tryd.prog 36 #[.agg (fcells f st), .int .u8 1, .string name] w (WrPost K w (openD st 1 name).1 (openD st 1 name).2) := by
  obtain ⟨o, ho⟩ : ∃ o, o = openD st 1 name := ⟨_, rfl⟩
  rw [← ho]
  have HO := Lib.hid ho
  clear ho
  have HX0 := Lib.hid (RW.start h)
  have HRF := Lib.hid h
  clear h
  go_enter Tryd.func36, Tryd.ntmps36
  go_upto_region 1 with (fail)
  obtain ⟨B, hB⟩ : ∃ B, B = w.heap.size := ⟨_, rfl⟩
  rw [← hB] at HX0 ⊢
  obtain ⟨R, hR⟩ : ∃ R, R = B + 1 := ⟨_, rfl⟩
  rw [← hR] at HX0 ⊢
  clear hB hR
  generalize (w.alloc (.cells (fcells f st) 46)).alloc (.cells #[.slice none 0 0, .string ⟨#[]⟩, .slice none 0 0, .slice none 0 0, .int .i64 0, .int .i64 0, .int .u64 0, .slice none 0 0, .int .i64 0, .slice none 0 0, .int .u64 0, .slice none 0 0] 46) = w1 at *
  obtain ⟨⟨b0, b1, b2, b3, b4, b5, b6, b7, b8, b9, b10, b11⟩, p0, p1, p2, p3, p4, p5, p6, p7, p8, p9, p10, p11⟩ := HX0.out.blk.twelve
  obtain ⟨⟨r0, r1, r2, r3, r4, r5, r6, r7, r8, r9, r10, r11⟩, q0, q1, q2, q3, q4, q5, q6, q7, q8, q9, q10, q11⟩ := HX0.out.res.twelve
  go_wp2_with fail
  refine (fw_find HX0.out.rat 1 name).mono ?_
  rintro e w2 ⟨rfl, hb2⟩
  have HX2 := Lib.hid (HX0.out.pure hb2)
  clear b0 b1 b2 b3 b4 b5 b6 b7 b8 b9 b10 b11 r0 r1 r2 r3 r4 r5 r6 r7 r8 r9 r10 r11 q0 q1 q2 q3 q4 q5 q6 q7 q8 q9 q10 q11 p0 p1 p2 p3 p4 p5 p6 p7 p8 p9 p10 p11
  clear hb2
  obtain ⟨⟨b0, b1, b2, b3, b4, b5, b6, b7, b8, b9, b10, b11⟩, p0, p1, p2, p3, p4, p5, p6, p7, p8, p9, p10, p11⟩ := HX2.out.blk.twelve
  obtain ⟨⟨r0, r1, r2, r3, r4, r5, r6, r7, r8, r9, r10, r11⟩, q0, q1, q2, q3, q4, q5, q6, q7, q8, q9, q10, q11⟩ := HX2.out.res.twelve
  cases hf : findF st 1 name
  rotate_left
  · rename_i ix
    have HE : Hid (o = (st, 0)) := by unfold Hid; rw [HO.out]; unfold openD; rw [if_neg (by decide), hf, if_pos (show (some ix).isSome = true from rfl)]
    clear hf
    rw [show ixV (some ix) = (ix : Int) from rfl]
    have hix : (0 : Int) ≤ (ix : Int) := by omega
    go_wp2_with fail
    clear b0 b1 b2 b3 b4 b5 b6 b7 b8 b9 b10 b11 r0 r1 r2 r3 r4 r5 r6 r7 r8 r9 r10 r11 q0 q1 q2 q3 q4 q5 q6 q7 q8 q9 q10 q11 p0 p1 p2 p3 p4 p5 p6 p7 p8 p9 p10 p11
    have HD := Lib.hid (HX2.out.done (wj := w2) (f' := f) (st' := st) (Below.refl _ _) HX2.out.same)
    generalize ((((((((((((w2.setCell ⟨R, 0, none⟩ (.slice f.A0 f.n0 f.c0)).setCell ⟨R, 1, none⟩ (.string st.stdin)).setCell ⟨R, 2, none⟩ (.slice f.A2 st.replies.length f.c2)).setCell ⟨R, 3, none⟩ (.slice f.A3 st.fails.length f.c3)).setCell ⟨R, 4, none⟩ (.int .i64 st.lim)).setCell ⟨R, 5, none⟩ (.int .i64 st.clock)).setCell ⟨R, 6, none⟩ (.int .u64 st.ch)).setCell ⟨R, 7, none⟩ (.slice f.AF st.files.length f.cF)).setCell ⟨R, 8, none⟩ (.int .i64 st.taken)).setCell ⟨R, 9, none⟩ (.slice f.AO st.opn.length f.cO)).setCell ⟨R, 10, none⟩ (.int .u64 st.num)).setCell ⟨R, 11, none⟩ (.slice f.AE st.events.length f.cE)) = w99 at *
    obtain ⟨⟨x0, x1, x2, x3, x4, x5, x6, x7, x8, x9, x10, x11⟩, -⟩ := HD.out.1.twelve
    refine bodyPost_ret (v := .tuple #[.agg #[.slice f.A0 f.n0 f.c0, .string st.stdin, .slice f.A2 st.replies.length f.c2, .slice f.A3 st.fails.length f.c3, .int .i64 st.lim, .int .i64 st.clock, .int .u64 st.ch, .slice f.AF st.files.length f.cF, .int .i64 st.taken, .slice f.AO st.opn.length f.cO, .int .u64 st.num, .slice f.AE st.events.length f.cE], .int .i64 0]) (by simp [results, Tryd.results36, go_sem, x0, x1, x2, x3, x4, x5, x6, x7, x8, x9, x10, x11]) rfl (by rw [HE.out]; exact ⟨f, rfl, HD.out.2.1, HD.out.2.2⟩)
  · have HFND := Lib.hid hf
    clear hf
    rw [show ixV none = -1 from rfl]
    by_cases hlim : st.lim ≤ st.opn.length
    · have HE : Hid (o = (st, 15)) := by unfold Hid; rw [HO.out]; unfold openD; rw [if_neg (by decide), HFND.out, if_neg (by decide), if_pos hlim]
      go_wp2_with fail
      clear b0 b1 b2 b3 b4 b5 b6 b7 b8 b9 b10 b11 r0 r1 r2 r3 r4 r5 r6 r7 r8 r9 r10 r11 q0 q1 q2 q3 q4 q5 q6 q7 q8 q9 q10 q11 p0 p1 p2 p3 p4 p5 p6 p7 p8 p9 p10 p11
      have HD := Lib.hid (HX2.out.done (wj := w2) (f' := f) (st' := st) (Below.refl _ _) HX2.out.same)
      generalize ((((((((((((w2.setCell ⟨R, 0, none⟩ (.slice f.A0 f.n0 f.c0)).setCell ⟨R, 1, none⟩ (.string st.stdin)).setCell ⟨R, 2, none⟩ (.slice f.A2 st.replies.length f.c2)).setCell ⟨R, 3, none⟩ (.slice f.A3 st.fails.length f.c3)).setCell ⟨R, 4, none⟩ (.int .i64 st.lim)).setCell ⟨R, 5, none⟩ (.int .i64 st.clock)).setCell ⟨R, 6, none⟩ (.int .u64 st.ch)).setCell ⟨R, 7, none⟩ (.slice f.AF st.files.length f.cF)).setCell ⟨R, 8, none⟩ (.int .i64 st.taken)).setCell ⟨R, 9, none⟩ (.slice f.AO st.opn.length f.cO)).setCell ⟨R, 10, none⟩ (.int .u64 st.num)).setCell ⟨R, 11, none⟩ (.slice f.AE st.events.length f.cE)) = w99 at *
      obtain ⟨⟨x0, x1, x2, x3, x4, x5, x6, x7, x8, x9, x10, x11⟩, -⟩ := HD.out.1.twelve
      refine bodyPost_ret (v := .tuple #[.agg #[.slice f.A0 f.n0 f.c0, .string st.stdin, .slice f.A2 st.replies.length f.c2, .slice f.A3 st.fails.length f.c3, .int .i64 st.lim, .int .i64 st.clock, .int .u64 st.ch, .slice f.AF st.files.length f.cF, .int .i64 st.taken, .slice f.AO st.opn.length f.cO, .int .u64 st.num, .slice f.AE st.events.length f.cE], .int .i64 15]) (by simp [results, Tryd.results36, go_sem, x0, x1, x2, x3, x4, x5, x6, x7, x8, x9, x10, x11]) rfl (by rw [HE.out]; exact ⟨f, rfl, HD.out.2.1, HD.out.2.2⟩)
    · have HLIM := Lib.hid hlim
      obtain ⟨was, hwas⟩ : ∃ was, was = ((fileF st name).getD (⟨#[]⟩, ⟨#[]⟩)).2 := ⟨_, rfl⟩
      obtain ⟨there, hthere⟩ : ∃ there, there = (fileF st name).isSome := ⟨_, rfl⟩
      have HFI := Lib.hid (fw_file HX2.out.rat name)
      rw [← hwas, ← hthere] at HFI
      have HWAS := Lib.hid hwas
      have HTH := Lib.hid hthere
      clear hwas hthere
      go_wp2_with fail
      refine HFI.out.mono ?_
      rintro e w3 ⟨rfl, hb3⟩
      have HX3 := Lib.hid (HX2.out.pure hb3)
      clear b0 b1 b2 b3 b4 b5 b6 b7 b8 b9 b10 b11 r0 r1 r2 r3 r4 r5 r6 r7 r8 r9 r10 r11 q0 q1 q2 q3 q4 q5 q6 q7 q8 q9 q10 q11 p0 p1 p2 p3 p4 p5 p6 p7 p8 p9 p10 p11
      clear hb3 HFI hlim
      obtain ⟨⟨b0, b1, b2, b3, b4, b5, b6, b7, b8, b9, b10, b11⟩, p0, p1, p2, p3, p4, p5, p6, p7, p8, p9, p10, p11⟩ := HX3.out.blk.twelve
      obtain ⟨⟨r0, r1, r2, r3, r4, r5, r6, r7, r8, r9, r10, r11⟩, q0, q1, q2, q3, q4, q5, q6, q7, q8, q9, q10, q11⟩ := HX3.out.res.twelve
      go_wp2_with fail
      refine (fw_fails HX3.out.rat 1 name).mono ?_
      rintro e w4 ⟨rfl, hb4⟩
      have HX4 := Lib.hid (HX3.out.pure hb4)
      clear b0 b1 b2 b3 b4 b5 b6 b7 b8 b9 b10 b11 r0 r1 r2 r3 r4 r5 r6 r7 r8 r9 r10 r11 q0 q1 q2 q3 q4 q5 q6 q7 q8 q9 q10 q11 p0 p1 p2 p3 p4 p5 p6 p7 p8 p9 p10 p11
      clear hb4
      obtain ⟨⟨b0, b1, b2, b3, b4, b5, b6, b7, b8, b9, b10, b11⟩, p0, p1, p2, p3, p4, p5, p6, p7, p8, p9, p10, p11⟩ := HX4.out.blk.twelve
      obtain ⟨⟨r0, r1, r2, r3, r4, r5, r6, r7, r8, r9, r10, r11⟩, q0, q1, q2, q3, q4, q5, q6, q7, q8, q9, q10, q11⟩ := HX4.out.res.twelve
      cases hfl : st.fails.any (isFl 1 name)
      rotate_left
      · have HE : Hid (o = (st, 12)) := by unfold Hid; rw [HO.out]; unfold openD; rw [if_neg (by decide), HFND.out, if_neg (by decide), if_neg (by have := HLIM.out; omega), if_pos (.inl hfl)]
        clear hfl
        go_wp2_with fail
        clear b0 b1 b2 b3 b4 b5 b6 b7 b8 b9 b10 b11 r0 r1 r2 r3 r4 r5 r6 r7 r8 r9 r10 r11 q0 q1 q2 q3 q4 q5 q6 q7 q8 q9 q10 q11 p0 p1 p2 p3 p4 p5 p6 p7 p8 p9 p10 p11
        have HD := Lib.hid (HX4.out.done (wj := w4) (f' := f) (st' := st) (Below.refl _ _) HX4.out.same)
        generalize ((((((((((((w4.setCell ⟨R, 0, none⟩ (.slice f.A0 f.n0 f.c0)).setCell ⟨R, 1, none⟩ (.string st.stdin)).setCell ⟨R, 2, none⟩ (.slice f.A2 st.replies.length f.c2)).setCell ⟨R, 3, none⟩ (.slice f.A3 st.fails.length f.c3)).setCell ⟨R, 4, none⟩ (.int .i64 st.lim)).setCell ⟨R, 5, none⟩ (.int .i64 st.clock)).setCell ⟨R, 6, none⟩ (.int .u64 st.ch)).setCell ⟨R, 7, none⟩ (.slice f.AF st.files.length f.cF)).setCell ⟨R, 8, none⟩ (.int .i64 st.taken)).setCell ⟨R, 9, none⟩ (.slice f.AO st.opn.length f.cO)).setCell ⟨R, 10, none⟩ (.int .u64 st.num)).setCell ⟨R, 11, none⟩ (.slice f.AE st.events.length f.cE)) = w99 at *
        obtain ⟨⟨x0, x1, x2, x3, x4, x5, x6, x7, x8, x9, x10, x11⟩, -⟩ := HD.out.1.twelve
        refine bodyPost_ret (v := .tuple #[.agg #[.slice f.A0 f.n0 f.c0, .string st.stdin, .slice f.A2 st.replies.length f.c2, .slice f.A3 st.fails.length f.c3, .int .i64 st.lim, .int .i64 st.clock, .int .u64 st.ch, .slice f.AF st.files.length f.cF, .int .i64 st.taken, .slice f.AO st.opn.length f.cO, .int .u64 st.num, .slice f.AE st.events.length f.cE], .int .i64 12]) (by simp [results, Tryd.results36, go_sem, x0, x1, x2, x3, x4, x5, x6, x7, x8, x9, x10, x11]) rfl (by rw [HE.out]; exact ⟨f, rfl, HD.out.2.1, HD.out.2.2⟩)
      · have HFL := Lib.hid hfl
        clear hfl
        by_cases hmi : name = minus
        · have HMI := Lib.hid hmi
          have emi : (name.toList == [45]) = true := by rw [← minus_list, str_eq]; exact decide_eq_true HMI.out
          have emi2 : (name.toList != [45]) = false := by rw [bne, emi]; rfl
          clear hmi
          have HE0 : Hid (o = ({ st with opn := st.opn ++ [⟨1, name, was, 0⟩], events := st.events ++ [⟨1, 1, name, ⟨#[]⟩, 0⟩] }, 0)) := by unfold Hid; rw [HO.out]; unfold openD; rw [if_neg (by decide), HFND.out, if_neg (by decide), if_neg (by have := HLIM.out; omega), if_neg (by rintro (h | ⟨h, h2, h3⟩); rw [HFL.out] at h; cases h; exact h2 HMI.out), HWAS.out]; rfl
          have hop5 : st.opn.length ≤ 100000 := hop
          have hev5 : st.events.length ≤ 100000 := hev
          obtain ⟨X, hX⟩ : ∃ X, X = w4.heap.size := ⟨_, rfl⟩
          have HXE := Lib.hid hX
          have HXR := Lib.hid (show R < X by have := HX4.out.big; omega)
          have HXB := Lib.hid (show B < X by have := HX4.out.big; have := HX4.out.hR; omega)
          have HXA := Lib.hid (HX4.out.pure ((Below.refl w4.heap.size w4).alloc (Nat.le_refl _) (.cells #[.int .u8 1, .string name, .string was, .int .i64 0] 114)))
          have HXS := Lib.hid (Blk.new w4 114 #[.int .u8 1, .string name, .string was, .int .i64 0])
          rw [← hX] at HXS
          go_upto_region 21 with (fail)
          clear b0 b1 b2 b3 b4 b5 b6 b7 b8 b9 b10 b11 r0 r1 r2 r3 r4 r5 r6 r7 r8 r9 r10 r11 q0 q1 q2 q3 q4 q5 q6 q7 q8 q9 q10 q11 p0 p1 p2 p3 p4 p5 p6 p7 p8 p9 p10 p11
          rw [← hX]
          clear hX
          generalize w4.alloc (.cells #[.int .u8 1, .string name, .string was, .int .i64 0] 114) = wA at *
          have HOA := Lib.hid HXA.out.rat.oO.1
          have c9 : wA.cell? ⟨B, 9, none⟩ = some (.slice f.AO st.opn.length f.cO) := HXA.out.blk.cell 9
          have hz1 : 0 + st.opn.length ≤ maxLen := by unfold maxLen; omega
          have hz2 : (0 + st.opn.length) * 48 ≤ 140737488355328 := by omega
          have hz3 : st.opn.length + 1 ≤ maxLen := by unfold maxLen; omega
          have hz4 : (st.opn.length + 1) * 48 ≤ 140737488355328 := by omega
          go_upto_region 24 with (first | (at_builtin; refine wp_appn rfl (.tmp 87) (.tmp 89) _ rfl 114 4 48 _ Tryd.underlying43 info_sm rfl (by decide) wA.heap.size (.slice none 0 0) 0 [] rfl (World.ownsRow_nil _ _ _ _) 0 (.slice f.AO st.opn.length f.cO) st.opn.length (svals4 st.opn) rfl HOA.out (one_sms _) hz1 hz2 (Nat.le_refl _) ?_; intro P2 cap2 wc hown2 hgrow2 hat2; simp only [Nat.zero_add, List.nil_append] at hown2 hat2; rw [Nat.zero_add]; have ht2 := Tur.of_grown hgrow2; have HBc2 := Lib.hid (ht2.below wA.heap.size (Nat.le_refl _) (fun q hq h => by cases h)); have HXSc2 := Lib.hid (below_blk HXS.out HBc2.out HXS.out.lt); have HO2 := Lib.hid hown2; have HAT2 := Lib.hid hat2; have hbs2 : wA.heap.size ≤ wc.heap.size := ht2.size; obtain ⟨x0, x1, x2, x3⟩ := sm_cells HXSc2.out; clear c9 hown2 hgrow2 hat2 ht2 hz1 hz2) | (at_builtin; refine wp_app1_at rfl (.tmp 91) (.tmp 93) _ rfl 114 4 48 _ Tryd.underlying43 info_sm rfl (by decide) wA.heap.size (.slice P2 st.opn.length cap2) st.opn.length _ rfl HO2.out [.int .u8 1, .string name, .string was, .int .i64 0] wc.heap.size rfl rfl rfl one_sm4 hz3 hz4 hbs2 ?_; intro g3 cap3 wd hlc3 hcm3 hown3 hgrow3 hat3; have HBd2 := Lib.hid (HBc2.out.trans ((Tur.of_grown hgrow3).below wA.heap.size hbs2 (fun q hq h => by rcases HAT2.out q h.symm with h | h; cases h; omega))); have HXd2 := Lib.hid (HXA.out.pure HBd2.out); have y9 := HXd2.out.blk.free 9; have y9c := HXd2.out.blk.cell 9; rw [show (fcells f st)[9]? = some (.slice f.AO st.opn.length f.cO) from rfl] at y9c; have HO3 := Lib.hid hown3; clear x0 x1 x2 x3 hown3 hgrow3 hat3 hz3 hz4))
          obtain ⟨ln, hln⟩ : ∃ ln, ln = st.opn ++ [(⟨1, name, was, 0⟩ : RSm)] := ⟨_, rfl⟩
          have hlz : st.opn.length + 1 = ln.length := by rw [hln]; simp
          have HO4 : Hid (wd.ownsRow wA.heap.size 114 4 (.slice (some ⟨g3, 0, none⟩) ln.length cap3) ln.length (svals4 ln)) := by unfold Hid; rw [← hlz, hln, ← svals4_snoc]; exact HO3.out
          have HX6 := Lib.hid (HXA.out.setO HBd2.out HO4.out (by omega))
          rw [hlz]
          obtain ⟨f6, hf6⟩ : ∃ x, x = { f with AO := some ⟨g3, 0, none⟩, cO := cap3 } := ⟨_, rfl⟩
          obtain ⟨st6, hst6⟩ : ∃ x, x = { st with opn := ln } := ⟨_, rfl⟩
          rw [← hf6, ← hst6] at HX6
          have hev6 : st6.events.length ≤ 100000 := by rw [hst6]; exact hev5
          have HE1 : Hid (o = ({ st6 with events := st6.events ++ [⟨1, 1, name, ⟨#[]⟩, 0⟩] }, 0)) := by unfold Hid; rw [HE0.out, hst6, hln]
          clear y9 y9c hf6 hst6 hln hlz
          generalize wd.setCell ⟨B, 9, none⟩ (.slice (some ⟨g3, 0, none⟩) ln.length cap3) = w6 at *
          obtain ⟨⟨b0, b1, b2, b3, b4, b5, b6, b7, b8, b9, b10, b11⟩, p0, p1, p2, p3, p4, p5, p6, p7, p8, p9, p10, p11⟩ := HX6.out.blk.twelve
          obtain ⟨⟨r0, r1, r2, r3, r4, r5, r6, r7, r8, r9, r10, r11⟩, q0, q1, q2, q3, q4, q5, q6, q7, q8, q9, q10, q11⟩ := HX6.out.res.twelve
          go_wp2_with fail
          obtain ⟨st7, hst7⟩ : ∃ s, s = { st6 with events := st6.events ++ [(⟨1, 1, name, ⟨#[]⟩, 0⟩ : Ev)] } := ⟨_, rfl⟩
          have HE := HE1
          have HEV := fw_event HX6.out.rat ⟨1, 1, name, ⟨#[]⟩, 0⟩ hev6
          rw [← hst7] at HEV HE
          clear hst7
          refine HEV.mono ?_
          rintro e w7 ⟨f7, rfl, hr7, hb7⟩
          have HX7 := Lib.hid (HX6.out.pure hb7)
          have HR7 := Lib.hid hr7
          have HB7 := Lib.hid hb7
          clear b0 b1 b2 b3 b4 b5 b6 b7 b8 b9 b10 b11 r0 r1 r2 r3 r4 r5 r6 r7 r8 r9 r10 r11 q0 q1 q2 q3 q4 q5 q6 q7 q8 q9 q10 q11 p0 p1 p2 p3 p4 p5 p6 p7 p8 p9 p10 p11
          clear HEV hr7 hb7
          obtain ⟨⟨r0, r1, r2, r3, r4, r5, r6, r7, r8, r9, r10, r11⟩, q0, q1, q2, q3, q4, q5, q6, q7, q8, q9, q10, q11⟩ := HX7.out.res.twelve
          unfold fcells
          go_wp2_with fail
          clear r0 r1 r2 r3 r4 r5 r6 r7 r8 r9 r10 r11 q0 q1 q2 q3 q4 q5 q6 q7 q8 q9 q10 q11
          have HD := Lib.hid (HX6.out.done (wj := w7) (f' := f7) (st' := st7) HB7.out HR7.out)
          generalize ((((((((((((w7.setCell ⟨R, 0, none⟩ (.slice f7.A0 f7.n0 f7.c0)).setCell ⟨R, 1, none⟩ (.string st7.stdin)).setCell ⟨R, 2, none⟩ (.slice f7.A2 st7.replies.length f7.c2)).setCell ⟨R, 3, none⟩ (.slice f7.A3 st7.fails.length f7.c3)).setCell ⟨R, 4, none⟩ (.int .i64 st7.lim)).setCell ⟨R, 5, none⟩ (.int .i64 st7.clock)).setCell ⟨R, 6, none⟩ (.int .u64 st7.ch)).setCell ⟨R, 7, none⟩ (.slice f7.AF st7.files.length f7.cF)).setCell ⟨R, 8, none⟩ (.int .i64 st7.taken)).setCell ⟨R, 9, none⟩ (.slice f7.AO st7.opn.length f7.cO)).setCell ⟨R, 10, none⟩ (.int .u64 st7.num)).setCell ⟨R, 11, none⟩ (.slice f7.AE st7.events.length f7.cE)) = w99 at *
          obtain ⟨⟨x0, x1, x2, x3, x4, x5, x6, x7, x8, x9, x10, x11⟩, -⟩ := HD.out.1.twelve
          refine bodyPost_ret (v := .tuple #[.agg #[.slice f7.A0 f7.n0 f7.c0, .string st7.stdin, .slice f7.A2 st7.replies.length f7.c2, .slice f7.A3 st7.fails.length f7.c3, .int .i64 st7.lim, .int .i64 st7.clock, .int .u64 st7.ch, .slice f7.AF st7.files.length f7.cF, .int .i64 st7.taken, .slice f7.AO st7.opn.length f7.cO, .int .u64 st7.num, .slice f7.AE st7.events.length f7.cE], .int .i64 0]) (by simp [results, Tryd.results36, go_sem, x0, x1, x2, x3, x4, x5, x6, x7, x8, x9, x10, x11]) rfl (by rw [HE.out]; exact ⟨f7, rfl, HD.out.2.1, HD.out.2.2⟩)
        · have HMI := Lib.hid hmi
          have emi : (name.toList == [45]) = false := by rw [← minus_list, str_eq]; exact decide_eq_false HMI.out
          have emi2 : (name.toList != [45]) = true := by rw [bne, emi]; rfl
          clear hmi
          cases there
          · have HE : Hid (o = (st, 12)) := by unfold Hid; rw [HO.out]; unfold openD; rw [if_neg (by decide), HFND.out, if_neg (by decide), if_neg (by have := HLIM.out; omega), if_pos (.inr ⟨rfl, HMI.out, HTH.out.symm⟩)]
            go_wp2_with fail
            clear b0 b1 b2 b3 b4 b5 b6 b7 b8 b9 b10 b11 r0 r1 r2 r3 r4 r5 r6 r7 r8 r9 r10 r11 q0 q1 q2 q3 q4 q5 q6 q7 q8 q9 q10 q11 p0 p1 p2 p3 p4 p5 p6 p7 p8 p9 p10 p11
            have HD := Lib.hid (HX4.out.done (wj := w4) (f' := f) (st' := st) (Below.refl _ _) HX4.out.same)
            generalize ((((((((((((w4.setCell ⟨R, 0, none⟩ (.slice f.A0 f.n0 f.c0)).setCell ⟨R, 1, none⟩ (.string st.stdin)).setCell ⟨R, 2, none⟩ (.slice f.A2 st.replies.length f.c2)).setCell ⟨R, 3, none⟩ (.slice f.A3 st.fails.length f.c3)).setCell ⟨R, 4, none⟩ (.int .i64 st.lim)).setCell ⟨R, 5, none⟩ (.int .i64 st.clock)).setCell ⟨R, 6, none⟩ (.int .u64 st.ch)).setCell ⟨R, 7, none⟩ (.slice f.AF st.files.length f.cF)).setCell ⟨R, 8, none⟩ (.int .i64 st.taken)).setCell ⟨R, 9, none⟩ (.slice f.AO st.opn.length f.cO)).setCell ⟨R, 10, none⟩ (.int .u64 st.num)).setCell ⟨R, 11, none⟩ (.slice f.AE st.events.length f.cE)) = w99 at *
            obtain ⟨⟨x0, x1, x2, x3, x4, x5, x6, x7, x8, x9, x10, x11⟩, -⟩ := HD.out.1.twelve
            refine bodyPost_ret (v := .tuple #[.agg #[.slice f.A0 f.n0 f.c0, .string st.stdin, .slice f.A2 st.replies.length f.c2, .slice f.A3 st.fails.length f.c3, .int .i64 st.lim, .int .i64 st.clock, .int .u64 st.ch, .slice f.AF st.files.length f.cF, .int .i64 st.taken, .slice f.AO st.opn.length f.cO, .int .u64 st.num, .slice f.AE st.events.length f.cE], .int .i64 12]) (by simp [results, Tryd.results36, go_sem, x0, x1, x2, x3, x4, x5, x6, x7, x8, x9, x10, x11]) rfl (by rw [HE.out]; exact ⟨f, rfl, HD.out.2.1, HD.out.2.2⟩)
          · have hdummy : True := trivial
            have HE0 : Hid (o = ({ st with opn := st.opn ++ [⟨1, name, was, 0⟩], events := st.events ++ [⟨1, 1, name, ⟨#[]⟩, 0⟩] }, 0)) := by unfold Hid; rw [HO.out]; unfold openD; rw [if_neg (by decide), HFND.out, if_neg (by decide), if_neg (by have := HLIM.out; omega), if_neg (by rintro (h | ⟨h, h2, h3⟩); rw [HFL.out] at h; cases h; rw [← HTH.out] at h3; cases h3), HWAS.out]; rfl
            have hop5 : st.opn.length ≤ 100000 := hop
            have hev5 : st.events.length ≤ 100000 := hev
            obtain ⟨X, hX⟩ : ∃ X, X = w4.heap.size := ⟨_, rfl⟩
            have HXE := Lib.hid hX
            have HXR := Lib.hid (show R < X by have := HX4.out.big; omega)
            have HXB := Lib.hid (show B < X by have := HX4.out.big; have := HX4.out.hR; omega)
            have HXA := Lib.hid (HX4.out.pure ((Below.refl w4.heap.size w4).alloc (Nat.le_refl _) (.cells #[.int .u8 1, .string name, .string was, .int .i64 0] 114)))
            have HXS := Lib.hid (Blk.new w4 114 #[.int .u8 1, .string name, .string was, .int .i64 0])
            rw [← hX] at HXS
            go_upto_region 21 with (fail)
            clear b0 b1 b2 b3 b4 b5 b6 b7 b8 b9 b10 b11 r0 r1 r2 r3 r4 r5 r6 r7 r8 r9 r10 r11 q0 q1 q2 q3 q4 q5 q6 q7 q8 q9 q10 q11 p0 p1 p2 p3 p4 p5 p6 p7 p8 p9 p10 p11
            rw [← hX]
            clear hX
            generalize w4.alloc (.cells #[.int .u8 1, .string name, .string was, .int .i64 0] 114) = wA at *
            have HOA := Lib.hid HXA.out.rat.oO.1
            have c9 : wA.cell? ⟨B, 9, none⟩ = some (.slice f.AO st.opn.length f.cO) := HXA.out.blk.cell 9
            have hz1 : 0 + st.opn.length ≤ maxLen := by unfold maxLen; omega
            have hz2 : (0 + st.opn.length) * 48 ≤ 140737488355328 := by omega
            have hz3 : st.opn.length + 1 ≤ maxLen := by unfold maxLen; omega
            have hz4 : (st.opn.length + 1) * 48 ≤ 140737488355328 := by omega
            go_upto_region 24 with (first | (at_builtin; refine wp_appn rfl (.tmp 87) (.tmp 89) _ rfl 114 4 48 _ Tryd.underlying43 info_sm rfl (by decide) wA.heap.size (.slice none 0 0) 0 [] rfl (World.ownsRow_nil _ _ _ _) 0 (.slice f.AO st.opn.length f.cO) st.opn.length (svals4 st.opn) rfl HOA.out (one_sms _) hz1 hz2 (Nat.le_refl _) ?_; intro P2 cap2 wc hown2 hgrow2 hat2; simp only [Nat.zero_add, List.nil_append] at hown2 hat2; rw [Nat.zero_add]; have ht2 := Tur.of_grown hgrow2; have HBc2 := Lib.hid (ht2.below wA.heap.size (Nat.le_refl _) (fun q hq h => by cases h)); have HXSc2 := Lib.hid (below_blk HXS.out HBc2.out HXS.out.lt); have HO2 := Lib.hid hown2; have HAT2 := Lib.hid hat2; have hbs2 : wA.heap.size ≤ wc.heap.size := ht2.size; obtain ⟨x0, x1, x2, x3⟩ := sm_cells HXSc2.out; clear c9 hown2 hgrow2 hat2 ht2 hz1 hz2) | (at_builtin; refine wp_app1_at rfl (.tmp 91) (.tmp 93) _ rfl 114 4 48 _ Tryd.underlying43 info_sm rfl (by decide) wA.heap.size (.slice P2 st.opn.length cap2) st.opn.length _ rfl HO2.out [.int .u8 1, .string name, .string was, .int .i64 0] wc.heap.size rfl rfl rfl one_sm4 hz3 hz4 hbs2 ?_; intro g3 cap3 wd hlc3 hcm3 hown3 hgrow3 hat3; have HBd2 := Lib.hid (HBc2.out.trans ((Tur.of_grown hgrow3).below wA.heap.size hbs2 (fun q hq h => by rcases HAT2.out q h.symm with h | h; cases h; omega))); have HXd2 := Lib.hid (HXA.out.pure HBd2.out); have y9 := HXd2.out.blk.free 9; have y9c := HXd2.out.blk.cell 9; rw [show (fcells f st)[9]? = some (.slice f.AO st.opn.length f.cO) from rfl] at y9c; have HO3 := Lib.hid hown3; clear x0 x1 x2 x3 hown3 hgrow3 hat3 hz3 hz4))
            obtain ⟨ln, hln⟩ : ∃ ln, ln = st.opn ++ [(⟨1, name, was, 0⟩ : RSm)] := ⟨_, rfl⟩
            have hlz : st.opn.length + 1 = ln.length := by rw [hln]; simp
            have HO4 : Hid (wd.ownsRow wA.heap.size 114 4 (.slice (some ⟨g3, 0, none⟩) ln.length cap3) ln.length (svals4 ln)) := by unfold Hid; rw [← hlz, hln, ← svals4_snoc]; exact HO3.out
            have HX6 := Lib.hid (HXA.out.setO HBd2.out HO4.out (by omega))
            rw [hlz]
            obtain ⟨f6, hf6⟩ : ∃ x, x = { f with AO := some ⟨g3, 0, none⟩, cO := cap3 } := ⟨_, rfl⟩
            obtain ⟨st6, hst6⟩ : ∃ x, x = { st with opn := ln } := ⟨_, rfl⟩
            rw [← hf6, ← hst6] at HX6
            have hev6 : st6.events.length ≤ 100000 := by rw [hst6]; exact hev5
            have HE1 : Hid (o = ({ st6 with events := st6.events ++ [⟨1, 1, name, ⟨#[]⟩, 0⟩] }, 0)) := by unfold Hid; rw [HE0.out, hst6, hln]
            clear y9 y9c hf6 hst6 hln hlz
            generalize wd.setCell ⟨B, 9, none⟩ (.slice (some ⟨g3, 0, none⟩) ln.length cap3) = w6 at *
            obtain ⟨⟨b0, b1, b2, b3, b4, b5, b6, b7, b8, b9, b10, b11⟩, p0, p1, p2, p3, p4, p5, p6, p7, p8, p9, p10, p11⟩ := HX6.out.blk.twelve
            obtain ⟨⟨r0, r1, r2, r3, r4, r5, r6, r7, r8, r9, r10, r11⟩, q0, q1, q2, q3, q4, q5, q6, q7, q8, q9, q10, q11⟩ := HX6.out.res.twelve
            go_wp2_with fail
            obtain ⟨st7, hst7⟩ : ∃ s, s = { st6 with events := st6.events ++ [(⟨1, 1, name, ⟨#[]⟩, 0⟩ : Ev)] } := ⟨_, rfl⟩
            have HE := HE1
            have HEV := fw_event HX6.out.rat ⟨1, 1, name, ⟨#[]⟩, 0⟩ hev6
            rw [← hst7] at HEV HE
            clear hst7
            refine HEV.mono ?_
            rintro e w7 ⟨f7, rfl, hr7, hb7⟩
            have HX7 := Lib.hid (HX6.out.pure hb7)
            have HR7 := Lib.hid hr7
            have HB7 := Lib.hid hb7
            clear b0 b1 b2 b3 b4 b5 b6 b7 b8 b9 b10 b11 r0 r1 r2 r3 r4 r5 r6 r7 r8 r9 r10 r11 q0 q1 q2 q3 q4 q5 q6 q7 q8 q9 q10 q11 p0 p1 p2 p3 p4 p5 p6 p7 p8 p9 p10 p11
            clear HEV hr7 hb7
            obtain ⟨⟨r0, r1, r2, r3, r4, r5, r6, r7, r8, r9, r10, r11⟩, q0, q1, q2, q3, q4, q5, q6, q7, q8, q9, q10, q11⟩ := HX7.out.res.twelve
            unfold fcells
            go_wp2_with fail
            clear r0 r1 r2 r3 r4 r5 r6 r7 r8 r9 r10 r11 q0 q1 q2 q3 q4 q5 q6 q7 q8 q9 q10 q11
            have HD := Lib.hid (HX6.out.done (wj := w7) (f' := f7) (st' := st7) HB7.out HR7.out)
            generalize ((((((((((((w7.setCell ⟨R, 0, none⟩ (.slice f7.A0 f7.n0 f7.c0)).setCell ⟨R, 1, none⟩ (.string st7.stdin)).setCell ⟨R, 2, none⟩ (.slice f7.A2 st7.replies.length f7.c2)).setCell ⟨R, 3, none⟩ (.slice f7.A3 st7.fails.length f7.c3)).setCell ⟨R, 4, none⟩ (.int .i64 st7.lim)).setCell ⟨R, 5, none⟩ (.int .i64 st7.clock)).setCell ⟨R, 6, none⟩ (.int .u64 st7.ch)).setCell ⟨R, 7, none⟩ (.slice f7.AF st7.files.length f7.cF)).setCell ⟨R, 8, none⟩ (.int .i64 st7.taken)).setCell ⟨R, 9, none⟩ (.slice f7.AO st7.opn.length f7.cO)).setCell ⟨R, 10, none⟩ (.int .u64 st7.num)).setCell ⟨R, 11, none⟩ (.slice f7.AE st7.events.length f7.cE)) = w99 at *
            obtain ⟨⟨x0, x1, x2, x3, x4, x5, x6, x7, x8, x9, x10, x11⟩, -⟩ := HD.out.1.twelve
            refine bodyPost_ret (v := .tuple #[.agg #[.slice f7.A0 f7.n0 f7.c0, .string st7.stdin, .slice f7.A2 st7.replies.length f7.c2, .slice f7.A3 st7.fails.length f7.c3, .int .i64 st7.lim, .int .i64 st7.clock, .int .u64 st7.ch, .slice f7.AF st7.files.length f7.cF, .int .i64 st7.taken, .slice f7.AO st7.opn.length f7.cO, .int .u64 st7.num, .slice f7.AE st7.events.length f7.cE], .int .i64 0]) (by simp [results, Tryd.results36, go_sem, x0, x1, x2, x3, x4, x5, x6, x7, x8, x9, x10, x11]) rfl (by rw [HE.out]; exact ⟨f7, rfl, HD.out.2.1, HD.out.2.2⟩)
set_option maxRecDepth 100000 in
set_option maxHeartbeats 4000000 in
theorem fw_open_2 (h : RF K w f st) (name : ByteArray) (hev : st.events.length ≤ 100000) (hop : st.opn.length ≤ 100000) (hfil : st.files.length ≤ 100000) :
    Calls Tryd.prog 36 #[.agg (fcells f st), .int .u8 2, .string name] w (WrPost K w (openD st 2 name).1 (openD st 2 name).2) := by
  obtain ⟨o, ho⟩ : ∃ o, o = openD st 2 name := ⟨_, rfl⟩
  rw [← ho]
  have HO := Lib.hid ho
  clear ho
  have HX0 := Lib.hid (RW.start h)
  have HRF := Lib.hid h
  clear h
  go_enter Tryd.func36, Tryd.ntmps36
  go_upto_region 1 with (fail)
  obtain ⟨B, hB⟩ : ∃ B, B = w.heap.size := ⟨_, rfl⟩
  rw [← hB] at HX0 ⊢
  obtain ⟨R, hR⟩ : ∃ R, R = B + 1 := ⟨_, rfl⟩
  rw [← hR] at HX0 ⊢
  clear hB hR
  generalize (w.alloc (.cells (fcells f st) 46)).alloc (.cells #[.slice none 0 0, .string ⟨#[]⟩, .slice none 0 0, .slice none 0 0, .int .i64 0, .int .i64 0, .int .u64 0, .slice none 0 0, .int .i64 0, .slice none 0 0, .int .u64 0, .slice none 0 0] 46) = w1 at *
  obtain ⟨⟨b0, b1, b2, b3, b4, b5, b6, b7, b8, b9, b10, b11⟩, p0, p1, p2, p3, p4, p5, p6, p7, p8, p9, p10, p11⟩ := HX0.out.blk.twelve
  obtain ⟨⟨r0, r1, r2, r3, r4, r5, r6, r7, r8, r9, r10, r11⟩, q0, q1, q2, q3, q4, q5, q6, q7, q8, q9, q10, q11⟩ := HX0.out.res.twelve
  go_wp2_with fail
  refine (fw_find HX0.out.rat 2 name).mono ?_
  rintro e w2 ⟨rfl, hb2⟩
  have HX2 := Lib.hid (HX0.out.pure hb2)
  clear b0 b1 b2 b3 b4 b5 b6 b7 b8 b9 b10 b11 r0 r1 r2 r3 r4 r5 r6 r7 r8 r9 r10 r11 q0 q1 q2 q3 q4 q5 q6 q7 q8 q9 q10 q11 p0 p1 p2 p3 p4 p5 p6 p7 p8 p9 p10 p11
  clear hb2
  obtain ⟨⟨b0, b1, b2, b3, b4, b5, b6, b7, b8, b9, b10, b11⟩, p0, p1, p2, p3, p4, p5, p6, p7, p8, p9, p10, p11⟩ := HX2.out.blk.twelve
  obtain ⟨⟨r0, r1, r2, r3, r4, r5, r6, r7, r8, r9, r10, r11⟩, q0, q1, q2, q3, q4, q5, q6, q7, q8, q9, q10, q11⟩ := HX2.out.res.twelve
  cases hf : findF st 2 name
  rotate_left
  · rename_i ix
    have HE : Hid (o = (st, 0)) := by unfold Hid; rw [HO.out]; unfold openD; rw [if_neg (by decide), hf, if_pos (show (some ix).isSome = true from rfl)]
    clear hf
    rw [show ixV (some ix) = (ix : Int) from rfl]
    have hix : (0 : Int) ≤ (ix : Int) := by omega
    go_wp2_with fail
    clear b0 b1 b2 b3 b4 b5 b6 b7 b8 b9 b10 b11 r0 r1 r2 r3 r4 r5 r6 r7 r8 r9 r10 r11 q0 q1 q2 q3 q4 q5 q6 q7 q8 q9 q10 q11 p0 p1 p2 p3 p4 p5 p6 p7 p8 p9 p10 p11
    have HD := Lib.hid (HX2.out.done (wj := w2) (f' := f) (st' := st) (Below.refl _ _) HX2.out.same)
    generalize ((((((((((((w2.setCell ⟨R, 0, none⟩ (.slice f.A0 f.n0 f.c0)).setCell ⟨R, 1, none⟩ (.string st.stdin)).setCell ⟨R, 2, none⟩ (.slice f.A2 st.replies.length f.c2)).setCell ⟨R, 3, none⟩ (.slice f.A3 st.fails.length f.c3)).setCell ⟨R, 4, none⟩ (.int .i64 st.lim)).setCell ⟨R, 5, none⟩ (.int .i64 st.clock)).setCell ⟨R, 6, none⟩ (.int .u64 st.ch)).setCell ⟨R, 7, none⟩ (.slice f.AF st.files.length f.cF)).setCell ⟨R, 8, none⟩ (.int .i64 st.taken)).setCell ⟨R, 9, none⟩ (.slice f.AO st.opn.length f.cO)).setCell ⟨R, 10, none⟩ (.int .u64 st.num)).setCell ⟨R, 11, none⟩ (.slice f.AE st.events.length f.cE)) = w99 at *
    obtain ⟨⟨x0, x1, x2, x3, x4, x5, x6, x7, x8, x9, x10, x11⟩, -⟩ := HD.out.1.twelve
    refine bodyPost_ret (v := .tuple #[.agg #[.slice f.A0 f.n0 f.c0, .string st.stdin, .slice f.A2 st.replies.length f.c2, .slice f.A3 st.fails.length f.c3, .int .i64 st.lim, .int .i64 st.clock, .int .u64 st.ch, .slice f.AF st.files.length f.cF, .int .i64 st.taken, .slice f.AO st.opn.length f.cO, .int .u64 st.num, .slice f.AE st.events.length f.cE], .int .i64 0]) (by simp [results, Tryd.results36, go_sem, x0, x1, x2, x3, x4, x5, x6, x7, x8, x9, x10, x11]) rfl (by rw [HE.out]; exact ⟨f, rfl, HD.out.2.1, HD.out.2.2⟩)
  · have HFND := Lib.hid hf
    clear hf
    rw [show ixV none = -1 from rfl]
    by_cases hlim : st.lim ≤ st.opn.length
    · have HE : Hid (o = (st, 15)) := by unfold Hid; rw [HO.out]; unfold openD; rw [if_neg (by decide), HFND.out, if_neg (by decide), if_pos hlim]
      go_wp2_with fail
      clear b0 b1 b2 b3 b4 b5 b6 b7 b8 b9 b10 b11 r0 r1 r2 r3 r4 r5 r6 r7 r8 r9 r10 r11 q0 q1 q2 q3 q4 q5 q6 q7 q8 q9 q10 q11 p0 p1 p2 p3 p4 p5 p6 p7 p8 p9 p10 p11
      have HD := Lib.hid (HX2.out.done (wj := w2) (f' := f) (st' := st) (Below.refl _ _) HX2.out.same)
      generalize ((((((((((((w2.setCell ⟨R, 0, none⟩ (.slice f.A0 f.n0 f.c0)).setCell ⟨R, 1, none⟩ (.string st.stdin)).setCell ⟨R, 2, none⟩ (.slice f.A2 st.replies.length f.c2)).setCell ⟨R, 3, none⟩ (.slice f.A3 st.fails.length f.c3)).setCell ⟨R, 4, none⟩ (.int .i64 st.lim)).setCell ⟨R, 5, none⟩ (.int .i64 st.clock)).setCell ⟨R, 6, none⟩ (.int .u64 st.ch)).setCell ⟨R, 7, none⟩ (.slice f.AF st.files.length f.cF)).setCell ⟨R, 8, none⟩ (.int .i64 st.taken)).setCell ⟨R, 9, none⟩ (.slice f.AO st.opn.length f.cO)).setCell ⟨R, 10, none⟩ (.int .u64 st.num)).setCell ⟨R, 11, none⟩ (.slice f.AE st.events.length f.cE)) = w99 at *
      obtain ⟨⟨x0, x1, x2, x3, x4, x5, x6, x7, x8, x9, x10, x11⟩, -⟩ := HD.out.1.twelve
      refine bodyPost_ret (v := .tuple #[.agg #[.slice f.A0 f.n0 f.c0, .string st.stdin, .slice f.A2 st.replies.length f.c2, .slice f.A3 st.fails.length f.c3, .int .i64 st.lim, .int .i64 st.clock, .int .u64 st.ch, .slice f.AF st.files.length f.cF, .int .i64 st.taken, .slice f.AO st.opn.length f.cO, .int .u64 st.num, .slice f.AE st.events.length f.cE], .int .i64 15]) (by simp [results, Tryd.results36, go_sem, x0, x1, x2, x3, x4, x5, x6, x7, x8, x9, x10, x11]) rfl (by rw [HE.out]; exact ⟨f, rfl, HD.out.2.1, HD.out.2.2⟩)
    · have HLIM := Lib.hid hlim
      obtain ⟨was, hwas⟩ : ∃ was, was = ((fileF st name).getD (⟨#[]⟩, ⟨#[]⟩)).2 := ⟨_, rfl⟩
      obtain ⟨there, hthere⟩ : ∃ there, there = (fileF st name).isSome := ⟨_, rfl⟩
      have HFI := Lib.hid (fw_file HX2.out.rat name)
      rw [← hwas, ← hthere] at HFI
      have HWAS := Lib.hid hwas
      have HTH := Lib.hid hthere
      clear hwas hthere
      go_wp2_with fail
      refine HFI.out.mono ?_
      rintro e w3 ⟨rfl, hb3⟩
      have HX3 := Lib.hid (HX2.out.pure hb3)
      clear b0 b1 b2 b3 b4 b5 b6 b7 b8 b9 b10 b11 r0 r1 r2 r3 r4 r5 r6 r7 r8 r9 r10 r11 q0 q1 q2 q3 q4 q5 q6 q7 q8 q9 q10 q11 p0 p1 p2 p3 p4 p5 p6 p7 p8 p9 p10 p11
      clear hb3 HFI hlim
      obtain ⟨⟨b0, b1, b2, b3, b4, b5, b6, b7, b8, b9, b10, b11⟩, p0, p1, p2, p3, p4, p5, p6, p7, p8, p9, p10, p11⟩ := HX3.out.blk.twelve
      obtain ⟨⟨r0, r1, r2, r3, r4, r5, r6, r7, r8, r9, r10, r11⟩, q0, q1, q2, q3, q4, q5, q6, q7, q8, q9, q10, q11⟩ := HX3.out.res.twelve
      go_wp2_with fail
      refine (fw_fails HX3.out.rat 1 name).mono ?_
      rintro e w4 ⟨rfl, hb4⟩
      have HX4 := Lib.hid (HX3.out.pure hb4)
      clear b0 b1 b2 b3 b4 b5 b6 b7 b8 b9 b10 b11 r0 r1 r2 r3 r4 r5 r6 r7 r8 r9 r10 r11 q0 q1 q2 q3 q4 q5 q6 q7 q8 q9 q10 q11 p0 p1 p2 p3 p4 p5 p6 p7 p8 p9 p10 p11
      clear hb4
      obtain ⟨⟨b0, b1, b2, b3, b4, b5, b6, b7, b8, b9, b10, b11⟩, p0, p1, p2, p3, p4, p5, p6, p7, p8, p9, p10, p11⟩ := HX4.out.blk.twelve
      obtain ⟨⟨r0, r1, r2, r3, r4, r5, r6, r7, r8, r9, r10, r11⟩, q0, q1, q2, q3, q4, q5, q6, q7, q8, q9, q10, q11⟩ := HX4.out.res.twelve
      cases hfl : st.fails.any (isFl 1 name)
      rotate_left
      · have HE : Hid (o = (st, 12)) := by unfold Hid; rw [HO.out]; unfold openD; rw [if_neg (by decide), HFND.out, if_neg (by decide), if_neg (by have := HLIM.out; omega), if_pos (.inl hfl)]
        clear hfl
        go_wp2_with fail
        clear b0 b1 b2 b3 b4 b5 b6 b7 b8 b9 b10 b11 r0 r1 r2 r3 r4 r5 r6 r7 r8 r9 r10 r11 q0 q1 q2 q3 q4 q5 q6 q7 q8 q9 q10 q11 p0 p1 p2 p3 p4 p5 p6 p7 p8 p9 p10 p11
        have HD := Lib.hid (HX4.out.done (wj := w4) (f' := f) (st' := st) (Below.refl _ _) HX4.out.same)
        generalize ((((((((((((w4.setCell ⟨R, 0, none⟩ (.slice f.A0 f.n0 f.c0)).setCell ⟨R, 1, none⟩ (.string st.stdin)).setCell ⟨R, 2, none⟩ (.slice f.A2 st.replies.length f.c2)).setCell ⟨R, 3, none⟩ (.slice f.A3 st.fails.length f.c3)).setCell ⟨R, 4, none⟩ (.int .i64 st.lim)).setCell ⟨R, 5, none⟩ (.int .i64 st.clock)).setCell ⟨R, 6, none⟩ (.int .u64 st.ch)).setCell ⟨R, 7, none⟩ (.slice f.AF st.files.length f.cF)).setCell ⟨R, 8, none⟩ (.int .i64 st.taken)).setCell ⟨R, 9, none⟩ (.slice f.AO st.opn.length f.cO)).setCell ⟨R, 10, none⟩ (.int .u64 st.num)).setCell ⟨R, 11, none⟩ (.slice f.AE st.events.length f.cE)) = w99 at *
        obtain ⟨⟨x0, x1, x2, x3, x4, x5, x6, x7, x8, x9, x10, x11⟩, -⟩ := HD.out.1.twelve
        refine bodyPost_ret (v := .tuple #[.agg #[.slice f.A0 f.n0 f.c0, .string st.stdin, .slice f.A2 st.replies.length f.c2, .slice f.A3 st.fails.length f.c3, .int .i64 st.lim, .int .i64 st.clock, .int .u64 st.ch, .slice f.AF st.files.length f.cF, .int .i64 st.taken, .slice f.AO st.opn.length f.cO, .int .u64 st.num, .slice f.AE st.events.length f.cE], .int .i64 12]) (by simp [results, Tryd.results36, go_sem, x0, x1, x2, x3, x4, x5, x6, x7, x8, x9, x10, x11]) rfl (by rw [HE.out]; exact ⟨f, rfl, HD.out.2.1, HD.out.2.2⟩)
      · have HFL := Lib.hid hfl
        clear hfl
        obtain ⟨⟨rc, ro, rs⟩, hrr⟩ : ∃ r, r = (replyF st name).getD rpZero := ⟨_, rfl⟩
        have HRR := Lib.hid hrr
        clear hrr
        have HE0 : Hid (o = ({ st with opn := st.opn ++ [⟨2, name, ro, 0⟩], events := st.events ++ [⟨1, 2, name, ⟨#[]⟩, 0⟩] }, 0)) := by unfold Hid; rw [HO.out]; unfold openD; rw [if_neg (by decide), HFND.out, if_neg (by decide), if_neg (by have := HLIM.out; omega), if_neg (by rintro (h | ⟨h, h2, h3⟩); rw [HFL.out] at h; cases h; exact absurd h (by decide)), show ro = ((replyF st name).getD rpZero).out by rw [← HRR.out]]; rfl
        have hop5 : st.opn.length ≤ 100000 := hop
        have hev5 : st.events.length ≤ 100000 := hev
        obtain ⟨X, hX⟩ : ∃ X, X = w4.heap.size := ⟨_, rfl⟩
        have HXE := Lib.hid hX
        have HXR := Lib.hid (show R < X by have := HX4.out.big; omega)
        have HXB := Lib.hid (show B < X by have := HX4.out.big; have := HX4.out.hR; omega)
        have hal := (Below.refl w4.heap.size w4).alloc (Nat.le_refl _) (.cells #[.int .u8 2, .string name, .string ⟨#[]⟩, .int .i64 0] 114)
        have HAL := Lib.hid hal
        have HXa := Lib.hid (HX4.out.pure hal)
        have HXSa := Lib.hid (Blk.new w4 114 #[.int .u8 2, .string name, .string ⟨#[]⟩, .int .i64 0])
        rw [← hX] at HXSa HAL
        clear hal
        go_upto_region 15 with (fail)
        clear b0 b1 b2 b3 b4 b5 b6 b7 b8 b9 b10 b11 r0 r1 r2 r3 r4 r5 r6 r7 r8 r9 r10 r11 q0 q1 q2 q3 q4 q5 q6 q7 q8 q9 q10 q11 p0 p1 p2 p3 p4 p5 p6 p7 p8 p9 p10 p11
        rw [← hX]
        clear hX
        generalize w4.alloc (.cells #[.int .u8 2, .string name, .string ⟨#[]⟩, .int .i64 0] 114) = wa at *
        obtain ⟨⟨b0, b1, b2, b3, b4, b5, b6, b7, b8, b9, b10, b11⟩, p0, p1, p2, p3, p4, p5, p6, p7, p8, p9, p10, p11⟩ := HXa.out.blk.twelve
        obtain ⟨⟨r0, r1, r2, r3, r4, r5, r6, r7, r8, r9, r10, r11⟩, q0, q1, q2, q3, q4, q5, q6, q7, q8, q9, q10, q11⟩ := HXa.out.res.twelve
        have HRP := fw_reply HXa.out.rat name
        rw [← HRR.out] at HRP
        have HRPH := Lib.hid HRP
        clear HRP
        go_wp2_with fail
        refine HRPH.out.mono ?_
        rintro e wb ⟨rfl, hbb⟩
        rw [show Rp.val ⟨rc, ro, rs⟩ = .agg #[.string rc, .string ro, .int .i64 rs] from rfl]
        have HBb := Lib.hid (HAL.out.trans (hbb.mono (by have := HXSa.out.lt; omega)))
        have HXSb := Lib.hid (below_blk HXSa.out hbb HXSa.out.lt)
        clear b0 b1 b2 b3 b4 b5 b6 b7 b8 b9 b10 b11 r0 r1 r2 r3 r4 r5 r6 r7 r8 r9 r10 r11 q0 q1 q2 q3 q4 q5 q6 q7 q8 q9 q10 q11 p0 p1 p2 p3 p4 p5 p6 p7 p8 p9 p10 p11
        clear hbb HRPH
        have hbc := (Below.refl wb.heap.size wb).alloc (Nat.le_refl _) (.cells #[.string rc, .string ro, .int .i64 rs] 87)
        have HXSc := Lib.hid (below_blk HXSb.out hbc HXSb.out.lt)
        have HBc := Lib.hid (HBb.out.trans (hbc.mono (by have := HXSb.out.lt; omega)))
        clear hbc
        have x2 : (wb.alloc (.cells #[.string rc, .string ro, .int .i64 rs] 87)).cell? ⟨X, 2, none⟩ = some (.string ⟨#[]⟩) := HXSc.out.cell 2
        have x2f : (wb.alloc (.cells #[.string rc, .string ro, .int .i64 rs] 87)).frozen? ⟨X, 2, none⟩ = false := HXSc.out.free 2
        have HXS : Hid (Blk ((wb.alloc (.cells #[.string rc, .string ro, .int .i64 rs] 87)).setCell ⟨X, 2, none⟩ (.string ro)) X 114 #[.int .u8 2, .string name, .string ro, .int .i64 0]) := HXSc.out.set 2 _
        have HBd := Lib.hid (HBc.out.setCell (p := ⟨X, 2, none⟩) (Nat.le_refl X) (.string ro))
        have HXA := Lib.hid (HX4.out.pure (wj := (wb.alloc (.cells #[.string rc, .string ro, .int .i64 rs] 87)).setCell ⟨X, 2, none⟩ (.string ro)) (HBd.out.mono (by have := HXE.out; omega)))
        go_upto_region 21 with (fail)
        clear x2 x2f
        generalize (wb.alloc (.cells #[.string rc, .string ro, .int .i64 rs] 87)).setCell ⟨X, 2, none⟩ (.string ro) = wA at *
        have HOA := Lib.hid HXA.out.rat.oO.1
        have c9 : wA.cell? ⟨B, 9, none⟩ = some (.slice f.AO st.opn.length f.cO) := HXA.out.blk.cell 9
        have hz1 : 0 + st.opn.length ≤ maxLen := by unfold maxLen; omega
        have hz2 : (0 + st.opn.length) * 48 ≤ 140737488355328 := by omega
        have hz3 : st.opn.length + 1 ≤ maxLen := by unfold maxLen; omega
        have hz4 : (st.opn.length + 1) * 48 ≤ 140737488355328 := by omega
        go_upto_region 24 with (first | (at_builtin; refine wp_appn rfl (.tmp 87) (.tmp 89) _ rfl 114 4 48 _ Tryd.underlying43 info_sm rfl (by decide) wA.heap.size (.slice none 0 0) 0 [] rfl (World.ownsRow_nil _ _ _ _) 0 (.slice f.AO st.opn.length f.cO) st.opn.length (svals4 st.opn) rfl HOA.out (one_sms _) hz1 hz2 (Nat.le_refl _) ?_; intro P2 cap2 wc hown2 hgrow2 hat2; simp only [Nat.zero_add, List.nil_append] at hown2 hat2; rw [Nat.zero_add]; have ht2 := Tur.of_grown hgrow2; have HBc2 := Lib.hid (ht2.below wA.heap.size (Nat.le_refl _) (fun q hq h => by cases h)); have HXSc2 := Lib.hid (below_blk HXS.out HBc2.out HXS.out.lt); have HO2 := Lib.hid hown2; have HAT2 := Lib.hid hat2; have hbs2 : wA.heap.size ≤ wc.heap.size := ht2.size; obtain ⟨x0, x1, x2, x3⟩ := sm_cells HXSc2.out; clear c9 hown2 hgrow2 hat2 ht2 hz1 hz2) | (at_builtin; refine wp_app1_at rfl (.tmp 91) (.tmp 93) _ rfl 114 4 48 _ Tryd.underlying43 info_sm rfl (by decide) wA.heap.size (.slice P2 st.opn.length cap2) st.opn.length _ rfl HO2.out [.int .u8 2, .string name, .string ro, .int .i64 0] wc.heap.size rfl rfl rfl one_sm4 hz3 hz4 hbs2 ?_; intro g3 cap3 wd hlc3 hcm3 hown3 hgrow3 hat3; have HBd2 := Lib.hid (HBc2.out.trans ((Tur.of_grown hgrow3).below wA.heap.size hbs2 (fun q hq h => by rcases HAT2.out q h.symm with h | h; cases h; omega))); have HXd2 := Lib.hid (HXA.out.pure HBd2.out); have y9 := HXd2.out.blk.free 9; have y9c := HXd2.out.blk.cell 9; rw [show (fcells f st)[9]? = some (.slice f.AO st.opn.length f.cO) from rfl] at y9c; have HO3 := Lib.hid hown3; clear x0 x1 x2 x3 hown3 hgrow3 hat3 hz3 hz4))
        obtain ⟨ln, hln⟩ : ∃ ln, ln = st.opn ++ [(⟨2, name, ro, 0⟩ : RSm)] := ⟨_, rfl⟩
        have hlz : st.opn.length + 1 = ln.length := by rw [hln]; simp
        have HO4 : Hid (wd.ownsRow wA.heap.size 114 4 (.slice (some ⟨g3, 0, none⟩) ln.length cap3) ln.length (svals4 ln)) := by unfold Hid; rw [← hlz, hln, ← svals4_snoc]; exact HO3.out
        have HX6 := Lib.hid (HXA.out.setO HBd2.out HO4.out (by omega))
        rw [hlz]
        obtain ⟨f6, hf6⟩ : ∃ x, x = { f with AO := some ⟨g3, 0, none⟩, cO := cap3 } := ⟨_, rfl⟩
        obtain ⟨st6, hst6⟩ : ∃ x, x = { st with opn := ln } := ⟨_, rfl⟩
        rw [← hf6, ← hst6] at HX6
        have hev6 : st6.events.length ≤ 100000 := by rw [hst6]; exact hev5
        have HE1 : Hid (o = ({ st6 with events := st6.events ++ [⟨1, 2, name, ⟨#[]⟩, 0⟩] }, 0)) := by unfold Hid; rw [HE0.out, hst6, hln]
        clear y9 y9c hf6 hst6 hln hlz
        generalize wd.setCell ⟨B, 9, none⟩ (.slice (some ⟨g3, 0, none⟩) ln.length cap3) = w6 at *
        obtain ⟨⟨b0, b1, b2, b3, b4, b5, b6, b7, b8, b9, b10, b11⟩, p0, p1, p2, p3, p4, p5, p6, p7, p8, p9, p10, p11⟩ := HX6.out.blk.twelve
        obtain ⟨⟨r0, r1, r2, r3, r4, r5, r6, r7, r8, r9, r10, r11⟩, q0, q1, q2, q3, q4, q5, q6, q7, q8, q9, q10, q11⟩ := HX6.out.res.twelve
        go_wp2_with fail
        obtain ⟨st7, hst7⟩ : ∃ s, s = { st6 with events := st6.events ++ [(⟨1, 2, name, ⟨#[]⟩, 0⟩ : Ev)] } := ⟨_, rfl⟩
        have HE := HE1
        have HEV := fw_event HX6.out.rat ⟨1, 2, name, ⟨#[]⟩, 0⟩ hev6
        rw [← hst7] at HEV HE
        clear hst7
        refine HEV.mono ?_
        rintro e w7 ⟨f7, rfl, hr7, hb7⟩
        have HX7 := Lib.hid (HX6.out.pure hb7)
        have HR7 := Lib.hid hr7
        have HB7 := Lib.hid hb7
        clear b0 b1 b2 b3 b4 b5 b6 b7 b8 b9 b10 b11 r0 r1 r2 r3 r4 r5 r6 r7 r8 r9 r10 r11 q0 q1 q2 q3 q4 q5 q6 q7 q8 q9 q10 q11 p0 p1 p2 p3 p4 p5 p6 p7 p8 p9 p10 p11
        clear HEV hr7 hb7
        obtain ⟨⟨r0, r1, r2, r3, r4, r5, r6, r7, r8, r9, r10, r11⟩, q0, q1, q2, q3, q4, q5, q6, q7, q8, q9, q10, q11⟩ := HX7.out.res.twelve
        unfold fcells
        go_wp2_with fail
        clear r0 r1 r2 r3 r4 r5 r6 r7 r8 r9 r10 r11 q0 q1 q2 q3 q4 q5 q6 q7 q8 q9 q10 q11
        have HD := Lib.hid (HX6.out.done (wj := w7) (f' := f7) (st' := st7) HB7.out HR7.out)
        generalize ((((((((((((w7.setCell ⟨R, 0, none⟩ (.slice f7.A0 f7.n0 f7.c0)).setCell ⟨R, 1, none⟩ (.string st7.stdin)).setCell ⟨R, 2, none⟩ (.slice f7.A2 st7.replies.length f7.c2)).setCell ⟨R, 3, none⟩ (.slice f7.A3 st7.fails.length f7.c3)).setCell ⟨R, 4, none⟩ (.int .i64 st7.lim)).setCell ⟨R, 5, none⟩ (.int .i64 st7.clock)).setCell ⟨R, 6, none⟩ (.int .u64 st7.ch)).setCell ⟨R, 7, none⟩ (.slice f7.AF st7.files.length f7.cF)).setCell ⟨R, 8, none⟩ (.int .i64 st7.taken)).setCell ⟨R, 9, none⟩ (.slice f7.AO st7.opn.length f7.cO)).setCell ⟨R, 10, none⟩ (.int .u64 st7.num)).setCell ⟨R, 11, none⟩ (.slice f7.AE st7.events.length f7.cE)) = w99 at *
        obtain ⟨⟨x0, x1, x2, x3, x4, x5, x6, x7, x8, x9, x10, x11⟩, -⟩ := HD.out.1.twelve
        refine bodyPost_ret (v := .tuple #[.agg #[.slice f7.A0 f7.n0 f7.c0, .string st7.stdin, .slice f7.A2 st7.replies.length f7.c2, .slice f7.A3 st7.fails.length f7.c3, .int .i64 st7.lim, .int .i64 st7.clock, .int .u64 st7.ch, .slice f7.AF st7.files.length f7.cF, .int .i64 st7.taken, .slice f7.AO st7.opn.length f7.cO, .int .u64 st7.num, .slice f7.AE st7.events.length f7.cE], .int .i64 0]) (by simp [results, Tryd.results36, go_sem, x0, x1, x2, x3, x4, x5, x6, x7, x8, x9, x10, x11]) rfl (by rw [HE.out]; exact ⟨f7, rfl, HD.out.2.1, HD.out.2.2⟩)



end
end Go.Proofs.YtdbdmgmenojcaaaDoor
namespace Go.Proofs.YtdbdmgmenojcaaaDoor
open Go.RowKit Wd
open Go.WideMaps Go.WideElems Go.WideAt


theorem fail_no {st : St} {op : Int} {nm : ByteArray} (h : ¬ failB st op nm = true) : failB st op nm = false := by simpa using h
def WrP (w : World) (F : Nat → Prop) (pb : Nat) (M : Mem) (r : St × Int) (e : Ending) (w' : World) : Prop :=
  ∃ M' F', e = .returned (.int .i64 r.2) ∧ WAt w' F' pb M' r.1 ∧ Tur F w w' ∧ (∀ g, F' g → F g ∨ w.heap.size ≤ g) ∧ M'.m ≤ M.m + 1
theorem WrP.still {w w' : World} {F : Nat → Prop} {pb : Nat} {M : Mem} {r : St × Int} {e : Ending} (h : e = .returned (.int .i64 r.2) ∧ WAt w' F pb M r.1 ∧ Tur F w w') : WrP w F pb M r e w' :=
  ⟨M, F, h.1, h.2.1, h.2.2, fun _ h => .inl h, by omega⟩

def RdP (w : World) (F : Nat → Prop) (pb : Nat) (M : Mem) (r : St × ByteArray × Int) (e : Ending) (w' : World) : Prop :=
  e = .returned (.tuple #[.string r.2.1, .int .i64 r.2.2]) ∧ WAt w' F pb M r.1 ∧ Tur F w w'
theorem wo_read {w : World} {F : Nat → Prop} {pb : Nat} {M : Mem} {st : St} (h : WAt w F pb M st) (k : Int) (nm : ByteArray) (n : Int) (hn : n ≤ 9223372036854775807) (hss : st.stdin.size ≤ 4294967296) (hls : ∀ s ∈ st.opn, s.left.size ≤ 4294967296) (hno : st.opn.length ≤ 1000000000) (hnf : st.fails.length ≤ 1000000000) :
    Calls Tryd.prog 18 #[.pointer (some ⟨pb, 0, none⟩), .int .u8 k, .string nm, .int .i64 n] w (RdP w F pb M (readL st k nm n)) := by
  by_cases hk : k = 1 ∨ k = 2
  · cases hf : Wd.find st k nm with
    | none =>
      have e : readL st k nm n = (st, ⟨#[]⟩, 16) := by unfold readL; rw [if_neg (not_not_intro hk), hf]
      rw [e]
      exact wo_read_nil h k nm n hk hf hno hnf
    | some i =>
      by_cases h1 : n < 1
      · have e : readL st k nm n = (st, ⟨#[]⟩, 2) := by unfold readL; rw [if_neg (not_not_intro hk), hf]; simp only []; rw [if_pos h1]
        rw [e]
        exact wo_read_arg h k nm n i hk hf h1 hno hnf
      by_cases hfl : failB st 2 nm = true
      · have e : readL st k nm n = (st, ⟨#[]⟩, 13) := by unfold readL; rw [if_neg (not_not_intro hk), hf]; simp only []; rw [if_neg h1, if_pos hfl]
        rw [e]
        exact wo_read_fail h k nm n i hk hf h1 hfl hno hnf
      obtain ⟨q, rfl⟩ := Int.eq_ofNat_of_zero_le (show 0 ≤ n by omega)
      by_cases hin : k = 1 ∧ nm = minus
      · have e : readL st k nm (q : Int) = ({ st with stdin := st.stdin.extract (cutN q st.stdin) st.stdin.size }, st.stdin.extract 0 (cutN q st.stdin), 0) := by unfold readL; rw [if_neg (not_not_intro hk), hf]; simp only []; rw [if_neg h1, if_neg hfl, if_pos hin]
        rw [e]
        obtain ⟨rfl, rfl⟩ := hin
        exact wo_read_in h q hno hnf (by omega) h1 hss i hf (fail_no hfl)
      · have e : readL st k nm (q : Int) = ({ st with opn := setAtL st.opn i ((st.opn.getD i smZero).left.extract (cutN q (st.opn.getD i smZero).left) (st.opn.getD i smZero).left.size) }, (st.opn.getD i smZero).left.extract 0 (cutN q (st.opn.getD i smZero).left), 0) := by unfold readL; rw [if_neg (not_not_intro hk), hf]; simp only []; rw [if_neg h1, if_neg hfl, if_neg hin]
        rw [e]
        have hil : i < st.opn.length := (List.findIdx?_eq_some_iff_getElem.1 hf).1
        have hm : st.opn.getD i smZero ∈ st.opn := by simp [List.getD_eq_getElem?_getD, List.getElem?_eq_getElem hil]
        exact wo_read_st h k nm q hk hin hno hnf (by omega) h1 i hf (fail_no hfl) _ rfl (hls _ hm)
  · have e : readL st k nm n = (st, ⟨#[]⟩, 16) := by unfold readL; rw [if_pos hk]
    rw [e]
    exact wo_read_kind h k nm n ⟨fun e => hk (.inl e), fun e => hk (.inr e)⟩ hno hnf
section
variable {K : Nat → Prop} {w : World} {f : Fm} {st : RSt}


theorem fw_read (h : RF K w f st) (k : Int) (name : ByteArray) (n : Int) (hn : n ≤ 9223372036854775807) (hop : st.opn.length ≤ 100000) (htk : st.taken ≤ st.stdin.size) (hsz : st.stdin.size ≤ 4294967296) (hts : ∀ s ∈ st.opn, s.tk ≤ s.src.size ∧ s.src.size ≤ 4294967296) :
    Calls Tryd.prog 19 #[.agg (fcells f st), .int .u8 k, .string name, .int .i64 n] w (RdPost K w (readD st k name n).1 (readD st k name n).2.1 (readD st k name n).2.2) := by
  cases hf : findF st k name with
  | none => exact fw_read_none h k name n hf
  | some ix =>
    have hxl : ix < st.opn.length := (List.findIdx?_eq_some_iff_getElem.1 hf).1
    have hm : st.opn.getD ix smZ ∈ st.opn := by simp [List.getD_eq_getElem?_getD, List.getElem?_eq_getElem hxl]
    obtain ⟨ht1, ht2⟩ := hts _ hm
    by_cases hk : k ≠ 1 ∧ k ≠ 2
    · exact fw_read_kind h k name n ix hf hk
    have hk' : k = 1 ∨ k = 2 := by omega
    rcases hk' with rfl | rfl
    · by_cases h1 : n < 1
      · exact fw_read_arg1 h name n ix hf h1
      obtain ⟨q, rfl⟩ := Int.eq_ofNat_of_zero_le (show 0 ≤ n by omega)
      by_cases hmi : name = minus
      · exact fw_read_in1 h name q ix hf (by omega) (by omega) hmi htk hsz
      · exact fw_read_st1 h name q ix hf (by omega) (by omega) hmi hop hxl ht1 ht2
    · by_cases h1 : n < 1
      · exact fw_read_arg2 h name n ix hf h1
      obtain ⟨q, rfl⟩ := Int.eq_ofNat_of_zero_le (show 0 ≤ n by omega)
      exact fw_read_st2 h name q ix hf (by omega) (by omega) hop hxl ht1 ht2
end
end Go.Proofs.YtdbdmgmenojcaaaDoor
