/- The law's 'one': CloseAll; nothing. -/
import Derived.Test.YtodjjnklelfgfaaG18
import Derived.Test.YtodjjnklelfgfaaG6
import Derived.Calls
import Derived.Below
import Derived.Laws.Sem
import Derived.Laws.World
set_option linter.unusedVariables false
set_option linter.unusedSimpArgs false
namespace Go.Proofs.Ytodjjnklelfgfaa
open Go.RowKit Wd
theorem closedR_clock {rs rs' : RSt} (h : ClosedR rs rs') : rs'.clock = rs.clock := by
  induction h with
  | refl => rfl
  | step _ _ ih => exact (closeD_clock _ _).trans ih
set_option maxRecDepth 100000 in
set_option maxHeartbeats 4000000 in
theorem one_6 {w : World} {F : Nat → Prop} {pb t : Nat} {M : Mem} {st : St} {K : Nat → Prop} {f : Fm} {rs : RSt} (h : Both w F pb M st K f rs) (hd : Bd t M.m rs) (ht : t < 50) (k : Int) (name data : ByteArray) (n : Int) (hn : name.size ≤ 100) :
    Calls Try.prog 27 #[.pointer (some ⟨pb, 0, none⟩), .agg (fcells f rs), .agg #[.int .i64 6, .int .u8 k, .string name, .string data, .int .i64 n]] w (OnePost w F K pb t rs) := by
  have H0 := Lib.hid (OW.start h #[.int .i64 6, .int .u8 k, .string name, .string data, .int .i64 n])
  have HC := Lib.hid h.corr
  have HD := Lib.hid hd
  have hl1 : st.opn.length ≤ 1000000000 := by rw [h.corr.opn, List.length_map]; have := hd.opn; omega
  have hl2 : st.trace.length ≤ 1000000000 := by rw [h.corr.trace]; have := hd.ev; omega
  have hl3 : st.replies.length ≤ 1000000000 := by rw [h.corr.reps]; have := hd.rep; omega
  have hl4 : st.fails.length ≤ 1000000000 := by rw [h.corr.fails]; have := hd.fails; omega
  have hl5 : M.m ≤ 1000000000 := by have := hd.m; omega
  have HL := Lib.hid (And.intro hl1 (And.intro hl2 (And.intro hl3 (And.intro hl4 hl5))))
  have hq1 : rs.events.length ≤ 100000 := by have := hd.ev; omega
  have hq2 : rs.opn.length ≤ 100000 := by have := hd.opn; omega
  have hq3 : rs.files.length ≤ 100000 := by have := hd.fl; omega
  have HQ := Lib.hid (And.intro hq1 (And.intro hq2 hq3))
  have hnm : name.size ≤ maxLen := by unfold maxLen; omega
  have HNM := Lib.hid hnm
  have hx1 : st.opn.length ≤ 1000000 := by rw [h.corr.opn, List.length_map]; have := hd.opn; omega
  have hx2 : st.trace.length ≤ 10000000 := by rw [h.corr.trace]; have := hd.ev; omega
  have hx3 : rs.events.length + 5 * rs.opn.length ≤ 90000 := by have := hd.ev; have := hd.opn; omega
  have HX := Lib.hid (And.intro hx1 (And.intro hx2 hx3))
  clear hx1 hx2 hx3
  clear h hd hl1 hl2 hl3 hl4 hl5 hq1 hq2 hq3 hnm
  go_enter Try.func27, Try.ntmps27
  go_wp2_with fail
  generalize (((w.alloc (.cells (fcells f rs) 73)).alloc (.cells #[.int .i64 6, .int .u8 k, .string name, .string data, .int .i64 n] 55)).alloc (.cells #[.slice none 0 0, .string ⟨#[]⟩, .slice none 0 0, .slice none 0 0, .int .i64 0, .int .i64 0, .int .u64 0, .slice none 0 0, .int .i64 0, .slice none 0 0, .int .u64 0, .slice none 0 0] 73)) = w1 at *
  obtain ⟨B, hB⟩ : ∃ B, B = w.heap.size := ⟨_, rfl⟩
  rw [← hB] at H0 ⊢
  obtain ⟨B1, hB1⟩ : ∃ B1, B1 = B + 1 := ⟨_, rfl⟩
  rw [← hB1] at H0 ⊢
  obtain ⟨B2, hB2⟩ : ∃ B2, B2 = B1 + 1 := ⟨_, rfl⟩
  rw [← hB2] at H0 ⊢
  clear hB hB1 hB2
  refine (wo_closeallM H0.out.wat HX.out.1 HX.out.2.1 HL.out.2.2.1).mono ?_
  rintro e w2 ⟨st2, M2, F2, rfl, hct, hot, hw2, ht2, hf2, -, hm2'⟩
  have hm2 : M2.m ≤ M.m + 1 := by rw [hm2']; exact Nat.le_succ _
  have HCT := Lib.hid (And.intro hct hot)
  clear hm2' hct hot
  have HM2 := Lib.hid hm2
  have H2 := Lib.hid (H0.out.mine hw2 ht2 hf2)
  clear hw2 ht2 hf2 hm2
  obtain ⟨⟨b0, b1, b2, b3, b4, b5, b6, b7, b8, b9, b10, b11⟩, p0, p1, p2, p3, p4, p5, p6, p7, p8, p9, p10, p11⟩ := H2.out.blk.twelve
  have q0 : w2.cell? ⟨B1, 0, none⟩ = some (.int .i64 6) := H2.out.opb.cell 0
  have q1 : w2.cell? ⟨B1, 1, none⟩ = some (.int .u8 k) := H2.out.opb.cell 1
  have q2 : w2.cell? ⟨B1, 2, none⟩ = some (.string name) := H2.out.opb.cell 2
  have q3 : w2.cell? ⟨B1, 3, none⟩ = some (.string data) := H2.out.opb.cell 3
  have q4 : w2.cell? ⟨B1, 4, none⟩ = some (.int .i64 n) := H2.out.opb.cell 4
  go_wp2_with fail
  refine (fw_closeall H2.out.rf HX.out.2.2).mono ?_
  rintro e w3 ⟨rs3, f3, hcr, hor, rfl, hr3, hb3⟩
  have HO1 := Lib.hid (HC.out.closeAll HCT.out.1 HCT.out.2 hcr hor)
  have HBD := Lib.hid (fun (m' : Nat) (hm : m' ≤ M.m + 1) => HD.out.closeAll ht hcr hor hm)
  have HCK := Lib.hid (closedR_clock hcr)
  clear hcr hor
  have H3 := Lib.hid (H2.out.told hb3 hr3)
  clear hr3 hb3 b0 b1 b2 b3 b4 b5 b6 b7 b8 b9 b10 b11 p0 p1 p2 p3 p4 p5 p6 p7 p8 p9 p10 p11 q0 q1 q2 q3 q4
  rw [show fcells f3 rs3 = #[.slice f3.A0 f3.n0 f3.c0, .string rs3.stdin, .slice f3.A2 rs3.replies.length f3.c2, .slice f3.A3 rs3.fails.length f3.c3, .int .i64 rs3.lim, .int .i64 rs3.clock, .int .u64 rs3.ch, .slice f3.AF rs3.files.length f3.cF, .int .i64 rs3.taken, .slice f3.AO rs3.opn.length f3.cO, .int .u64 rs3.num, .slice f3.AE rs3.events.length f3.cE] from rfl]
  obtain ⟨⟨b0, b1, b2, b3, b4, b5, b6, b7, b8, b9, b10, b11⟩, p0, p1, p2, p3, p4, p5, p6, p7, p8, p9, p10, p11⟩ := H3.out.blk.twelve
  go_upto_region 29 with (fail)
  have H4 := Lib.hid H3.out.put
  clear b0 b1 b2 b3 b4 b5 b6 b7 b8 b9 b10 b11 p0 p1 p2 p3 p4 p5 p6 p7 p8 p9 p10 p11
  have HG := Lib.hid (show put12 w3 B f3 rs3 = ((((((((((((w3.setCell ⟨B, 0, none⟩ (.slice f3.A0 f3.n0 f3.c0)).setCell ⟨B, 1, none⟩ (.string rs3.stdin)).setCell ⟨B, 2, none⟩ (.slice f3.A2 rs3.replies.length f3.c2)).setCell ⟨B, 3, none⟩ (.slice f3.A3 rs3.fails.length f3.c3)).setCell ⟨B, 4, none⟩ (.int .i64 rs3.lim)).setCell ⟨B, 5, none⟩ (.int .i64 rs3.clock)).setCell ⟨B, 6, none⟩ (.int .u64 rs3.ch)).setCell ⟨B, 7, none⟩ (.slice f3.AF rs3.files.length f3.cF)).setCell ⟨B, 8, none⟩ (.int .i64 rs3.taken)).setCell ⟨B, 9, none⟩ (.slice f3.AO rs3.opn.length f3.cO)).setCell ⟨B, 10, none⟩ (.int .u64 rs3.num)).setCell ⟨B, 11, none⟩ (.slice f3.AE rs3.events.length f3.cE)) from rfl)
  rw [← HG.out]
  generalize put12 w3 B f3 rs3 = w4 at *
  clear HG
  obtain ⟨⟨b0, b1, b2, b3, b4, b5, b6, b7, b8, b9, b10, b11⟩, p0, p1, p2, p3, p4, p5, p6, p7, p8, p9, p10, p11⟩ := H4.out.blk.twelve
  obtain ⟨⟨r0, r1, r2, r3, r4, r5, r6, r7, r8, r9, r10, r11⟩, q0, q1, q2, q3, q4, q5, q6, q7, q8, q9, q10, q11⟩ := H4.out.res.twelve
  go_wp2_with fail
  have H5 := Lib.hid H4.out.out
  clear b0 b1 b2 b3 b4 b5 b6 b7 b8 b9 b10 b11 p0 p1 p2 p3 p4 p5 p6 p7 p8 p9 p10 p11 r0 r1 r2 r3 r4 r5 r6 r7 r8 r9 r10 r11 q0 q1 q2 q3 q4 q5 q6 q7 q8 q9 q10 q11
  have HG := Lib.hid (show put12 w4 B2 f3 rs3 = ((((((((((((w4.setCell ⟨B2, 0, none⟩ (.slice f3.A0 f3.n0 f3.c0)).setCell ⟨B2, 1, none⟩ (.string rs3.stdin)).setCell ⟨B2, 2, none⟩ (.slice f3.A2 rs3.replies.length f3.c2)).setCell ⟨B2, 3, none⟩ (.slice f3.A3 rs3.fails.length f3.c3)).setCell ⟨B2, 4, none⟩ (.int .i64 rs3.lim)).setCell ⟨B2, 5, none⟩ (.int .i64 rs3.clock)).setCell ⟨B2, 6, none⟩ (.int .u64 rs3.ch)).setCell ⟨B2, 7, none⟩ (.slice f3.AF rs3.files.length f3.cF)).setCell ⟨B2, 8, none⟩ (.int .i64 rs3.taken)).setCell ⟨B2, 9, none⟩ (.slice f3.AO rs3.opn.length f3.cO)).setCell ⟨B2, 10, none⟩ (.int .u64 rs3.num)).setCell ⟨B2, 11, none⟩ (.slice f3.AE rs3.events.length f3.cE)) from rfl)
  rw [← HG.out]
  generalize put12 w4 B2 f3 rs3 = w5 at *
  clear HG
  obtain ⟨⟨x0, x1, x2, x3, x4, x5, x6, x7, x8, x9, x10, x11⟩, -⟩ := H5.out.res.twelve
  refine bodyPost_ret (v := .tuple #[.agg #[.slice f3.A0 f3.n0 f3.c0, .string rs3.stdin, .slice f3.A2 rs3.replies.length f3.c2, .slice f3.A3 rs3.fails.length f3.c3, .int .i64 rs3.lim, .int .i64 rs3.clock, .int .u64 rs3.ch, .slice f3.AF rs3.files.length f3.cF, .int .i64 rs3.taken, .slice f3.AO rs3.opn.length f3.cO, .int .u64 rs3.num, .slice f3.AE rs3.events.length f3.cE], .bool true]) (by simp [results, Try.results27, go_sem, x0, x1, x2, x3, x4, x5, x6, x7, x8, x9, x10, x11]) rfl ?_
  exact ⟨_, _, _, _, f3, rs3, rfl, ⟨H5.out.wat, H5.out.rf, H5.out.apart, HO1.out⟩, HBD.out _ HM2.out, H5.out.tur, fun g hg => by rw [← H5.out.hB]; exact H5.out.fr g hg, fun g hg => by rw [← H5.out.hB]; exact H5.out.kn g hg, HCK.out⟩
set_option maxRecDepth 100000 in
set_option maxHeartbeats 4000000 in
theorem one_o {w : World} {F : Nat → Prop} {pb t : Nat} {M : Mem} {st : St} {K : Nat → Prop} {f : Fm} {rs : RSt} (h : Both w F pb M st K f rs) (hd : Bd t M.m rs) (ht : t < 50) (kd k : Int) (name data : ByteArray) (n : Int) (h1 : (kd == 1) = false) (h2 : (kd == 2) = false) (h3 : (kd == 3) = false) (h4 : (kd == 4) = false) (h5 : (kd == 5) = false) (h6 : (kd == 6) = false) (h7 : (kd == 7) = false) (hn : name.size ≤ 100) :
    Calls Try.prog 27 #[.pointer (some ⟨pb, 0, none⟩), .agg (fcells f rs), .agg #[.int .i64 kd, .int .u8 k, .string name, .string data, .int .i64 n]] w (OnePost w F K pb t rs) := by
  have H0 := Lib.hid (OW.start h #[.int .i64 kd, .int .u8 k, .string name, .string data, .int .i64 n])
  have HC := Lib.hid h.corr
  have HD := Lib.hid hd
  have hl1 : st.opn.length ≤ 1000000000 := by rw [h.corr.opn, List.length_map]; have := hd.opn; omega
  have hl2 : st.trace.length ≤ 1000000000 := by rw [h.corr.trace]; have := hd.ev; omega
  have hl3 : st.replies.length ≤ 1000000000 := by rw [h.corr.reps]; have := hd.rep; omega
  have hl4 : st.fails.length ≤ 1000000000 := by rw [h.corr.fails]; have := hd.fails; omega
  have hl5 : M.m ≤ 1000000000 := by have := hd.m; omega
  have HL := Lib.hid (And.intro hl1 (And.intro hl2 (And.intro hl3 (And.intro hl4 hl5))))
  have hq1 : rs.events.length ≤ 100000 := by have := hd.ev; omega
  have hq2 : rs.opn.length ≤ 100000 := by have := hd.opn; omega
  have hq3 : rs.files.length ≤ 100000 := by have := hd.fl; omega
  have HQ := Lib.hid (And.intro hq1 (And.intro hq2 hq3))
  have hnm : name.size ≤ maxLen := by unfold maxLen; omega
  have HNM := Lib.hid hnm
  clear h hd hl1 hl2 hl3 hl4 hl5 hq1 hq2 hq3 hnm
  have k1 : decide (kd = 1) = false := by simpa using h1
  have k2 : decide (kd = 2) = false := by simpa using h2
  have k3 : decide (kd = 3) = false := by simpa using h3
  have k4 : decide (kd = 4) = false := by simpa using h4
  have k5 : decide (kd = 5) = false := by simpa using h5
  have k6 : decide (kd = 6) = false := by simpa using h6
  have k7 : decide (kd = 7) = false := by simpa using h7
  go_enter Try.func27, Try.ntmps27
  go_upto_region 29 with (fail)
  generalize (((w.alloc (.cells (fcells f rs) 73)).alloc (.cells #[.int .i64 kd, .int .u8 k, .string name, .string data, .int .i64 n] 55)).alloc (.cells #[.slice none 0 0, .string ⟨#[]⟩, .slice none 0 0, .slice none 0 0, .int .i64 0, .int .i64 0, .int .u64 0, .slice none 0 0, .int .i64 0, .slice none 0 0, .int .u64 0, .slice none 0 0] 73)) = w4 at *
  obtain ⟨B, hB⟩ : ∃ B, B = w.heap.size := ⟨_, rfl⟩
  rw [← hB] at H0 ⊢
  obtain ⟨B1, hB1⟩ : ∃ B1, B1 = B + 1 := ⟨_, rfl⟩
  rw [← hB1] at H0 ⊢
  obtain ⟨B2, hB2⟩ : ∃ B2, B2 = B1 + 1 := ⟨_, rfl⟩
  rw [← hB2] at H0 ⊢
  clear hB hB1 hB2
  have HM2 : Hid (M.m ≤ M.m + 1) := Nat.le_succ _
  have HBD := Lib.hid (fun (m' : Nat) (hm : m' ≤ M.m + 1) => HD.out.same ht hm)
  have H4 := H0
  obtain ⟨⟨b0, b1, b2, b3, b4, b5, b6, b7, b8, b9, b10, b11⟩, p0, p1, p2, p3, p4, p5, p6, p7, p8, p9, p10, p11⟩ := H4.out.blk.twelve
  obtain ⟨⟨r0, r1, r2, r3, r4, r5, r6, r7, r8, r9, r10, r11⟩, q0, q1, q2, q3, q4, q5, q6, q7, q8, q9, q10, q11⟩ := H4.out.res.twelve
  go_wp2_with fail
  have H5 := Lib.hid H4.out.out
  clear b0 b1 b2 b3 b4 b5 b6 b7 b8 b9 b10 b11 p0 p1 p2 p3 p4 p5 p6 p7 p8 p9 p10 p11 r0 r1 r2 r3 r4 r5 r6 r7 r8 r9 r10 r11 q0 q1 q2 q3 q4 q5 q6 q7 q8 q9 q10 q11
  have HG := Lib.hid (show put12 w4 B2 f rs = ((((((((((((w4.setCell ⟨B2, 0, none⟩ (.slice f.A0 f.n0 f.c0)).setCell ⟨B2, 1, none⟩ (.string rs.stdin)).setCell ⟨B2, 2, none⟩ (.slice f.A2 rs.replies.length f.c2)).setCell ⟨B2, 3, none⟩ (.slice f.A3 rs.fails.length f.c3)).setCell ⟨B2, 4, none⟩ (.int .i64 rs.lim)).setCell ⟨B2, 5, none⟩ (.int .i64 rs.clock)).setCell ⟨B2, 6, none⟩ (.int .u64 rs.ch)).setCell ⟨B2, 7, none⟩ (.slice f.AF rs.files.length f.cF)).setCell ⟨B2, 8, none⟩ (.int .i64 rs.taken)).setCell ⟨B2, 9, none⟩ (.slice f.AO rs.opn.length f.cO)).setCell ⟨B2, 10, none⟩ (.int .u64 rs.num)).setCell ⟨B2, 11, none⟩ (.slice f.AE rs.events.length f.cE)) from rfl)
  rw [← HG.out]
  generalize put12 w4 B2 f rs = w5 at *
  clear HG
  obtain ⟨⟨x0, x1, x2, x3, x4, x5, x6, x7, x8, x9, x10, x11⟩, -⟩ := H5.out.res.twelve
  refine bodyPost_ret (v := .tuple #[.agg #[.slice f.A0 f.n0 f.c0, .string rs.stdin, .slice f.A2 rs.replies.length f.c2, .slice f.A3 rs.fails.length f.c3, .int .i64 rs.lim, .int .i64 rs.clock, .int .u64 rs.ch, .slice f.AF rs.files.length f.cF, .int .i64 rs.taken, .slice f.AO rs.opn.length f.cO, .int .u64 rs.num, .slice f.AE rs.events.length f.cE], .bool true]) (by simp [results, Try.results27, go_sem, x0, x1, x2, x3, x4, x5, x6, x7, x8, x9, x10, x11]) rfl ?_
  exact ⟨_, _, _, _, f, rs, rfl, ⟨H5.out.wat, H5.out.rf, H5.out.apart, HC.out⟩, HBD.out _ HM2.out, H5.out.tur, fun g hg => by rw [← H5.out.hB]; exact H5.out.fr g hg, fun g hg => by rw [← H5.out.hB]; exact H5.out.kn g hg, rfl⟩
end Go.Proofs.Ytodjjnklelfgfaa
namespace Go.Proofs.Ytodjjnklelfgfaa
open Go.RowKit Wd
set_option maxRecDepth 100000 in
set_option maxHeartbeats 4000000 in
theorem one_7 {w : World} {F : Nat → Prop} {pb t : Nat} {M : Mem} {st : St} {K : Nat → Prop} {f : Fm} {rs : RSt} (h : Both w F pb M st K f rs) (hd : Bd t M.m rs) (ht : t < 50) (k : Int) (name data : ByteArray) (n : Int) (hn : name.size ≤ 100) :
    Calls Try.prog 27 #[.pointer (some ⟨pb, 0, none⟩), .agg (fcells f rs), .agg #[.int .i64 7, .int .u8 k, .string name, .string data, .int .i64 n]] w (OnePost w F K pb t rs) := by
  have H0 := Lib.hid (OW.start h #[.int .i64 7, .int .u8 k, .string name, .string data, .int .i64 n])
  have HC := Lib.hid h.corr
  have HD := Lib.hid hd
  have hl1 : st.opn.length ≤ 1000000000 := by rw [h.corr.opn, List.length_map]; have := hd.opn; omega
  have hl2 : st.trace.length ≤ 1000000000 := by rw [h.corr.trace]; have := hd.ev; omega
  have hl3 : st.replies.length ≤ 1000000000 := by rw [h.corr.reps]; have := hd.rep; omega
  have hl4 : st.fails.length ≤ 1000000000 := by rw [h.corr.fails]; have := hd.fails; omega
  have hl5 : M.m ≤ 1000000000 := by have := hd.m; omega
  have HL := Lib.hid (And.intro hl1 (And.intro hl2 (And.intro hl3 (And.intro hl4 hl5))))
  have hq1 : rs.events.length ≤ 100000 := by have := hd.ev; omega
  have hq2 : rs.opn.length ≤ 100000 := by have := hd.opn; omega
  have hq3 : rs.files.length ≤ 100000 := by have := hd.fl; omega
  have HQ := Lib.hid (And.intro hq1 (And.intro hq2 hq3))
  have hnm : name.size ≤ maxLen := by unfold maxLen; omega
  have HNM := Lib.hid hnm
  clear h hd hl1 hl2 hl3 hl4 hl5 hq1 hq2 hq3 hnm
  go_enter Try.func27, Try.ntmps27
  go_wp2_with fail
  generalize (((w.alloc (.cells (fcells f rs) 73)).alloc (.cells #[.int .i64 7, .int .u8 k, .string name, .string data, .int .i64 n] 55)).alloc (.cells #[.slice none 0 0, .string ⟨#[]⟩, .slice none 0 0, .slice none 0 0, .int .i64 0, .int .i64 0, .int .u64 0, .slice none 0 0, .int .i64 0, .slice none 0 0, .int .u64 0, .slice none 0 0] 73)) = w1 at *
  obtain ⟨B, hB⟩ : ∃ B, B = w.heap.size := ⟨_, rfl⟩
  rw [← hB] at H0 ⊢
  obtain ⟨B1, hB1⟩ : ∃ B1, B1 = B + 1 := ⟨_, rfl⟩
  rw [← hB1] at H0 ⊢
  obtain ⟨B2, hB2⟩ : ∃ B2, B2 = B1 + 1 := ⟨_, rfl⟩
  rw [← hB2] at H0 ⊢
  clear hB hB1 hB2
  refine (wo_chance H0.out.wat).mono ?_
  rintro e w2 ⟨rfl, hw2, ht2⟩
  have hf2 : ∀ g, F g → F g ∨ w1.heap.size ≤ g := fun _ hg => .inl hg
  have hm2 : M.m ≤ M.m + 1 := Nat.le_succ _
  have HM2 := Lib.hid hm2
  have H2 := Lib.hid (H0.out.mine hw2 ht2 hf2)
  clear hw2 ht2 hf2 hm2
  obtain ⟨⟨b0, b1, b2, b3, b4, b5, b6, b7, b8, b9, b10, b11⟩, p0, p1, p2, p3, p4, p5, p6, p7, p8, p9, p10, p11⟩ := H2.out.blk.twelve
  have q0 : w2.cell? ⟨B1, 0, none⟩ = some (.int .i64 7) := H2.out.opb.cell 0
  have q1 : w2.cell? ⟨B1, 1, none⟩ = some (.int .u8 k) := H2.out.opb.cell 1
  have q2 : w2.cell? ⟨B1, 2, none⟩ = some (.string name) := H2.out.opb.cell 2
  have q3 : w2.cell? ⟨B1, 3, none⟩ = some (.string data) := H2.out.opb.cell 3
  have q4 : w2.cell? ⟨B1, 4, none⟩ = some (.int .i64 n) := H2.out.opb.cell 4
  go_wp2_with fail
  refine (fw_chance H2.out.rf).mono ?_
  have HO1 := Lib.hid HC.out.chanced
  have HBD := Lib.hid (fun (m' : Nat) (hm : m' ≤ M.m + 1) => HD.out.chanced ht hm)
  have HCK : Hid (({ rs with num := chanceW rs.num } : RSt).clock = rs.clock) := Eq.refl rs.clock
  have HNU := Lib.hid HC.out.chance
  rw [HNU.out] at *
  generalize ({ rs with num := chanceW rs.num } : RSt) = rs3 at *
  generalize rs.num = c at *
  rintro e w3 ⟨f3, rfl, hr3, hb3⟩
  have H3 := Lib.hid (H2.out.told hb3 hr3)
  clear hr3 hb3 b0 b1 b2 b3 b4 b5 b6 b7 b8 b9 b10 b11 p0 p1 p2 p3 p4 p5 p6 p7 p8 p9 p10 p11 q0 q1 q2 q3 q4
  rw [show fcells f3 rs3 = #[.slice f3.A0 f3.n0 f3.c0, .string rs3.stdin, .slice f3.A2 rs3.replies.length f3.c2, .slice f3.A3 rs3.fails.length f3.c3, .int .i64 rs3.lim, .int .i64 rs3.clock, .int .u64 rs3.ch, .slice f3.AF rs3.files.length f3.cF, .int .i64 rs3.taken, .slice f3.AO rs3.opn.length f3.cO, .int .u64 rs3.num, .slice f3.AE rs3.events.length f3.cE] from rfl]
  obtain ⟨⟨b0, b1, b2, b3, b4, b5, b6, b7, b8, b9, b10, b11⟩, p0, p1, p2, p3, p4, p5, p6, p7, p8, p9, p10, p11⟩ := H3.out.blk.twelve
  go_upto_region 27 with (fail)
  have H3b := Lib.hid (H3.out.pure ((Below.refl w3.heap.size w3).alloc (Nat.le_refl _) (.cells #[.slice f3.A0 f3.n0 f3.c0, .string rs3.stdin, .slice f3.A2 rs3.replies.length f3.c2, .slice f3.A3 rs3.fails.length f3.c3, .int .i64 rs3.lim, .int .i64 rs3.clock, .int .u64 rs3.ch, .slice f3.AF rs3.files.length f3.cF, .int .i64 rs3.taken, .slice f3.AO rs3.opn.length f3.cO, .int .u64 rs3.num, .slice f3.AE rs3.events.length f3.cE] 73)))
  have HXB := Lib.hid (Blk.new w3 73 #[.slice f3.A0 f3.n0 f3.c0, .string rs3.stdin, .slice f3.A2 rs3.replies.length f3.c2, .slice f3.A3 rs3.fails.length f3.c3, .int .i64 rs3.lim, .int .i64 rs3.clock, .int .u64 rs3.ch, .slice f3.AF rs3.files.length f3.cF, .int .i64 rs3.taken, .slice f3.AO rs3.opn.length f3.cO, .int .u64 rs3.num, .slice f3.AE rs3.events.length f3.cE])
  clear b0 b1 b2 b3 b4 b5 b6 b7 b8 b9 b10 b11 p0 p1 p2 p3 p4 p5 p6 p7 p8 p9 p10 p11
  generalize w3.alloc (.cells #[.slice f3.A0 f3.n0 f3.c0, .string rs3.stdin, .slice f3.A2 rs3.replies.length f3.c2, .slice f3.A3 rs3.fails.length f3.c3, .int .i64 rs3.lim, .int .i64 rs3.clock, .int .u64 rs3.ch, .slice f3.AF rs3.files.length f3.cF, .int .i64 rs3.taken, .slice f3.AO rs3.opn.length f3.cO, .int .u64 rs3.num, .slice f3.AE rs3.events.length f3.cE] 73) = wx at *
  obtain ⟨X, hX⟩ : ∃ X, X = w3.heap.size := ⟨_, rfl⟩
  rw [← hX] at HXB ⊢
  clear hX
  obtain ⟨⟨b0, b1, b2, b3, b4, b5, b6, b7, b8, b9, b10, b11⟩, p0, p1, p2, p3, p4, p5, p6, p7, p8, p9, p10, p11⟩ := H3b.out.blk.twelve
  obtain ⟨⟨x0, x1, x2, x3, x4, x5, x6, x7, x8, x9, x10, x11⟩, -⟩ := HXB.out.twelve
  go_upto_region 28 with (fail)
  clear x0 x1 x2 x3 x4 x5 x6 x7 x8 x9 x10 x11
  have H4 := Lib.hid H3b.out.put
  clear b0 b1 b2 b3 b4 b5 b6 b7 b8 b9 b10 b11 p0 p1 p2 p3 p4 p5 p6 p7 p8 p9 p10 p11
  have HG := Lib.hid (show put12 wx B f3 rs3 = ((((((((((((wx.setCell ⟨B, 0, none⟩ (.slice f3.A0 f3.n0 f3.c0)).setCell ⟨B, 1, none⟩ (.string rs3.stdin)).setCell ⟨B, 2, none⟩ (.slice f3.A2 rs3.replies.length f3.c2)).setCell ⟨B, 3, none⟩ (.slice f3.A3 rs3.fails.length f3.c3)).setCell ⟨B, 4, none⟩ (.int .i64 rs3.lim)).setCell ⟨B, 5, none⟩ (.int .i64 rs3.clock)).setCell ⟨B, 6, none⟩ (.int .u64 rs3.ch)).setCell ⟨B, 7, none⟩ (.slice f3.AF rs3.files.length f3.cF)).setCell ⟨B, 8, none⟩ (.int .i64 rs3.taken)).setCell ⟨B, 9, none⟩ (.slice f3.AO rs3.opn.length f3.cO)).setCell ⟨B, 10, none⟩ (.int .u64 rs3.num)).setCell ⟨B, 11, none⟩ (.slice f3.AE rs3.events.length f3.cE)) from rfl)
  rw [← HG.out]
  generalize put12 wx B f3 rs3 = w4 at *
  clear HG
  obtain ⟨⟨b0, b1, b2, b3, b4, b5, b6, b7, b8, b9, b10, b11⟩, p0, p1, p2, p3, p4, p5, p6, p7, p8, p9, p10, p11⟩ := H4.out.blk.twelve
  obtain ⟨⟨r0, r1, r2, r3, r4, r5, r6, r7, r8, r9, r10, r11⟩, q0, q1, q2, q3, q4, q5, q6, q7, q8, q9, q10, q11⟩ := H4.out.res.twelve
  go_wp2_with fail
  have H5 := Lib.hid H4.out.out
  clear b0 b1 b2 b3 b4 b5 b6 b7 b8 b9 b10 b11 p0 p1 p2 p3 p4 p5 p6 p7 p8 p9 p10 p11 r0 r1 r2 r3 r4 r5 r6 r7 r8 r9 r10 r11 q0 q1 q2 q3 q4 q5 q6 q7 q8 q9 q10 q11
  have HG := Lib.hid (show put12 w4 B2 f3 rs3 = ((((((((((((w4.setCell ⟨B2, 0, none⟩ (.slice f3.A0 f3.n0 f3.c0)).setCell ⟨B2, 1, none⟩ (.string rs3.stdin)).setCell ⟨B2, 2, none⟩ (.slice f3.A2 rs3.replies.length f3.c2)).setCell ⟨B2, 3, none⟩ (.slice f3.A3 rs3.fails.length f3.c3)).setCell ⟨B2, 4, none⟩ (.int .i64 rs3.lim)).setCell ⟨B2, 5, none⟩ (.int .i64 rs3.clock)).setCell ⟨B2, 6, none⟩ (.int .u64 rs3.ch)).setCell ⟨B2, 7, none⟩ (.slice f3.AF rs3.files.length f3.cF)).setCell ⟨B2, 8, none⟩ (.int .i64 rs3.taken)).setCell ⟨B2, 9, none⟩ (.slice f3.AO rs3.opn.length f3.cO)).setCell ⟨B2, 10, none⟩ (.int .u64 rs3.num)).setCell ⟨B2, 11, none⟩ (.slice f3.AE rs3.events.length f3.cE)) from rfl)
  rw [← HG.out]
  generalize put12 w4 B2 f3 rs3 = w5 at *
  clear HG
  obtain ⟨⟨x0, x1, x2, x3, x4, x5, x6, x7, x8, x9, x10, x11⟩, -⟩ := H5.out.res.twelve
  refine bodyPost_ret (v := .tuple #[.agg #[.slice f3.A0 f3.n0 f3.c0, .string rs3.stdin, .slice f3.A2 rs3.replies.length f3.c2, .slice f3.A3 rs3.fails.length f3.c3, .int .i64 rs3.lim, .int .i64 rs3.clock, .int .u64 rs3.ch, .slice f3.AF rs3.files.length f3.cF, .int .i64 rs3.taken, .slice f3.AO rs3.opn.length f3.cO, .int .u64 rs3.num, .slice f3.AE rs3.events.length f3.cE], .bool true]) (by simp [results, Try.results27, go_sem, x0, x1, x2, x3, x4, x5, x6, x7, x8, x9, x10, x11]) rfl ?_
  exact ⟨_, _, _, _, f3, rs3, rfl, ⟨H5.out.wat, H5.out.rf, H5.out.apart, HO1.out⟩, HBD.out _ HM2.out, H5.out.tur, fun g hg => by rw [← H5.out.hB]; exact H5.out.fr g hg, fun g hg => by rw [← H5.out.hB]; exact H5.out.kn g hg, HCK.out⟩
end Go.Proofs.Ytodjjnklelfgfaa
namespace Go.Proofs.Ytodjjnklelfgfaa
open Go.RowKit Wd
theorem w_one {w : World} {F : Nat → Prop} {pb t : Nat} {M : Mem} {st : St} {K : Nat → Prop} {f : Fm} {rs : RSt} (h : Both w F pb M st K f rs) (hd : Bd t M.m rs) (ht : t < 50) (kd k : Int) (name data : ByteArray) (n : Int) (hn : name.size ≤ 100) (hda : data.size ≤ 100) (hni : n ≤ 9223372036854775807) :
    Calls Try.prog 27 #[.pointer (some ⟨pb, 0, none⟩), .agg (fcells f rs), .agg #[.int .i64 kd, .int .u8 k, .string name, .string data, .int .i64 n]] w (OnePost w F K pb t rs) := by
  by_cases h1 : kd = 1
  · subst h1; exact one_1 h hd ht k name data n hn
  by_cases h2 : kd = 2
  · subst h2; exact one_2 h hd ht k name data n hn hni
  by_cases h3 : kd = 3
  · subst h3; exact one_3 h hd ht k name data n hn hda
  by_cases h4 : kd = 4
  · subst h4; exact one_4 h hd ht k name data n hn
  by_cases h5 : kd = 5
  · subst h5; exact one_5 h hd ht k name data n hn
  by_cases h6 : kd = 6
  · subst h6; exact one_6 h hd ht k name data n hn
  by_cases h7 : kd = 7
  · subst h7; exact one_7 h hd ht k name data n hn
  exact one_o h hd ht kd k name data n (beq_eq_false_iff_ne.2 h1) (beq_eq_false_iff_ne.2 h2) (beq_eq_false_iff_ne.2 h3) (beq_eq_false_iff_ne.2 h4) (beq_eq_false_iff_ne.2 h5) (beq_eq_false_iff_ne.2 h6) (beq_eq_false_iff_ne.2 h7) hn
namespace Wd
theorem dist_spec {l : List ByteArray} (h : distB l = true) : ∀ k, k < l.length → dupAt l k = false := by
  unfold distB at h
  rw [List.all_eq_true] at h
  intro k hk
  have := h k (List.mem_range.2 hk)
  simpa using this
theorem files0 {l : List (ByteArray × ByteArray)} (h : distB (l.map (·.1)) = true) : ∀ k, k ≤ l.length → (∀ x : ByteArray, filesOf (l.take k) x.data.toList = ((l.take k).find? (isFile x)).map (·.2)) ∧ ((l.take k).map (·.1)).Nodup := by
  intro k
  induction k with
  | zero => intro _; exact ⟨fun x => by simp [filesOf], by simp⟩
  | succ k ih =>
    intro hk
    obtain ⟨h1, h2⟩ := ih (by omega)
    have hd := dist_spec h k (by rw [List.length_map]; exact hk)
    rw [← dup_file hk] at hd
    have hnone : filesOf (l.take k) l[k].1.data.toList = none := by simpa using hd
    have hf : (l.take k).find? (isFile l[k].1) = none := by
      have := (h1 l[k].1).symm.trans hnone
      simpa using this
    have hall : ∀ p ∈ l.take k, isFile l[k].1 p = false := by
      intro p hp
      have := List.find?_eq_none.1 hf p hp
      simpa using this
    have hw : l.take (k + 1) = withL (l.take k) l[k].1 l[k].2 := by
      rw [List.take_succ_eq_append_getElem hk]
      unfold withL
      have e1 : (l.take k).map (withP l[k].1 l[k].2) = l.take k := by
        conv => rhs; rw [← List.map_id (l.take k)]
        apply List.map_congr_left
        intro p hp
        have := hall p hp
        unfold isFile at this
        unfold withP
        rw [if_neg (of_decide_eq_false this)]
        rfl
      have e2 : (l.take k).any (isFile l[k].1) = false := by
        rw [List.any_eq_false]
        intro p hp
        rw [hall p hp]; decide
      rw [e1, e2]
      rfl
    rw [hw]
    refine ⟨fun x => ?_, names_with _ _ _ h2⟩
    rw [find_with, ← h1 x, ← hw, filesOf_succ hk]
    unfold setF
    by_cases hx : x = l[k].1
    · rw [if_pos hx, if_pos (key_inj.2 hx)]
    · rw [if_neg hx, if_neg (fun e => hx (key_inj.1 e))]
theorem corr0 {l : List (ByteArray × ByteArray)} {lr : List Rp} {lf : List Fl} {stdin : ByteArray} {lim clock ch : Int} (h : distB (l.map (·.1)) = true) : Corr ⟨lim, clock, filesOf l, stdin, [], ch, [], lr, lf⟩ (rst0 l lr lf stdin lim clock ch) := by
  have h0 := files0 h l.length (Nat.le_refl _)
  rw [List.take_length] at h0
  exact ⟨rfl, rfl, rfl, rfl, rfl, rfl, Nat.zero_le _, by show stdin = stdin.extract 0 stdin.size; rw [ByteArray.extract_zero_size], rfl, fun s hs => (by cases hs), h0.1, h0.2⟩
theorem bd0 {l : List (ByteArray × ByteArray)} {lr : List Rp} {lf : List Fl} {stdin : ByteArray} {lim clock ch : Int} {m : Nat} (h : shortB l lr lf stdin 8 200 = true) (hm : m ≤ l.length) : Bd 0 m (rst0 l lr lf stdin lim clock ch) := by
  unfold shortB at h
  simp only [Bool.and_eq_true, decide_eq_true_eq, List.all_eq_true] at h
  obtain ⟨⟨⟨⟨h1, h2, h3, h4⟩, h5⟩, h6⟩, h7⟩ := h
  refine ⟨by omega, Nat.le_refl _, Nat.zero_le _, by show l.length ≤ _; omega, fun p hp => ?_, h4, fun s hs => (by cases hs), h2, fun r hr => ?_, h3, by omega⟩
  · have := h5 p hp
    unfold shF at this
    simp only [Bool.and_eq_true, decide_eq_true_eq] at this
    omega
  · have := h6 r hr
    unfold shR at this
    simp only [Bool.and_eq_true, decide_eq_true_eq] at this
    omega
end Wd
end Go.Proofs.Ytodjjnklelfgfaa
namespace Go.Proofs.Ytodjjnklelfgfaa
open Go.RowKit Wd
theorem Row.at5 {K : Nat → Prop} {w : World} {A : Option Addr} {n cap : Nat} {l : List Ev} (h : Row K w (.slice A n cap) n 5 (evals l)) (hl : n = l.length) {k : Nat} (hk : k < l.length) : ∃ b o, A = some ⟨b, o, none⟩ ∧ b < w.heap.size ∧
    w.cell? ⟨b, o + k * 5, none⟩ = some (.int .u8 l[k].k) ∧ w.cell? ⟨b, o + k * 5 + 1, none⟩ = some (.int .u8 l[k].st) ∧ w.cell? ⟨b, o + k * 5 + 2, none⟩ = some (.string l[k].name) ∧ w.cell? ⟨b, o + k * 5 + 3, none⟩ = some (.string l[k].data) ∧ w.cell? ⟨b, o + k * 5 + 4, none⟩ = some (.int .i64 l[k].status) := by
  obtain ⟨-, -, A', cap', hv, -, -, hc⟩ := h
  obtain ⟨rfl, -, -⟩ := Value.slice.inj hv
  obtain ⟨b, o, rfl, hb, -, hcell⟩ := hc (by omega)
  have hall : ∀ j, j < 5 → w.cell? ⟨b, o + (k * 5 + j), none⟩ = (l[k].vals)[j]? := fun j hj => by rw [hcell (k * 5 + j) (by omega), evals_get l k j hk hj]
  refine ⟨b, o, rfl, hb, hall 0 (by omega), ?_, ?_, ?_, ?_⟩
  · rw [Nat.add_assoc]; exact hall 1 (by omega)
  · rw [Nat.add_assoc]; exact hall 2 (by omega)
  · rw [Nat.add_assoc]; exact hall 3 (by omega)
  · rw [Nat.add_assoc]; exact hall 4 (by omega)
set_option maxRecDepth 20000 in
set_option maxHeartbeats 4000000 in
theorem w_same {K1 K2 : Nat → Prop} {w : World} {va vb : Value} (l : List Ev) (ha : Row K1 w va l.length 5 (evals l)) (hb : Row K2 w vb l.length 5 (evals l)) :
    Calls Try.prog 28 #[va, vb] w fun e w' => e = .returned (.bool true) ∧ Below w.heap.size w w' := by
  obtain ⟨-, hn9, A, cap, rfl, hc1, hc2, -⟩ := id ha
  obtain ⟨-, -, A2, cap2, rfl, hd1, hd2, -⟩ := id hb
  obtain ⟨n, hnn⟩ : ∃ n, n = l.length := ⟨_, rfl⟩
  rw [← hnn] at hn9 hc1 hd1 ha hb ⊢
  have HA := Lib.hid ha
  have HB := Lib.hid hb
  have HNN := Lib.hid hnn
  have hcap3 : cap < 9223372036854775808 := by unfold maxLen at hc2; omega
  have hcap4 : cap2 < 9223372036854775808 := by unfold maxLen at hd2; omega
  clear ha hb hnn
  go_enter Try.func28, Try.ntmps28
  go_wp2_with fail
  go_loopw [5] (fun i wr => ∃ k : Nat, k ≤ n ∧ i = .int .i64 k ∧ Below w.heap.size w wr) (fun i _ => n - (intOf i).toNat)
  case atStart => exact ⟨0, Nat.zero_le _, rfl, Below.refl _ _⟩
  case round =>
    obtain ⟨k, hk, rfl, hbr⟩ := hrel
    have HBR := Lib.hid hbr
    by_cases hlt : k < n
    · have hkl : k < l.length := by have := HNN.out; omega
      obtain ⟨b, o, rfl, hbl, c0, c1, c2, c3, c4⟩ := (HA.out.pure hbr).at5 HNN.out hkl
      obtain ⟨b2, o2, rfl, hbl2, d0, d1, d2, d3, d4⟩ := (HB.out.pure hbr).at5 HNN.out hkl
      have hkni : (k : Int) < (n : Int) := by omega
      generalize l[k].k = x0 at *
      generalize l[k].st = x1 at *
      generalize l[k].name = x2 at *
      generalize l[k].data = x3 at *
      generalize l[k].status = x4 at *
      clear hbr
      go_wp2_with fail
      go_quiet (fail)
      go_wp2_with fail
      go_roundw
      case rel => exact ⟨k + 1, by omega, by go_num, HBR.out.trans ((below_drew wr nq).mono HBR.out.size)⟩
      case measure => simp [intOf]; omega
    · go_wp2_with fail
      go_ret
      exact ⟨rfl, HBR.out⟩
end Go.Proofs.Ytodjjnklelfgfaa
namespace Go.Proofs.Ytodjjnklelfgfaa
namespace Vm
set_option linter.unusedSimpArgs false
set_option linter.unusedVariables false
open Go.RowKit

/-- What may be done to a block: ro: it came in; ex: its row is just so long; tip: the youngest of its line; old: a younger one has been made of it; dead: nobody may look at it any more. -/
inductive Fl where
  | ro | ex | tip | old | dead
  deriving DecidableEq, Inhabited
structure Blk where
  cells : Array Value
  elem : TypeId
  fl : Fl
  kin : Bool
  root : Nat
  esz : Nat
  deriving Inhabited
inductive VObj where
  | cells (b : Blk)
  | map (es : Array MapEntry) (clock : Nat)
  | iter (s : ByteArray) (pos : Nat)
  | rmap (es : Array MapEntry) (clock : Nat)
  deriving Inhabited
abbrev VHeap := Array VObj

def VObj.live : VObj → Bool
  | .cells b => b.fl != .dead
  | _ => true
def VObj.own : VObj → Bool
  | .cells b => b.fl != .dead && b.fl != .ro
  | .rmap _ _ => false
  | _ => true

def cell? (σ : VHeap) (a : Addr) : Option Value :=
  match a.spot, σ[a.block]? with
  | none, some (.cells b) => if b.fl = .dead then none else b.cells[a.off]?
  | _, _ => none
/-- The elders of a line are looked at no more. -/
def killed (r : Nat) : VObj → VObj
  | .cells b => if b.root = r ∧ b.fl = .old then .cells { b with fl := .dead } else .cells b
  | o => o
def kill (σ : VHeap) (r : Nat) : VHeap := σ.map (killed r)
def Blk.put (b : Blk) (i : Nat) (v : Value) : Blk := { b with cells := b.cells.setIfInBounds i v, kin := false }
def setCell (σ : VHeap) (a : Addr) (v : Value) : Option VHeap :=
  match a.spot, σ[a.block]? with
  | none, some (.cells b) =>
    if a.off < b.cells.size then
      match b.fl with
      | .ex => some (σ.setIfInBounds a.block (.cells (b.put a.off v)))
      | .tip => some ((bif b.kin then kill σ b.root else σ).setIfInBounds a.block (.cells (b.put a.off v)))
      | _ => none
    else none
  | _, _ => none

/-- The machine's own code, run over virtual memory: what has no virtual answer ends it. -/
def vrun {α : Type} (P : Program) : Sem α → VHeap → Option (α × VHeap)
  | .pure a, σ => some (a, σ)
  | .load .plain a k, σ => match cell? σ a with
    | some v => vrun P (k v) σ
    | none => none
  | .store .plain a v k, σ => match v.oneCell', setCell σ a v with
    | true, some σ' => vrun P k σ'
    | _, _ => none
  | .new (.cells c e (0, 0)) k, σ => vrun P (k σ.size) (σ.push (.cells ⟨c, e, .ex, false, σ.size, 0⟩))
  | .new (.map es 0) k, σ => match es with
    | ⟨[]⟩ => vrun P (k σ.size) (σ.push (.map #[] 0))
    | _ => none
  | .new (.stringIter s p) k, σ => vrun P (k σ.size) (σ.push (.iter s p))
  | .getObj r k, σ => match σ[r]? with
    | some (.map es c) => vrun P (k (.map es c)) σ
    | some (.rmap es c) => vrun P (k (.map es c)) σ
    | some (.iter s p) => vrun P (k (.stringIter s p)) σ
    | _ => none
  | .setObj r o k, σ => match σ[r]?, o with
    | some (.map _ _), .map es c => vrun P k (σ.setIfInBounds r (.map es c))
    | some (.iter _ _), .stringIter s p => vrun P k (σ.setIfInBounds r (.iter s p))
    | _, _ => none
  | .program k, σ => vrun P (k P) σ
  | .mark _ k, σ => vrun P k σ
  | _, _ => none

def andThen {α β : Type} (r : Option (α × VHeap)) (f : α → VHeap → Option (β × VHeap)) : Option (β × VHeap) :=
  match r with
  | some (a, σ) => f a σ
  | none => none

theorem vrun_bind {α β : Type} (P : Program) (x : Sem α) (f : α → Sem β) (σ : VHeap) :
    vrun P (x.bind f) σ = andThen (vrun P x σ) fun a σ' => vrun P (f a) σ' := by
  induction x generalizing σ with
  | pure a => rfl
  | load m a k ih =>
    cases m <;> simp only [Sem.bind, vrun]
    · split <;> simp [ih, andThen]
    · rfl
  | store m a v k ih =>
    cases m <;> simp only [Sem.bind, vrun]
    · split <;> simp [ih, andThen]
    · rfl
  | new o k ih =>
    unfold Sem.bind
    cases o with
    | cells c e f =>
      obtain ⟨lo, hi⟩ := f
      cases lo <;> cases hi <;> first | exact ih _ _ | rfl
    | map es c =>
      cases c with
      | zero =>
        obtain ⟨l⟩ := es
        cases l with
        | nil => exact ih _ _
        | cons a l => rfl
      | succ n => rfl
    | stringIter s p => exact ih _ _
    | _ => rfl
  | shape r k ih => rfl
  | freeze a n k ih => rfl
  | frozen a k ih => rfl
  | getObj r k ih =>
    simp only [Sem.bind, vrun]
    split <;> simp [ih, andThen]
  | setObj r o k ih =>
    simp only [Sem.bind, vrun]
    split <;> simp [ih, andThen]
  | choose q k ih => rfl
  | sys c k ih => rfl
  | program k ih => simp [Sem.bind, vrun, ih]
  | mark m k ih => simp [Sem.bind, vrun, ih]
  | halt h => rfl

/-- What a virtual block is in the real memory: the row, the place of its first cell there, the cells of an element and of the whole row; what is known of capacities. -/
inductive Kind where
  | ex | gr | ro
  deriving DecidableEq
structure Info where
  b : Nat
  o : Nat
  esz : Nat
  tot : Nat
  kind : Kind
abbrev Rho := Nat → Option Info
def Rho.le (ρ ρ' : Rho) : Prop := ∀ id i, ρ id = some i → ρ' id = some i
theorem Rho.le_refl (ρ : Rho) : ρ.le ρ := fun _ _ h => h
theorem Rho.le_trans {a b c : Rho} (h : a.le b) (k : b.le c) : a.le c := fun _ _ x => k _ _ (h _ _ x)

def CapOk (i : Info) (off c c' : Nat) : Prop :=
  match i.kind with
  | .ex => c = c'
  | .gr => c ≤ c' ∧ i.o + off + c' * i.esz ≤ i.tot
  | .ro => c ≤ c'

inductive VRel (ρ : Rho) : Value → Value → Prop where
  | bool (b : Bool) : VRel ρ (.bool b) (.bool b)
  | int (k : IntKind) (n : Int) : VRel ρ (.int k n) (.int k n)
  | float (k : FloatKind) (n : Nat) : VRel ρ (.float k n) (.float k n)
  | complex (k : FloatKind) (a b : Nat) : VRel ρ (.complex k a b) (.complex k a b)
  | string (s : ByteArray) : VRel ρ (.string s) (.string s)
  | ptrNil : VRel ρ (.pointer none) (.pointer none)
  | ptr {id off : Nat} {i : Info} (h : ρ id = some i) : VRel ρ (.pointer (some ⟨id, off, none⟩)) (.pointer (some ⟨i.b, i.o + off, none⟩))
  | sliceNil (n c : Nat) : VRel ρ (.slice none n c) (.slice none n c)
  | slice {id off n c c' : Nat} {i : Info} (h : ρ id = some i) (hc : CapOk i off c c') : VRel ρ (.slice (some ⟨id, off, none⟩) n c) (.slice (some ⟨i.b, i.o + off, none⟩) n c')
  | sliceOff (id off : Nat) (a : Addr) (c' : Nat) : VRel ρ (.slice (some ⟨id, off, some 0⟩) 0 0) (.slice (some a) 0 c')
  | glob (g : Nat) : VRel ρ (.chan (some g)) (.pointer (some ⟨g, 0, none⟩))
  | mapNil : VRel ρ (.map none) (.map none)
  | map {id : Nat} {i : Info} (h : ρ id = some i) : VRel ρ (.map (some id)) (.map (some i.b))
  | func (fn : Fn) {xs ys us vs : Array Value} (h1 : xs.size = ys.size) (h2 : ∀ (k : Nat) (h : k < xs.size) (h' : k < ys.size), VRel ρ xs[k] ys[k])
      (g1 : us.size = vs.size) (g2 : ∀ (k : Nat) (h : k < us.size) (h' : k < vs.size), VRel ρ us[k] vs[k]) : VRel ρ (.func fn xs us) (.func fn ys vs)
  | nilFunc : VRel ρ .nilFunc .nilFunc
  | iface (t : TypeId) {v v' : Value} (h : VRel ρ v v') : VRel ρ (.iface t v) (.iface t v')
  | nilIface : VRel ρ .nilIface .nilIface
  | agg {xs ys : Array Value} (h1 : xs.size = ys.size) (h2 : ∀ (k : Nat) (h : k < xs.size) (h' : k < ys.size), VRel ρ xs[k] ys[k]) : VRel ρ (.agg xs) (.agg ys)
  | tuple {xs ys : Array Value} (h1 : xs.size = ys.size) (h2 : ∀ (k : Nat) (h : k < xs.size) (h' : k < ys.size), VRel ρ xs[k] ys[k]) : VRel ρ (.tuple xs) (.tuple ys)

theorem VRel.mono {ρ ρ' : Rho} (hle : ρ.le ρ') {v v' : Value} (h : VRel ρ v v') : VRel ρ' v v' := by
  induction h with
  | bool b => exact .bool b
  | int k n => exact .int k n
  | float k n => exact .float k n
  | complex k a b => exact .complex k a b
  | string s => exact .string s
  | ptrNil => exact .ptrNil
  | ptr h => exact .ptr (hle _ _ h)
  | sliceNil n c => exact .sliceNil n c
  | slice h hc => exact .slice (hle _ _ h) hc
  | sliceOff id off a c' => exact .sliceOff id off a c'
  | glob g => exact .glob g
  | mapNil => exact .mapNil
  | map h => exact .map (hle _ _ h)
  | func fn h1 _ g1 _ ih ih' => exact .func fn h1 ih g1 ih'
  | nilFunc => exact .nilFunc
  | iface t _ ih => exact .iface t ih
  | nilIface => exact .nilIface
  | agg h1 _ ih => exact .agg h1 ih
  | tuple h1 _ ih => exact .tuple h1 ih

/-- Arrays of values, place by place. -/
def ARel (ρ : Rho) (xs ys : Array Value) : Prop := xs.size = ys.size ∧ ∀ (k : Nat) (h : k < xs.size) (h' : k < ys.size), VRel ρ xs[k] ys[k]
theorem ARel.mono {ρ ρ' : Rho} (hle : ρ.le ρ') {xs ys : Array Value} (h : ARel ρ xs ys) : ARel ρ' xs ys := ⟨h.1, fun k a b => (h.2 k a b).mono hle⟩
theorem ARel.nil (ρ : Rho) : ARel ρ #[] #[] := ⟨rfl, fun k h => by simp at h⟩
theorem ARel.push {ρ : Rho} {xs ys : Array Value} {v v' : Value} (h : ARel ρ xs ys) (hv : VRel ρ v v') : ARel ρ (xs.push v) (ys.push v') := by
  refine ⟨by simp [h.1], fun k a b => ?_⟩
  simp only [Array.getElem_push]
  by_cases hk : k < xs.size
  · rw [dif_pos hk, dif_pos (h.1 ▸ hk)]; exact h.2 k hk _
  · rw [dif_neg hk, dif_neg (h.1 ▸ hk)]; exact hv
theorem ARel.append {ρ : Rho} {xs ys us vs : Array Value} (h : ARel ρ xs ys) (g : ARel ρ us vs) : ARel ρ (xs ++ us) (ys ++ vs) := by
  refine ⟨by simp [h.1, g.1], fun k a b => ?_⟩
  simp only [Array.getElem_append]
  by_cases hk : k < xs.size
  · rw [dif_pos hk, dif_pos (h.1 ▸ hk)]; exact h.2 k hk _
  · rw [dif_neg hk, dif_neg (h.1 ▸ hk)]
    simp only [Array.size_append] at a b
    have h1 := h.1
    have g1 := g.1
    have e : vs[k - ys.size]'(by omega) = vs[k - xs.size]'(by omega) := getElem_congr_idx (by rw [h1])
    rw [e]
    exact g.2 _ _ _
theorem ARel.set {ρ : Rho} {xs ys : Array Value} {v v' : Value} (h : ARel ρ xs ys) (i : Nat) (hv : VRel ρ v v') : ARel ρ (xs.setIfInBounds i v) (ys.setIfInBounds i v') := by
  refine ⟨by simp [h.1], fun k a b => ?_⟩
  have a' : k < xs.size := by simpa using a
  have b' : k < ys.size := by simpa using b
  rw [Array.getElem_setIfInBounds a', Array.getElem_setIfInBounds b']
  by_cases hk : i = k
  · rw [if_pos hk, if_pos hk]; exact hv
  · rw [if_neg hk, if_neg hk]; exact h.2 k _ _
theorem ARel.extract {ρ : Rho} {xs ys : Array Value} (h : ARel ρ xs ys) (i j : Nat) : ARel ρ (xs.extract i j) (ys.extract i j) := by
  refine ⟨by simp [h.1], fun k a b => ?_⟩
  simp only [Array.getElem_extract]
  exact h.2 _ _ _
theorem ARel.get? {ρ : Rho} {xs ys : Array Value} (h : ARel ρ xs ys) {i : Nat} {v : Value} (hv : xs[i]? = some v) : ∃ v', ys[i]? = some v' ∧ VRel ρ v v' := by
  obtain ⟨hi, rfl⟩ := Array.getElem?_eq_some_iff.1 hv
  exact ⟨ys[i]'(h.1 ▸ hi), Array.getElem?_eq_getElem _, h.2 i hi _⟩
theorem ARel.get_none {ρ : Rho} {xs ys : Array Value} (h : ARel ρ xs ys) {i : Nat} (hv : xs[i]? = none) : ys[i]? = none := by
  rw [Array.getElem?_eq_none_iff] at hv ⊢; rw [← h.1]; exact hv
theorem ARel.map {ρ : Rho} {α : Type} (l : Array α) (f g : α → Value) (h : ∀ x ∈ l, VRel ρ (f x) (g x)) : ARel ρ (l.map f) (l.map g) :=
  ⟨by simp, fun k a b => by simp only [Array.getElem_map]; exact h _ (Array.getElem_mem _)⟩

theorem VRel.cells {ρ : Rho} {v v' : Value} (h : VRel ρ v v') : ARel ρ v.cells v'.cells := by
  cases h with
  | agg h1 h2 => exact ⟨h1, h2⟩
  | _ => refine ⟨rfl, fun k a b => ?_⟩; (simp only [Value.cells, List.size_toArray, List.length_singleton] at a; obtain rfl : k = 0 := by omega); simp only [Value.cells, List.getElem_toArray, List.getElem_cons_zero]; constructor <;> assumption
theorem VRel.one {ρ : Rho} {v v' : Value} (h : VRel ρ v v') : v.oneCell' = v'.oneCell' := by cases h <;> rfl

def cleanC : Value → Bool
  | .bool _ | .int _ _ | .float _ _ | .complex _ _ _ | .string _ | .pointer none | .slice none _ _ | .map none | .nilFunc | .nilIface => true
  | _ => false
/-- The entries of a map, one by one: keys without addresses. -/
def ERel (ρ : Rho) (es fs : Array MapEntry) : Prop :=
  es.size = fs.size ∧ ∀ (k : Nat) (h : k < es.size) (h' : k < fs.size), es[k].key = fs[k].key ∧ cleanC es[k].key = true ∧ VRel ρ es[k].val fs[k].val ∧ es[k].born = fs[k].born
theorem ERel.mono {ρ ρ' : Rho} (hle : ρ.le ρ') {es fs : Array MapEntry} (h : ERel ρ es fs) : ERel ρ' es fs :=
  ⟨h.1, fun k a b => ⟨(h.2 k a b).1, (h.2 k a b).2.1, (h.2 k a b).2.2.1.mono hle, (h.2 k a b).2.2.2⟩⟩

/-- Real blocks that nothing may turn, and virtual ones that have no real block yet. -/
structure Base where
  U : Nat → Prop
  H : Nat → Prop
  Ro : Nat → Prop
structure Keeps (U : Nat → Prop) (w w' : World) : Prop where
  os : w'.os = w.os
  tape : w'.tape = w.tape
  output : w'.output = w.output
  size : w.heap.size ≤ w'.heap.size
  block : ∀ k, U k → w'.heap[k]? = w.heap[k]?
theorem Keeps.refl (U : Nat → Prop) (w : World) : Keeps U w w := ⟨rfl, rfl, rfl, Nat.le_refl _, fun _ _ => rfl⟩
theorem Keeps.trans {U : Nat → Prop} {a b c : World} (h : Keeps U a b) (k : Keeps U b c) : Keeps U a c :=
  ⟨k.os.trans h.os, k.tape.trans h.tape, k.output.trans h.output, Nat.le_trans h.size k.size, fun i hi => (k.block i hi).trans (h.block i hi)⟩
theorem Keeps.mono {U V : Nat → Prop} {a b : World} (h : Keeps U a b) (hUV : ∀ k, V k → U k) : Keeps V a b := ⟨h.os, h.tape, h.output, h.size, fun k hk => h.block k (hUV k hk)⟩
theorem Keeps.of_below {U : Nat → Prop} {n : Nat} {a b : World} (h : Below n a b) (hU : ∀ k, U k → k < n) : Keeps U a b := ⟨h.os, h.tape, h.output, h.size, fun k hk => h.block k (hU k hk)⟩
theorem Keeps.setCell {U : Nat → Prop} {a w : World} (h : Keeps U a w) {p : Addr} (hp : ¬ U p.block) (u : Value) : Keeps U a (w.setCell p u) :=
  h.trans ⟨rfl, rfl, rfl, by simp [World.setCell], fun k hk => Below.heap_setCell _ _ _ _ (fun e => hp (e ▸ hk))⟩
structure BlkRel (ρ : Rho) (w : World) (B0 : Base) (b : Blk) (i : Info) (cs : Array Value) (fz : Nat × Nat) : Prop where
  at_ : w.heap[i.b]? = some (.cells cs b.elem fz)
  len : i.o + b.cells.size ≤ cs.size
  cells : ∀ (k : Nat) (h : k < b.cells.size) (h' : i.o + k < cs.size), VRel ρ b.cells[k] cs[i.o + k]
  ro : b.fl = .ro → (B0.U i.b ∧ B0.Ro i.b) ∧ i.kind = .ro ∧ (b.kin = true → i.b = b.root ∧ i.o = 0)
  mine : b.fl ≠ .ro → ¬ B0.U i.b ∧ i.tot = cs.size ∧ (b.fl ≠ .old → ∀ k, k < cs.size → ¬ (fz.1 ≤ k ∧ k < fz.2))
  ex : b.fl = .ex → i.kind = .ex ∧ i.o = 0 ∧ b.cells.size = cs.size
  gr : b.fl = .tip ∨ b.fl = .old → i.kind = .gr ∧ i.esz = b.esz

def Kin (o1 o2 : VObj) (i1 i2 : Info) : Prop :=
  match o1, o2 with
  | .cells b1, .cells b2 => b1.root = b2.root ∧ b1.fl ≠ .ex ∧ b2.fl ≠ .ex ∧ (b1.fl = .tip → b2.fl = .old ∧ b1.kin = true ∧ i2.o + b2.cells.size ≤ i1.o + b1.cells.size)
  | _, _ => False

structure WRel (ρ : Rho) (σ : VHeap) (w0 w : World) (B0 : Base) : Prop where
  dom : ∀ id, σ.size ≤ id → ρ id = none
  blk : ∀ id b, σ[id]? = some (.cells b) → b.fl ≠ .dead → ∃ i cs fz, ρ id = some i ∧ BlkRel ρ w B0 b i cs fz
  map : ∀ id es c, σ[id]? = some (.map es c) → ∃ i fs, ρ id = some i ∧ i.o = 0 ∧ ¬ B0.U i.b ∧ w.heap[i.b]? = some (.map fs c) ∧ ERel ρ es fs
  rmap : ∀ id es c, σ[id]? = some (.rmap es c) → ∃ i fs, ρ id = some i ∧ i.o = 0 ∧ (B0.U i.b ∧ B0.Ro i.b) ∧ w.heap[i.b]? = some (.map fs c) ∧ ERel ρ es fs
  iter : ∀ id s p, σ[id]? = some (.iter s p) → ∃ i, ρ id = some i ∧ i.o = 0 ∧ ¬ B0.U i.b ∧ w.heap[i.b]? = some (.stringIter s p)
  sep : ∀ id1 id2 o1 o2 i1 i2, id1 ≠ id2 → σ[id1]? = some o1 → σ[id2]? = some o2 → o1.own = true → o2.own = true → ρ id1 = some i1 → ρ id2 = some i2 → i1.b = i2.b → Kin o1 o2 i1 i2
  base : ∀ k, B0.U k → k < w.heap.size
  below : Keeps B0.U w0 w
  hole : ∀ id, B0.H id → ρ id = none ∧ id < σ.size
end Vm
end Go.Proofs.Ytodjjnklelfgfaa
