/- The law's 'one': a call on either side. -/
import Derived.Test.YtodjjnklelfgfaaG17
set_option linter.unusedVariables false
set_option linter.unusedSimpArgs false
namespace Go.Proofs.Ytodjjnklelfgfaa
open Go.RowKit Wd
def put12 (wi : World) (g : Nat) (f : Fm) (rs : RSt) : World := ((((((((((((wi.setCell ⟨g, 0, none⟩ (.slice f.A0 f.n0 f.c0)).setCell ⟨g, 1, none⟩ (.string rs.stdin)).setCell ⟨g, 2, none⟩ (.slice f.A2 rs.replies.length f.c2)).setCell ⟨g, 3, none⟩ (.slice f.A3 rs.fails.length f.c3)).setCell ⟨g, 4, none⟩ (.int .i64 rs.lim)).setCell ⟨g, 5, none⟩ (.int .i64 rs.clock)).setCell ⟨g, 6, none⟩ (.int .u64 rs.ch)).setCell ⟨g, 7, none⟩ (.slice f.AF rs.files.length f.cF)).setCell ⟨g, 8, none⟩ (.int .i64 rs.taken)).setCell ⟨g, 9, none⟩ (.slice f.AO rs.opn.length f.cO)).setCell ⟨g, 10, none⟩ (.int .u64 rs.num)).setCell ⟨g, 11, none⟩ (.slice f.AE rs.events.length f.cE))
structure OW (w wi : World) (B B1 B2 : Nat) (ov : Array Value) (F0 K0 F : Nat → Prop) (pb : Nat) (M : Mem) (st : St) (K : Nat → Prop) (f0 : Fm) (rs0 : RSt) (f : Fm) (rs : RSt) (rv : Array Value) : Prop where
  hB : B = w.heap.size
  hB1 : B1 = B + 1
  hB2 : B2 = B + 2
  tur : Tur F0 w wi
  fr : ∀ g, F g → F0 g ∨ B ≤ g
  fx : ∀ g, F g → g ≠ B ∧ g ≠ B1 ∧ g ≠ B2
  kx : ∀ g, K g → g ≠ B ∧ g ≠ B1 ∧ g ≠ B2
  blk : Blk wi B 73 (fcells f0 rs0)
  opb : Blk wi B1 55 ov
  res : Blk wi B2 73 rv
  wat : WAt wi F pb M st
  rf : RF K wi f rs
  apart : ∀ b, b < wi.heap.size → K b → F b → False
  kn : ∀ g, K g → K0 g ∨ B ≤ g
section
variable {w wi wj : World} {B B1 B2 : Nat} {ov rv : Array Value} {F0 K0 F F' : Nat → Prop} {pb : Nat} {M M' : Mem} {st st' : St} {K : Nat → Prop} {f0 f f' : Fm} {rs0 rs rs' : RSt}
theorem OW.start (h : Both w F pb M st K f rs) (ov : Array Value) : OW w (((w.alloc (.cells (fcells f rs) 73)).alloc (.cells ov 55)).alloc (.cells #[.slice none 0 0, .string ⟨#[]⟩, .slice none 0 0, .slice none 0 0, .int .i64 0, .int .i64 0, .int .u64 0, .slice none 0 0, .int .i64 0, .slice none 0 0, .int .u64 0, .slice none 0 0] 73)) w.heap.size (w.heap.size + 1) (w.heap.size + 1 + 1) ov F K F pb M st (fun b => K b ∧ b < w.heap.size) f rs f rs #[.slice none 0 0, .string ⟨#[]⟩, .slice none 0 0, .slice none 0 0, .int .i64 0, .int .i64 0, .int .u64 0, .slice none 0 0, .int .i64 0, .slice none 0 0, .int .u64 0, .slice none 0 0] := by
  have hb : Below w.heap.size w (((w.alloc (.cells (fcells f rs) 73)).alloc (.cells ov 55)).alloc (.cells #[.slice none 0 0, .string ⟨#[]⟩, .slice none 0 0, .slice none 0 0, .int .i64 0, .int .i64 0, .int .u64 0, .slice none 0 0, .int .i64 0, .slice none 0 0, .int .u64 0, .slice none 0 0] 73)) := (((Below.refl _ _).alloc (Nat.le_refl _) _).alloc (by simp) _).alloc (by simp; omega) _
  have hx := h.pure hb
  refine ⟨rfl, rfl, rfl, Tur.of_gr hb, fun g hg => .inl hg, fun g hg => ?_, fun g hg => ?_, ?_, ?_, ?_, hx.wat, hx.rf, hx.apart, fun g hg => .inl hg.1⟩
  · have := h.wat.flt g hg; omega
  · have := hg.2; omega
  · exact ((Blk.new w _ _).keep (Tur.of_alloc (F := fun _ => False) _ _) (fun h => h)).keep (Tur.of_alloc (F := fun _ => False) _ _) (fun h => h)
  · have h1 := Blk.new (w.alloc (.cells (fcells f rs) 73)) 55 ov
    rw [World.size_alloc] at h1
    exact h1.keep (Tur.of_alloc (F := fun _ => False) _ _) (fun h => h)
  · have h1 := Blk.new ((w.alloc (.cells (fcells f rs) 73)).alloc (.cells ov 55)) 73 #[.slice none 0 0, .string ⟨#[]⟩, .slice none 0 0, .slice none 0 0, .int .i64 0, .int .i64 0, .int .u64 0, .slice none 0 0, .int .i64 0, .slice none 0 0, .int .u64 0, .slice none 0 0]
    rw [World.size_alloc, World.size_alloc] at h1
    exact h1
theorem OW.mine (h : OW w wi B B1 B2 ov F0 K0 F pb M st K f0 rs0 f rs rv) (hw : WAt wj F' pb M' st') (ht : Tur F wi wj) (hF : ∀ g, F' g → F g ∨ wi.heap.size ≤ g) : OW w wj B B1 B2 ov F0 K0 F' pb M' st' (fun b => K b ∧ b < wi.heap.size) f0 rs0 f rs rv := by
  have l0 := h.blk.lt
  have l1 := h.opb.lt
  have l2 := h.res.lt
  have hBE := h.hB
  refine ⟨h.hB, h.hB1, h.hB2, h.tur.trans ht (fun i hi e => ?_), fun g hg => ?_, fun g hg => ?_, fun g hg => h.kx g hg.1, h.blk.keep ht (fun e => (h.fx _ e).1 rfl), h.opb.keep ht (fun e => (h.fx _ e).2.1 rfl), h.res.keep ht (fun e => (h.fx _ e).2.2 rfl), hw, ?_, fun b _ hK hF' => ?_, fun g hg => h.kn g hg.1⟩
  · rcases h.fr i e with h1 | h1
    · exact h1
    · omega
  · rcases hF g hg with h1 | h1
    · exact h.fr g h1
    · right; omega
  · rcases hF g hg with h1 | h1
    · exact h.fx g h1
    · refine ⟨?_, ?_, ?_⟩ <;> omega
  · exact RAt.keep (RAt.mono h.rf (fun b hb hK => ⟨hK, hb⟩)) ht.size (fun b hb hK => ht.block b hb (fun hf => h.apart b hb hK.1 hf))
  · rcases hF b hF' with h1 | h1
    · exact h.apart b hK.2 hK.1 h1
    · have := hK.2; omega
theorem OW.pure (h : OW w wi B B1 B2 ov F0 K0 F pb M st K f0 rs0 f rs rv) (hb : Below wi.heap.size wi wj) : OW w wj B B1 B2 ov F0 K0 F pb M st (fun b => K b ∧ b < wi.heap.size) f0 rs0 f rs rv := h.mine (h.wat.pure hb) (Tur.of_gr hb) (fun _ hg => .inl hg)
theorem OW.told (h : OW w wi B B1 B2 ov F0 K0 F pb M st K f0 rs0 f rs rv) (hb : Below wi.heap.size wi wj) (hr : RF (Nw K wi) wj f' rs') : OW w wj B B1 B2 ov F0 K0 F pb M st (Nw K wi) f0 rs0 f' rs' rv := by
  have l0 := h.blk.lt
  have l1 := h.opb.lt
  have l2 := h.res.lt
  have h1 := h.pure hb
  refine ⟨h.hB, h.hB1, h.hB2, h1.tur, h.fr, h.fx, fun g hg => ?_, h1.blk, h1.opb, h1.res, h1.wat, hr, fun b hb' hK hF => ?_, fun g hg => ?_⟩
  · rcases hg with hg | hg
    · exact h.kx g hg
    · refine ⟨?_, ?_, ?_⟩ <;> omega
  · rcases hK with hK | hK
    · exact h.apart b (h.wat.flt b hF) hK hF
    · have := h.wat.flt b hF; omega
  · rcases hg with hg | hg
    · exact h.kn g hg
    · right; omega
theorem put12_tur (wi : World) (g : Nat) (f : Fm) (rs : RSt) : Tur (· = g) wi (put12 wi g f rs) := Tur.set12 _ _ _ _ _ _ _ _ _ _ _ _
theorem OW.put (h : OW w wi B B1 B2 ov F0 K0 F pb M st K f0 rs0 f rs rv) : OW w (put12 wi B f rs) B B1 B2 ov F0 K0 F pb M st (fun b => K b ∧ b < wi.heap.size) f rs f rs rv := by
  have ht := put12_tur wi B f rs
  have l0 := h.blk.lt
  have hBE := h.hB
  have e1 := h.hB1
  have e2 := h.hB2
  refine ⟨h.hB, h.hB1, h.hB2, h.tur.trans ht (fun i hi e => by have e : i = B := e; omega), h.fr, h.fx, fun g hg => h.kx g hg.1, ?_, h.opb.keep ht (by omega), h.res.keep ht (by omega), h.wat.keep ht.size (fun k hk hF => ht.block k hk (fun e => (h.fx k hF).1 e)), ?_, fun b _ hK hF => h.apart b hK.2 hK.1 hF, fun g hg => h.kn g hg.1⟩
  · exact h.blk.set12 _ _ _ _ _ _ _ _ _ _ _ _
  · exact RAt.keep (RAt.mono h.rf (fun b hb hK => ⟨hK, hb⟩)) ht.size (fun b hb hK => ht.block b hb (fun e => (h.kx b hK.1).1 e))
theorem OW.out {r0 r1 r2 r3 r4 r5 r6 r7 r8 r9 r10 r11 : Value} (h : OW w wi B B1 B2 ov F0 K0 F pb M st K f0 rs0 f rs #[r0, r1, r2, r3, r4, r5, r6, r7, r8, r9, r10, r11]) : OW w (put12 wi B2 f rs) B B1 B2 ov F0 K0 F pb M st (fun b => K b ∧ b < wi.heap.size) f0 rs0 f rs (fcells f rs) := by
  have ht := put12_tur wi B2 f rs
  have l0 := h.blk.lt
  have hBE := h.hB
  have e1 := h.hB1
  have e2 := h.hB2
  refine ⟨h.hB, h.hB1, h.hB2, h.tur.trans ht (fun i hi e => by have e : i = B2 := e; omega), h.fr, h.fx, fun g hg => h.kx g hg.1, h.blk.keep ht (by omega), h.opb.keep ht (by omega), ?_, h.wat.keep ht.size (fun k hk hF => ht.block k hk (fun e => (h.fx k hF).2.2 e)), ?_, fun b _ hK hF => h.apart b hK.2 hK.1 hF, fun g hg => h.kn g hg.1⟩
  · exact h.res.set12 _ _ _ _ _ _ _ _ _ _ _ _
  · exact RAt.keep (RAt.mono h.rf (fun b hb hK => ⟨hK, hb⟩)) ht.size (fun b hb hK => ht.block b hb (fun e => (h.kx b hK.1).2.2 e))
end
theorem openD_clock (rs : RSt) (k : Int) (name : ByteArray) : (openD rs k name).1.clock = rs.clock := by
  unfold openD
  repeat (first | rfl | split)
def OnePost (w : World) (F K : Nat → Prop) (pb t : Nat) (rsx : RSt) (e : Ending) (w' : World) : Prop :=
  ∃ F' M' st' K' f' rs', e = .returned (.tuple #[.agg (fcells f' rs'), .bool true]) ∧ Both w' F' pb M' st' K' f' rs' ∧ Bd (t + 1) M'.m rs' ∧ Tur F w w' ∧ (∀ g, F' g → F g ∨ w.heap.size ≤ g) ∧ (∀ g, K' g → K g ∨ w.heap.size ≤ g) ∧ rs'.clock = rsx.clock
set_option maxRecDepth 100000 in
set_option maxHeartbeats 4000000 in
theorem one_1 {w : World} {F : Nat → Prop} {pb t : Nat} {M : Mem} {st : St} {K : Nat → Prop} {f : Fm} {rs : RSt} (h : Both w F pb M st K f rs) (hd : Bd t M.m rs) (ht : t < 50) (k : Int) (name data : ByteArray) (n : Int) (hn : name.size ≤ 100) :
    Calls Try.prog 27 #[.pointer (some ⟨pb, 0, none⟩), .agg (fcells f rs), .agg #[.int .i64 1, .int .u8 k, .string name, .string data, .int .i64 n]] w (OnePost w F K pb t rs) := by
  have H0 := Lib.hid (OW.start h #[.int .i64 1, .int .u8 k, .string name, .string data, .int .i64 n])
  obtain ⟨o0, o1⟩ := h.corr.open k name
  have HO0 := Lib.hid o0
  have HO1 := Lib.hid o1
  have HCK := Lib.hid (openD_clock rs k name)
  have HBD := Lib.hid (fun (m' : Nat) (hm : m' ≤ M.m + 1) => hd.open ht k name hm)
  have hl1 : st.opn.length ≤ 1000000000 := by rw [h.corr.opn, List.length_map]; have := hd.opn; omega
  have hl2 : st.trace.length ≤ 1000000000 := by rw [h.corr.trace]; have := hd.ev; omega
  have hl3 : st.replies.length ≤ 1000000000 := by rw [h.corr.reps]; have := hd.rep; omega
  have hl4 : st.fails.length ≤ 1000000000 := by rw [h.corr.fails]; have := hd.fails; omega
  have hl5 : M.m ≤ 1000000000 := by have := hd.m; omega
  have HL := Lib.hid (And.intro hl1 (And.intro hl2 (And.intro hl3 (And.intro hl4 hl5))))
  have hq1 : rs.events.length ≤ 100000 := by have := hd.ev; omega
  have hq2 : rs.opn.length ≤ 100000 := by have := hd.opn; omega
  have hq3 : rs.files.length ≤ 100000 := by have := hd.fl; omega
  have HQ := Lib.hid (And.intro hq1 (And.intro hq2 hq3))
  have hnm : name.size ≤ maxLen := by unfold maxLen; omega
  have HNM := Lib.hid hnm
  clear o0 o1 h hd hl1 hl2 hl3 hl4 hl5 hq1 hq2 hq3 hnm
  go_enter Try.func27, Try.ntmps27
  go_wp2_with fail
  generalize (((w.alloc (.cells (fcells f rs) 73)).alloc (.cells #[.int .i64 1, .int .u8 k, .string name, .string data, .int .i64 n] 55)).alloc (.cells #[.slice none 0 0, .string ⟨#[]⟩, .slice none 0 0, .slice none 0 0, .int .i64 0, .int .i64 0, .int .u64 0, .slice none 0 0, .int .i64 0, .slice none 0 0, .int .u64 0, .slice none 0 0] 73)) = w1 at *
  obtain ⟨B, hB⟩ : ∃ B, B = w.heap.size := ⟨_, rfl⟩
  rw [← hB] at H0 ⊢
  obtain ⟨B1, hB1⟩ : ∃ B1, B1 = B + 1 := ⟨_, rfl⟩
  rw [← hB1] at H0 ⊢
  obtain ⟨B2, hB2⟩ : ∃ B2, B2 = B1 + 1 := ⟨_, rfl⟩
  rw [← hB2] at H0 ⊢
  clear hB hB1 hB2
  refine (wo_open H0.out.wat k name HNM.out HL.out.1 HL.out.2.1 HL.out.2.2.1 HL.out.2.2.2.1 HL.out.2.2.2.2).mono ?_
  rintro e w2 ⟨M2, F2, rfl, hw2, ht2, hf2, hm2⟩
  have HM2 := Lib.hid hm2
  have H2 := Lib.hid (H0.out.mine hw2 ht2 hf2)
  clear hw2 ht2 hf2 hm2
  obtain ⟨⟨b0, b1, b2, b3, b4, b5, b6, b7, b8, b9, b10, b11⟩, p0, p1, p2, p3, p4, p5, p6, p7, p8, p9, p10, p11⟩ := H2.out.blk.twelve
  have q0 : w2.cell? ⟨B1, 0, none⟩ = some (.int .i64 1) := H2.out.opb.cell 0
  have q1 : w2.cell? ⟨B1, 1, none⟩ = some (.int .u8 k) := H2.out.opb.cell 1
  have q2 : w2.cell? ⟨B1, 2, none⟩ = some (.string name) := H2.out.opb.cell 2
  have q3 : w2.cell? ⟨B1, 3, none⟩ = some (.string data) := H2.out.opb.cell 3
  have q4 : w2.cell? ⟨B1, 4, none⟩ = some (.int .i64 n) := H2.out.opb.cell 4
  go_wp2_with fail
  refine (fw_open H2.out.rf k name HQ.out.1 HQ.out.2.1 HQ.out.2.2).mono ?_
  generalize (openL st k name).1 = st2 at *
  generalize (openL st k name).2 = y2 at *
  generalize (openD rs k name).1 = rs3 at *
  generalize (openD rs k name).2 = y3 at *
  rintro e w3 ⟨f3, rfl, hr3, hb3⟩
  have hyy := HO0.out
  subst hyy
  have H3 := Lib.hid (H2.out.told hb3 hr3)
  clear hr3 hb3 b0 b1 b2 b3 b4 b5 b6 b7 b8 b9 b10 b11 p0 p1 p2 p3 p4 p5 p6 p7 p8 p9 p10 p11 q0 q1 q2 q3 q4
  rw [show fcells f3 rs3 = #[.slice f3.A0 f3.n0 f3.c0, .string rs3.stdin, .slice f3.A2 rs3.replies.length f3.c2, .slice f3.A3 rs3.fails.length f3.c3, .int .i64 rs3.lim, .int .i64 rs3.clock, .int .u64 rs3.ch, .slice f3.AF rs3.files.length f3.cF, .int .i64 rs3.taken, .slice f3.AO rs3.opn.length f3.cO, .int .u64 rs3.num, .slice f3.AE rs3.events.length f3.cE] from rfl]
  obtain ⟨⟨b0, b1, b2, b3, b4, b5, b6, b7, b8, b9, b10, b11⟩, p0, p1, p2, p3, p4, p5, p6, p7, p8, p9, p10, p11⟩ := H3.out.blk.twelve
  go_upto_region 29 with (fail)
  have H4 := Lib.hid H3.out.put
  clear b0 b1 b2 b3 b4 b5 b6 b7 b8 b9 b10 b11 p0 p1 p2 p3 p4 p5 p6 p7 p8 p9 p10 p11
  have HG := Lib.hid (show put12 w3 B f3 rs3 = ((((((((((((w3.setCell ⟨B, 0, none⟩ (.slice f3.A0 f3.n0 f3.c0)).setCell ⟨B, 1, none⟩ (.string rs3.stdin)).setCell ⟨B, 2, none⟩ (.slice f3.A2 rs3.replies.length f3.c2)).setCell ⟨B, 3, none⟩ (.slice f3.A3 rs3.fails.length f3.c3)).setCell ⟨B, 4, none⟩ (.int .i64 rs3.lim)).setCell ⟨B, 5, none⟩ (.int .i64 rs3.clock)).setCell ⟨B, 6, none⟩ (.int .u64 rs3.ch)).setCell ⟨B, 7, none⟩ (.slice f3.AF rs3.files.length f3.cF)).setCell ⟨B, 8, none⟩ (.int .i64 rs3.taken)).setCell ⟨B, 9, none⟩ (.slice f3.AO rs3.opn.length f3.cO)).setCell ⟨B, 10, none⟩ (.int .u64 rs3.num)).setCell ⟨B, 11, none⟩ (.slice f3.AE rs3.events.length f3.cE)) from rfl)
  rw [← HG.out]
  generalize put12 w3 B f3 rs3 = w4 at *
  clear HG
  obtain ⟨⟨b0, b1, b2, b3, b4, b5, b6, b7, b8, b9, b10, b11⟩, p0, p1, p2, p3, p4, p5, p6, p7, p8, p9, p10, p11⟩ := H4.out.blk.twelve
  obtain ⟨⟨r0, r1, r2, r3, r4, r5, r6, r7, r8, r9, r10, r11⟩, q0, q1, q2, q3, q4, q5, q6, q7, q8, q9, q10, q11⟩ := H4.out.res.twelve
  go_wp2_with fail
  have H5 := Lib.hid H4.out.out
  clear b0 b1 b2 b3 b4 b5 b6 b7 b8 b9 b10 b11 p0 p1 p2 p3 p4 p5 p6 p7 p8 p9 p10 p11 r0 r1 r2 r3 r4 r5 r6 r7 r8 r9 r10 r11 q0 q1 q2 q3 q4 q5 q6 q7 q8 q9 q10 q11
  have HG := Lib.hid (show put12 w4 B2 f3 rs3 = ((((((((((((w4.setCell ⟨B2, 0, none⟩ (.slice f3.A0 f3.n0 f3.c0)).setCell ⟨B2, 1, none⟩ (.string rs3.stdin)).setCell ⟨B2, 2, none⟩ (.slice f3.A2 rs3.replies.length f3.c2)).setCell ⟨B2, 3, none⟩ (.slice f3.A3 rs3.fails.length f3.c3)).setCell ⟨B2, 4, none⟩ (.int .i64 rs3.lim)).setCell ⟨B2, 5, none⟩ (.int .i64 rs3.clock)).setCell ⟨B2, 6, none⟩ (.int .u64 rs3.ch)).setCell ⟨B2, 7, none⟩ (.slice f3.AF rs3.files.length f3.cF)).setCell ⟨B2, 8, none⟩ (.int .i64 rs3.taken)).setCell ⟨B2, 9, none⟩ (.slice f3.AO rs3.opn.length f3.cO)).setCell ⟨B2, 10, none⟩ (.int .u64 rs3.num)).setCell ⟨B2, 11, none⟩ (.slice f3.AE rs3.events.length f3.cE)) from rfl)
  rw [← HG.out]
  generalize put12 w4 B2 f3 rs3 = w5 at *
  clear HG
  obtain ⟨⟨x0, x1, x2, x3, x4, x5, x6, x7, x8, x9, x10, x11⟩, -⟩ := H5.out.res.twelve
  refine bodyPost_ret (v := .tuple #[.agg #[.slice f3.A0 f3.n0 f3.c0, .string rs3.stdin, .slice f3.A2 rs3.replies.length f3.c2, .slice f3.A3 rs3.fails.length f3.c3, .int .i64 rs3.lim, .int .i64 rs3.clock, .int .u64 rs3.ch, .slice f3.AF rs3.files.length f3.cF, .int .i64 rs3.taken, .slice f3.AO rs3.opn.length f3.cO, .int .u64 rs3.num, .slice f3.AE rs3.events.length f3.cE], .bool true]) (by simp [results, Try.results27, go_sem, x0, x1, x2, x3, x4, x5, x6, x7, x8, x9, x10, x11]) rfl ?_
  exact ⟨_, _, _, _, f3, rs3, rfl, ⟨H5.out.wat, H5.out.rf, H5.out.apart, HO1.out⟩, HBD.out _ HM2.out, H5.out.tur, fun g hg => by rw [← H5.out.hB]; exact H5.out.fr g hg, fun g hg => by rw [← H5.out.hB]; exact H5.out.kn g hg, HCK.out⟩
end Go.Proofs.Ytodjjnklelfgfaa
namespace Go.Proofs.Ytodjjnklelfgfaa
open Go.RowKit Wd
theorem readD_clock (rs : RSt) (k : Int) (name : ByteArray) (n : Int) : (readD rs k name n).1.clock = rs.clock := by
  unfold readD
  repeat (first | rfl | split)
theorem writeD_clock (rs : RSt) (k : Int) (name data : ByteArray) : (writeD rs k name data).1.clock = rs.clock := by
  unfold writeD
  generalize (if k = 6 then (⟨#[]⟩ : ByteArray) else name) = nm
  by_cases hk : k = 3 ∨ k = 4
  · rw [if_pos hk]; repeat (first | rfl | split)
  · rw [if_neg hk]; repeat (first | rfl | split)
theorem closeD_clock (rs : RSt) (name : ByteArray) : (closeD rs name).1.clock = rs.clock := by
  show (closeRK rs name 5).1.clock = _
  rw [(closeRK_same rs name 5).1]
theorem systemD_clock (rs : RSt) (name : ByteArray) : (systemD rs name).1.clock = rs.clock := by
  unfold systemD
  repeat (first | rfl | split)
namespace Wd
def systemS (st : St) (cmd : ByteArray) : St × Int × Int := if failB st 4 cmd = true then (st, 0, 12) else (st.traced ⟨4, 0, cmd, ⟨#[]⟩, sysN st cmd⟩, sysN st cmd, 0)
theorem Corr.sys {st : St} {rs : RSt} (h : Corr st rs) (cmd : ByteArray) : (systemS st cmd).2 = (systemD rs cmd).2 ∧ Corr (systemS st cmd).1 (systemD rs cmd).1 := by
  obtain ⟨h1, h2, h3⟩ := h.system cmd
  unfold systemS systemD
  rw [h1]
  split
  · exact ⟨rfl, h⟩
  · exact ⟨by rw [h2], h3⟩
end Wd
theorem wo_sys {w : World} {F : Nat → Prop} {pb : Nat} {M : Mem} {st : St} (h : WAt w F pb M st) (cmd : ByteArray) (hnf : st.fails.length ≤ 1000000000) (hnr : st.replies.length ≤ 1000000000) (hnt : st.trace.length ≤ 1000000000) :
    Calls Try.prog 24 #[.pointer (some ⟨pb, 0, none⟩), .string cmd] w fun e w' => ∃ M' F', e = .returned (.tuple #[.int .i64 (systemS st cmd).2.1, .int .i64 (systemS st cmd).2.2]) ∧ WAt w' F' pb M' (systemS st cmd).1 ∧ Tur F w w' ∧ (∀ g, F' g → F g ∨ w.heap.size ≤ g) ∧ M'.m ≤ M.m + 1 := by
  by_cases hfl : failB st 4 cmd = true
  · have e : systemS st cmd = (st, 0, 12) := by unfold systemS; rw [if_pos hfl]
    rw [e]
    exact (wo_system_fail h cmd hfl hnf).mono fun e w' h => ⟨M, F, h.1, h.2.1, h.2.2, fun _ hg => .inl hg, by omega⟩
  · have e : systemS st cmd = (st.traced ⟨4, 0, cmd, ⟨#[]⟩, sysN st cmd⟩, sysN st cmd, 0) := by unfold systemS; rw [if_neg hfl]
    rw [e]
    refine (wo_system h cmd (fail_no hfl) hnf hnr hnt).mono ?_
    rintro e w' ⟨M', F', h1, h2, h3, h4, h5⟩
    exact ⟨M', F', h1, h2, h3, h4, by omega⟩
set_option maxRecDepth 100000 in
set_option maxHeartbeats 4000000 in
theorem one_2 {w : World} {F : Nat → Prop} {pb t : Nat} {M : Mem} {st : St} {K : Nat → Prop} {f : Fm} {rs : RSt} (h : Both w F pb M st K f rs) (hd : Bd t M.m rs) (ht : t < 50) (k : Int) (name data : ByteArray) (n : Int) (hn : name.size ≤ 100) (hni : n ≤ 9223372036854775807) :
    Calls Try.prog 27 #[.pointer (some ⟨pb, 0, none⟩), .agg (fcells f rs), .agg #[.int .i64 2, .int .u8 k, .string name, .string data, .int .i64 n]] w (OnePost w F K pb t rs) := by
  have H0 := Lib.hid (OW.start h #[.int .i64 2, .int .u8 k, .string name, .string data, .int .i64 n])
  obtain ⟨o0, o1⟩ := h.corr.read k name n
  have HO0 := Lib.hid o0
  have HO1 := Lib.hid o1
  have HCK := Lib.hid (readD_clock rs k name n)
  have HBD := Lib.hid (fun (m' : Nat) (hm : m' ≤ M.m + 1) => hd.read ht k name n hm)
  have hl1 : st.opn.length ≤ 1000000000 := by rw [h.corr.opn, List.length_map]; have := hd.opn; omega
  have hl2 : st.trace.length ≤ 1000000000 := by rw [h.corr.trace]; have := hd.ev; omega
  have hl3 : st.replies.length ≤ 1000000000 := by rw [h.corr.reps]; have := hd.rep; omega
  have hl4 : st.fails.length ≤ 1000000000 := by rw [h.corr.fails]; have := hd.fails; omega
  have hl5 : M.m ≤ 1000000000 := by have := hd.m; omega
  have HL := Lib.hid (And.intro hl1 (And.intro hl2 (And.intro hl3 (And.intro hl4 hl5))))
  have hq1 : rs.events.length ≤ 100000 := by have := hd.ev; omega
  have hq2 : rs.opn.length ≤ 100000 := by have := hd.opn; omega
  have hq3 : rs.files.length ≤ 100000 := by have := hd.fl; omega
  have HQ := Lib.hid (And.intro hq1 (And.intro hq2 hq3))
  have hnm : name.size ≤ maxLen := by unfold maxLen; omega
  have HNM := Lib.hid hnm
  have hx1 : st.stdin.size ≤ 4294967296 := by rw [h.corr.stdin, ByteArray.size_extract]; have := hd.st; omega
  have hx2 : ∀ s ∈ st.opn, s.left.size ≤ 4294967296 := by
    rw [h.corr.opn]
    intro s hs
    obtain ⟨x, hx, rfl⟩ := List.mem_map.1 hs
    show (x.src.extract x.tk x.src.size).size ≤ _
    rw [ByteArray.size_extract]
    have := hd.src x hx
    omega
  have hx3 : rs.taken ≤ rs.stdin.size := h.corr.tk
  have hx4 : rs.stdin.size ≤ 4294967296 := by have := hd.st; omega
  have hx5 : ∀ s ∈ rs.opn, s.tk ≤ s.src.size ∧ s.src.size ≤ 4294967296 := fun s hs => ⟨h.corr.tks s hs, by have := hd.src s hs; omega⟩
  have HX := Lib.hid (And.intro hx1 (And.intro hx2 (And.intro hx3 (And.intro hx4 hx5))))
  have HNI := Lib.hid hni
  clear hx1 hx2 hx3 hx4 hx5 hni
  clear o0 o1 h hd hl1 hl2 hl3 hl4 hl5 hq1 hq2 hq3 hnm
  go_enter Try.func27, Try.ntmps27
  go_wp2_with fail
  generalize (((w.alloc (.cells (fcells f rs) 73)).alloc (.cells #[.int .i64 2, .int .u8 k, .string name, .string data, .int .i64 n] 55)).alloc (.cells #[.slice none 0 0, .string ⟨#[]⟩, .slice none 0 0, .slice none 0 0, .int .i64 0, .int .i64 0, .int .u64 0, .slice none 0 0, .int .i64 0, .slice none 0 0, .int .u64 0, .slice none 0 0] 73)) = w1 at *
  obtain ⟨B, hB⟩ : ∃ B, B = w.heap.size := ⟨_, rfl⟩
  rw [← hB] at H0 ⊢
  obtain ⟨B1, hB1⟩ : ∃ B1, B1 = B + 1 := ⟨_, rfl⟩
  rw [← hB1] at H0 ⊢
  obtain ⟨B2, hB2⟩ : ∃ B2, B2 = B1 + 1 := ⟨_, rfl⟩
  rw [← hB2] at H0 ⊢
  clear hB hB1 hB2
  refine (wo_read H0.out.wat k name n HNI.out HX.out.1 HX.out.2.1 HL.out.1 HL.out.2.2.2.1).mono ?_
  rintro e w2 ⟨rfl, hw2, ht2⟩
  have hf2 : ∀ g, F g → F g ∨ w1.heap.size ≤ g := fun _ hg => .inl hg
  have hm2 : M.m ≤ M.m + 1 := Nat.le_succ _
  have HM2 := Lib.hid hm2
  have H2 := Lib.hid (H0.out.mine hw2 ht2 hf2)
  clear hw2 ht2 hf2 hm2
  obtain ⟨⟨b0, b1, b2, b3, b4, b5, b6, b7, b8, b9, b10, b11⟩, p0, p1, p2, p3, p4, p5, p6, p7, p8, p9, p10, p11⟩ := H2.out.blk.twelve
  have q0 : w2.cell? ⟨B1, 0, none⟩ = some (.int .i64 2) := H2.out.opb.cell 0
  have q1 : w2.cell? ⟨B1, 1, none⟩ = some (.int .u8 k) := H2.out.opb.cell 1
  have q2 : w2.cell? ⟨B1, 2, none⟩ = some (.string name) := H2.out.opb.cell 2
  have q3 : w2.cell? ⟨B1, 3, none⟩ = some (.string data) := H2.out.opb.cell 3
  have q4 : w2.cell? ⟨B1, 4, none⟩ = some (.int .i64 n) := H2.out.opb.cell 4
  go_wp2_with fail
  refine (fw_read H2.out.rf k name n HNI.out HQ.out.2.1 HX.out.2.2.1 HX.out.2.2.2.1 HX.out.2.2.2.2).mono ?_
  generalize (readL st k name n).1 = st2 at *
  generalize (readL st k name n).2 = y2 at *
  generalize (readD rs k name n).1 = rs3 at *
  generalize (readD rs k name n).2 = y3 at *
  rintro e w3 ⟨f3, rfl, hr3, hb3⟩
  have hyy := HO0.out
  subst hyy
  have H3 := Lib.hid (H2.out.told hb3 hr3)
  clear hr3 hb3 b0 b1 b2 b3 b4 b5 b6 b7 b8 b9 b10 b11 p0 p1 p2 p3 p4 p5 p6 p7 p8 p9 p10 p11 q0 q1 q2 q3 q4
  rw [show fcells f3 rs3 = #[.slice f3.A0 f3.n0 f3.c0, .string rs3.stdin, .slice f3.A2 rs3.replies.length f3.c2, .slice f3.A3 rs3.fails.length f3.c3, .int .i64 rs3.lim, .int .i64 rs3.clock, .int .u64 rs3.ch, .slice f3.AF rs3.files.length f3.cF, .int .i64 rs3.taken, .slice f3.AO rs3.opn.length f3.cO, .int .u64 rs3.num, .slice f3.AE rs3.events.length f3.cE] from rfl]
  obtain ⟨⟨b0, b1, b2, b3, b4, b5, b6, b7, b8, b9, b10, b11⟩, p0, p1, p2, p3, p4, p5, p6, p7, p8, p9, p10, p11⟩ := H3.out.blk.twelve
  go_upto_region 29 with (fail)
  have H4 := Lib.hid H3.out.put
  clear b0 b1 b2 b3 b4 b5 b6 b7 b8 b9 b10 b11 p0 p1 p2 p3 p4 p5 p6 p7 p8 p9 p10 p11
  have HG := Lib.hid (show put12 w3 B f3 rs3 = ((((((((((((w3.setCell ⟨B, 0, none⟩ (.slice f3.A0 f3.n0 f3.c0)).setCell ⟨B, 1, none⟩ (.string rs3.stdin)).setCell ⟨B, 2, none⟩ (.slice f3.A2 rs3.replies.length f3.c2)).setCell ⟨B, 3, none⟩ (.slice f3.A3 rs3.fails.length f3.c3)).setCell ⟨B, 4, none⟩ (.int .i64 rs3.lim)).setCell ⟨B, 5, none⟩ (.int .i64 rs3.clock)).setCell ⟨B, 6, none⟩ (.int .u64 rs3.ch)).setCell ⟨B, 7, none⟩ (.slice f3.AF rs3.files.length f3.cF)).setCell ⟨B, 8, none⟩ (.int .i64 rs3.taken)).setCell ⟨B, 9, none⟩ (.slice f3.AO rs3.opn.length f3.cO)).setCell ⟨B, 10, none⟩ (.int .u64 rs3.num)).setCell ⟨B, 11, none⟩ (.slice f3.AE rs3.events.length f3.cE)) from rfl)
  rw [← HG.out]
  generalize put12 w3 B f3 rs3 = w4 at *
  clear HG
  obtain ⟨⟨b0, b1, b2, b3, b4, b5, b6, b7, b8, b9, b10, b11⟩, p0, p1, p2, p3, p4, p5, p6, p7, p8, p9, p10, p11⟩ := H4.out.blk.twelve
  obtain ⟨⟨r0, r1, r2, r3, r4, r5, r6, r7, r8, r9, r10, r11⟩, q0, q1, q2, q3, q4, q5, q6, q7, q8, q9, q10, q11⟩ := H4.out.res.twelve
  go_wp2_with fail
  have H5 := Lib.hid H4.out.out
  clear b0 b1 b2 b3 b4 b5 b6 b7 b8 b9 b10 b11 p0 p1 p2 p3 p4 p5 p6 p7 p8 p9 p10 p11 r0 r1 r2 r3 r4 r5 r6 r7 r8 r9 r10 r11 q0 q1 q2 q3 q4 q5 q6 q7 q8 q9 q10 q11
  have HG := Lib.hid (show put12 w4 B2 f3 rs3 = ((((((((((((w4.setCell ⟨B2, 0, none⟩ (.slice f3.A0 f3.n0 f3.c0)).setCell ⟨B2, 1, none⟩ (.string rs3.stdin)).setCell ⟨B2, 2, none⟩ (.slice f3.A2 rs3.replies.length f3.c2)).setCell ⟨B2, 3, none⟩ (.slice f3.A3 rs3.fails.length f3.c3)).setCell ⟨B2, 4, none⟩ (.int .i64 rs3.lim)).setCell ⟨B2, 5, none⟩ (.int .i64 rs3.clock)).setCell ⟨B2, 6, none⟩ (.int .u64 rs3.ch)).setCell ⟨B2, 7, none⟩ (.slice f3.AF rs3.files.length f3.cF)).setCell ⟨B2, 8, none⟩ (.int .i64 rs3.taken)).setCell ⟨B2, 9, none⟩ (.slice f3.AO rs3.opn.length f3.cO)).setCell ⟨B2, 10, none⟩ (.int .u64 rs3.num)).setCell ⟨B2, 11, none⟩ (.slice f3.AE rs3.events.length f3.cE)) from rfl)
  rw [← HG.out]
  generalize put12 w4 B2 f3 rs3 = w5 at *
  clear HG
  obtain ⟨⟨x0, x1, x2, x3, x4, x5, x6, x7, x8, x9, x10, x11⟩, -⟩ := H5.out.res.twelve
  refine bodyPost_ret (v := .tuple #[.agg #[.slice f3.A0 f3.n0 f3.c0, .string rs3.stdin, .slice f3.A2 rs3.replies.length f3.c2, .slice f3.A3 rs3.fails.length f3.c3, .int .i64 rs3.lim, .int .i64 rs3.clock, .int .u64 rs3.ch, .slice f3.AF rs3.files.length f3.cF, .int .i64 rs3.taken, .slice f3.AO rs3.opn.length f3.cO, .int .u64 rs3.num, .slice f3.AE rs3.events.length f3.cE], .bool true]) (by simp [results, Try.results27, go_sem, x0, x1, x2, x3, x4, x5, x6, x7, x8, x9, x10, x11]) rfl ?_
  exact ⟨_, _, _, _, f3, rs3, rfl, ⟨H5.out.wat, H5.out.rf, H5.out.apart, HO1.out⟩, HBD.out _ HM2.out, H5.out.tur, fun g hg => by rw [← H5.out.hB]; exact H5.out.fr g hg, fun g hg => by rw [← H5.out.hB]; exact H5.out.kn g hg, HCK.out⟩
set_option maxRecDepth 100000 in
set_option maxHeartbeats 4000000 in
theorem one_3 {w : World} {F : Nat → Prop} {pb t : Nat} {M : Mem} {st : St} {K : Nat → Prop} {f : Fm} {rs : RSt} (h : Both w F pb M st K f rs) (hd : Bd t M.m rs) (ht : t < 50) (k : Int) (name data : ByteArray) (n : Int) (hn : name.size ≤ 100) (hda : data.size ≤ 100) :
    Calls Try.prog 27 #[.pointer (some ⟨pb, 0, none⟩), .agg (fcells f rs), .agg #[.int .i64 3, .int .u8 k, .string name, .string data, .int .i64 n]] w (OnePost w F K pb t rs) := by
  have H0 := Lib.hid (OW.start h #[.int .i64 3, .int .u8 k, .string name, .string data, .int .i64 n])
  obtain ⟨o0, o1⟩ := h.corr.write k name data
  have HO0 := Lib.hid o0
  have HO1 := Lib.hid o1
  have HCK := Lib.hid (writeD_clock rs k name data)
  have HBD := Lib.hid (fun (m' : Nat) (hm : m' ≤ M.m + 1) => hd.write ht k name data hda hm)
  have hl1 : st.opn.length ≤ 1000000000 := by rw [h.corr.opn, List.length_map]; have := hd.opn; omega
  have hl2 : st.trace.length ≤ 1000000000 := by rw [h.corr.trace]; have := hd.ev; omega
  have hl3 : st.replies.length ≤ 1000000000 := by rw [h.corr.reps]; have := hd.rep; omega
  have hl4 : st.fails.length ≤ 1000000000 := by rw [h.corr.fails]; have := hd.fails; omega
  have hl5 : M.m ≤ 1000000000 := by have := hd.m; omega
  have HL := Lib.hid (And.intro hl1 (And.intro hl2 (And.intro hl3 (And.intro hl4 hl5))))
  have hq1 : rs.events.length ≤ 100000 := by have := hd.ev; omega
  have hq2 : rs.opn.length ≤ 100000 := by have := hd.opn; omega
  have hq3 : rs.files.length ≤ 100000 := by have := hd.fl; omega
  have HQ := Lib.hid (And.intro hq1 (And.intro hq2 hq3))
  have hnm : name.size ≤ maxLen := by unfold maxLen; omega
  have HNM := Lib.hid hnm
  have hx1 : data.size ≤ maxLen := by unfold maxLen; omega
  have hx2 : ((st.files name.data.toList).getD ⟨#[]⟩).size + data.size ≤ 4294967296 := by rw [h.corr.fileD]; have := hd.file name; omega
  have hx3 : ((fileF rs name).getD (⟨#[]⟩, ⟨#[]⟩)).2.size + data.size ≤ 9223372036854775807 := by have := hd.file name; omega
  have HX := Lib.hid (And.intro hx1 (And.intro hx2 hx3))
  clear hx1 hx2 hx3
  clear o0 o1 h hd hl1 hl2 hl3 hl4 hl5 hq1 hq2 hq3 hnm
  go_enter Try.func27, Try.ntmps27
  go_wp2_with fail
  generalize (((w.alloc (.cells (fcells f rs) 73)).alloc (.cells #[.int .i64 3, .int .u8 k, .string name, .string data, .int .i64 n] 55)).alloc (.cells #[.slice none 0 0, .string ⟨#[]⟩, .slice none 0 0, .slice none 0 0, .int .i64 0, .int .i64 0, .int .u64 0, .slice none 0 0, .int .i64 0, .slice none 0 0, .int .u64 0, .slice none 0 0] 73)) = w1 at *
  obtain ⟨B, hB⟩ : ∃ B, B = w.heap.size := ⟨_, rfl⟩
  rw [← hB] at H0 ⊢
  obtain ⟨B1, hB1⟩ : ∃ B1, B1 = B + 1 := ⟨_, rfl⟩
  rw [← hB1] at H0 ⊢
  obtain ⟨B2, hB2⟩ : ∃ B2, B2 = B1 + 1 := ⟨_, rfl⟩
  rw [← hB2] at H0 ⊢
  clear hB hB1 hB2
  refine (wo_write H0.out.wat k name data HNM.out HX.out.1 HX.out.2.1 HL.out.1 HL.out.2.2.2.1 HL.out.2.1 HL.out.2.2.2.2).mono ?_
  rintro e w2 ⟨M2, F2, rfl, hw2, ht2, hf2, hm2⟩
  have HM2 := Lib.hid hm2
  have H2 := Lib.hid (H0.out.mine hw2 ht2 hf2)
  clear hw2 ht2 hf2 hm2
  obtain ⟨⟨b0, b1, b2, b3, b4, b5, b6, b7, b8, b9, b10, b11⟩, p0, p1, p2, p3, p4, p5, p6, p7, p8, p9, p10, p11⟩ := H2.out.blk.twelve
  have q0 : w2.cell? ⟨B1, 0, none⟩ = some (.int .i64 3) := H2.out.opb.cell 0
  have q1 : w2.cell? ⟨B1, 1, none⟩ = some (.int .u8 k) := H2.out.opb.cell 1
  have q2 : w2.cell? ⟨B1, 2, none⟩ = some (.string name) := H2.out.opb.cell 2
  have q3 : w2.cell? ⟨B1, 3, none⟩ = some (.string data) := H2.out.opb.cell 3
  have q4 : w2.cell? ⟨B1, 4, none⟩ = some (.int .i64 n) := H2.out.opb.cell 4
  go_wp2_with fail
  refine (fw_write H2.out.rf k name data HQ.out.1 HQ.out.2.2 HX.out.2.2).mono ?_
  generalize (writeS st k name data).1 = st2 at *
  generalize (writeS st k name data).2 = y2 at *
  generalize (writeD rs k name data).1 = rs3 at *
  generalize (writeD rs k name data).2 = y3 at *
  rintro e w3 ⟨f3, rfl, hr3, hb3⟩
  have hyy := HO0.out
  subst hyy
  have H3 := Lib.hid (H2.out.told hb3 hr3)
  clear hr3 hb3 b0 b1 b2 b3 b4 b5 b6 b7 b8 b9 b10 b11 p0 p1 p2 p3 p4 p5 p6 p7 p8 p9 p10 p11 q0 q1 q2 q3 q4
  rw [show fcells f3 rs3 = #[.slice f3.A0 f3.n0 f3.c0, .string rs3.stdin, .slice f3.A2 rs3.replies.length f3.c2, .slice f3.A3 rs3.fails.length f3.c3, .int .i64 rs3.lim, .int .i64 rs3.clock, .int .u64 rs3.ch, .slice f3.AF rs3.files.length f3.cF, .int .i64 rs3.taken, .slice f3.AO rs3.opn.length f3.cO, .int .u64 rs3.num, .slice f3.AE rs3.events.length f3.cE] from rfl]
  obtain ⟨⟨b0, b1, b2, b3, b4, b5, b6, b7, b8, b9, b10, b11⟩, p0, p1, p2, p3, p4, p5, p6, p7, p8, p9, p10, p11⟩ := H3.out.blk.twelve
  go_upto_region 29 with (fail)
  have H4 := Lib.hid H3.out.put
  clear b0 b1 b2 b3 b4 b5 b6 b7 b8 b9 b10 b11 p0 p1 p2 p3 p4 p5 p6 p7 p8 p9 p10 p11
  have HG := Lib.hid (show put12 w3 B f3 rs3 = ((((((((((((w3.setCell ⟨B, 0, none⟩ (.slice f3.A0 f3.n0 f3.c0)).setCell ⟨B, 1, none⟩ (.string rs3.stdin)).setCell ⟨B, 2, none⟩ (.slice f3.A2 rs3.replies.length f3.c2)).setCell ⟨B, 3, none⟩ (.slice f3.A3 rs3.fails.length f3.c3)).setCell ⟨B, 4, none⟩ (.int .i64 rs3.lim)).setCell ⟨B, 5, none⟩ (.int .i64 rs3.clock)).setCell ⟨B, 6, none⟩ (.int .u64 rs3.ch)).setCell ⟨B, 7, none⟩ (.slice f3.AF rs3.files.length f3.cF)).setCell ⟨B, 8, none⟩ (.int .i64 rs3.taken)).setCell ⟨B, 9, none⟩ (.slice f3.AO rs3.opn.length f3.cO)).setCell ⟨B, 10, none⟩ (.int .u64 rs3.num)).setCell ⟨B, 11, none⟩ (.slice f3.AE rs3.events.length f3.cE)) from rfl)
  rw [← HG.out]
  generalize put12 w3 B f3 rs3 = w4 at *
  clear HG
  obtain ⟨⟨b0, b1, b2, b3, b4, b5, b6, b7, b8, b9, b10, b11⟩, p0, p1, p2, p3, p4, p5, p6, p7, p8, p9, p10, p11⟩ := H4.out.blk.twelve
  obtain ⟨⟨r0, r1, r2, r3, r4, r5, r6, r7, r8, r9, r10, r11⟩, q0, q1, q2, q3, q4, q5, q6, q7, q8, q9, q10, q11⟩ := H4.out.res.twelve
  go_wp2_with fail
  have H5 := Lib.hid H4.out.out
  clear b0 b1 b2 b3 b4 b5 b6 b7 b8 b9 b10 b11 p0 p1 p2 p3 p4 p5 p6 p7 p8 p9 p10 p11 r0 r1 r2 r3 r4 r5 r6 r7 r8 r9 r10 r11 q0 q1 q2 q3 q4 q5 q6 q7 q8 q9 q10 q11
  have HG := Lib.hid (show put12 w4 B2 f3 rs3 = ((((((((((((w4.setCell ⟨B2, 0, none⟩ (.slice f3.A0 f3.n0 f3.c0)).setCell ⟨B2, 1, none⟩ (.string rs3.stdin)).setCell ⟨B2, 2, none⟩ (.slice f3.A2 rs3.replies.length f3.c2)).setCell ⟨B2, 3, none⟩ (.slice f3.A3 rs3.fails.length f3.c3)).setCell ⟨B2, 4, none⟩ (.int .i64 rs3.lim)).setCell ⟨B2, 5, none⟩ (.int .i64 rs3.clock)).setCell ⟨B2, 6, none⟩ (.int .u64 rs3.ch)).setCell ⟨B2, 7, none⟩ (.slice f3.AF rs3.files.length f3.cF)).setCell ⟨B2, 8, none⟩ (.int .i64 rs3.taken)).setCell ⟨B2, 9, none⟩ (.slice f3.AO rs3.opn.length f3.cO)).setCell ⟨B2, 10, none⟩ (.int .u64 rs3.num)).setCell ⟨B2, 11, none⟩ (.slice f3.AE rs3.events.length f3.cE)) from rfl)
  rw [← HG.out]
  generalize put12 w4 B2 f3 rs3 = w5 at *
  clear HG
  obtain ⟨⟨x0, x1, x2, x3, x4, x5, x6, x7, x8, x9, x10, x11⟩, -⟩ := H5.out.res.twelve
  refine bodyPost_ret (v := .tuple #[.agg #[.slice f3.A0 f3.n0 f3.c0, .string rs3.stdin, .slice f3.A2 rs3.replies.length f3.c2, .slice f3.A3 rs3.fails.length f3.c3, .int .i64 rs3.lim, .int .i64 rs3.clock, .int .u64 rs3.ch, .slice f3.AF rs3.files.length f3.cF, .int .i64 rs3.taken, .slice f3.AO rs3.opn.length f3.cO, .int .u64 rs3.num, .slice f3.AE rs3.events.length f3.cE], .bool true]) (by simp [results, Try.results27, go_sem, x0, x1, x2, x3, x4, x5, x6, x7, x8, x9, x10, x11]) rfl ?_
  exact ⟨_, _, _, _, f3, rs3, rfl, ⟨H5.out.wat, H5.out.rf, H5.out.apart, HO1.out⟩, HBD.out _ HM2.out, H5.out.tur, fun g hg => by rw [← H5.out.hB]; exact H5.out.fr g hg, fun g hg => by rw [← H5.out.hB]; exact H5.out.kn g hg, HCK.out⟩
set_option maxRecDepth 100000 in
set_option maxHeartbeats 4000000 in
theorem one_4 {w : World} {F : Nat → Prop} {pb t : Nat} {M : Mem} {st : St} {K : Nat → Prop} {f : Fm} {rs : RSt} (h : Both w F pb M st K f rs) (hd : Bd t M.m rs) (ht : t < 50) (k : Int) (name data : ByteArray) (n : Int) (hn : name.size ≤ 100) :
    Calls Try.prog 27 #[.pointer (some ⟨pb, 0, none⟩), .agg (fcells f rs), .agg #[.int .i64 4, .int .u8 k, .string name, .string data, .int .i64 n]] w (OnePost w F K pb t rs) := by
  have H0 := Lib.hid (OW.start h #[.int .i64 4, .int .u8 k, .string name, .string data, .int .i64 n])
  obtain ⟨o0, o1⟩ := h.corr.close name
  have HO0 := Lib.hid o0
  have HO1 := Lib.hid o1
  have HCK := Lib.hid (closeD_clock rs name)
  have HBD := Lib.hid (fun (m' : Nat) (hm : m' ≤ M.m + 1) => hd.close ht name hm)
  have hl1 : st.opn.length ≤ 1000000000 := by rw [h.corr.opn, List.length_map]; have := hd.opn; omega
  have hl2 : st.trace.length ≤ 1000000000 := by rw [h.corr.trace]; have := hd.ev; omega
  have hl3 : st.replies.length ≤ 1000000000 := by rw [h.corr.reps]; have := hd.rep; omega
  have hl4 : st.fails.length ≤ 1000000000 := by rw [h.corr.fails]; have := hd.fails; omega
  have hl5 : M.m ≤ 1000000000 := by have := hd.m; omega
  have HL := Lib.hid (And.intro hl1 (And.intro hl2 (And.intro hl3 (And.intro hl4 hl5))))
  have hq1 : rs.events.length ≤ 100000 := by have := hd.ev; omega
  have hq2 : rs.opn.length ≤ 100000 := by have := hd.opn; omega
  have hq3 : rs.files.length ≤ 100000 := by have := hd.fl; omega
  have HQ := Lib.hid (And.intro hq1 (And.intro hq2 hq3))
  have hnm : name.size ≤ maxLen := by unfold maxLen; omega
  have HNM := Lib.hid hnm
  have hx1 : st.trace.length ≤ 100000000 := by rw [h.corr.trace]; have := hd.ev; have := hd.t50; omega
  have hx2 : rs.events.length ≤ 90000 := by have := hd.ev; have := hd.t50; omega
  have hx3 : rs.opn.length ≤ 90000 := by have := hd.opn; have := hd.t50; omega
  have HX := Lib.hid (And.intro hx1 (And.intro hx2 hx3))
  clear hx1 hx2 hx3
  clear o0 o1 h hd hl1 hl2 hl3 hl4 hl5 hq1 hq2 hq3 hnm
  go_enter Try.func27, Try.ntmps27
  go_wp2_with fail
  generalize (((w.alloc (.cells (fcells f rs) 73)).alloc (.cells #[.int .i64 4, .int .u8 k, .string name, .string data, .int .i64 n] 55)).alloc (.cells #[.slice none 0 0, .string ⟨#[]⟩, .slice none 0 0, .slice none 0 0, .int .i64 0, .int .i64 0, .int .u64 0, .slice none 0 0, .int .i64 0, .slice none 0 0, .int .u64 0, .slice none 0 0] 73)) = w1 at *
  obtain ⟨B, hB⟩ : ∃ B, B = w.heap.size := ⟨_, rfl⟩
  rw [← hB] at H0 ⊢
  obtain ⟨B1, hB1⟩ : ∃ B1, B1 = B + 1 := ⟨_, rfl⟩
  rw [← hB1] at H0 ⊢
  obtain ⟨B2, hB2⟩ : ∃ B2, B2 = B1 + 1 := ⟨_, rfl⟩
  rw [← hB2] at H0 ⊢
  clear hB hB1 hB2
  refine (wo_close H0.out.wat name HL.out.1 HX.out.1 HL.out.2.2.1).mono ?_
  rintro e w2 ⟨M2, F2, rfl, hw2, ht2, hf2, hm2'⟩
  have hm2 : M2.m ≤ M.m + 1 := by rw [hm2']; exact Nat.le_succ _
  clear hm2'
  have HM2 := Lib.hid hm2
  have H2 := Lib.hid (H0.out.mine hw2 ht2 hf2)
  clear hw2 ht2 hf2 hm2
  obtain ⟨⟨b0, b1, b2, b3, b4, b5, b6, b7, b8, b9, b10, b11⟩, p0, p1, p2, p3, p4, p5, p6, p7, p8, p9, p10, p11⟩ := H2.out.blk.twelve
  have q0 : w2.cell? ⟨B1, 0, none⟩ = some (.int .i64 4) := H2.out.opb.cell 0
  have q1 : w2.cell? ⟨B1, 1, none⟩ = some (.int .u8 k) := H2.out.opb.cell 1
  have q2 : w2.cell? ⟨B1, 2, none⟩ = some (.string name) := H2.out.opb.cell 2
  have q3 : w2.cell? ⟨B1, 3, none⟩ = some (.string data) := H2.out.opb.cell 3
  have q4 : w2.cell? ⟨B1, 4, none⟩ = some (.int .i64 n) := H2.out.opb.cell 4
  go_wp2_with fail
  refine (fw_close H2.out.rf name HX.out.2.1 HX.out.2.2).mono ?_
  generalize (closeL st name).1 = st2 at *
  generalize (closeL st name).2 = y2 at *
  generalize (closeD rs name).1 = rs3 at *
  generalize (closeD rs name).2 = y3 at *
  rintro e w3 ⟨f3, rfl, hr3, hb3⟩
  have hyy := HO0.out
  subst hyy
  have H3 := Lib.hid (H2.out.told hb3 hr3)
  clear hr3 hb3 b0 b1 b2 b3 b4 b5 b6 b7 b8 b9 b10 b11 p0 p1 p2 p3 p4 p5 p6 p7 p8 p9 p10 p11 q0 q1 q2 q3 q4
  rw [show fcells f3 rs3 = #[.slice f3.A0 f3.n0 f3.c0, .string rs3.stdin, .slice f3.A2 rs3.replies.length f3.c2, .slice f3.A3 rs3.fails.length f3.c3, .int .i64 rs3.lim, .int .i64 rs3.clock, .int .u64 rs3.ch, .slice f3.AF rs3.files.length f3.cF, .int .i64 rs3.taken, .slice f3.AO rs3.opn.length f3.cO, .int .u64 rs3.num, .slice f3.AE rs3.events.length f3.cE] from rfl]
  obtain ⟨⟨b0, b1, b2, b3, b4, b5, b6, b7, b8, b9, b10, b11⟩, p0, p1, p2, p3, p4, p5, p6, p7, p8, p9, p10, p11⟩ := H3.out.blk.twelve
  go_upto_region 29 with (fail)
  have H4 := Lib.hid H3.out.put
  clear b0 b1 b2 b3 b4 b5 b6 b7 b8 b9 b10 b11 p0 p1 p2 p3 p4 p5 p6 p7 p8 p9 p10 p11
  have HG := Lib.hid (show put12 w3 B f3 rs3 = ((((((((((((w3.setCell ⟨B, 0, none⟩ (.slice f3.A0 f3.n0 f3.c0)).setCell ⟨B, 1, none⟩ (.string rs3.stdin)).setCell ⟨B, 2, none⟩ (.slice f3.A2 rs3.replies.length f3.c2)).setCell ⟨B, 3, none⟩ (.slice f3.A3 rs3.fails.length f3.c3)).setCell ⟨B, 4, none⟩ (.int .i64 rs3.lim)).setCell ⟨B, 5, none⟩ (.int .i64 rs3.clock)).setCell ⟨B, 6, none⟩ (.int .u64 rs3.ch)).setCell ⟨B, 7, none⟩ (.slice f3.AF rs3.files.length f3.cF)).setCell ⟨B, 8, none⟩ (.int .i64 rs3.taken)).setCell ⟨B, 9, none⟩ (.slice f3.AO rs3.opn.length f3.cO)).setCell ⟨B, 10, none⟩ (.int .u64 rs3.num)).setCell ⟨B, 11, none⟩ (.slice f3.AE rs3.events.length f3.cE)) from rfl)
  rw [← HG.out]
  generalize put12 w3 B f3 rs3 = w4 at *
  clear HG
  obtain ⟨⟨b0, b1, b2, b3, b4, b5, b6, b7, b8, b9, b10, b11⟩, p0, p1, p2, p3, p4, p5, p6, p7, p8, p9, p10, p11⟩ := H4.out.blk.twelve
  obtain ⟨⟨r0, r1, r2, r3, r4, r5, r6, r7, r8, r9, r10, r11⟩, q0, q1, q2, q3, q4, q5, q6, q7, q8, q9, q10, q11⟩ := H4.out.res.twelve
  go_wp2_with fail
  have H5 := Lib.hid H4.out.out
  clear b0 b1 b2 b3 b4 b5 b6 b7 b8 b9 b10 b11 p0 p1 p2 p3 p4 p5 p6 p7 p8 p9 p10 p11 r0 r1 r2 r3 r4 r5 r6 r7 r8 r9 r10 r11 q0 q1 q2 q3 q4 q5 q6 q7 q8 q9 q10 q11
  have HG := Lib.hid (show put12 w4 B2 f3 rs3 = ((((((((((((w4.setCell ⟨B2, 0, none⟩ (.slice f3.A0 f3.n0 f3.c0)).setCell ⟨B2, 1, none⟩ (.string rs3.stdin)).setCell ⟨B2, 2, none⟩ (.slice f3.A2 rs3.replies.length f3.c2)).setCell ⟨B2, 3, none⟩ (.slice f3.A3 rs3.fails.length f3.c3)).setCell ⟨B2, 4, none⟩ (.int .i64 rs3.lim)).setCell ⟨B2, 5, none⟩ (.int .i64 rs3.clock)).setCell ⟨B2, 6, none⟩ (.int .u64 rs3.ch)).setCell ⟨B2, 7, none⟩ (.slice f3.AF rs3.files.length f3.cF)).setCell ⟨B2, 8, none⟩ (.int .i64 rs3.taken)).setCell ⟨B2, 9, none⟩ (.slice f3.AO rs3.opn.length f3.cO)).setCell ⟨B2, 10, none⟩ (.int .u64 rs3.num)).setCell ⟨B2, 11, none⟩ (.slice f3.AE rs3.events.length f3.cE)) from rfl)
  rw [← HG.out]
  generalize put12 w4 B2 f3 rs3 = w5 at *
  clear HG
  obtain ⟨⟨x0, x1, x2, x3, x4, x5, x6, x7, x8, x9, x10, x11⟩, -⟩ := H5.out.res.twelve
  refine bodyPost_ret (v := .tuple #[.agg #[.slice f3.A0 f3.n0 f3.c0, .string rs3.stdin, .slice f3.A2 rs3.replies.length f3.c2, .slice f3.A3 rs3.fails.length f3.c3, .int .i64 rs3.lim, .int .i64 rs3.clock, .int .u64 rs3.ch, .slice f3.AF rs3.files.length f3.cF, .int .i64 rs3.taken, .slice f3.AO rs3.opn.length f3.cO, .int .u64 rs3.num, .slice f3.AE rs3.events.length f3.cE], .bool true]) (by simp [results, Try.results27, go_sem, x0, x1, x2, x3, x4, x5, x6, x7, x8, x9, x10, x11]) rfl ?_
  exact ⟨_, _, _, _, f3, rs3, rfl, ⟨H5.out.wat, H5.out.rf, H5.out.apart, HO1.out⟩, HBD.out _ HM2.out, H5.out.tur, fun g hg => by rw [← H5.out.hB]; exact H5.out.fr g hg, fun g hg => by rw [← H5.out.hB]; exact H5.out.kn g hg, HCK.out⟩
set_option maxRecDepth 100000 in
set_option maxHeartbeats 4000000 in
theorem one_5 {w : World} {F : Nat → Prop} {pb t : Nat} {M : Mem} {st : St} {K : Nat → Prop} {f : Fm} {rs : RSt} (h : Both w F pb M st K f rs) (hd : Bd t M.m rs) (ht : t < 50) (k : Int) (name data : ByteArray) (n : Int) (hn : name.size ≤ 100) :
    Calls Try.prog 27 #[.pointer (some ⟨pb, 0, none⟩), .agg (fcells f rs), .agg #[.int .i64 5, .int .u8 k, .string name, .string data, .int .i64 n]] w (OnePost w F K pb t rs) := by
  have H0 := Lib.hid (OW.start h #[.int .i64 5, .int .u8 k, .string name, .string data, .int .i64 n])
  obtain ⟨o0, o1⟩ := h.corr.sys name
  have HO0 := Lib.hid o0
  have HO1 := Lib.hid o1
  have HCK := Lib.hid (systemD_clock rs name)
  have HBD := Lib.hid (fun (m' : Nat) (hm : m' ≤ M.m + 1) => hd.system ht name hm)
  have hl1 : st.opn.length ≤ 1000000000 := by rw [h.corr.opn, List.length_map]; have := hd.opn; omega
  have hl2 : st.trace.length ≤ 1000000000 := by rw [h.corr.trace]; have := hd.ev; omega
  have hl3 : st.replies.length ≤ 1000000000 := by rw [h.corr.reps]; have := hd.rep; omega
  have hl4 : st.fails.length ≤ 1000000000 := by rw [h.corr.fails]; have := hd.fails; omega
  have hl5 : M.m ≤ 1000000000 := by have := hd.m; omega
  have HL := Lib.hid (And.intro hl1 (And.intro hl2 (And.intro hl3 (And.intro hl4 hl5))))
  have hq1 : rs.events.length ≤ 100000 := by have := hd.ev; omega
  have hq2 : rs.opn.length ≤ 100000 := by have := hd.opn; omega
  have hq3 : rs.files.length ≤ 100000 := by have := hd.fl; omega
  have HQ := Lib.hid (And.intro hq1 (And.intro hq2 hq3))
  have hnm : name.size ≤ maxLen := by unfold maxLen; omega
  have HNM := Lib.hid hnm
  clear o0 o1 h hd hl1 hl2 hl3 hl4 hl5 hq1 hq2 hq3 hnm
  go_enter Try.func27, Try.ntmps27
  go_wp2_with fail
  generalize (((w.alloc (.cells (fcells f rs) 73)).alloc (.cells #[.int .i64 5, .int .u8 k, .string name, .string data, .int .i64 n] 55)).alloc (.cells #[.slice none 0 0, .string ⟨#[]⟩, .slice none 0 0, .slice none 0 0, .int .i64 0, .int .i64 0, .int .u64 0, .slice none 0 0, .int .i64 0, .slice none 0 0, .int .u64 0, .slice none 0 0] 73)) = w1 at *
  obtain ⟨B, hB⟩ : ∃ B, B = w.heap.size := ⟨_, rfl⟩
  rw [← hB] at H0 ⊢
  obtain ⟨B1, hB1⟩ : ∃ B1, B1 = B + 1 := ⟨_, rfl⟩
  rw [← hB1] at H0 ⊢
  obtain ⟨B2, hB2⟩ : ∃ B2, B2 = B1 + 1 := ⟨_, rfl⟩
  rw [← hB2] at H0 ⊢
  clear hB hB1 hB2
  refine (wo_sys H0.out.wat name HL.out.2.2.2.1 HL.out.2.2.1 HL.out.2.1).mono ?_
  rintro e w2 ⟨M2, F2, rfl, hw2, ht2, hf2, hm2⟩
  have HM2 := Lib.hid hm2
  have H2 := Lib.hid (H0.out.mine hw2 ht2 hf2)
  clear hw2 ht2 hf2 hm2
  obtain ⟨⟨b0, b1, b2, b3, b4, b5, b6, b7, b8, b9, b10, b11⟩, p0, p1, p2, p3, p4, p5, p6, p7, p8, p9, p10, p11⟩ := H2.out.blk.twelve
  have q0 : w2.cell? ⟨B1, 0, none⟩ = some (.int .i64 5) := H2.out.opb.cell 0
  have q1 : w2.cell? ⟨B1, 1, none⟩ = some (.int .u8 k) := H2.out.opb.cell 1
  have q2 : w2.cell? ⟨B1, 2, none⟩ = some (.string name) := H2.out.opb.cell 2
  have q3 : w2.cell? ⟨B1, 3, none⟩ = some (.string data) := H2.out.opb.cell 3
  have q4 : w2.cell? ⟨B1, 4, none⟩ = some (.int .i64 n) := H2.out.opb.cell 4
  go_wp2_with fail
  refine (fw_system H2.out.rf name HQ.out.1).mono ?_
  generalize (systemS st name).1 = st2 at *
  generalize (systemS st name).2 = y2 at *
  generalize (systemD rs name).1 = rs3 at *
  generalize (systemD rs name).2 = y3 at *
  rintro e w3 ⟨f3, rfl, hr3, hb3⟩
  have hyy := HO0.out
  subst hyy
  have H3 := Lib.hid (H2.out.told hb3 hr3)
  clear hr3 hb3 b0 b1 b2 b3 b4 b5 b6 b7 b8 b9 b10 b11 p0 p1 p2 p3 p4 p5 p6 p7 p8 p9 p10 p11 q0 q1 q2 q3 q4
  rw [show fcells f3 rs3 = #[.slice f3.A0 f3.n0 f3.c0, .string rs3.stdin, .slice f3.A2 rs3.replies.length f3.c2, .slice f3.A3 rs3.fails.length f3.c3, .int .i64 rs3.lim, .int .i64 rs3.clock, .int .u64 rs3.ch, .slice f3.AF rs3.files.length f3.cF, .int .i64 rs3.taken, .slice f3.AO rs3.opn.length f3.cO, .int .u64 rs3.num, .slice f3.AE rs3.events.length f3.cE] from rfl]
  obtain ⟨⟨b0, b1, b2, b3, b4, b5, b6, b7, b8, b9, b10, b11⟩, p0, p1, p2, p3, p4, p5, p6, p7, p8, p9, p10, p11⟩ := H3.out.blk.twelve
  go_upto_region 29 with (fail)
  have H4 := Lib.hid H3.out.put
  clear b0 b1 b2 b3 b4 b5 b6 b7 b8 b9 b10 b11 p0 p1 p2 p3 p4 p5 p6 p7 p8 p9 p10 p11
  have HG := Lib.hid (show put12 w3 B f3 rs3 = ((((((((((((w3.setCell ⟨B, 0, none⟩ (.slice f3.A0 f3.n0 f3.c0)).setCell ⟨B, 1, none⟩ (.string rs3.stdin)).setCell ⟨B, 2, none⟩ (.slice f3.A2 rs3.replies.length f3.c2)).setCell ⟨B, 3, none⟩ (.slice f3.A3 rs3.fails.length f3.c3)).setCell ⟨B, 4, none⟩ (.int .i64 rs3.lim)).setCell ⟨B, 5, none⟩ (.int .i64 rs3.clock)).setCell ⟨B, 6, none⟩ (.int .u64 rs3.ch)).setCell ⟨B, 7, none⟩ (.slice f3.AF rs3.files.length f3.cF)).setCell ⟨B, 8, none⟩ (.int .i64 rs3.taken)).setCell ⟨B, 9, none⟩ (.slice f3.AO rs3.opn.length f3.cO)).setCell ⟨B, 10, none⟩ (.int .u64 rs3.num)).setCell ⟨B, 11, none⟩ (.slice f3.AE rs3.events.length f3.cE)) from rfl)
  rw [← HG.out]
  generalize put12 w3 B f3 rs3 = w4 at *
  clear HG
  obtain ⟨⟨b0, b1, b2, b3, b4, b5, b6, b7, b8, b9, b10, b11⟩, p0, p1, p2, p3, p4, p5, p6, p7, p8, p9, p10, p11⟩ := H4.out.blk.twelve
  obtain ⟨⟨r0, r1, r2, r3, r4, r5, r6, r7, r8, r9, r10, r11⟩, q0, q1, q2, q3, q4, q5, q6, q7, q8, q9, q10, q11⟩ := H4.out.res.twelve
  go_wp2_with fail
  have H5 := Lib.hid H4.out.out
  clear b0 b1 b2 b3 b4 b5 b6 b7 b8 b9 b10 b11 p0 p1 p2 p3 p4 p5 p6 p7 p8 p9 p10 p11 r0 r1 r2 r3 r4 r5 r6 r7 r8 r9 r10 r11 q0 q1 q2 q3 q4 q5 q6 q7 q8 q9 q10 q11
  have HG := Lib.hid (show put12 w4 B2 f3 rs3 = ((((((((((((w4.setCell ⟨B2, 0, none⟩ (.slice f3.A0 f3.n0 f3.c0)).setCell ⟨B2, 1, none⟩ (.string rs3.stdin)).setCell ⟨B2, 2, none⟩ (.slice f3.A2 rs3.replies.length f3.c2)).setCell ⟨B2, 3, none⟩ (.slice f3.A3 rs3.fails.length f3.c3)).setCell ⟨B2, 4, none⟩ (.int .i64 rs3.lim)).setCell ⟨B2, 5, none⟩ (.int .i64 rs3.clock)).setCell ⟨B2, 6, none⟩ (.int .u64 rs3.ch)).setCell ⟨B2, 7, none⟩ (.slice f3.AF rs3.files.length f3.cF)).setCell ⟨B2, 8, none⟩ (.int .i64 rs3.taken)).setCell ⟨B2, 9, none⟩ (.slice f3.AO rs3.opn.length f3.cO)).setCell ⟨B2, 10, none⟩ (.int .u64 rs3.num)).setCell ⟨B2, 11, none⟩ (.slice f3.AE rs3.events.length f3.cE)) from rfl)
  rw [← HG.out]
  generalize put12 w4 B2 f3 rs3 = w5 at *
  clear HG
  obtain ⟨⟨x0, x1, x2, x3, x4, x5, x6, x7, x8, x9, x10, x11⟩, -⟩ := H5.out.res.twelve
  refine bodyPost_ret (v := .tuple #[.agg #[.slice f3.A0 f3.n0 f3.c0, .string rs3.stdin, .slice f3.A2 rs3.replies.length f3.c2, .slice f3.A3 rs3.fails.length f3.c3, .int .i64 rs3.lim, .int .i64 rs3.clock, .int .u64 rs3.ch, .slice f3.AF rs3.files.length f3.cF, .int .i64 rs3.taken, .slice f3.AO rs3.opn.length f3.cO, .int .u64 rs3.num, .slice f3.AE rs3.events.length f3.cE], .bool true]) (by simp [results, Try.results27, go_sem, x0, x1, x2, x3, x4, x5, x6, x7, x8, x9, x10, x11]) rfl ?_
  exact ⟨_, _, _, _, f3, rs3, rfl, ⟨H5.out.wat, H5.out.rf, H5.out.apart, HO1.out⟩, HBD.out _ HM2.out, H5.out.tur, fun g hg => by rw [← H5.out.hB]; exact H5.out.fr g hg, fun g hg => by rw [← H5.out.hB]; exact H5.out.kn g hg, HCK.out⟩
end Go.Proofs.Ytodjjnklelfgfaa
