/- The document's world: Read. -/
import Derived.Test.YtdbdmgmenojcaaaDoorG7
set_option linter.unusedVariables false
set_option linter.unusedSimpArgs false
namespace Go.Proofs.YtdbdmgmenojcaaaDoor
open Go.RowKit Wd
theorem own_set {w : World} {base e sz n cap g : Nat} {cs : List Value} (h : w.ownsRow base e sz (.slice (some ⟨g, 0, none⟩) n cap) n cs) (i : Nat) (u : Value) : (w.setCell ⟨g, i, none⟩ u).ownsRow base e sz (.slice (some ⟨g, 0, none⟩) n cap) n (cs.set i u) := by
  obtain ⟨h0, h⟩ := h
  rcases h with ⟨h1, -⟩ | ⟨g', cap', cur, h1, h2, h3, h4, h5, h6, h7⟩
  · cases h1
  · injection h1 with h1 _ h1b
    injection h1 with h1
    injection h1 with h1
    subst h1
    subst h1b
    refine ⟨by simpa using h0, .inr ⟨g, cap, cur.setIfInBounds i u, rfl, h2, heap_setCell_self (a := ⟨g, i, none⟩) rfl h3, h4, h5, by simpa using h6, ?_⟩⟩
    rw [Array.toList_setIfInBounds, List.take_set, h7]
theorem own_freeAt {w : World} {base e sz n cap g : Nat} {cs : List Value} (h : w.ownsRow base e sz (.slice (some ⟨g, 0, none⟩) n cap) n cs) (i : Nat) : w.frozen? ⟨g, i, none⟩ = false := by
  obtain ⟨cur, hc, -⟩ := own_lt h rfl
  simp [World.frozen?, hc]
theorem svals4_set : ∀ (l : List RSm) (ix : Nat) (_ : ix < l.length) {a : Int} {b c : ByteArray} {d : Nat} (_ : l.getD ix ⟨0, ⟨#[]⟩, ⟨#[]⟩, 0⟩ = ⟨a, b, c, d⟩) (tk : Nat), (svals4 l).set (ix * 4 + 3) (.int .i64 tk) = svals4 (l.set ix ⟨a, b, c, tk⟩) := by
  intro l
  induction l with
  | nil => intro ix h; exact absurd h (Nat.not_lt_zero _)
  | cons x l ih =>
    intro ix h a b c d hx tk
    cases ix with
    | zero =>
      have hx : x = ⟨a, b, c, d⟩ := hx
      subst hx
      rfl
    | succ ix =>
      have hx : l.getD ix ⟨0, ⟨#[]⟩, ⟨#[]⟩, 0⟩ = ⟨a, b, c, d⟩ := hx
      have h1 := ih ix (by simpa using h) hx tk
      have e : (ix + 1) * 4 + 3 = ix * 4 + 3 + 1 + 1 + 1 + 1 := by omega
      show ([Value.int .u8 x.k, .string x.name, .string x.src, .int .i64 x.tk] ++ svals4 l).set ((ix + 1) * 4 + 3) _ = [Value.int .u8 x.k, .string x.name, .string x.src, .int .i64 x.tk] ++ svals4 (l.set ix _)
      rw [e, ← h1]
      rfl
namespace Wd
def cutR (n : Int) (s : ByteArray) : ByteArray := if n < (s.size : Int) then s.extract 0 n.toNat else s
def smZ : RSm := ⟨0, ⟨#[]⟩, ⟨#[]⟩, 0⟩
def takenR (x : RSm) (n : Nat) : RSm := { x with tk := x.tk + n }
def readD (st : RSt) (k : Int) (name : ByteArray) (n : Int) : RSt × ByteArray × Int :=
  match findF st k name with
  | none => (st, ⟨#[]⟩, 16)
  | some i =>
    if k ≠ 1 ∧ k ≠ 2 then (st, ⟨#[]⟩, 16)
    else if n < 1 then (st, ⟨#[]⟩, 2)
    else if st.fails.any (isFl 2 name) = true then (st, ⟨#[]⟩, 13)
    else if k = 1 ∧ name = minus then ({ st with taken := st.taken + (cutR n (st.stdin.extract st.taken st.stdin.size)).size }, cutR n (st.stdin.extract st.taken st.stdin.size), 0)
    else ({ st with opn := st.opn.set i (takenR (st.opn.getD i smZ) (cutR n ((st.opn.getD i smZ).src.extract (st.opn.getD i smZ).tk (st.opn.getD i smZ).src.size)).size) }, cutR n ((st.opn.getD i smZ).src.extract (st.opn.getD i smZ).tk (st.opn.getD i smZ).src.size), 0)
end Wd
section
variable {K : Nat → Prop} {w wi wj : World} {B R : Nat} {f f' : Fm} {st st' : RSt}
theorem RW.setTk (h : RW K w wi B R f st) (t : Nat) : RW K w (wi.setCell ⟨B, 8, none⟩ (.int .i64 t)) B R f { st with taken := t } := by
  have hRB : R ≠ B := by have := h.hR; omega
  exact ⟨h.hB, h.hR, h.below.trans ((Tur.of_set ⟨B, 8, none⟩ _).below _ h.below.size (fun k hk e => by have e : k = B := e; have := h.hB; omega)), by have := h.big; simpa [World.setCell] using this, h.blk.set 8 _, h.res.keep (Tur.of_set ⟨B, 8, none⟩ _) hRB, RF.kset (f := f) (st := { st with taken := t }) (wi := wi) ⟨h.rat.r2, h.rat.r3, h.rat.oF, h.rat.oO, h.rat.oE⟩ (by simp [World.setCell]) (fun b h1 _ => Below.heap_setCell _ _ _ _ h1)⟩
end
section
variable {K : Nat → Prop} {w : World} {f : Fm} {st : RSt}
def RdPost (K : Nat → Prop) (w : World) (st' : RSt) (s' : ByteArray) (e' : Int) (e : Ending) (w' : World) : Prop := ∃ f', e = .returned (.tuple #[.agg (fcells f' st'), .string s', .int .i64 e']) ∧ RF (Nw K w) w' f' st' ∧ Below w.heap.size w w'
set_option maxRecDepth 100000 in
set_option maxHeartbeats 4000000 in
theorem fw_read_none (h : RF K w f st) (k : Int) (name : ByteArray) (n : Int) (hf : findF st k name = none) :
    Calls Tryd.prog 19 #[.agg (fcells f st), .int .u8 k, .string name, .int .i64 n] w (RdPost K w (readD st k name n).1 (readD st k name n).2.1 (readD st k name n).2.2) := by
  have HF := Lib.hid hf
  clear hf
  obtain ⟨o, ho⟩ : ∃ o, o = readD st k name n := ⟨_, rfl⟩
  rw [← ho]
  have HO := Lib.hid ho
  clear ho
  have HX0 := Lib.hid (RW.start h)
  have HRF := Lib.hid h
  clear h
  go_enter Tryd.func19, Tryd.ntmps19
  go_upto_region 1 with (fail)
  obtain ⟨B, hB⟩ : ∃ B, B = w.heap.size := ⟨_, rfl⟩
  rw [← hB] at HX0 ⊢
  obtain ⟨R, hR⟩ : ∃ R, R = B + 1 := ⟨_, rfl⟩
  rw [← hR] at HX0 ⊢
  clear hB hR
  generalize (w.alloc (.cells (fcells f st) 46)).alloc (.cells #[.slice none 0 0, .string ⟨#[]⟩, .slice none 0 0, .slice none 0 0, .int .i64 0, .int .i64 0, .int .u64 0, .slice none 0 0, .int .i64 0, .slice none 0 0, .int .u64 0, .slice none 0 0] 46) = w1 at *
  obtain ⟨⟨b0, b1, b2, b3, b4, b5, b6, b7, b8, b9, b10, b11⟩, p0, p1, p2, p3, p4, p5, p6, p7, p8, p9, p10, p11⟩ := HX0.out.blk.twelve
  obtain ⟨⟨r0, r1, r2, r3, r4, r5, r6, r7, r8, r9, r10, r11⟩, q0, q1, q2, q3, q4, q5, q6, q7, q8, q9, q10, q11⟩ := HX0.out.res.twelve
  go_wp2_with fail
  refine (fw_find HX0.out.rat k name).mono ?_
  rintro e w2 ⟨rfl, hb2⟩
  have HX2 := Lib.hid (HX0.out.pure hb2)
  clear b0 b1 b2 b3 b4 b5 b6 b7 b8 b9 b10 b11 r0 r1 r2 r3 r4 r5 r6 r7 r8 r9 r10 r11 q0 q1 q2 q3 q4 q5 q6 q7 q8 q9 q10 q11 p0 p1 p2 p3 p4 p5 p6 p7 p8 p9 p10 p11
  clear hb2
  obtain ⟨⟨b0, b1, b2, b3, b4, b5, b6, b7, b8, b9, b10, b11⟩, p0, p1, p2, p3, p4, p5, p6, p7, p8, p9, p10, p11⟩ := HX2.out.blk.twelve
  obtain ⟨⟨r0, r1, r2, r3, r4, r5, r6, r7, r8, r9, r10, r11⟩, q0, q1, q2, q3, q4, q5, q6, q7, q8, q9, q10, q11⟩ := HX2.out.res.twelve
  rw [HF.out, show ixV none = -1 from rfl]
  have HE : Hid (o = (st, ⟨#[]⟩, 16)) := by unfold Hid; rw [HO.out]; unfold readD; rw [HF.out]
  go_wp2_with fail
  clear b0 b1 b2 b3 b4 b5 b6 b7 b8 b9 b10 b11 r0 r1 r2 r3 r4 r5 r6 r7 r8 r9 r10 r11 q0 q1 q2 q3 q4 q5 q6 q7 q8 q9 q10 q11 p0 p1 p2 p3 p4 p5 p6 p7 p8 p9 p10 p11
  have HD := Lib.hid (HX2.out.done (wj := w2) (f' := f) (st' := st) (Below.refl _ _) HX2.out.same)
  generalize ((((((((((((w2.setCell ⟨R, 0, none⟩ (.slice f.A0 f.n0 f.c0)).setCell ⟨R, 1, none⟩ (.string st.stdin)).setCell ⟨R, 2, none⟩ (.slice f.A2 st.replies.length f.c2)).setCell ⟨R, 3, none⟩ (.slice f.A3 st.fails.length f.c3)).setCell ⟨R, 4, none⟩ (.int .i64 st.lim)).setCell ⟨R, 5, none⟩ (.int .i64 st.clock)).setCell ⟨R, 6, none⟩ (.int .u64 st.ch)).setCell ⟨R, 7, none⟩ (.slice f.AF st.files.length f.cF)).setCell ⟨R, 8, none⟩ (.int .i64 st.taken)).setCell ⟨R, 9, none⟩ (.slice f.AO st.opn.length f.cO)).setCell ⟨R, 10, none⟩ (.int .u64 st.num)).setCell ⟨R, 11, none⟩ (.slice f.AE st.events.length f.cE)) = w99 at *
  obtain ⟨⟨x0, x1, x2, x3, x4, x5, x6, x7, x8, x9, x10, x11⟩, -⟩ := HD.out.1.twelve
  refine bodyPost_ret (v := .tuple #[.agg #[.slice f.A0 f.n0 f.c0, .string st.stdin, .slice f.A2 st.replies.length f.c2, .slice f.A3 st.fails.length f.c3, .int .i64 st.lim, .int .i64 st.clock, .int .u64 st.ch, .slice f.AF st.files.length f.cF, .int .i64 st.taken, .slice f.AO st.opn.length f.cO, .int .u64 st.num, .slice f.AE st.events.length f.cE], .string ⟨#[]⟩, .int .i64 16]) (by simp [results, Tryd.results19, go_sem, x0, x1, x2, x3, x4, x5, x6, x7, x8, x9, x10, x11]) rfl (by rw [HE.out]; exact ⟨f, rfl, HD.out.2.1, HD.out.2.2⟩)
set_option maxRecDepth 100000 in
set_option maxHeartbeats 4000000 in
theorem fw_read_kind (h : RF K w f st) (k : Int) (name : ByteArray) (n : Int) (ix : Nat) (hf : findF st k name = some ix) (hk : k ≠ 1 ∧ k ≠ 2) :
    Calls Tryd.prog 19 #[.agg (fcells f st), .int .u8 k, .string name, .int .i64 n] w (RdPost K w (readD st k name n).1 (readD st k name n).2.1 (readD st k name n).2.2) := by
  have HF := Lib.hid hf
  have HK := Lib.hid hk
  have e1 : (k == 1) = false := by simp [hk.1]
  have e2 : (k == 2) = false := by simp [hk.2]
  have d1 : (k != 1) = true := by simp [hk.1]
  have d2 : (k != 2) = true := by simp [hk.2]
  clear hf hk
  obtain ⟨o, ho⟩ : ∃ o, o = readD st k name n := ⟨_, rfl⟩
  rw [← ho]
  have HO := Lib.hid ho
  clear ho
  have HX0 := Lib.hid (RW.start h)
  have HRF := Lib.hid h
  clear h
  go_enter Tryd.func19, Tryd.ntmps19
  go_upto_region 1 with (fail)
  obtain ⟨B, hB⟩ : ∃ B, B = w.heap.size := ⟨_, rfl⟩
  rw [← hB] at HX0 ⊢
  obtain ⟨R, hR⟩ : ∃ R, R = B + 1 := ⟨_, rfl⟩
  rw [← hR] at HX0 ⊢
  clear hB hR
  generalize (w.alloc (.cells (fcells f st) 46)).alloc (.cells #[.slice none 0 0, .string ⟨#[]⟩, .slice none 0 0, .slice none 0 0, .int .i64 0, .int .i64 0, .int .u64 0, .slice none 0 0, .int .i64 0, .slice none 0 0, .int .u64 0, .slice none 0 0] 46) = w1 at *
  obtain ⟨⟨b0, b1, b2, b3, b4, b5, b6, b7, b8, b9, b10, b11⟩, p0, p1, p2, p3, p4, p5, p6, p7, p8, p9, p10, p11⟩ := HX0.out.blk.twelve
  obtain ⟨⟨r0, r1, r2, r3, r4, r5, r6, r7, r8, r9, r10, r11⟩, q0, q1, q2, q3, q4, q5, q6, q7, q8, q9, q10, q11⟩ := HX0.out.res.twelve
  go_wp2_with fail
  refine (fw_find HX0.out.rat k name).mono ?_
  rintro e w2 ⟨rfl, hb2⟩
  have HX2 := Lib.hid (HX0.out.pure hb2)
  clear b0 b1 b2 b3 b4 b5 b6 b7 b8 b9 b10 b11 r0 r1 r2 r3 r4 r5 r6 r7 r8 r9 r10 r11 q0 q1 q2 q3 q4 q5 q6 q7 q8 q9 q10 q11 p0 p1 p2 p3 p4 p5 p6 p7 p8 p9 p10 p11
  clear hb2
  obtain ⟨⟨b0, b1, b2, b3, b4, b5, b6, b7, b8, b9, b10, b11⟩, p0, p1, p2, p3, p4, p5, p6, p7, p8, p9, p10, p11⟩ := HX2.out.blk.twelve
  obtain ⟨⟨r0, r1, r2, r3, r4, r5, r6, r7, r8, r9, r10, r11⟩, q0, q1, q2, q3, q4, q5, q6, q7, q8, q9, q10, q11⟩ := HX2.out.res.twelve
  rw [HF.out, show ixV (some ix) = (ix : Int) from rfl]
  have hix : ¬ (ix : Int) < 0 := by omega
  have HE : Hid (o = (st, ⟨#[]⟩, 16)) := by unfold Hid; rw [HO.out]; unfold readD; rw [HF.out]; simp only []; rw [if_pos HK.out]
  go_wp2_with fail
  clear b0 b1 b2 b3 b4 b5 b6 b7 b8 b9 b10 b11 r0 r1 r2 r3 r4 r5 r6 r7 r8 r9 r10 r11 q0 q1 q2 q3 q4 q5 q6 q7 q8 q9 q10 q11 p0 p1 p2 p3 p4 p5 p6 p7 p8 p9 p10 p11
  have HD := Lib.hid (HX2.out.done (wj := w2) (f' := f) (st' := st) (Below.refl _ _) HX2.out.same)
  generalize ((((((((((((w2.setCell ⟨R, 0, none⟩ (.slice f.A0 f.n0 f.c0)).setCell ⟨R, 1, none⟩ (.string st.stdin)).setCell ⟨R, 2, none⟩ (.slice f.A2 st.replies.length f.c2)).setCell ⟨R, 3, none⟩ (.slice f.A3 st.fails.length f.c3)).setCell ⟨R, 4, none⟩ (.int .i64 st.lim)).setCell ⟨R, 5, none⟩ (.int .i64 st.clock)).setCell ⟨R, 6, none⟩ (.int .u64 st.ch)).setCell ⟨R, 7, none⟩ (.slice f.AF st.files.length f.cF)).setCell ⟨R, 8, none⟩ (.int .i64 st.taken)).setCell ⟨R, 9, none⟩ (.slice f.AO st.opn.length f.cO)).setCell ⟨R, 10, none⟩ (.int .u64 st.num)).setCell ⟨R, 11, none⟩ (.slice f.AE st.events.length f.cE)) = w99 at *
  obtain ⟨⟨x0, x1, x2, x3, x4, x5, x6, x7, x8, x9, x10, x11⟩, -⟩ := HD.out.1.twelve
  refine bodyPost_ret (v := .tuple #[.agg #[.slice f.A0 f.n0 f.c0, .string st.stdin, .slice f.A2 st.replies.length f.c2, .slice f.A3 st.fails.length f.c3, .int .i64 st.lim, .int .i64 st.clock, .int .u64 st.ch, .slice f.AF st.files.length f.cF, .int .i64 st.taken, .slice f.AO st.opn.length f.cO, .int .u64 st.num, .slice f.AE st.events.length f.cE], .string ⟨#[]⟩, .int .i64 16]) (by simp [results, Tryd.results19, go_sem, x0, x1, x2, x3, x4, x5, x6, x7, x8, x9, x10, x11]) rfl (by rw [HE.out]; exact ⟨f, rfl, HD.out.2.1, HD.out.2.2⟩)
set_option maxRecDepth 100000 in
set_option maxHeartbeats 4000000 in
theorem fw_read_arg1 (h : RF K w f st) (name : ByteArray) (n : Int) (ix : Nat) (hf : findF st 1 name = some ix) (hn : n < 1) :
    Calls Tryd.prog 19 #[.agg (fcells f st), .int .u8 1, .string name, .int .i64 n] w (RdPost K w (readD st 1 name n).1 (readD st 1 name n).2.1 (readD st 1 name n).2.2) := by
  have HF := Lib.hid hf
  clear hf
  obtain ⟨o, ho⟩ : ∃ o, o = readD st 1 name n := ⟨_, rfl⟩
  rw [← ho]
  have HO := Lib.hid ho
  clear ho
  have HX0 := Lib.hid (RW.start h)
  have HRF := Lib.hid h
  clear h
  go_enter Tryd.func19, Tryd.ntmps19
  go_upto_region 1 with (fail)
  obtain ⟨B, hB⟩ : ∃ B, B = w.heap.size := ⟨_, rfl⟩
  rw [← hB] at HX0 ⊢
  obtain ⟨R, hR⟩ : ∃ R, R = B + 1 := ⟨_, rfl⟩
  rw [← hR] at HX0 ⊢
  clear hB hR
  generalize (w.alloc (.cells (fcells f st) 46)).alloc (.cells #[.slice none 0 0, .string ⟨#[]⟩, .slice none 0 0, .slice none 0 0, .int .i64 0, .int .i64 0, .int .u64 0, .slice none 0 0, .int .i64 0, .slice none 0 0, .int .u64 0, .slice none 0 0] 46) = w1 at *
  obtain ⟨⟨b0, b1, b2, b3, b4, b5, b6, b7, b8, b9, b10, b11⟩, p0, p1, p2, p3, p4, p5, p6, p7, p8, p9, p10, p11⟩ := HX0.out.blk.twelve
  obtain ⟨⟨r0, r1, r2, r3, r4, r5, r6, r7, r8, r9, r10, r11⟩, q0, q1, q2, q3, q4, q5, q6, q7, q8, q9, q10, q11⟩ := HX0.out.res.twelve
  go_wp2_with fail
  refine (fw_find HX0.out.rat 1 name).mono ?_
  rintro e w2 ⟨rfl, hb2⟩
  have HX2 := Lib.hid (HX0.out.pure hb2)
  clear b0 b1 b2 b3 b4 b5 b6 b7 b8 b9 b10 b11 r0 r1 r2 r3 r4 r5 r6 r7 r8 r9 r10 r11 q0 q1 q2 q3 q4 q5 q6 q7 q8 q9 q10 q11 p0 p1 p2 p3 p4 p5 p6 p7 p8 p9 p10 p11
  clear hb2
  obtain ⟨⟨b0, b1, b2, b3, b4, b5, b6, b7, b8, b9, b10, b11⟩, p0, p1, p2, p3, p4, p5, p6, p7, p8, p9, p10, p11⟩ := HX2.out.blk.twelve
  obtain ⟨⟨r0, r1, r2, r3, r4, r5, r6, r7, r8, r9, r10, r11⟩, q0, q1, q2, q3, q4, q5, q6, q7, q8, q9, q10, q11⟩ := HX2.out.res.twelve
  rw [HF.out, show ixV (some ix) = (ix : Int) from rfl]
  have hix : ¬ (ix : Int) < 0 := by omega
  have HE : Hid (o = (st, ⟨#[]⟩, 2)) := by unfold Hid; rw [HO.out]; unfold readD; rw [HF.out]; simp only []; rw [if_neg (by rintro ⟨h1, h2⟩; exact absurd rfl h1), if_pos hn]
  go_wp2_with fail
  clear b0 b1 b2 b3 b4 b5 b6 b7 b8 b9 b10 b11 r0 r1 r2 r3 r4 r5 r6 r7 r8 r9 r10 r11 q0 q1 q2 q3 q4 q5 q6 q7 q8 q9 q10 q11 p0 p1 p2 p3 p4 p5 p6 p7 p8 p9 p10 p11
  have HD := Lib.hid (HX2.out.done (wj := w2) (f' := f) (st' := st) (Below.refl _ _) HX2.out.same)
  generalize ((((((((((((w2.setCell ⟨R, 0, none⟩ (.slice f.A0 f.n0 f.c0)).setCell ⟨R, 1, none⟩ (.string st.stdin)).setCell ⟨R, 2, none⟩ (.slice f.A2 st.replies.length f.c2)).setCell ⟨R, 3, none⟩ (.slice f.A3 st.fails.length f.c3)).setCell ⟨R, 4, none⟩ (.int .i64 st.lim)).setCell ⟨R, 5, none⟩ (.int .i64 st.clock)).setCell ⟨R, 6, none⟩ (.int .u64 st.ch)).setCell ⟨R, 7, none⟩ (.slice f.AF st.files.length f.cF)).setCell ⟨R, 8, none⟩ (.int .i64 st.taken)).setCell ⟨R, 9, none⟩ (.slice f.AO st.opn.length f.cO)).setCell ⟨R, 10, none⟩ (.int .u64 st.num)).setCell ⟨R, 11, none⟩ (.slice f.AE st.events.length f.cE)) = w99 at *
  obtain ⟨⟨x0, x1, x2, x3, x4, x5, x6, x7, x8, x9, x10, x11⟩, -⟩ := HD.out.1.twelve
  refine bodyPost_ret (v := .tuple #[.agg #[.slice f.A0 f.n0 f.c0, .string st.stdin, .slice f.A2 st.replies.length f.c2, .slice f.A3 st.fails.length f.c3, .int .i64 st.lim, .int .i64 st.clock, .int .u64 st.ch, .slice f.AF st.files.length f.cF, .int .i64 st.taken, .slice f.AO st.opn.length f.cO, .int .u64 st.num, .slice f.AE st.events.length f.cE], .string ⟨#[]⟩, .int .i64 2]) (by simp [results, Tryd.results19, go_sem, x0, x1, x2, x3, x4, x5, x6, x7, x8, x9, x10, x11]) rfl (by rw [HE.out]; exact ⟨f, rfl, HD.out.2.1, HD.out.2.2⟩)
set_option maxRecDepth 100000 in
set_option maxHeartbeats 4000000 in
theorem fw_read_in1 (h : RF K w f st) (name : ByteArray) (n : Nat) (ix : Nat) (hf : findF st 1 name = some ix) (hn : 1 ≤ n) (hnl : n ≤ 9223372036854775807) (hmi : name = minus) (htk : st.taken ≤ st.stdin.size) (hsz : st.stdin.size ≤ 4294967296) :
    Calls Tryd.prog 19 #[.agg (fcells f st), .int .u8 1, .string name, .int .i64 (n : Nat)] w (RdPost K w (readD st 1 name (n : Nat)).1 (readD st 1 name (n : Nat)).2.1 (readD st 1 name (n : Nat)).2.2) := by
  have HF := Lib.hid hf
  have hn1 : ¬ (n : Int) < 1 := by omega
  clear hf
  have HMI := Lib.hid hmi
  have emi : (name.toList == [45]) = true := by rw [← minus_list, str_eq]; exact decide_eq_true hmi
  clear hmi
  obtain ⟨o, ho⟩ : ∃ o, o = readD st 1 name (n : Nat) := ⟨_, rfl⟩
  rw [← ho]
  have HO := Lib.hid ho
  clear ho
  have HX0 := Lib.hid (RW.start h)
  have HRF := Lib.hid h
  clear h
  go_enter Tryd.func19, Tryd.ntmps19
  go_upto_region 1 with (fail)
  obtain ⟨B, hB⟩ : ∃ B, B = w.heap.size := ⟨_, rfl⟩
  rw [← hB] at HX0 ⊢
  obtain ⟨R, hR⟩ : ∃ R, R = B + 1 := ⟨_, rfl⟩
  rw [← hR] at HX0 ⊢
  clear hB hR
  generalize (w.alloc (.cells (fcells f st) 46)).alloc (.cells #[.slice none 0 0, .string ⟨#[]⟩, .slice none 0 0, .slice none 0 0, .int .i64 0, .int .i64 0, .int .u64 0, .slice none 0 0, .int .i64 0, .slice none 0 0, .int .u64 0, .slice none 0 0] 46) = w1 at *
  obtain ⟨⟨b0, b1, b2, b3, b4, b5, b6, b7, b8, b9, b10, b11⟩, p0, p1, p2, p3, p4, p5, p6, p7, p8, p9, p10, p11⟩ := HX0.out.blk.twelve
  obtain ⟨⟨r0, r1, r2, r3, r4, r5, r6, r7, r8, r9, r10, r11⟩, q0, q1, q2, q3, q4, q5, q6, q7, q8, q9, q10, q11⟩ := HX0.out.res.twelve
  go_wp2_with fail
  refine (fw_find HX0.out.rat 1 name).mono ?_
  rintro e w2 ⟨rfl, hb2⟩
  have HX2 := Lib.hid (HX0.out.pure hb2)
  clear b0 b1 b2 b3 b4 b5 b6 b7 b8 b9 b10 b11 r0 r1 r2 r3 r4 r5 r6 r7 r8 r9 r10 r11 q0 q1 q2 q3 q4 q5 q6 q7 q8 q9 q10 q11 p0 p1 p2 p3 p4 p5 p6 p7 p8 p9 p10 p11
  clear hb2
  obtain ⟨⟨b0, b1, b2, b3, b4, b5, b6, b7, b8, b9, b10, b11⟩, p0, p1, p2, p3, p4, p5, p6, p7, p8, p9, p10, p11⟩ := HX2.out.blk.twelve
  obtain ⟨⟨r0, r1, r2, r3, r4, r5, r6, r7, r8, r9, r10, r11⟩, q0, q1, q2, q3, q4, q5, q6, q7, q8, q9, q10, q11⟩ := HX2.out.res.twelve
  rw [HF.out, show ixV (some ix) = (ix : Int) from rfl]
  have hix : ¬ (ix : Int) < 0 := by omega
  go_wp2_with fail
  refine (fw_fails HX2.out.rat 2 name).mono ?_
  rintro e w3 ⟨rfl, hb3⟩
  have HX3 := Lib.hid (HX2.out.pure hb3)
  clear b0 b1 b2 b3 b4 b5 b6 b7 b8 b9 b10 b11 r0 r1 r2 r3 r4 r5 r6 r7 r8 r9 r10 r11 q0 q1 q2 q3 q4 q5 q6 q7 q8 q9 q10 q11 p0 p1 p2 p3 p4 p5 p6 p7 p8 p9 p10 p11
  clear hb3
  obtain ⟨⟨b0, b1, b2, b3, b4, b5, b6, b7, b8, b9, b10, b11⟩, p0, p1, p2, p3, p4, p5, p6, p7, p8, p9, p10, p11⟩ := HX3.out.blk.twelve
  obtain ⟨⟨r0, r1, r2, r3, r4, r5, r6, r7, r8, r9, r10, r11⟩, q0, q1, q2, q3, q4, q5, q6, q7, q8, q9, q10, q11⟩ := HX3.out.res.twelve
  cases hfl : st.fails.any (isFl 2 name)
  rotate_left
  · have HE : Hid (o = (st, ⟨#[]⟩, 13)) := by unfold Hid; rw [HO.out]; unfold readD; rw [HF.out]; simp only []; rw [if_neg (by rintro ⟨h1, h2⟩; exact absurd rfl h1), if_neg (by omega), if_pos hfl]
    clear hfl
    go_wp2_with fail
    clear b0 b1 b2 b3 b4 b5 b6 b7 b8 b9 b10 b11 r0 r1 r2 r3 r4 r5 r6 r7 r8 r9 r10 r11 q0 q1 q2 q3 q4 q5 q6 q7 q8 q9 q10 q11 p0 p1 p2 p3 p4 p5 p6 p7 p8 p9 p10 p11
    have HD := Lib.hid (HX3.out.done (wj := w3) (f' := f) (st' := st) (Below.refl _ _) HX3.out.same)
    generalize ((((((((((((w3.setCell ⟨R, 0, none⟩ (.slice f.A0 f.n0 f.c0)).setCell ⟨R, 1, none⟩ (.string st.stdin)).setCell ⟨R, 2, none⟩ (.slice f.A2 st.replies.length f.c2)).setCell ⟨R, 3, none⟩ (.slice f.A3 st.fails.length f.c3)).setCell ⟨R, 4, none⟩ (.int .i64 st.lim)).setCell ⟨R, 5, none⟩ (.int .i64 st.clock)).setCell ⟨R, 6, none⟩ (.int .u64 st.ch)).setCell ⟨R, 7, none⟩ (.slice f.AF st.files.length f.cF)).setCell ⟨R, 8, none⟩ (.int .i64 st.taken)).setCell ⟨R, 9, none⟩ (.slice f.AO st.opn.length f.cO)).setCell ⟨R, 10, none⟩ (.int .u64 st.num)).setCell ⟨R, 11, none⟩ (.slice f.AE st.events.length f.cE)) = w99 at *
    obtain ⟨⟨x0, x1, x2, x3, x4, x5, x6, x7, x8, x9, x10, x11⟩, -⟩ := HD.out.1.twelve
    refine bodyPost_ret (v := .tuple #[.agg #[.slice f.A0 f.n0 f.c0, .string st.stdin, .slice f.A2 st.replies.length f.c2, .slice f.A3 st.fails.length f.c3, .int .i64 st.lim, .int .i64 st.clock, .int .u64 st.ch, .slice f.AF st.files.length f.cF, .int .i64 st.taken, .slice f.AO st.opn.length f.cO, .int .u64 st.num, .slice f.AE st.events.length f.cE], .string ⟨#[]⟩, .int .i64 13]) (by simp [results, Tryd.results19, go_sem, x0, x1, x2, x3, x4, x5, x6, x7, x8, x9, x10, x11]) rfl (by rw [HE.out]; exact ⟨f, rfl, HD.out.2.1, HD.out.2.2⟩)
  · have HFL := Lib.hid hfl
    clear hfl
    have hsl : (st.stdin.extract st.taken st.stdin.size).size = st.stdin.size - st.taken := by rw [ByteArray.size_extract]; omega
    obtain ⟨s, hs⟩ : ∃ s, s = st.stdin.extract st.taken st.stdin.size := ⟨_, rfl⟩
    rw [← hs] at hsl
    have htki : (st.taken : Int) ≤ (st.stdin.size : Int) := by omega
    have HE0 : Hid (o = ({ st with taken := st.taken + (cutR n s).size }, cutR n s, 0)) := by unfold Hid; rw [HO.out]; unfold readD; rw [HF.out]; simp only []; rw [if_neg (by rintro ⟨h1, h2⟩; exact absurd rfl h1), if_neg (by omega), if_neg (by rw [HFL.out]; decide), if_pos ⟨by trivial, HMI.out⟩, ← hs]
    have HS := Lib.hid hs
    go_upto_region 10 with (fail)
    rw [← hs]
    clear hs
    by_cases hns : (n : Int) < (s.size : Int)
    · obtain ⟨s2, hs2⟩ : ∃ s2, s2 = s.extract 0 n := ⟨_, rfl⟩
      have hc : cutR n s = s2 := by unfold cutR; rw [if_pos hns, hs2]; rfl
      have hs2z : s2.size ≤ s.size := by rw [hs2, ByteArray.size_extract]; omega
      have hnz : n ≤ s.size := by omega
      rw [hc] at HE0
      clear hc
      have hsum : st.taken + s2.size ≤ 4294967296 := by omega
      obtain ⟨tk, htk2⟩ : ∃ t, t = st.taken + s2.size := ⟨_, rfl⟩
      have hcast : ((st.taken : Int) + (s2.size : Int)) = (tk : Int) := by rw [htk2]; omega
      have HCAST := Lib.hid hcast
      have HTK2 := Lib.hid htk2
      clear hcast htk2
      go_upto_region 12 with (fail)
      rw [← hs2]
      clear hs2
      go_upto_region 13 with (fail)
      rw [HCAST.out]
      have HX6 := Lib.hid (HX3.out.setTk tk)
      obtain ⟨st6, hst6⟩ : ∃ x, x = { st with taken := tk } := ⟨_, rfl⟩
      rw [← HTK2.out, ← hst6] at HE0
      rw [← hst6] at HX6
      have HE := HE0
      clear hst6
      clear b0 b1 b2 b3 b4 b5 b6 b7 b8 b9 b10 b11 r0 r1 r2 r3 r4 r5 r6 r7 r8 r9 r10 r11 q0 q1 q2 q3 q4 q5 q6 q7 q8 q9 q10 q11 p0 p1 p2 p3 p4 p5 p6 p7 p8 p9 p10 p11
      generalize w3.setCell ⟨B, 8, none⟩ (.int .i64 tk) = w6 at *
      obtain ⟨⟨b0, b1, b2, b3, b4, b5, b6, b7, b8, b9, b10, b11⟩, p0, p1, p2, p3, p4, p5, p6, p7, p8, p9, p10, p11⟩ := HX6.out.blk.twelve
      obtain ⟨⟨r0, r1, r2, r3, r4, r5, r6, r7, r8, r9, r10, r11⟩, q0, q1, q2, q3, q4, q5, q6, q7, q8, q9, q10, q11⟩ := HX6.out.res.twelve
      go_wp2_with fail
      clear b0 b1 b2 b3 b4 b5 b6 b7 b8 b9 b10 b11 r0 r1 r2 r3 r4 r5 r6 r7 r8 r9 r10 r11 q0 q1 q2 q3 q4 q5 q6 q7 q8 q9 q10 q11 p0 p1 p2 p3 p4 p5 p6 p7 p8 p9 p10 p11
      have HD := Lib.hid (HX6.out.done (wj := w6) (f' := f) (st' := st6) (Below.refl _ _) HX6.out.same)
      generalize ((((((((((((w6.setCell ⟨R, 0, none⟩ (.slice f.A0 f.n0 f.c0)).setCell ⟨R, 1, none⟩ (.string st6.stdin)).setCell ⟨R, 2, none⟩ (.slice f.A2 st6.replies.length f.c2)).setCell ⟨R, 3, none⟩ (.slice f.A3 st6.fails.length f.c3)).setCell ⟨R, 4, none⟩ (.int .i64 st6.lim)).setCell ⟨R, 5, none⟩ (.int .i64 st6.clock)).setCell ⟨R, 6, none⟩ (.int .u64 st6.ch)).setCell ⟨R, 7, none⟩ (.slice f.AF st6.files.length f.cF)).setCell ⟨R, 8, none⟩ (.int .i64 st6.taken)).setCell ⟨R, 9, none⟩ (.slice f.AO st6.opn.length f.cO)).setCell ⟨R, 10, none⟩ (.int .u64 st6.num)).setCell ⟨R, 11, none⟩ (.slice f.AE st6.events.length f.cE)) = w99 at *
      obtain ⟨⟨x0, x1, x2, x3, x4, x5, x6, x7, x8, x9, x10, x11⟩, -⟩ := HD.out.1.twelve
      refine bodyPost_ret (v := .tuple #[.agg #[.slice f.A0 f.n0 f.c0, .string st6.stdin, .slice f.A2 st6.replies.length f.c2, .slice f.A3 st6.fails.length f.c3, .int .i64 st6.lim, .int .i64 st6.clock, .int .u64 st6.ch, .slice f.AF st6.files.length f.cF, .int .i64 st6.taken, .slice f.AO st6.opn.length f.cO, .int .u64 st6.num, .slice f.AE st6.events.length f.cE], .string s2, .int .i64 0]) (by simp [results, Tryd.results19, go_sem, x0, x1, x2, x3, x4, x5, x6, x7, x8, x9, x10, x11]) rfl (by rw [HE.out]; exact ⟨f, rfl, HD.out.2.1, HD.out.2.2⟩)
    · obtain ⟨s2, hs2⟩ : ∃ s2, s2 = s := ⟨_, rfl⟩
      have hc : cutR n s = s2 := by unfold cutR; rw [if_neg hns, hs2]
      have hs2z : s2.size ≤ s.size := by rw [hs2]; exact Nat.le_refl _
      rw [hc] at HE0
      clear hc
      have hsum : st.taken + s2.size ≤ 4294967296 := by omega
      obtain ⟨tk, htk2⟩ : ∃ t, t = st.taken + s2.size := ⟨_, rfl⟩
      have hcast : ((st.taken : Int) + (s2.size : Int)) = (tk : Int) := by rw [htk2]; omega
      have HCAST := Lib.hid hcast
      have HTK2 := Lib.hid htk2
      clear hcast htk2
      go_upto_region 12 with (fail)
      rw [← hs2]
      clear hs2
      go_upto_region 13 with (fail)
      rw [HCAST.out]
      have HX6 := Lib.hid (HX3.out.setTk tk)
      obtain ⟨st6, hst6⟩ : ∃ x, x = { st with taken := tk } := ⟨_, rfl⟩
      rw [← HTK2.out, ← hst6] at HE0
      rw [← hst6] at HX6
      have HE := HE0
      clear hst6
      clear b0 b1 b2 b3 b4 b5 b6 b7 b8 b9 b10 b11 r0 r1 r2 r3 r4 r5 r6 r7 r8 r9 r10 r11 q0 q1 q2 q3 q4 q5 q6 q7 q8 q9 q10 q11 p0 p1 p2 p3 p4 p5 p6 p7 p8 p9 p10 p11
      generalize w3.setCell ⟨B, 8, none⟩ (.int .i64 tk) = w6 at *
      obtain ⟨⟨b0, b1, b2, b3, b4, b5, b6, b7, b8, b9, b10, b11⟩, p0, p1, p2, p3, p4, p5, p6, p7, p8, p9, p10, p11⟩ := HX6.out.blk.twelve
      obtain ⟨⟨r0, r1, r2, r3, r4, r5, r6, r7, r8, r9, r10, r11⟩, q0, q1, q2, q3, q4, q5, q6, q7, q8, q9, q10, q11⟩ := HX6.out.res.twelve
      go_wp2_with fail
      clear b0 b1 b2 b3 b4 b5 b6 b7 b8 b9 b10 b11 r0 r1 r2 r3 r4 r5 r6 r7 r8 r9 r10 r11 q0 q1 q2 q3 q4 q5 q6 q7 q8 q9 q10 q11 p0 p1 p2 p3 p4 p5 p6 p7 p8 p9 p10 p11
      have HD := Lib.hid (HX6.out.done (wj := w6) (f' := f) (st' := st6) (Below.refl _ _) HX6.out.same)
      generalize ((((((((((((w6.setCell ⟨R, 0, none⟩ (.slice f.A0 f.n0 f.c0)).setCell ⟨R, 1, none⟩ (.string st6.stdin)).setCell ⟨R, 2, none⟩ (.slice f.A2 st6.replies.length f.c2)).setCell ⟨R, 3, none⟩ (.slice f.A3 st6.fails.length f.c3)).setCell ⟨R, 4, none⟩ (.int .i64 st6.lim)).setCell ⟨R, 5, none⟩ (.int .i64 st6.clock)).setCell ⟨R, 6, none⟩ (.int .u64 st6.ch)).setCell ⟨R, 7, none⟩ (.slice f.AF st6.files.length f.cF)).setCell ⟨R, 8, none⟩ (.int .i64 st6.taken)).setCell ⟨R, 9, none⟩ (.slice f.AO st6.opn.length f.cO)).setCell ⟨R, 10, none⟩ (.int .u64 st6.num)).setCell ⟨R, 11, none⟩ (.slice f.AE st6.events.length f.cE)) = w99 at *
      obtain ⟨⟨x0, x1, x2, x3, x4, x5, x6, x7, x8, x9, x10, x11⟩, -⟩ := HD.out.1.twelve
      refine bodyPost_ret (v := .tuple #[.agg #[.slice f.A0 f.n0 f.c0, .string st6.stdin, .slice f.A2 st6.replies.length f.c2, .slice f.A3 st6.fails.length f.c3, .int .i64 st6.lim, .int .i64 st6.clock, .int .u64 st6.ch, .slice f.AF st6.files.length f.cF, .int .i64 st6.taken, .slice f.AO st6.opn.length f.cO, .int .u64 st6.num, .slice f.AE st6.events.length f.cE], .string s2, .int .i64 0]) (by simp [results, Tryd.results19, go_sem, x0, x1, x2, x3, x4, x5, x6, x7, x8, x9, x10, x11]) rfl (by rw [HE.out]; exact ⟨f, rfl, HD.out.2.1, HD.out.2.2⟩)
set_option maxRecDepth 100000 in
set_option maxHeartbeats 4000000 in
theorem fw_read_st1 (h : RF K w f st) (name : ByteArray) (n : Nat) (ix : Nat) (hf : findF st 1 name = some ix) (hn : 1 ≤ n) (hnl : n ≤ 9223372036854775807) (hmi : name ≠ minus) (hop : st.opn.length ≤ 100000) (hxl : ix < st.opn.length) (htk : (st.opn.getD ix smZ).tk ≤ (st.opn.getD ix smZ).src.size) (hsz : (st.opn.getD ix smZ).src.size ≤ 4294967296) :
    Calls Tryd.prog 19 #[.agg (fcells f st), .int .u8 1, .string name, .int .i64 (n : Nat)] w (RdPost K w (readD st 1 name (n : Nat)).1 (readD st 1 name (n : Nat)).2.1 (readD st 1 name (n : Nat)).2.2) := by
  have HF := Lib.hid hf
  have hn1 : ¬ (n : Int) < 1 := by omega
  clear hf
  have HMI := Lib.hid hmi
  have emi : (name.toList == [45]) = false := by rw [← minus_list, str_eq]; exact decide_eq_false hmi
  clear hmi
  obtain ⟨⟨xk, xn, xs, xt⟩, hx⟩ : ∃ x, x = st.opn.getD ix smZ := ⟨_, rfl⟩
  rw [← hx] at htk hsz
  have HXV := Lib.hid hx
  have hxt : xt ≤ xs.size := htk
  have hxz : xs.size ≤ 4294967296 := hsz
  clear hx htk hsz
  obtain ⟨o, ho⟩ : ∃ o, o = readD st 1 name (n : Nat) := ⟨_, rfl⟩
  rw [← ho]
  have HO := Lib.hid ho
  clear ho
  have HX0 := Lib.hid (RW.start h)
  have HRF := Lib.hid h
  clear h
  go_enter Tryd.func19, Tryd.ntmps19
  go_upto_region 1 with (fail)
  obtain ⟨B, hB⟩ : ∃ B, B = w.heap.size := ⟨_, rfl⟩
  rw [← hB] at HX0 ⊢
  obtain ⟨R, hR⟩ : ∃ R, R = B + 1 := ⟨_, rfl⟩
  rw [← hR] at HX0 ⊢
  clear hB hR
  generalize (w.alloc (.cells (fcells f st) 46)).alloc (.cells #[.slice none 0 0, .string ⟨#[]⟩, .slice none 0 0, .slice none 0 0, .int .i64 0, .int .i64 0, .int .u64 0, .slice none 0 0, .int .i64 0, .slice none 0 0, .int .u64 0, .slice none 0 0] 46) = w1 at *
  obtain ⟨⟨b0, b1, b2, b3, b4, b5, b6, b7, b8, b9, b10, b11⟩, p0, p1, p2, p3, p4, p5, p6, p7, p8, p9, p10, p11⟩ := HX0.out.blk.twelve
  obtain ⟨⟨r0, r1, r2, r3, r4, r5, r6, r7, r8, r9, r10, r11⟩, q0, q1, q2, q3, q4, q5, q6, q7, q8, q9, q10, q11⟩ := HX0.out.res.twelve
  go_wp2_with fail
  refine (fw_find HX0.out.rat 1 name).mono ?_
  rintro e w2 ⟨rfl, hb2⟩
  have HX2 := Lib.hid (HX0.out.pure hb2)
  clear b0 b1 b2 b3 b4 b5 b6 b7 b8 b9 b10 b11 r0 r1 r2 r3 r4 r5 r6 r7 r8 r9 r10 r11 q0 q1 q2 q3 q4 q5 q6 q7 q8 q9 q10 q11 p0 p1 p2 p3 p4 p5 p6 p7 p8 p9 p10 p11
  clear hb2
  obtain ⟨⟨b0, b1, b2, b3, b4, b5, b6, b7, b8, b9, b10, b11⟩, p0, p1, p2, p3, p4, p5, p6, p7, p8, p9, p10, p11⟩ := HX2.out.blk.twelve
  obtain ⟨⟨r0, r1, r2, r3, r4, r5, r6, r7, r8, r9, r10, r11⟩, q0, q1, q2, q3, q4, q5, q6, q7, q8, q9, q10, q11⟩ := HX2.out.res.twelve
  rw [HF.out, show ixV (some ix) = (ix : Int) from rfl]
  have hix : ¬ (ix : Int) < 0 := by omega
  go_wp2_with fail
  refine (fw_fails HX2.out.rat 2 name).mono ?_
  rintro e w3 ⟨rfl, hb3⟩
  have HX3 := Lib.hid (HX2.out.pure hb3)
  clear b0 b1 b2 b3 b4 b5 b6 b7 b8 b9 b10 b11 r0 r1 r2 r3 r4 r5 r6 r7 r8 r9 r10 r11 q0 q1 q2 q3 q4 q5 q6 q7 q8 q9 q10 q11 p0 p1 p2 p3 p4 p5 p6 p7 p8 p9 p10 p11
  clear hb3
  obtain ⟨⟨b0, b1, b2, b3, b4, b5, b6, b7, b8, b9, b10, b11⟩, p0, p1, p2, p3, p4, p5, p6, p7, p8, p9, p10, p11⟩ := HX3.out.blk.twelve
  obtain ⟨⟨r0, r1, r2, r3, r4, r5, r6, r7, r8, r9, r10, r11⟩, q0, q1, q2, q3, q4, q5, q6, q7, q8, q9, q10, q11⟩ := HX3.out.res.twelve
  cases hfl : st.fails.any (isFl 2 name)
  rotate_left
  · have HE : Hid (o = (st, ⟨#[]⟩, 13)) := by unfold Hid; rw [HO.out]; unfold readD; rw [HF.out]; simp only []; rw [if_neg (by rintro ⟨h1, h2⟩; exact absurd rfl h1), if_neg (by omega), if_pos hfl]
    clear hfl
    go_wp2_with fail
    clear b0 b1 b2 b3 b4 b5 b6 b7 b8 b9 b10 b11 r0 r1 r2 r3 r4 r5 r6 r7 r8 r9 r10 r11 q0 q1 q2 q3 q4 q5 q6 q7 q8 q9 q10 q11 p0 p1 p2 p3 p4 p5 p6 p7 p8 p9 p10 p11
    have HD := Lib.hid (HX3.out.done (wj := w3) (f' := f) (st' := st) (Below.refl _ _) HX3.out.same)
    generalize ((((((((((((w3.setCell ⟨R, 0, none⟩ (.slice f.A0 f.n0 f.c0)).setCell ⟨R, 1, none⟩ (.string st.stdin)).setCell ⟨R, 2, none⟩ (.slice f.A2 st.replies.length f.c2)).setCell ⟨R, 3, none⟩ (.slice f.A3 st.fails.length f.c3)).setCell ⟨R, 4, none⟩ (.int .i64 st.lim)).setCell ⟨R, 5, none⟩ (.int .i64 st.clock)).setCell ⟨R, 6, none⟩ (.int .u64 st.ch)).setCell ⟨R, 7, none⟩ (.slice f.AF st.files.length f.cF)).setCell ⟨R, 8, none⟩ (.int .i64 st.taken)).setCell ⟨R, 9, none⟩ (.slice f.AO st.opn.length f.cO)).setCell ⟨R, 10, none⟩ (.int .u64 st.num)).setCell ⟨R, 11, none⟩ (.slice f.AE st.events.length f.cE)) = w99 at *
    obtain ⟨⟨x0, x1, x2, x3, x4, x5, x6, x7, x8, x9, x10, x11⟩, -⟩ := HD.out.1.twelve
    refine bodyPost_ret (v := .tuple #[.agg #[.slice f.A0 f.n0 f.c0, .string st.stdin, .slice f.A2 st.replies.length f.c2, .slice f.A3 st.fails.length f.c3, .int .i64 st.lim, .int .i64 st.clock, .int .u64 st.ch, .slice f.AF st.files.length f.cF, .int .i64 st.taken, .slice f.AO st.opn.length f.cO, .int .u64 st.num, .slice f.AE st.events.length f.cE], .string ⟨#[]⟩, .int .i64 13]) (by simp [results, Tryd.results19, go_sem, x0, x1, x2, x3, x4, x5, x6, x7, x8, x9, x10, x11]) rfl (by rw [HE.out]; exact ⟨f, rfl, HD.out.2.1, HD.out.2.2⟩)
  · have HFL := Lib.hid hfl
    clear hfl
    have hsl : (xs.extract xt xs.size).size = xs.size - xt := by rw [ByteArray.size_extract]; omega
    obtain ⟨s, hs⟩ : ∃ s, s = xs.extract xt xs.size := ⟨_, rfl⟩
    rw [← hs] at hsl
    have hxti : (xt : Int) ≤ (xs.size : Int) := by omega
    have HE0 : Hid (o = ({ st with opn := st.opn.set ix ⟨xk, xn, xs, xt + (cutR n s).size⟩ }, cutR n s, 0)) := by unfold Hid; rw [HO.out]; unfold readD; rw [HF.out]; simp only []; rw [if_neg (by rintro ⟨h1, h2⟩; exact absurd rfl h1), if_neg (by omega), if_neg (by rw [HFL.out]; decide), if_neg (fun h => HMI.out h.2), ← HXV.out, ← hs]; rfl
    have HS := Lib.hid hs
    have HO4 := Lib.hid HX3.out.rat.oO.1
    obtain ⟨gO, capO, hvO, hcO1, hcO2⟩ := ownBlock_form HO4.out (by omega)
    obtain ⟨hAO, -, hcO⟩ := Value.slice.inj hvO
    have hcells : ∀ j, j < 4 → w3.cell? ⟨gO, ix * 4 + j, none⟩ = ((⟨xk, xn, xs, xt⟩ : RSm).vals)[j]? := by
      intro j hj
      have h1 := HO4.out
      rw [hvO] at h1
      rw [h1.cellAt (ix * 4 + j) (by omega), svals4_get st.opn ix j hxl hj]
      have h2 : st.opn[ix] = ⟨xk, xn, xs, xt⟩ := by rw [HXV.out, List.getD_eq_getElem?_getD, List.getElem?_eq_getElem hxl, Option.getD_some]
      rw [h2]
    have u2 : w3.cell? ⟨gO, ix * 4 + 2, none⟩ = some (.string xs) := hcells 2 (by omega)
    have u3 : w3.cell? ⟨gO, ix * 4 + 3, none⟩ = some (.int .i64 xt) := hcells 3 (by omega)
    have hixl : (ix : Int) < (st.opn.length : Int) := by omega
    rw [hAO] at b9
    have HAO := Lib.hid hAO
    have hco3 : f.cO < 9223372036854775808 := by rw [hcO]; unfold maxLen at hcO2; omega
    clear hcells hvO hAO hcO
    go_wp2_with fail
    go_quiet (fail)
    have HX4 := Lib.hid (HX3.out.pure (below_drew w3 nq))
    clear b0 b1 b2 b3 b4 b5 b6 b7 b8 b9 b10 b11 r0 r1 r2 r3 r4 r5 r6 r7 r8 r9 r10 r11 q0 q1 q2 q3 q4 q5 q6 q7 q8 q9 q10 q11 p0 p1 p2 p3 p4 p5 p6 p7 p8 p9 p10 p11
    clear u2 u3
    generalize w3.drewN nq = w4 at *
    rw [← hs]
    clear hs
    by_cases hns : (n : Int) < (s.size : Int)
    · obtain ⟨s2, hs2⟩ : ∃ s2, s2 = s.extract 0 n := ⟨_, rfl⟩
      have hc : cutR n s = s2 := by unfold cutR; rw [if_pos hns, hs2]; rfl
      have hs2z : s2.size ≤ s.size := by rw [hs2, ByteArray.size_extract]; omega
      have hnz : n ≤ s.size := by omega
      rw [hc] at HE0
      clear hc
      obtain ⟨⟨b0, b1, b2, b3, b4, b5, b6, b7, b8, b9, b10, b11⟩, p0, p1, p2, p3, p4, p5, p6, p7, p8, p9, p10, p11⟩ := HX4.out.blk.twelve
      obtain ⟨⟨r0, r1, r2, r3, r4, r5, r6, r7, r8, r9, r10, r11⟩, q0, q1, q2, q3, q4, q5, q6, q7, q8, q9, q10, q11⟩ := HX4.out.res.twelve
      have HOA := Lib.hid HX4.out.rat.oO.1
      have hz1 : 0 + st.opn.length ≤ maxLen := by unfold maxLen; omega
      have hz2 : (0 + st.opn.length) * 48 ≤ 140737488355328 := by omega
      go_upto_region 19 with (at_builtin; refine wp_appn rfl (.tmp 84) (.tmp 86) _ rfl 114 4 48 _ Tryd.underlying43 info_sm rfl (by decide) w4.heap.size (.slice none 0 0) 0 [] rfl (World.ownsRow_nil _ _ _ _) 0 (.slice f.AO st.opn.length f.cO) st.opn.length (svals4 st.opn) rfl HOA.out (one_sms _) hz1 hz2 (Nat.le_refl _) ?_; intro P2 cap2 w5 hown2 hgrow2 hat2; simp only [Nat.zero_add, List.nil_append] at hown2 hat2; rw [Nat.zero_add])
      rw [← hs2]
      have HB5 := Lib.hid ((Tur.of_grown hgrow2).below w4.heap.size (Nat.le_refl _) (fun q hq h => by cases h))
      obtain ⟨g2, cap3, hv2, hl2, hl3⟩ := ownBlock_form hown2 (by omega)
      obtain ⟨rfl, -, rfl⟩ := Value.slice.inj hv2
      have HG2 := Lib.hid (show w4.heap.size ≤ g2 by rcases hat2 g2 rfl with h | h; cases h; exact h)
      have HO5 := Lib.hid hown2
      have u3 : w5.cell? ⟨g2, ix * 4 + 3, none⟩ = some (.int .i64 xt) := by
        rw [HO5.out.cellAt (ix * 4 + 3) (by omega), svals4_get st.opn ix 3 hxl (by omega)]
        have h2 : st.opn[ix] = ⟨xk, xn, xs, xt⟩ := by rw [HXV.out, List.getD_eq_getElem?_getD, List.getElem?_eq_getElem hxl, Option.getD_some]
        rw [h2]; rfl
      have v3 := own_freeAt HO5.out (ix * 4 + 3)
      have hcap5 : cap2 < 9223372036854775808 := by unfold maxLen at hl3; omega
      obtain ⟨tk, htk2⟩ : ∃ t, t = xt + s2.size := ⟨_, rfl⟩
      have HCAST := Lib.hid (show ((xt : Int) + (s2.size : Int)) = (tk : Int) by rw [htk2]; omega)
      have hsum : xt + s2.size ≤ 4294967296 := by omega
      have HTK2 := Lib.hid htk2
      clear b0 b1 b2 b3 b4 b5 b6 b7 b8 b9 b10 b11 r0 r1 r2 r3 r4 r5 r6 r7 r8 r9 r10 r11 q0 q1 q2 q3 q4 q5 q6 q7 q8 q9 q10 q11 p0 p1 p2 p3 p4 p5 p6 p7 p8 p9 p10 p11
      clear hown2 hgrow2 hat2 hv2 htk2 hz1 hz2 hs2
      go_upto_region 20 with (fail)
      rw [HCAST.out]
      have HO6 := Lib.hid (own_set HO5.out (ix * 4 + 3) (.int .i64 tk))
      have HB6 := Lib.hid (HB5.out.setCell (p := ⟨g2, ix * 4 + 3, none⟩) HG2.out (.int .i64 tk))
      clear u3 v3
      generalize w5.setCell ⟨g2, ix * 4 + 3, none⟩ (.int .i64 tk) = w6 at *
      obtain ⟨ln, hln⟩ : ∃ ln, ln = st.opn.set ix (⟨xk, xn, xs, tk⟩ : RSm) := ⟨_, rfl⟩
      have hlz : st.opn.length = ln.length := by rw [hln]; simp
      have HO7 : Hid (w6.ownsRow w4.heap.size 114 4 (.slice (some ⟨g2, 0, none⟩) ln.length cap2) ln.length (svals4 ln)) := by
        have h2 : st.opn.getD ix smZ = ⟨xk, xn, xs, xt⟩ := HXV.out.symm
        have h := HO6.out
        rw [svals4_set st.opn ix hxl h2 tk, ← hln, hlz] at h
        exact h
      have HX7 := Lib.hid (HX4.out.setO HB6.out HO7.out (by omega))
      rw [hlz]
      obtain ⟨f6, hf6⟩ : ∃ x, x = { f with AO := some ⟨g2, 0, none⟩, cO := cap2 } := ⟨_, rfl⟩
      obtain ⟨st6, hst6⟩ : ∃ x, x = { st with opn := ln } := ⟨_, rfl⟩
      rw [← hf6, ← hst6] at HX7
      have HE : Hid (o = (st6, s2, 0)) := by unfold Hid; rw [HE0.out, hst6, hln, HTK2.out]
      have HX66 := Lib.hid (HX4.out.pure HB6.out)
      have b9 : w6.cell? ⟨B, 9, none⟩ = some (.slice f.AO st.opn.length f.cO) := HX66.out.blk.cell 9
      have p9 := HX66.out.blk.free 9
      clear hf6 hst6 hln hlz
      go_upto_region 21 with (fail)
      clear b9 p9
      generalize w6.setCell ⟨B, 9, none⟩ (.slice (some ⟨g2, 0, none⟩) ln.length cap2) = w7 at *
      obtain ⟨⟨b0, b1, b2, b3, b4, b5, b6, b7, b8, b9, b10, b11⟩, p0, p1, p2, p3, p4, p5, p6, p7, p8, p9, p10, p11⟩ := HX7.out.blk.twelve
      obtain ⟨⟨r0, r1, r2, r3, r4, r5, r6, r7, r8, r9, r10, r11⟩, q0, q1, q2, q3, q4, q5, q6, q7, q8, q9, q10, q11⟩ := HX7.out.res.twelve
      go_wp2_with fail
      clear b0 b1 b2 b3 b4 b5 b6 b7 b8 b9 b10 b11 r0 r1 r2 r3 r4 r5 r6 r7 r8 r9 r10 r11 q0 q1 q2 q3 q4 q5 q6 q7 q8 q9 q10 q11 p0 p1 p2 p3 p4 p5 p6 p7 p8 p9 p10 p11
      have HD := Lib.hid (HX7.out.done (wj := w7) (f' := f6) (st' := st6) (Below.refl _ _) HX7.out.same)
      generalize ((((((((((((w7.setCell ⟨R, 0, none⟩ (.slice f6.A0 f6.n0 f6.c0)).setCell ⟨R, 1, none⟩ (.string st6.stdin)).setCell ⟨R, 2, none⟩ (.slice f6.A2 st6.replies.length f6.c2)).setCell ⟨R, 3, none⟩ (.slice f6.A3 st6.fails.length f6.c3)).setCell ⟨R, 4, none⟩ (.int .i64 st6.lim)).setCell ⟨R, 5, none⟩ (.int .i64 st6.clock)).setCell ⟨R, 6, none⟩ (.int .u64 st6.ch)).setCell ⟨R, 7, none⟩ (.slice f6.AF st6.files.length f6.cF)).setCell ⟨R, 8, none⟩ (.int .i64 st6.taken)).setCell ⟨R, 9, none⟩ (.slice f6.AO st6.opn.length f6.cO)).setCell ⟨R, 10, none⟩ (.int .u64 st6.num)).setCell ⟨R, 11, none⟩ (.slice f6.AE st6.events.length f6.cE)) = w99 at *
      obtain ⟨⟨x0, x1, x2, x3, x4, x5, x6, x7, x8, x9, x10, x11⟩, -⟩ := HD.out.1.twelve
      refine bodyPost_ret (v := .tuple #[.agg #[.slice f6.A0 f6.n0 f6.c0, .string st6.stdin, .slice f6.A2 st6.replies.length f6.c2, .slice f6.A3 st6.fails.length f6.c3, .int .i64 st6.lim, .int .i64 st6.clock, .int .u64 st6.ch, .slice f6.AF st6.files.length f6.cF, .int .i64 st6.taken, .slice f6.AO st6.opn.length f6.cO, .int .u64 st6.num, .slice f6.AE st6.events.length f6.cE], .string s2, .int .i64 0]) (by simp [results, Tryd.results19, go_sem, x0, x1, x2, x3, x4, x5, x6, x7, x8, x9, x10, x11]) rfl (by rw [HE.out]; exact ⟨f6, rfl, HD.out.2.1, HD.out.2.2⟩)
    · obtain ⟨s2, hs2⟩ : ∃ s2, s2 = s := ⟨_, rfl⟩
      have hc : cutR n s = s2 := by unfold cutR; rw [if_neg hns, hs2]
      have hs2z : s2.size ≤ s.size := by rw [hs2]; exact Nat.le_refl _
      rw [hc] at HE0
      clear hc
      obtain ⟨⟨b0, b1, b2, b3, b4, b5, b6, b7, b8, b9, b10, b11⟩, p0, p1, p2, p3, p4, p5, p6, p7, p8, p9, p10, p11⟩ := HX4.out.blk.twelve
      obtain ⟨⟨r0, r1, r2, r3, r4, r5, r6, r7, r8, r9, r10, r11⟩, q0, q1, q2, q3, q4, q5, q6, q7, q8, q9, q10, q11⟩ := HX4.out.res.twelve
      have HOA := Lib.hid HX4.out.rat.oO.1
      have hz1 : 0 + st.opn.length ≤ maxLen := by unfold maxLen; omega
      have hz2 : (0 + st.opn.length) * 48 ≤ 140737488355328 := by omega
      go_upto_region 19 with (at_builtin; refine wp_appn rfl (.tmp 84) (.tmp 86) _ rfl 114 4 48 _ Tryd.underlying43 info_sm rfl (by decide) w4.heap.size (.slice none 0 0) 0 [] rfl (World.ownsRow_nil _ _ _ _) 0 (.slice f.AO st.opn.length f.cO) st.opn.length (svals4 st.opn) rfl HOA.out (one_sms _) hz1 hz2 (Nat.le_refl _) ?_; intro P2 cap2 w5 hown2 hgrow2 hat2; simp only [Nat.zero_add, List.nil_append] at hown2 hat2; rw [Nat.zero_add])
      rw [← hs2]
      have HB5 := Lib.hid ((Tur.of_grown hgrow2).below w4.heap.size (Nat.le_refl _) (fun q hq h => by cases h))
      obtain ⟨g2, cap3, hv2, hl2, hl3⟩ := ownBlock_form hown2 (by omega)
      obtain ⟨rfl, -, rfl⟩ := Value.slice.inj hv2
      have HG2 := Lib.hid (show w4.heap.size ≤ g2 by rcases hat2 g2 rfl with h | h; cases h; exact h)
      have HO5 := Lib.hid hown2
      have u3 : w5.cell? ⟨g2, ix * 4 + 3, none⟩ = some (.int .i64 xt) := by
        rw [HO5.out.cellAt (ix * 4 + 3) (by omega), svals4_get st.opn ix 3 hxl (by omega)]
        have h2 : st.opn[ix] = ⟨xk, xn, xs, xt⟩ := by rw [HXV.out, List.getD_eq_getElem?_getD, List.getElem?_eq_getElem hxl, Option.getD_some]
        rw [h2]; rfl
      have v3 := own_freeAt HO5.out (ix * 4 + 3)
      have hcap5 : cap2 < 9223372036854775808 := by unfold maxLen at hl3; omega
      obtain ⟨tk, htk2⟩ : ∃ t, t = xt + s2.size := ⟨_, rfl⟩
      have HCAST := Lib.hid (show ((xt : Int) + (s2.size : Int)) = (tk : Int) by rw [htk2]; omega)
      have hsum : xt + s2.size ≤ 4294967296 := by omega
      have HTK2 := Lib.hid htk2
      clear b0 b1 b2 b3 b4 b5 b6 b7 b8 b9 b10 b11 r0 r1 r2 r3 r4 r5 r6 r7 r8 r9 r10 r11 q0 q1 q2 q3 q4 q5 q6 q7 q8 q9 q10 q11 p0 p1 p2 p3 p4 p5 p6 p7 p8 p9 p10 p11
      clear hown2 hgrow2 hat2 hv2 htk2 hz1 hz2 hs2
      go_upto_region 20 with (fail)
      rw [HCAST.out]
      have HO6 := Lib.hid (own_set HO5.out (ix * 4 + 3) (.int .i64 tk))
      have HB6 := Lib.hid (HB5.out.setCell (p := ⟨g2, ix * 4 + 3, none⟩) HG2.out (.int .i64 tk))
      clear u3 v3
      generalize w5.setCell ⟨g2, ix * 4 + 3, none⟩ (.int .i64 tk) = w6 at *
      obtain ⟨ln, hln⟩ : ∃ ln, ln = st.opn.set ix (⟨xk, xn, xs, tk⟩ : RSm) := ⟨_, rfl⟩
      have hlz : st.opn.length = ln.length := by rw [hln]; simp
      have HO7 : Hid (w6.ownsRow w4.heap.size 114 4 (.slice (some ⟨g2, 0, none⟩) ln.length cap2) ln.length (svals4 ln)) := by
        have h2 : st.opn.getD ix smZ = ⟨xk, xn, xs, xt⟩ := HXV.out.symm
        have h := HO6.out
        rw [svals4_set st.opn ix hxl h2 tk, ← hln, hlz] at h
        exact h
      have HX7 := Lib.hid (HX4.out.setO HB6.out HO7.out (by omega))
      rw [hlz]
      obtain ⟨f6, hf6⟩ : ∃ x, x = { f with AO := some ⟨g2, 0, none⟩, cO := cap2 } := ⟨_, rfl⟩
      obtain ⟨st6, hst6⟩ : ∃ x, x = { st with opn := ln } := ⟨_, rfl⟩
      rw [← hf6, ← hst6] at HX7
      have HE : Hid (o = (st6, s2, 0)) := by unfold Hid; rw [HE0.out, hst6, hln, HTK2.out]
      have HX66 := Lib.hid (HX4.out.pure HB6.out)
      have b9 : w6.cell? ⟨B, 9, none⟩ = some (.slice f.AO st.opn.length f.cO) := HX66.out.blk.cell 9
      have p9 := HX66.out.blk.free 9
      clear hf6 hst6 hln hlz
      go_upto_region 21 with (fail)
      clear b9 p9
      generalize w6.setCell ⟨B, 9, none⟩ (.slice (some ⟨g2, 0, none⟩) ln.length cap2) = w7 at *
      obtain ⟨⟨b0, b1, b2, b3, b4, b5, b6, b7, b8, b9, b10, b11⟩, p0, p1, p2, p3, p4, p5, p6, p7, p8, p9, p10, p11⟩ := HX7.out.blk.twelve
      obtain ⟨⟨r0, r1, r2, r3, r4, r5, r6, r7, r8, r9, r10, r11⟩, q0, q1, q2, q3, q4, q5, q6, q7, q8, q9, q10, q11⟩ := HX7.out.res.twelve
      go_wp2_with fail
      clear b0 b1 b2 b3 b4 b5 b6 b7 b8 b9 b10 b11 r0 r1 r2 r3 r4 r5 r6 r7 r8 r9 r10 r11 q0 q1 q2 q3 q4 q5 q6 q7 q8 q9 q10 q11 p0 p1 p2 p3 p4 p5 p6 p7 p8 p9 p10 p11
      have HD := Lib.hid (HX7.out.done (wj := w7) (f' := f6) (st' := st6) (Below.refl _ _) HX7.out.same)
      generalize ((((((((((((w7.setCell ⟨R, 0, none⟩ (.slice f6.A0 f6.n0 f6.c0)).setCell ⟨R, 1, none⟩ (.string st6.stdin)).setCell ⟨R, 2, none⟩ (.slice f6.A2 st6.replies.length f6.c2)).setCell ⟨R, 3, none⟩ (.slice f6.A3 st6.fails.length f6.c3)).setCell ⟨R, 4, none⟩ (.int .i64 st6.lim)).setCell ⟨R, 5, none⟩ (.int .i64 st6.clock)).setCell ⟨R, 6, none⟩ (.int .u64 st6.ch)).setCell ⟨R, 7, none⟩ (.slice f6.AF st6.files.length f6.cF)).setCell ⟨R, 8, none⟩ (.int .i64 st6.taken)).setCell ⟨R, 9, none⟩ (.slice f6.AO st6.opn.length f6.cO)).setCell ⟨R, 10, none⟩ (.int .u64 st6.num)).setCell ⟨R, 11, none⟩ (.slice f6.AE st6.events.length f6.cE)) = w99 at *
      obtain ⟨⟨x0, x1, x2, x3, x4, x5, x6, x7, x8, x9, x10, x11⟩, -⟩ := HD.out.1.twelve
      refine bodyPost_ret (v := .tuple #[.agg #[.slice f6.A0 f6.n0 f6.c0, .string st6.stdin, .slice f6.A2 st6.replies.length f6.c2, .slice f6.A3 st6.fails.length f6.c3, .int .i64 st6.lim, .int .i64 st6.clock, .int .u64 st6.ch, .slice f6.AF st6.files.length f6.cF, .int .i64 st6.taken, .slice f6.AO st6.opn.length f6.cO, .int .u64 st6.num, .slice f6.AE st6.events.length f6.cE], .string s2, .int .i64 0]) (by simp [results, Tryd.results19, go_sem, x0, x1, x2, x3, x4, x5, x6, x7, x8, x9, x10, x11]) rfl (by rw [HE.out]; exact ⟨f6, rfl, HD.out.2.1, HD.out.2.2⟩)
set_option maxRecDepth 100000 in
set_option maxHeartbeats 4000000 in
theorem fw_read_arg2 (h : RF K w f st) (name : ByteArray) (n : Int) (ix : Nat) (hf : findF st 2 name = some ix) (hn : n < 1) :
    Calls Tryd.prog 19 #[.agg (fcells f st), .int .u8 2, .string name, .int .i64 n] w (RdPost K w (readD st 2 name n).1 (readD st 2 name n).2.1 (readD st 2 name n).2.2) := by
  have HF := Lib.hid hf
  clear hf
  obtain ⟨o, ho⟩ : ∃ o, o = readD st 2 name n := ⟨_, rfl⟩
  rw [← ho]
  have HO := Lib.hid ho
  clear ho
  have HX0 := Lib.hid (RW.start h)
  have HRF := Lib.hid h
  clear h
  go_enter Tryd.func19, Tryd.ntmps19
  go_upto_region 1 with (fail)
  obtain ⟨B, hB⟩ : ∃ B, B = w.heap.size := ⟨_, rfl⟩
  rw [← hB] at HX0 ⊢
  obtain ⟨R, hR⟩ : ∃ R, R = B + 1 := ⟨_, rfl⟩
  rw [← hR] at HX0 ⊢
  clear hB hR
  generalize (w.alloc (.cells (fcells f st) 46)).alloc (.cells #[.slice none 0 0, .string ⟨#[]⟩, .slice none 0 0, .slice none 0 0, .int .i64 0, .int .i64 0, .int .u64 0, .slice none 0 0, .int .i64 0, .slice none 0 0, .int .u64 0, .slice none 0 0] 46) = w1 at *
  obtain ⟨⟨b0, b1, b2, b3, b4, b5, b6, b7, b8, b9, b10, b11⟩, p0, p1, p2, p3, p4, p5, p6, p7, p8, p9, p10, p11⟩ := HX0.out.blk.twelve
  obtain ⟨⟨r0, r1, r2, r3, r4, r5, r6, r7, r8, r9, r10, r11⟩, q0, q1, q2, q3, q4, q5, q6, q7, q8, q9, q10, q11⟩ := HX0.out.res.twelve
  go_wp2_with fail
  refine (fw_find HX0.out.rat 2 name).mono ?_
  rintro e w2 ⟨rfl, hb2⟩
  have HX2 := Lib.hid (HX0.out.pure hb2)
  clear b0 b1 b2 b3 b4 b5 b6 b7 b8 b9 b10 b11 r0 r1 r2 r3 r4 r5 r6 r7 r8 r9 r10 r11 q0 q1 q2 q3 q4 q5 q6 q7 q8 q9 q10 q11 p0 p1 p2 p3 p4 p5 p6 p7 p8 p9 p10 p11
  clear hb2
  obtain ⟨⟨b0, b1, b2, b3, b4, b5, b6, b7, b8, b9, b10, b11⟩, p0, p1, p2, p3, p4, p5, p6, p7, p8, p9, p10, p11⟩ := HX2.out.blk.twelve
  obtain ⟨⟨r0, r1, r2, r3, r4, r5, r6, r7, r8, r9, r10, r11⟩, q0, q1, q2, q3, q4, q5, q6, q7, q8, q9, q10, q11⟩ := HX2.out.res.twelve
  rw [HF.out, show ixV (some ix) = (ix : Int) from rfl]
  have hix : ¬ (ix : Int) < 0 := by omega
  have HE : Hid (o = (st, ⟨#[]⟩, 2)) := by unfold Hid; rw [HO.out]; unfold readD; rw [HF.out]; simp only []; rw [if_neg (by rintro ⟨h1, h2⟩; exact absurd rfl h2), if_pos hn]
  go_wp2_with fail
  clear b0 b1 b2 b3 b4 b5 b6 b7 b8 b9 b10 b11 r0 r1 r2 r3 r4 r5 r6 r7 r8 r9 r10 r11 q0 q1 q2 q3 q4 q5 q6 q7 q8 q9 q10 q11 p0 p1 p2 p3 p4 p5 p6 p7 p8 p9 p10 p11
  have HD := Lib.hid (HX2.out.done (wj := w2) (f' := f) (st' := st) (Below.refl _ _) HX2.out.same)
  generalize ((((((((((((w2.setCell ⟨R, 0, none⟩ (.slice f.A0 f.n0 f.c0)).setCell ⟨R, 1, none⟩ (.string st.stdin)).setCell ⟨R, 2, none⟩ (.slice f.A2 st.replies.length f.c2)).setCell ⟨R, 3, none⟩ (.slice f.A3 st.fails.length f.c3)).setCell ⟨R, 4, none⟩ (.int .i64 st.lim)).setCell ⟨R, 5, none⟩ (.int .i64 st.clock)).setCell ⟨R, 6, none⟩ (.int .u64 st.ch)).setCell ⟨R, 7, none⟩ (.slice f.AF st.files.length f.cF)).setCell ⟨R, 8, none⟩ (.int .i64 st.taken)).setCell ⟨R, 9, none⟩ (.slice f.AO st.opn.length f.cO)).setCell ⟨R, 10, none⟩ (.int .u64 st.num)).setCell ⟨R, 11, none⟩ (.slice f.AE st.events.length f.cE)) = w99 at *
  obtain ⟨⟨x0, x1, x2, x3, x4, x5, x6, x7, x8, x9, x10, x11⟩, -⟩ := HD.out.1.twelve
  refine bodyPost_ret (v := .tuple #[.agg #[.slice f.A0 f.n0 f.c0, .string st.stdin, .slice f.A2 st.replies.length f.c2, .slice f.A3 st.fails.length f.c3, .int .i64 st.lim, .int .i64 st.clock, .int .u64 st.ch, .slice f.AF st.files.length f.cF, .int .i64 st.taken, .slice f.AO st.opn.length f.cO, .int .u64 st.num, .slice f.AE st.events.length f.cE], .string ⟨#[]⟩, .int .i64 2]) (by simp [results, Tryd.results19, go_sem, x0, x1, x2, x3, x4, x5, x6, x7, x8, x9, x10, x11]) rfl (by rw [HE.out]; exact ⟨f, rfl, HD.out.2.1, HD.out.2.2⟩)
set_option maxRecDepth 100000 in
set_option maxHeartbeats 4000000 in
theorem fw_read_st2 (h : RF K w f st) (name : ByteArray) (n : Nat) (ix : Nat) (hf : findF st 2 name = some ix) (hn : 1 ≤ n) (hnl : n ≤ 9223372036854775807) (hop : st.opn.length ≤ 100000) (hxl : ix < st.opn.length) (htk : (st.opn.getD ix smZ).tk ≤ (st.opn.getD ix smZ).src.size) (hsz : (st.opn.getD ix smZ).src.size ≤ 4294967296) :
    Calls Tryd.prog 19 #[.agg (fcells f st), .int .u8 2, .string name, .int .i64 (n : Nat)] w (RdPost K w (readD st 2 name (n : Nat)).1 (readD st 2 name (n : Nat)).2.1 (readD st 2 name (n : Nat)).2.2) := by
  have HF := Lib.hid hf
  have hn1 : ¬ (n : Int) < 1 := by omega
  clear hf
  obtain ⟨⟨xk, xn, xs, xt⟩, hx⟩ : ∃ x, x = st.opn.getD ix smZ := ⟨_, rfl⟩
  rw [← hx] at htk hsz
  have HXV := Lib.hid hx
  have hxt : xt ≤ xs.size := htk
  have hxz : xs.size ≤ 4294967296 := hsz
  clear hx htk hsz
  obtain ⟨o, ho⟩ : ∃ o, o = readD st 2 name (n : Nat) := ⟨_, rfl⟩
  rw [← ho]
  have HO := Lib.hid ho
  clear ho
  have HX0 := Lib.hid (RW.start h)
  have HRF := Lib.hid h
  clear h
  go_enter Tryd.func19, Tryd.ntmps19
  go_upto_region 1 with (fail)
  obtain ⟨B, hB⟩ : ∃ B, B = w.heap.size := ⟨_, rfl⟩
  rw [← hB] at HX0 ⊢
  obtain ⟨R, hR⟩ : ∃ R, R = B + 1 := ⟨_, rfl⟩
  rw [← hR] at HX0 ⊢
  clear hB hR
  generalize (w.alloc (.cells (fcells f st) 46)).alloc (.cells #[.slice none 0 0, .string ⟨#[]⟩, .slice none 0 0, .slice none 0 0, .int .i64 0, .int .i64 0, .int .u64 0, .slice none 0 0, .int .i64 0, .slice none 0 0, .int .u64 0, .slice none 0 0] 46) = w1 at *
  obtain ⟨⟨b0, b1, b2, b3, b4, b5, b6, b7, b8, b9, b10, b11⟩, p0, p1, p2, p3, p4, p5, p6, p7, p8, p9, p10, p11⟩ := HX0.out.blk.twelve
  obtain ⟨⟨r0, r1, r2, r3, r4, r5, r6, r7, r8, r9, r10, r11⟩, q0, q1, q2, q3, q4, q5, q6, q7, q8, q9, q10, q11⟩ := HX0.out.res.twelve
  go_wp2_with fail
  refine (fw_find HX0.out.rat 2 name).mono ?_
  rintro e w2 ⟨rfl, hb2⟩
  have HX2 := Lib.hid (HX0.out.pure hb2)
  clear b0 b1 b2 b3 b4 b5 b6 b7 b8 b9 b10 b11 r0 r1 r2 r3 r4 r5 r6 r7 r8 r9 r10 r11 q0 q1 q2 q3 q4 q5 q6 q7 q8 q9 q10 q11 p0 p1 p2 p3 p4 p5 p6 p7 p8 p9 p10 p11
  clear hb2
  obtain ⟨⟨b0, b1, b2, b3, b4, b5, b6, b7, b8, b9, b10, b11⟩, p0, p1, p2, p3, p4, p5, p6, p7, p8, p9, p10, p11⟩ := HX2.out.blk.twelve
  obtain ⟨⟨r0, r1, r2, r3, r4, r5, r6, r7, r8, r9, r10, r11⟩, q0, q1, q2, q3, q4, q5, q6, q7, q8, q9, q10, q11⟩ := HX2.out.res.twelve
  rw [HF.out, show ixV (some ix) = (ix : Int) from rfl]
  have hix : ¬ (ix : Int) < 0 := by omega
  go_wp2_with fail
  refine (fw_fails HX2.out.rat 2 name).mono ?_
  rintro e w3 ⟨rfl, hb3⟩
  have HX3 := Lib.hid (HX2.out.pure hb3)
  clear b0 b1 b2 b3 b4 b5 b6 b7 b8 b9 b10 b11 r0 r1 r2 r3 r4 r5 r6 r7 r8 r9 r10 r11 q0 q1 q2 q3 q4 q5 q6 q7 q8 q9 q10 q11 p0 p1 p2 p3 p4 p5 p6 p7 p8 p9 p10 p11
  clear hb3
  obtain ⟨⟨b0, b1, b2, b3, b4, b5, b6, b7, b8, b9, b10, b11⟩, p0, p1, p2, p3, p4, p5, p6, p7, p8, p9, p10, p11⟩ := HX3.out.blk.twelve
  obtain ⟨⟨r0, r1, r2, r3, r4, r5, r6, r7, r8, r9, r10, r11⟩, q0, q1, q2, q3, q4, q5, q6, q7, q8, q9, q10, q11⟩ := HX3.out.res.twelve
  cases hfl : st.fails.any (isFl 2 name)
  rotate_left
  · have HE : Hid (o = (st, ⟨#[]⟩, 13)) := by unfold Hid; rw [HO.out]; unfold readD; rw [HF.out]; simp only []; rw [if_neg (by rintro ⟨h1, h2⟩; exact absurd rfl h2), if_neg (by omega), if_pos hfl]
    clear hfl
    go_wp2_with fail
    clear b0 b1 b2 b3 b4 b5 b6 b7 b8 b9 b10 b11 r0 r1 r2 r3 r4 r5 r6 r7 r8 r9 r10 r11 q0 q1 q2 q3 q4 q5 q6 q7 q8 q9 q10 q11 p0 p1 p2 p3 p4 p5 p6 p7 p8 p9 p10 p11
    have HD := Lib.hid (HX3.out.done (wj := w3) (f' := f) (st' := st) (Below.refl _ _) HX3.out.same)
    generalize ((((((((((((w3.setCell ⟨R, 0, none⟩ (.slice f.A0 f.n0 f.c0)).setCell ⟨R, 1, none⟩ (.string st.stdin)).setCell ⟨R, 2, none⟩ (.slice f.A2 st.replies.length f.c2)).setCell ⟨R, 3, none⟩ (.slice f.A3 st.fails.length f.c3)).setCell ⟨R, 4, none⟩ (.int .i64 st.lim)).setCell ⟨R, 5, none⟩ (.int .i64 st.clock)).setCell ⟨R, 6, none⟩ (.int .u64 st.ch)).setCell ⟨R, 7, none⟩ (.slice f.AF st.files.length f.cF)).setCell ⟨R, 8, none⟩ (.int .i64 st.taken)).setCell ⟨R, 9, none⟩ (.slice f.AO st.opn.length f.cO)).setCell ⟨R, 10, none⟩ (.int .u64 st.num)).setCell ⟨R, 11, none⟩ (.slice f.AE st.events.length f.cE)) = w99 at *
    obtain ⟨⟨x0, x1, x2, x3, x4, x5, x6, x7, x8, x9, x10, x11⟩, -⟩ := HD.out.1.twelve
    refine bodyPost_ret (v := .tuple #[.agg #[.slice f.A0 f.n0 f.c0, .string st.stdin, .slice f.A2 st.replies.length f.c2, .slice f.A3 st.fails.length f.c3, .int .i64 st.lim, .int .i64 st.clock, .int .u64 st.ch, .slice f.AF st.files.length f.cF, .int .i64 st.taken, .slice f.AO st.opn.length f.cO, .int .u64 st.num, .slice f.AE st.events.length f.cE], .string ⟨#[]⟩, .int .i64 13]) (by simp [results, Tryd.results19, go_sem, x0, x1, x2, x3, x4, x5, x6, x7, x8, x9, x10, x11]) rfl (by rw [HE.out]; exact ⟨f, rfl, HD.out.2.1, HD.out.2.2⟩)
  · have HFL := Lib.hid hfl
    clear hfl
    have hsl : (xs.extract xt xs.size).size = xs.size - xt := by rw [ByteArray.size_extract]; omega
    obtain ⟨s, hs⟩ : ∃ s, s = xs.extract xt xs.size := ⟨_, rfl⟩
    rw [← hs] at hsl
    have hxti : (xt : Int) ≤ (xs.size : Int) := by omega
    have HE0 : Hid (o = ({ st with opn := st.opn.set ix ⟨xk, xn, xs, xt + (cutR n s).size⟩ }, cutR n s, 0)) := by unfold Hid; rw [HO.out]; unfold readD; rw [HF.out]; simp only []; rw [if_neg (by rintro ⟨h1, h2⟩; exact absurd rfl h2), if_neg (by omega), if_neg (by rw [HFL.out]; decide), if_neg (fun h => absurd h.1 (by decide)), ← HXV.out, ← hs]; rfl
    have HS := Lib.hid hs
    have HO4 := Lib.hid HX3.out.rat.oO.1
    obtain ⟨gO, capO, hvO, hcO1, hcO2⟩ := ownBlock_form HO4.out (by omega)
    obtain ⟨hAO, -, hcO⟩ := Value.slice.inj hvO
    have hcells : ∀ j, j < 4 → w3.cell? ⟨gO, ix * 4 + j, none⟩ = ((⟨xk, xn, xs, xt⟩ : RSm).vals)[j]? := by
      intro j hj
      have h1 := HO4.out
      rw [hvO] at h1
      rw [h1.cellAt (ix * 4 + j) (by omega), svals4_get st.opn ix j hxl hj]
      have h2 : st.opn[ix] = ⟨xk, xn, xs, xt⟩ := by rw [HXV.out, List.getD_eq_getElem?_getD, List.getElem?_eq_getElem hxl, Option.getD_some]
      rw [h2]
    have u2 : w3.cell? ⟨gO, ix * 4 + 2, none⟩ = some (.string xs) := hcells 2 (by omega)
    have u3 : w3.cell? ⟨gO, ix * 4 + 3, none⟩ = some (.int .i64 xt) := hcells 3 (by omega)
    have hixl : (ix : Int) < (st.opn.length : Int) := by omega
    rw [hAO] at b9
    have HAO := Lib.hid hAO
    have hco3 : f.cO < 9223372036854775808 := by rw [hcO]; unfold maxLen at hcO2; omega
    clear hcells hvO hAO hcO
    go_wp2_with fail
    go_quiet (fail)
    have HX4 := Lib.hid (HX3.out.pure (below_drew w3 nq))
    clear b0 b1 b2 b3 b4 b5 b6 b7 b8 b9 b10 b11 r0 r1 r2 r3 r4 r5 r6 r7 r8 r9 r10 r11 q0 q1 q2 q3 q4 q5 q6 q7 q8 q9 q10 q11 p0 p1 p2 p3 p4 p5 p6 p7 p8 p9 p10 p11
    clear u2 u3
    generalize w3.drewN nq = w4 at *
    rw [← hs]
    clear hs
    by_cases hns : (n : Int) < (s.size : Int)
    · obtain ⟨s2, hs2⟩ : ∃ s2, s2 = s.extract 0 n := ⟨_, rfl⟩
      have hc : cutR n s = s2 := by unfold cutR; rw [if_pos hns, hs2]; rfl
      have hs2z : s2.size ≤ s.size := by rw [hs2, ByteArray.size_extract]; omega
      have hnz : n ≤ s.size := by omega
      rw [hc] at HE0
      clear hc
      obtain ⟨⟨b0, b1, b2, b3, b4, b5, b6, b7, b8, b9, b10, b11⟩, p0, p1, p2, p3, p4, p5, p6, p7, p8, p9, p10, p11⟩ := HX4.out.blk.twelve
      obtain ⟨⟨r0, r1, r2, r3, r4, r5, r6, r7, r8, r9, r10, r11⟩, q0, q1, q2, q3, q4, q5, q6, q7, q8, q9, q10, q11⟩ := HX4.out.res.twelve
      have HOA := Lib.hid HX4.out.rat.oO.1
      have hz1 : 0 + st.opn.length ≤ maxLen := by unfold maxLen; omega
      have hz2 : (0 + st.opn.length) * 48 ≤ 140737488355328 := by omega
      go_upto_region 19 with (at_builtin; refine wp_appn rfl (.tmp 84) (.tmp 86) _ rfl 114 4 48 _ Tryd.underlying43 info_sm rfl (by decide) w4.heap.size (.slice none 0 0) 0 [] rfl (World.ownsRow_nil _ _ _ _) 0 (.slice f.AO st.opn.length f.cO) st.opn.length (svals4 st.opn) rfl HOA.out (one_sms _) hz1 hz2 (Nat.le_refl _) ?_; intro P2 cap2 w5 hown2 hgrow2 hat2; simp only [Nat.zero_add, List.nil_append] at hown2 hat2; rw [Nat.zero_add])
      rw [← hs2]
      have HB5 := Lib.hid ((Tur.of_grown hgrow2).below w4.heap.size (Nat.le_refl _) (fun q hq h => by cases h))
      obtain ⟨g2, cap3, hv2, hl2, hl3⟩ := ownBlock_form hown2 (by omega)
      obtain ⟨rfl, -, rfl⟩ := Value.slice.inj hv2
      have HG2 := Lib.hid (show w4.heap.size ≤ g2 by rcases hat2 g2 rfl with h | h; cases h; exact h)
      have HO5 := Lib.hid hown2
      have u3 : w5.cell? ⟨g2, ix * 4 + 3, none⟩ = some (.int .i64 xt) := by
        rw [HO5.out.cellAt (ix * 4 + 3) (by omega), svals4_get st.opn ix 3 hxl (by omega)]
        have h2 : st.opn[ix] = ⟨xk, xn, xs, xt⟩ := by rw [HXV.out, List.getD_eq_getElem?_getD, List.getElem?_eq_getElem hxl, Option.getD_some]
        rw [h2]; rfl
      have v3 := own_freeAt HO5.out (ix * 4 + 3)
      have hcap5 : cap2 < 9223372036854775808 := by unfold maxLen at hl3; omega
      obtain ⟨tk, htk2⟩ : ∃ t, t = xt + s2.size := ⟨_, rfl⟩
      have HCAST := Lib.hid (show ((xt : Int) + (s2.size : Int)) = (tk : Int) by rw [htk2]; omega)
      have hsum : xt + s2.size ≤ 4294967296 := by omega
      have HTK2 := Lib.hid htk2
      clear b0 b1 b2 b3 b4 b5 b6 b7 b8 b9 b10 b11 r0 r1 r2 r3 r4 r5 r6 r7 r8 r9 r10 r11 q0 q1 q2 q3 q4 q5 q6 q7 q8 q9 q10 q11 p0 p1 p2 p3 p4 p5 p6 p7 p8 p9 p10 p11
      clear hown2 hgrow2 hat2 hv2 htk2 hz1 hz2 hs2
      go_upto_region 20 with (fail)
      rw [HCAST.out]
      have HO6 := Lib.hid (own_set HO5.out (ix * 4 + 3) (.int .i64 tk))
      have HB6 := Lib.hid (HB5.out.setCell (p := ⟨g2, ix * 4 + 3, none⟩) HG2.out (.int .i64 tk))
      clear u3 v3
      generalize w5.setCell ⟨g2, ix * 4 + 3, none⟩ (.int .i64 tk) = w6 at *
      obtain ⟨ln, hln⟩ : ∃ ln, ln = st.opn.set ix (⟨xk, xn, xs, tk⟩ : RSm) := ⟨_, rfl⟩
      have hlz : st.opn.length = ln.length := by rw [hln]; simp
      have HO7 : Hid (w6.ownsRow w4.heap.size 114 4 (.slice (some ⟨g2, 0, none⟩) ln.length cap2) ln.length (svals4 ln)) := by
        have h2 : st.opn.getD ix smZ = ⟨xk, xn, xs, xt⟩ := HXV.out.symm
        have h := HO6.out
        rw [svals4_set st.opn ix hxl h2 tk, ← hln, hlz] at h
        exact h
      have HX7 := Lib.hid (HX4.out.setO HB6.out HO7.out (by omega))
      rw [hlz]
      obtain ⟨f6, hf6⟩ : ∃ x, x = { f with AO := some ⟨g2, 0, none⟩, cO := cap2 } := ⟨_, rfl⟩
      obtain ⟨st6, hst6⟩ : ∃ x, x = { st with opn := ln } := ⟨_, rfl⟩
      rw [← hf6, ← hst6] at HX7
      have HE : Hid (o = (st6, s2, 0)) := by unfold Hid; rw [HE0.out, hst6, hln, HTK2.out]
      have HX66 := Lib.hid (HX4.out.pure HB6.out)
      have b9 : w6.cell? ⟨B, 9, none⟩ = some (.slice f.AO st.opn.length f.cO) := HX66.out.blk.cell 9
      have p9 := HX66.out.blk.free 9
      clear hf6 hst6 hln hlz
      go_upto_region 21 with (fail)
      clear b9 p9
      generalize w6.setCell ⟨B, 9, none⟩ (.slice (some ⟨g2, 0, none⟩) ln.length cap2) = w7 at *
      obtain ⟨⟨b0, b1, b2, b3, b4, b5, b6, b7, b8, b9, b10, b11⟩, p0, p1, p2, p3, p4, p5, p6, p7, p8, p9, p10, p11⟩ := HX7.out.blk.twelve
      obtain ⟨⟨r0, r1, r2, r3, r4, r5, r6, r7, r8, r9, r10, r11⟩, q0, q1, q2, q3, q4, q5, q6, q7, q8, q9, q10, q11⟩ := HX7.out.res.twelve
      go_wp2_with fail
      clear b0 b1 b2 b3 b4 b5 b6 b7 b8 b9 b10 b11 r0 r1 r2 r3 r4 r5 r6 r7 r8 r9 r10 r11 q0 q1 q2 q3 q4 q5 q6 q7 q8 q9 q10 q11 p0 p1 p2 p3 p4 p5 p6 p7 p8 p9 p10 p11
      have HD := Lib.hid (HX7.out.done (wj := w7) (f' := f6) (st' := st6) (Below.refl _ _) HX7.out.same)
      generalize ((((((((((((w7.setCell ⟨R, 0, none⟩ (.slice f6.A0 f6.n0 f6.c0)).setCell ⟨R, 1, none⟩ (.string st6.stdin)).setCell ⟨R, 2, none⟩ (.slice f6.A2 st6.replies.length f6.c2)).setCell ⟨R, 3, none⟩ (.slice f6.A3 st6.fails.length f6.c3)).setCell ⟨R, 4, none⟩ (.int .i64 st6.lim)).setCell ⟨R, 5, none⟩ (.int .i64 st6.clock)).setCell ⟨R, 6, none⟩ (.int .u64 st6.ch)).setCell ⟨R, 7, none⟩ (.slice f6.AF st6.files.length f6.cF)).setCell ⟨R, 8, none⟩ (.int .i64 st6.taken)).setCell ⟨R, 9, none⟩ (.slice f6.AO st6.opn.length f6.cO)).setCell ⟨R, 10, none⟩ (.int .u64 st6.num)).setCell ⟨R, 11, none⟩ (.slice f6.AE st6.events.length f6.cE)) = w99 at *
      obtain ⟨⟨x0, x1, x2, x3, x4, x5, x6, x7, x8, x9, x10, x11⟩, -⟩ := HD.out.1.twelve
      refine bodyPost_ret (v := .tuple #[.agg #[.slice f6.A0 f6.n0 f6.c0, .string st6.stdin, .slice f6.A2 st6.replies.length f6.c2, .slice f6.A3 st6.fails.length f6.c3, .int .i64 st6.lim, .int .i64 st6.clock, .int .u64 st6.ch, .slice f6.AF st6.files.length f6.cF, .int .i64 st6.taken, .slice f6.AO st6.opn.length f6.cO, .int .u64 st6.num, .slice f6.AE st6.events.length f6.cE], .string s2, .int .i64 0]) (by simp [results, Tryd.results19, go_sem, x0, x1, x2, x3, x4, x5, x6, x7, x8, x9, x10, x11]) rfl (by rw [HE.out]; exact ⟨f6, rfl, HD.out.2.1, HD.out.2.2⟩)
    · obtain ⟨s2, hs2⟩ : ∃ s2, s2 = s := ⟨_, rfl⟩
      have hc : cutR n s = s2 := by unfold cutR; rw [if_neg hns, hs2]
      have hs2z : s2.size ≤ s.size := by rw [hs2]; exact Nat.le_refl _
      rw [hc] at HE0
      clear hc
      obtain ⟨⟨b0, b1, b2, b3, b4, b5, b6, b7, b8, b9, b10, b11⟩, p0, p1, p2, p3, p4, p5, p6, p7, p8, p9, p10, p11⟩ := HX4.out.blk.twelve
      obtain ⟨⟨r0, r1, r2, r3, r4, r5, r6, r7, r8, r9, r10, r11⟩, q0, q1, q2, q3, q4, q5, q6, q7, q8, q9, q10, q11⟩ := HX4.out.res.twelve
      have HOA := Lib.hid HX4.out.rat.oO.1
      have hz1 : 0 + st.opn.length ≤ maxLen := by unfold maxLen; omega
      have hz2 : (0 + st.opn.length) * 48 ≤ 140737488355328 := by omega
      go_upto_region 19 with (at_builtin; refine wp_appn rfl (.tmp 84) (.tmp 86) _ rfl 114 4 48 _ Tryd.underlying43 info_sm rfl (by decide) w4.heap.size (.slice none 0 0) 0 [] rfl (World.ownsRow_nil _ _ _ _) 0 (.slice f.AO st.opn.length f.cO) st.opn.length (svals4 st.opn) rfl HOA.out (one_sms _) hz1 hz2 (Nat.le_refl _) ?_; intro P2 cap2 w5 hown2 hgrow2 hat2; simp only [Nat.zero_add, List.nil_append] at hown2 hat2; rw [Nat.zero_add])
      rw [← hs2]
      have HB5 := Lib.hid ((Tur.of_grown hgrow2).below w4.heap.size (Nat.le_refl _) (fun q hq h => by cases h))
      obtain ⟨g2, cap3, hv2, hl2, hl3⟩ := ownBlock_form hown2 (by omega)
      obtain ⟨rfl, -, rfl⟩ := Value.slice.inj hv2
      have HG2 := Lib.hid (show w4.heap.size ≤ g2 by rcases hat2 g2 rfl with h | h; cases h; exact h)
      have HO5 := Lib.hid hown2
      have u3 : w5.cell? ⟨g2, ix * 4 + 3, none⟩ = some (.int .i64 xt) := by
        rw [HO5.out.cellAt (ix * 4 + 3) (by omega), svals4_get st.opn ix 3 hxl (by omega)]
        have h2 : st.opn[ix] = ⟨xk, xn, xs, xt⟩ := by rw [HXV.out, List.getD_eq_getElem?_getD, List.getElem?_eq_getElem hxl, Option.getD_some]
        rw [h2]; rfl
      have v3 := own_freeAt HO5.out (ix * 4 + 3)
      have hcap5 : cap2 < 9223372036854775808 := by unfold maxLen at hl3; omega
      obtain ⟨tk, htk2⟩ : ∃ t, t = xt + s2.size := ⟨_, rfl⟩
      have HCAST := Lib.hid (show ((xt : Int) + (s2.size : Int)) = (tk : Int) by rw [htk2]; omega)
      have hsum : xt + s2.size ≤ 4294967296 := by omega
      have HTK2 := Lib.hid htk2
      clear b0 b1 b2 b3 b4 b5 b6 b7 b8 b9 b10 b11 r0 r1 r2 r3 r4 r5 r6 r7 r8 r9 r10 r11 q0 q1 q2 q3 q4 q5 q6 q7 q8 q9 q10 q11 p0 p1 p2 p3 p4 p5 p6 p7 p8 p9 p10 p11
      clear hown2 hgrow2 hat2 hv2 htk2 hz1 hz2 hs2
      go_upto_region 20 with (fail)
      rw [HCAST.out]
      have HO6 := Lib.hid (own_set HO5.out (ix * 4 + 3) (.int .i64 tk))
      have HB6 := Lib.hid (HB5.out.setCell (p := ⟨g2, ix * 4 + 3, none⟩) HG2.out (.int .i64 tk))
      clear u3 v3
      generalize w5.setCell ⟨g2, ix * 4 + 3, none⟩ (.int .i64 tk) = w6 at *
      obtain ⟨ln, hln⟩ : ∃ ln, ln = st.opn.set ix (⟨xk, xn, xs, tk⟩ : RSm) := ⟨_, rfl⟩
      have hlz : st.opn.length = ln.length := by rw [hln]; simp
      have HO7 : Hid (w6.ownsRow w4.heap.size 114 4 (.slice (some ⟨g2, 0, none⟩) ln.length cap2) ln.length (svals4 ln)) := by
        have h2 : st.opn.getD ix smZ = ⟨xk, xn, xs, xt⟩ := HXV.out.symm
        have h := HO6.out
        rw [svals4_set st.opn ix hxl h2 tk, ← hln, hlz] at h
        exact h
      have HX7 := Lib.hid (HX4.out.setO HB6.out HO7.out (by omega))
      rw [hlz]
      obtain ⟨f6, hf6⟩ : ∃ x, x = { f with AO := some ⟨g2, 0, none⟩, cO := cap2 } := ⟨_, rfl⟩
      obtain ⟨st6, hst6⟩ : ∃ x, x = { st with opn := ln } := ⟨_, rfl⟩
      rw [← hf6, ← hst6] at HX7
      have HE : Hid (o = (st6, s2, 0)) := by unfold Hid; rw [HE0.out, hst6, hln, HTK2.out]
      have HX66 := Lib.hid (HX4.out.pure HB6.out)
      have b9 : w6.cell? ⟨B, 9, none⟩ = some (.slice f.AO st.opn.length f.cO) := HX66.out.blk.cell 9
      have p9 := HX66.out.blk.free 9
      clear hf6 hst6 hln hlz
      go_upto_region 21 with (fail)
      clear b9 p9
      generalize w6.setCell ⟨B, 9, none⟩ (.slice (some ⟨g2, 0, none⟩) ln.length cap2) = w7 at *
      obtain ⟨⟨b0, b1, b2, b3, b4, b5, b6, b7, b8, b9, b10, b11⟩, p0, p1, p2, p3, p4, p5, p6, p7, p8, p9, p10, p11⟩ := HX7.out.blk.twelve
      obtain ⟨⟨r0, r1, r2, r3, r4, r5, r6, r7, r8, r9, r10, r11⟩, q0, q1, q2, q3, q4, q5, q6, q7, q8, q9, q10, q11⟩ := HX7.out.res.twelve
      go_wp2_with fail
      clear b0 b1 b2 b3 b4 b5 b6 b7 b8 b9 b10 b11 r0 r1 r2 r3 r4 r5 r6 r7 r8 r9 r10 r11 q0 q1 q2 q3 q4 q5 q6 q7 q8 q9 q10 q11 p0 p1 p2 p3 p4 p5 p6 p7 p8 p9 p10 p11
      have HD := Lib.hid (HX7.out.done (wj := w7) (f' := f6) (st' := st6) (Below.refl _ _) HX7.out.same)
      generalize ((((((((((((w7.setCell ⟨R, 0, none⟩ (.slice f6.A0 f6.n0 f6.c0)).setCell ⟨R, 1, none⟩ (.string st6.stdin)).setCell ⟨R, 2, none⟩ (.slice f6.A2 st6.replies.length f6.c2)).setCell ⟨R, 3, none⟩ (.slice f6.A3 st6.fails.length f6.c3)).setCell ⟨R, 4, none⟩ (.int .i64 st6.lim)).setCell ⟨R, 5, none⟩ (.int .i64 st6.clock)).setCell ⟨R, 6, none⟩ (.int .u64 st6.ch)).setCell ⟨R, 7, none⟩ (.slice f6.AF st6.files.length f6.cF)).setCell ⟨R, 8, none⟩ (.int .i64 st6.taken)).setCell ⟨R, 9, none⟩ (.slice f6.AO st6.opn.length f6.cO)).setCell ⟨R, 10, none⟩ (.int .u64 st6.num)).setCell ⟨R, 11, none⟩ (.slice f6.AE st6.events.length f6.cE)) = w99 at *
      obtain ⟨⟨x0, x1, x2, x3, x4, x5, x6, x7, x8, x9, x10, x11⟩, -⟩ := HD.out.1.twelve
      refine bodyPost_ret (v := .tuple #[.agg #[.slice f6.A0 f6.n0 f6.c0, .string st6.stdin, .slice f6.A2 st6.replies.length f6.c2, .slice f6.A3 st6.fails.length f6.c3, .int .i64 st6.lim, .int .i64 st6.clock, .int .u64 st6.ch, .slice f6.AF st6.files.length f6.cF, .int .i64 st6.taken, .slice f6.AO st6.opn.length f6.cO, .int .u64 st6.num, .slice f6.AE st6.events.length f6.cE], .string s2, .int .i64 0]) (by simp [results, Tryd.results19, go_sem, x0, x1, x2, x3, x4, x5, x6, x7, x8, x9, x10, x11]) rfl (by rw [HE.out]; exact ⟨f6, rfl, HD.out.2.1, HD.out.2.2⟩)
end
end Go.Proofs.YtdbdmgmenojcaaaDoor
