/- The document's world: Close. -/
import Derived.Test.YtdbdmgmenojcaaaDoorG7
import Derived.StillTail
import Derived.RegionTactic
import Derived.StillTailTactics
import Derived.WalkKit
import Derived.OrdersHeld
set_option linter.unusedVariables false
set_option linter.unusedSimpArgs false
namespace Go.Proofs.YtdbdmgmenojcaaaDoor
open Go.RowKit Wd
namespace Wd
def statR (st : RSt) (k : Int) (name : ByteArray) : Int := if k = 2 ∨ k = 5 then ((replyF st name).getD rpZero).status else 0
def closeRK (st : RSt) (name : ByteArray) : Nat → RSt × Int × Bool
  | 0 => (st, 0, false)
  | n + 1 => if (findF st ((n + 1 : Nat) : Int) name).isSome then ({ (closeRK st name n).1 with events := (closeRK st name n).1.events ++ [⟨3, ((n + 1 : Nat) : Int), name, ⟨#[]⟩, statR st ((n + 1 : Nat) : Int) name⟩] }, statR st ((n + 1 : Nat) : Int) name, true) else closeRK st name n
def keptR (name : ByteArray) (s : RSm) : Bool := !decide (s.name = name)
def closeD (st : RSt) (name : ByteArray) : RSt × Int × Bool :=
  ({ (closeRK st name 5).1 with opn := st.opn.filter (keptR name) }, (closeRK st name 5).2.1, (closeRK st name 5).2.2)
theorem closeRK_same (st : RSt) (name : ByteArray) (n : Nat) : (closeRK st name n).1 = { st with events := (closeRK st name n).1.events } ∧ (closeRK st name n).1.events.length ≤ st.events.length + n := by
  induction n with
  | zero => exact ⟨rfl, Nat.le_refl _⟩
  | succ n ih =>
    unfold closeRK
    split
    · refine ⟨?_, ?_⟩
      · rw [ih.1]
      · show (_ ++ [_]).length ≤ _
        rw [List.length_append]
        have := ih.2
        show _ + 1 ≤ _
        omega
    · exact ⟨ih.1, by omega⟩
theorem closeRK_find (st : RSt) (name : ByteArray) (n : Nat) (k : Int) (nm : ByteArray) : findF (closeRK st name n).1 k nm = findF st k nm := by rw [(closeRK_same st name n).1]; rfl
theorem closeRK_reply (st : RSt) (name : ByteArray) (n : Nat) (nm : ByteArray) : replyF (closeRK st name n).1 nm = replyF st nm := by rw [(closeRK_same st name n).1]; rfl
theorem filter_take_succ {α : Type} (p : α → Bool) (l : List α) (k : Nat) (h : k < l.length) : (l.take (k + 1)).filter p = (l.take k).filter p ++ if p l[k] then [l[k]] else [] := by
  rw [List.take_succ_eq_append_getElem h, List.filter_append]
  congr 1
  cases hp : p l[k] <;> simp [hp]
end Wd
section
variable {K : Nat → Prop} {w : World} {f : Fm} {st : RSt}
def ClPost (K : Nat → Prop) (w : World) (st' : RSt) (n : Int) (b : Bool) (e : Ending) (w' : World) : Prop := ∃ f', e = .returned (.tuple #[.agg (fcells f' st'), .int .i64 n, .bool b]) ∧ RF (Nw K w) w' f' st' ∧ Below w.heap.size w w'
set_option maxRecDepth 100000 in
set_option maxHeartbeats 8000000 in
theorem fw_close (h : RF K w f st) (name : ByteArray) (hev : st.events.length ≤ 90000) (hop : st.opn.length ≤ 90000) :
    Calls Tryd.prog 17 #[.agg (fcells f st), .string name] w (ClPost K w (closeD st name).1 (closeD st name).2.1 (closeD st name).2.2) := by
  obtain ⟨o, ho⟩ : ∃ o, o = closeD st name := ⟨_, rfl⟩
  rw [← ho]
  have HO := Lib.hid ho
  clear ho
  have HX0 := Lib.hid (RW.start h)
  have HRF := Lib.hid h
  clear h
  go_enter Tryd.func17, Tryd.ntmps17
  go_upto_region 1 with (fail)
  obtain ⟨B, hB⟩ : ∃ B, B = w.heap.size := ⟨_, rfl⟩
  rw [← hB] at HX0 ⊢
  obtain ⟨R, hR⟩ : ∃ R, R = B + 1 := ⟨_, rfl⟩
  rw [← hR] at HX0 ⊢
  clear hB hR
  generalize (w.alloc (.cells (fcells f st) 46)).alloc (.cells #[.slice none 0 0, .string ⟨#[]⟩, .slice none 0 0, .slice none 0 0, .int .i64 0, .int .i64 0, .int .u64 0, .slice none 0 0, .int .i64 0, .slice none 0 0, .int .u64 0, .slice none 0 0] 46) = w1 at *
  go_wp2_with fail
  go_loopw [7, 8, 9] (fun sv av kv wr => ∃ (j : Nat) (f' : Fm), j ≤ 5 ∧ kv = .int .u8 ((j + 1 : Nat) : Int) ∧ sv = .int .i64 (closeRK st name j).2.1 ∧ av = .bool (closeRK st name j).2.2 ∧ RW K w wr B R f' (closeRK st name j).1) (fun _ _ k _ => 6 - (intOf k).toNat)
  case atStart => exact ⟨0, f, by omega, rfl, rfl, rfl, HX0.out⟩
  case round =>
    obtain ⟨j, f1, hj, rfl, rfl, rfl, hx⟩ := hrel
    have HX := Lib.hid hx
    clear hx HX0
    obtain ⟨st1, hst1⟩ : ∃ s, s = (closeRK st name j).1 := ⟨_, rfl⟩
    obtain ⟨sv, hsv⟩ : ∃ s, s = (closeRK st name j).2.1 := ⟨_, rfl⟩
    obtain ⟨av, hav⟩ : ∃ s, s = (closeRK st name j).2.2 := ⟨_, rfl⟩
    rw [← hst1] at HX
    rw [← hsv, ← hav]
    have HST1 := Lib.hid hst1
    have HSV := Lib.hid hsv
    have HAV := Lib.hid hav
    have hev1 : st1.events.length ≤ 100000 := by rw [hst1]; have := (closeRK_same st name j).2; omega
    clear hst1 hsv hav
    by_cases hlt : j < 5
    · have hj5 : j = 0 ∨ j = 1 ∨ j = 2 ∨ j = 3 ∨ j = 4 := by omega
      clear hlt hj
      rcases hj5 with rfl | rfl | rfl | rfl | rfl
      · rw [show (((0 + 1 : Nat)) : Int) = 1 from rfl]
        obtain ⟨⟨b0, b1, b2, b3, b4, b5, b6, b7, b8, b9, b10, b11⟩, p0, p1, p2, p3, p4, p5, p6, p7, p8, p9, p10, p11⟩ := HX.out.blk.twelve
        obtain ⟨⟨r0, r1, r2, r3, r4, r5, r6, r7, r8, r9, r10, r11⟩, q0, q1, q2, q3, q4, q5, q6, q7, q8, q9, q10, q11⟩ := HX.out.res.twelve
        go_wp2_with fail
        refine (fw_find HX.out.rat 1 name).mono ?_
        rintro e w2 ⟨rfl, hb2⟩
        have HX2 := Lib.hid (HX.out.pure hb2)
        clear b0 b1 b2 b3 b4 b5 b6 b7 b8 b9 b10 b11 r0 r1 r2 r3 r4 r5 r6 r7 r8 r9 r10 r11 q0 q1 q2 q3 q4 q5 q6 q7 q8 q9 q10 q11 p0 p1 p2 p3 p4 p5 p6 p7 p8 p9 p10 p11
        clear hb2
        obtain ⟨⟨b0, b1, b2, b3, b4, b5, b6, b7, b8, b9, b10, b11⟩, p0, p1, p2, p3, p4, p5, p6, p7, p8, p9, p10, p11⟩ := HX2.out.blk.twelve
        obtain ⟨⟨r0, r1, r2, r3, r4, r5, r6, r7, r8, r9, r10, r11⟩, q0, q1, q2, q3, q4, q5, q6, q7, q8, q9, q10, q11⟩ := HX2.out.res.twelve
        rw [show findF st1 1 name = findF st 1 name by rw [HST1.out, closeRK_find]]
        cases hf : findF st 1 name
        · have HSTEP : Hid (closeRK st name (0 + 1) = closeRK st name 0) := by unfold Hid; show (if (findF st ((1 : Nat) : Int) name).isSome then _ else _) = _; rw [show ((1 : Nat) : Int) = 1 from rfl, hf]; rfl
          clear hf
          rw [show ixV none = -1 from rfl]
          go_wp2_with fail
          go_roundw
          case rel => exact ⟨1, f1, by omega, rfl, by rw [HSTEP.out, HSV.out], by rw [HSTEP.out, HAV.out], by rw [HSTEP.out, ← HST1.out]; exact HX2.out⟩
          case measure => simp [intOf]
        · rename_i ix
          have hix : ¬ (ix : Int) < 0 := by omega
          have hstat : statR st 1 name = 0 := by unfold statR; rw [if_neg (by decide)]
          obtain ⟨st4, hst4⟩ : ∃ s, s = { st1 with events := st1.events ++ [(⟨3, 1, name, ⟨#[]⟩, 0⟩ : Ev)] } := ⟨_, rfl⟩
          have HSTEP : Hid (closeRK st name (0 + 1) = (st4, 0, true)) := by unfold Hid; show (if (findF st ((1 : Nat) : Int) name).isSome then _ else _) = _; rw [show ((1 : Nat) : Int) = 1 from rfl, hf, hstat, hst4, HST1.out]; rfl
          have HEV := fun (w : World) (h : RF (Kx K B) w f1 st1) => fw_event h ⟨3, 1, name, ⟨#[]⟩, 0⟩ hev1
          rw [← hst4] at HEV
          have HEVH := Lib.hid HEV
          clear hf HEV hst4 hstat
          rw [show ixV (some ix) = (ix : Int) from rfl]
          go_wp2_with fail
          refine (HEVH.out _ HX2.out.rat).mono ?_
          rintro e w4 ⟨f4, rfl, hr4, hb4⟩
          have HX4 := Lib.hid (HX2.out.pure hb4)
          have HX6 := Lib.hid (HX2.out.stored hb4 hr4)
          clear b0 b1 b2 b3 b4 b5 b6 b7 b8 b9 b10 b11 r0 r1 r2 r3 r4 r5 r6 r7 r8 r9 r10 r11 q0 q1 q2 q3 q4 q5 q6 q7 q8 q9 q10 q11 p0 p1 p2 p3 p4 p5 p6 p7 p8 p9 p10 p11
          clear hr4 hb4 HEVH
          obtain ⟨⟨b0, b1, b2, b3, b4, b5, b6, b7, b8, b9, b10, b11⟩, p0, p1, p2, p3, p4, p5, p6, p7, p8, p9, p10, p11⟩ := HX4.out.blk.twelve
          rw [show fcells f4 st4 = #[.slice f4.A0 f4.n0 f4.c0, .string st4.stdin, .slice f4.A2 st4.replies.length f4.c2, .slice f4.A3 st4.fails.length f4.c3, .int .i64 st4.lim, .int .i64 st4.clock, .int .u64 st4.ch, .slice f4.AF st4.files.length f4.cF, .int .i64 st4.taken, .slice f4.AO st4.opn.length f4.cO, .int .u64 st4.num, .slice f4.AE st4.events.length f4.cE] from rfl]
          go_wp2_with fail
          go_roundw
          case rel => exact ⟨1, f4, by omega, rfl, by rw [HSTEP.out], by rw [HSTEP.out], by rw [HSTEP.out]; exact HX6.out⟩
          case measure => simp [intOf]
      · rw [show (((1 + 1 : Nat)) : Int) = 2 from rfl]
        obtain ⟨⟨b0, b1, b2, b3, b4, b5, b6, b7, b8, b9, b10, b11⟩, p0, p1, p2, p3, p4, p5, p6, p7, p8, p9, p10, p11⟩ := HX.out.blk.twelve
        obtain ⟨⟨r0, r1, r2, r3, r4, r5, r6, r7, r8, r9, r10, r11⟩, q0, q1, q2, q3, q4, q5, q6, q7, q8, q9, q10, q11⟩ := HX.out.res.twelve
        go_wp2_with fail
        refine (fw_find HX.out.rat 2 name).mono ?_
        rintro e w2 ⟨rfl, hb2⟩
        have HX2 := Lib.hid (HX.out.pure hb2)
        clear b0 b1 b2 b3 b4 b5 b6 b7 b8 b9 b10 b11 r0 r1 r2 r3 r4 r5 r6 r7 r8 r9 r10 r11 q0 q1 q2 q3 q4 q5 q6 q7 q8 q9 q10 q11 p0 p1 p2 p3 p4 p5 p6 p7 p8 p9 p10 p11
        clear hb2
        obtain ⟨⟨b0, b1, b2, b3, b4, b5, b6, b7, b8, b9, b10, b11⟩, p0, p1, p2, p3, p4, p5, p6, p7, p8, p9, p10, p11⟩ := HX2.out.blk.twelve
        obtain ⟨⟨r0, r1, r2, r3, r4, r5, r6, r7, r8, r9, r10, r11⟩, q0, q1, q2, q3, q4, q5, q6, q7, q8, q9, q10, q11⟩ := HX2.out.res.twelve
        rw [show findF st1 2 name = findF st 2 name by rw [HST1.out, closeRK_find]]
        cases hf : findF st 2 name
        · have HSTEP : Hid (closeRK st name (1 + 1) = closeRK st name 1) := by unfold Hid; show (if (findF st ((2 : Nat) : Int) name).isSome then _ else _) = _; rw [show ((2 : Nat) : Int) = 2 from rfl, hf]; rfl
          clear hf
          rw [show ixV none = -1 from rfl]
          go_wp2_with fail
          go_roundw
          case rel => exact ⟨2, f1, by omega, rfl, by rw [HSTEP.out, HSV.out], by rw [HSTEP.out, HAV.out], by rw [HSTEP.out, ← HST1.out]; exact HX2.out⟩
          case measure => simp [intOf]
        · rename_i ix
          have hix : ¬ (ix : Int) < 0 := by omega
          obtain ⟨⟨rc, ro, rs⟩, hrr⟩ : ∃ r, r = (replyF st name).getD rpZero := ⟨_, rfl⟩
          have HRP := fw_reply HX2.out.rat name
          rw [show replyF st1 name = replyF st name by rw [HST1.out, closeRK_reply], ← hrr] at HRP
          have HRPH := Lib.hid HRP
          have hstat : statR st 2 name = rs := by unfold statR; rw [if_pos (by decide), ← hrr]
          obtain ⟨st4, hst4⟩ : ∃ s, s = { st1 with events := st1.events ++ [(⟨3, 2, name, ⟨#[]⟩, rs⟩ : Ev)] } := ⟨_, rfl⟩
          have HSTEP : Hid (closeRK st name (1 + 1) = (st4, rs, true)) := by unfold Hid; show (if (findF st ((2 : Nat) : Int) name).isSome then _ else _) = _; rw [show ((2 : Nat) : Int) = 2 from rfl, hf, hstat, hst4, HST1.out]; rfl
          have HEV := fun (w : World) (h : RF (Kx K B) w f1 st1) => fw_event h ⟨3, 2, name, ⟨#[]⟩, rs⟩ hev1
          rw [← hst4] at HEV
          have HEVH := Lib.hid HEV
          clear hf HEV hst4 hstat HRP hrr
          rw [show ixV (some ix) = (ix : Int) from rfl]
          go_wp2_with fail
          refine HRPH.out.mono ?_
          rintro e w3 ⟨rfl, hb3⟩
          rw [show Rp.val ⟨rc, ro, rs⟩ = .agg #[.string rc, .string ro, .int .i64 rs] from rfl]
          have HX3a := Lib.hid (HX2.out.pure hb3)
          have HX3 := Lib.hid (HX3a.out.pure ((Below.refl w3.heap.size w3).alloc (Nat.le_refl _) (.cells #[.string rc, .string ro, .int .i64 rs] 87)))
          clear b0 b1 b2 b3 b4 b5 b6 b7 b8 b9 b10 b11 r0 r1 r2 r3 r4 r5 r6 r7 r8 r9 r10 r11 q0 q1 q2 q3 q4 q5 q6 q7 q8 q9 q10 q11 p0 p1 p2 p3 p4 p5 p6 p7 p8 p9 p10 p11
          clear hb3 HRPH
          go_upto_region 12 with (fail)
          generalize w3.alloc (.cells #[.string rc, .string ro, .int .i64 rs] 87) = w3b at *
          obtain ⟨⟨b0, b1, b2, b3, b4, b5, b6, b7, b8, b9, b10, b11⟩, p0, p1, p2, p3, p4, p5, p6, p7, p8, p9, p10, p11⟩ := HX3.out.blk.twelve
          obtain ⟨⟨r0, r1, r2, r3, r4, r5, r6, r7, r8, r9, r10, r11⟩, q0, q1, q2, q3, q4, q5, q6, q7, q8, q9, q10, q11⟩ := HX3.out.res.twelve
          go_wp2_with fail
          refine (HEVH.out _ HX3.out.rat).mono ?_
          rintro e w4 ⟨f4, rfl, hr4, hb4⟩
          have HX4 := Lib.hid (HX3.out.pure hb4)
          have HX6 := Lib.hid (HX3.out.stored hb4 hr4)
          clear b0 b1 b2 b3 b4 b5 b6 b7 b8 b9 b10 b11 r0 r1 r2 r3 r4 r5 r6 r7 r8 r9 r10 r11 q0 q1 q2 q3 q4 q5 q6 q7 q8 q9 q10 q11 p0 p1 p2 p3 p4 p5 p6 p7 p8 p9 p10 p11
          clear hr4 hb4 HEVH
          obtain ⟨⟨b0, b1, b2, b3, b4, b5, b6, b7, b8, b9, b10, b11⟩, p0, p1, p2, p3, p4, p5, p6, p7, p8, p9, p10, p11⟩ := HX4.out.blk.twelve
          rw [show fcells f4 st4 = #[.slice f4.A0 f4.n0 f4.c0, .string st4.stdin, .slice f4.A2 st4.replies.length f4.c2, .slice f4.A3 st4.fails.length f4.c3, .int .i64 st4.lim, .int .i64 st4.clock, .int .u64 st4.ch, .slice f4.AF st4.files.length f4.cF, .int .i64 st4.taken, .slice f4.AO st4.opn.length f4.cO, .int .u64 st4.num, .slice f4.AE st4.events.length f4.cE] from rfl]
          go_wp2_with fail
          go_roundw
          case rel => exact ⟨2, f4, by omega, rfl, by rw [HSTEP.out], by rw [HSTEP.out], by rw [HSTEP.out]; exact HX6.out⟩
          case measure => simp [intOf]
      · rw [show (((2 + 1 : Nat)) : Int) = 3 from rfl]
        obtain ⟨⟨b0, b1, b2, b3, b4, b5, b6, b7, b8, b9, b10, b11⟩, p0, p1, p2, p3, p4, p5, p6, p7, p8, p9, p10, p11⟩ := HX.out.blk.twelve
        obtain ⟨⟨r0, r1, r2, r3, r4, r5, r6, r7, r8, r9, r10, r11⟩, q0, q1, q2, q3, q4, q5, q6, q7, q8, q9, q10, q11⟩ := HX.out.res.twelve
        go_wp2_with fail
        refine (fw_find HX.out.rat 3 name).mono ?_
        rintro e w2 ⟨rfl, hb2⟩
        have HX2 := Lib.hid (HX.out.pure hb2)
        clear b0 b1 b2 b3 b4 b5 b6 b7 b8 b9 b10 b11 r0 r1 r2 r3 r4 r5 r6 r7 r8 r9 r10 r11 q0 q1 q2 q3 q4 q5 q6 q7 q8 q9 q10 q11 p0 p1 p2 p3 p4 p5 p6 p7 p8 p9 p10 p11
        clear hb2
        obtain ⟨⟨b0, b1, b2, b3, b4, b5, b6, b7, b8, b9, b10, b11⟩, p0, p1, p2, p3, p4, p5, p6, p7, p8, p9, p10, p11⟩ := HX2.out.blk.twelve
        obtain ⟨⟨r0, r1, r2, r3, r4, r5, r6, r7, r8, r9, r10, r11⟩, q0, q1, q2, q3, q4, q5, q6, q7, q8, q9, q10, q11⟩ := HX2.out.res.twelve
        rw [show findF st1 3 name = findF st 3 name by rw [HST1.out, closeRK_find]]
        cases hf : findF st 3 name
        · have HSTEP : Hid (closeRK st name (2 + 1) = closeRK st name 2) := by unfold Hid; show (if (findF st ((3 : Nat) : Int) name).isSome then _ else _) = _; rw [show ((3 : Nat) : Int) = 3 from rfl, hf]; rfl
          clear hf
          rw [show ixV none = -1 from rfl]
          go_wp2_with fail
          go_roundw
          case rel => exact ⟨3, f1, by omega, rfl, by rw [HSTEP.out, HSV.out], by rw [HSTEP.out, HAV.out], by rw [HSTEP.out, ← HST1.out]; exact HX2.out⟩
          case measure => simp [intOf]
        · rename_i ix
          have hix : ¬ (ix : Int) < 0 := by omega
          have hstat : statR st 3 name = 0 := by unfold statR; rw [if_neg (by decide)]
          obtain ⟨st4, hst4⟩ : ∃ s, s = { st1 with events := st1.events ++ [(⟨3, 3, name, ⟨#[]⟩, 0⟩ : Ev)] } := ⟨_, rfl⟩
          have HSTEP : Hid (closeRK st name (2 + 1) = (st4, 0, true)) := by unfold Hid; show (if (findF st ((3 : Nat) : Int) name).isSome then _ else _) = _; rw [show ((3 : Nat) : Int) = 3 from rfl, hf, hstat, hst4, HST1.out]; rfl
          have HEV := fun (w : World) (h : RF (Kx K B) w f1 st1) => fw_event h ⟨3, 3, name, ⟨#[]⟩, 0⟩ hev1
          rw [← hst4] at HEV
          have HEVH := Lib.hid HEV
          clear hf HEV hst4 hstat
          rw [show ixV (some ix) = (ix : Int) from rfl]
          go_wp2_with fail
          refine (HEVH.out _ HX2.out.rat).mono ?_
          rintro e w4 ⟨f4, rfl, hr4, hb4⟩
          have HX4 := Lib.hid (HX2.out.pure hb4)
          have HX6 := Lib.hid (HX2.out.stored hb4 hr4)
          clear b0 b1 b2 b3 b4 b5 b6 b7 b8 b9 b10 b11 r0 r1 r2 r3 r4 r5 r6 r7 r8 r9 r10 r11 q0 q1 q2 q3 q4 q5 q6 q7 q8 q9 q10 q11 p0 p1 p2 p3 p4 p5 p6 p7 p8 p9 p10 p11
          clear hr4 hb4 HEVH
          obtain ⟨⟨b0, b1, b2, b3, b4, b5, b6, b7, b8, b9, b10, b11⟩, p0, p1, p2, p3, p4, p5, p6, p7, p8, p9, p10, p11⟩ := HX4.out.blk.twelve
          rw [show fcells f4 st4 = #[.slice f4.A0 f4.n0 f4.c0, .string st4.stdin, .slice f4.A2 st4.replies.length f4.c2, .slice f4.A3 st4.fails.length f4.c3, .int .i64 st4.lim, .int .i64 st4.clock, .int .u64 st4.ch, .slice f4.AF st4.files.length f4.cF, .int .i64 st4.taken, .slice f4.AO st4.opn.length f4.cO, .int .u64 st4.num, .slice f4.AE st4.events.length f4.cE] from rfl]
          go_wp2_with fail
          go_roundw
          case rel => exact ⟨3, f4, by omega, rfl, by rw [HSTEP.out], by rw [HSTEP.out], by rw [HSTEP.out]; exact HX6.out⟩
          case measure => simp [intOf]
      · rw [show (((3 + 1 : Nat)) : Int) = 4 from rfl]
        obtain ⟨⟨b0, b1, b2, b3, b4, b5, b6, b7, b8, b9, b10, b11⟩, p0, p1, p2, p3, p4, p5, p6, p7, p8, p9, p10, p11⟩ := HX.out.blk.twelve
        obtain ⟨⟨r0, r1, r2, r3, r4, r5, r6, r7, r8, r9, r10, r11⟩, q0, q1, q2, q3, q4, q5, q6, q7, q8, q9, q10, q11⟩ := HX.out.res.twelve
        go_wp2_with fail
        refine (fw_find HX.out.rat 4 name).mono ?_
        rintro e w2 ⟨rfl, hb2⟩
        have HX2 := Lib.hid (HX.out.pure hb2)
        clear b0 b1 b2 b3 b4 b5 b6 b7 b8 b9 b10 b11 r0 r1 r2 r3 r4 r5 r6 r7 r8 r9 r10 r11 q0 q1 q2 q3 q4 q5 q6 q7 q8 q9 q10 q11 p0 p1 p2 p3 p4 p5 p6 p7 p8 p9 p10 p11
        clear hb2
        obtain ⟨⟨b0, b1, b2, b3, b4, b5, b6, b7, b8, b9, b10, b11⟩, p0, p1, p2, p3, p4, p5, p6, p7, p8, p9, p10, p11⟩ := HX2.out.blk.twelve
        obtain ⟨⟨r0, r1, r2, r3, r4, r5, r6, r7, r8, r9, r10, r11⟩, q0, q1, q2, q3, q4, q5, q6, q7, q8, q9, q10, q11⟩ := HX2.out.res.twelve
        rw [show findF st1 4 name = findF st 4 name by rw [HST1.out, closeRK_find]]
        cases hf : findF st 4 name
        · have HSTEP : Hid (closeRK st name (3 + 1) = closeRK st name 3) := by unfold Hid; show (if (findF st ((4 : Nat) : Int) name).isSome then _ else _) = _; rw [show ((4 : Nat) : Int) = 4 from rfl, hf]; rfl
          clear hf
          rw [show ixV none = -1 from rfl]
          go_wp2_with fail
          go_roundw
          case rel => exact ⟨4, f1, by omega, rfl, by rw [HSTEP.out, HSV.out], by rw [HSTEP.out, HAV.out], by rw [HSTEP.out, ← HST1.out]; exact HX2.out⟩
          case measure => simp [intOf]
        · rename_i ix
          have hix : ¬ (ix : Int) < 0 := by omega
          have hstat : statR st 4 name = 0 := by unfold statR; rw [if_neg (by decide)]
          obtain ⟨st4, hst4⟩ : ∃ s, s = { st1 with events := st1.events ++ [(⟨3, 4, name, ⟨#[]⟩, 0⟩ : Ev)] } := ⟨_, rfl⟩
          have HSTEP : Hid (closeRK st name (3 + 1) = (st4, 0, true)) := by unfold Hid; show (if (findF st ((4 : Nat) : Int) name).isSome then _ else _) = _; rw [show ((4 : Nat) : Int) = 4 from rfl, hf, hstat, hst4, HST1.out]; rfl
          have HEV := fun (w : World) (h : RF (Kx K B) w f1 st1) => fw_event h ⟨3, 4, name, ⟨#[]⟩, 0⟩ hev1
          rw [← hst4] at HEV
          have HEVH := Lib.hid HEV
          clear hf HEV hst4 hstat
          rw [show ixV (some ix) = (ix : Int) from rfl]
          go_wp2_with fail
          refine (HEVH.out _ HX2.out.rat).mono ?_
          rintro e w4 ⟨f4, rfl, hr4, hb4⟩
          have HX4 := Lib.hid (HX2.out.pure hb4)
          have HX6 := Lib.hid (HX2.out.stored hb4 hr4)
          clear b0 b1 b2 b3 b4 b5 b6 b7 b8 b9 b10 b11 r0 r1 r2 r3 r4 r5 r6 r7 r8 r9 r10 r11 q0 q1 q2 q3 q4 q5 q6 q7 q8 q9 q10 q11 p0 p1 p2 p3 p4 p5 p6 p7 p8 p9 p10 p11
          clear hr4 hb4 HEVH
          obtain ⟨⟨b0, b1, b2, b3, b4, b5, b6, b7, b8, b9, b10, b11⟩, p0, p1, p2, p3, p4, p5, p6, p7, p8, p9, p10, p11⟩ := HX4.out.blk.twelve
          rw [show fcells f4 st4 = #[.slice f4.A0 f4.n0 f4.c0, .string st4.stdin, .slice f4.A2 st4.replies.length f4.c2, .slice f4.A3 st4.fails.length f4.c3, .int .i64 st4.lim, .int .i64 st4.clock, .int .u64 st4.ch, .slice f4.AF st4.files.length f4.cF, .int .i64 st4.taken, .slice f4.AO st4.opn.length f4.cO, .int .u64 st4.num, .slice f4.AE st4.events.length f4.cE] from rfl]
          go_wp2_with fail
          go_roundw
          case rel => exact ⟨4, f4, by omega, rfl, by rw [HSTEP.out], by rw [HSTEP.out], by rw [HSTEP.out]; exact HX6.out⟩
          case measure => simp [intOf]
      · rw [show (((4 + 1 : Nat)) : Int) = 5 from rfl]
        obtain ⟨⟨b0, b1, b2, b3, b4, b5, b6, b7, b8, b9, b10, b11⟩, p0, p1, p2, p3, p4, p5, p6, p7, p8, p9, p10, p11⟩ := HX.out.blk.twelve
        obtain ⟨⟨r0, r1, r2, r3, r4, r5, r6, r7, r8, r9, r10, r11⟩, q0, q1, q2, q3, q4, q5, q6, q7, q8, q9, q10, q11⟩ := HX.out.res.twelve
        go_wp2_with fail
        refine (fw_find HX.out.rat 5 name).mono ?_
        rintro e w2 ⟨rfl, hb2⟩
        have HX2 := Lib.hid (HX.out.pure hb2)
        clear b0 b1 b2 b3 b4 b5 b6 b7 b8 b9 b10 b11 r0 r1 r2 r3 r4 r5 r6 r7 r8 r9 r10 r11 q0 q1 q2 q3 q4 q5 q6 q7 q8 q9 q10 q11 p0 p1 p2 p3 p4 p5 p6 p7 p8 p9 p10 p11
        clear hb2
        obtain ⟨⟨b0, b1, b2, b3, b4, b5, b6, b7, b8, b9, b10, b11⟩, p0, p1, p2, p3, p4, p5, p6, p7, p8, p9, p10, p11⟩ := HX2.out.blk.twelve
        obtain ⟨⟨r0, r1, r2, r3, r4, r5, r6, r7, r8, r9, r10, r11⟩, q0, q1, q2, q3, q4, q5, q6, q7, q8, q9, q10, q11⟩ := HX2.out.res.twelve
        rw [show findF st1 5 name = findF st 5 name by rw [HST1.out, closeRK_find]]
        cases hf : findF st 5 name
        · have HSTEP : Hid (closeRK st name (4 + 1) = closeRK st name 4) := by unfold Hid; show (if (findF st ((5 : Nat) : Int) name).isSome then _ else _) = _; rw [show ((5 : Nat) : Int) = 5 from rfl, hf]; rfl
          clear hf
          rw [show ixV none = -1 from rfl]
          go_wp2_with fail
          go_roundw
          case rel => exact ⟨5, f1, by omega, rfl, by rw [HSTEP.out, HSV.out], by rw [HSTEP.out, HAV.out], by rw [HSTEP.out, ← HST1.out]; exact HX2.out⟩
          case measure => simp [intOf]
        · rename_i ix
          have hix : ¬ (ix : Int) < 0 := by omega
          obtain ⟨⟨rc, ro, rs⟩, hrr⟩ : ∃ r, r = (replyF st name).getD rpZero := ⟨_, rfl⟩
          have HRP := fw_reply HX2.out.rat name
          rw [show replyF st1 name = replyF st name by rw [HST1.out, closeRK_reply], ← hrr] at HRP
          have HRPH := Lib.hid HRP
          have hstat : statR st 5 name = rs := by unfold statR; rw [if_pos (by decide), ← hrr]
          obtain ⟨st4, hst4⟩ : ∃ s, s = { st1 with events := st1.events ++ [(⟨3, 5, name, ⟨#[]⟩, rs⟩ : Ev)] } := ⟨_, rfl⟩
          have HSTEP : Hid (closeRK st name (4 + 1) = (st4, rs, true)) := by unfold Hid; show (if (findF st ((5 : Nat) : Int) name).isSome then _ else _) = _; rw [show ((5 : Nat) : Int) = 5 from rfl, hf, hstat, hst4, HST1.out]; rfl
          have HEV := fun (w : World) (h : RF (Kx K B) w f1 st1) => fw_event h ⟨3, 5, name, ⟨#[]⟩, rs⟩ hev1
          rw [← hst4] at HEV
          have HEVH := Lib.hid HEV
          clear hf HEV hst4 hstat HRP hrr
          rw [show ixV (some ix) = (ix : Int) from rfl]
          go_wp2_with fail
          refine HRPH.out.mono ?_
          rintro e w3 ⟨rfl, hb3⟩
          rw [show Rp.val ⟨rc, ro, rs⟩ = .agg #[.string rc, .string ro, .int .i64 rs] from rfl]
          have HX3a := Lib.hid (HX2.out.pure hb3)
          have HX3 := Lib.hid (HX3a.out.pure ((Below.refl w3.heap.size w3).alloc (Nat.le_refl _) (.cells #[.string rc, .string ro, .int .i64 rs] 87)))
          clear b0 b1 b2 b3 b4 b5 b6 b7 b8 b9 b10 b11 r0 r1 r2 r3 r4 r5 r6 r7 r8 r9 r10 r11 q0 q1 q2 q3 q4 q5 q6 q7 q8 q9 q10 q11 p0 p1 p2 p3 p4 p5 p6 p7 p8 p9 p10 p11
          clear hb3 HRPH
          go_upto_region 12 with (fail)
          generalize w3.alloc (.cells #[.string rc, .string ro, .int .i64 rs] 87) = w3b at *
          obtain ⟨⟨b0, b1, b2, b3, b4, b5, b6, b7, b8, b9, b10, b11⟩, p0, p1, p2, p3, p4, p5, p6, p7, p8, p9, p10, p11⟩ := HX3.out.blk.twelve
          obtain ⟨⟨r0, r1, r2, r3, r4, r5, r6, r7, r8, r9, r10, r11⟩, q0, q1, q2, q3, q4, q5, q6, q7, q8, q9, q10, q11⟩ := HX3.out.res.twelve
          go_wp2_with fail
          refine (HEVH.out _ HX3.out.rat).mono ?_
          rintro e w4 ⟨f4, rfl, hr4, hb4⟩
          have HX4 := Lib.hid (HX3.out.pure hb4)
          have HX6 := Lib.hid (HX3.out.stored hb4 hr4)
          clear b0 b1 b2 b3 b4 b5 b6 b7 b8 b9 b10 b11 r0 r1 r2 r3 r4 r5 r6 r7 r8 r9 r10 r11 q0 q1 q2 q3 q4 q5 q6 q7 q8 q9 q10 q11 p0 p1 p2 p3 p4 p5 p6 p7 p8 p9 p10 p11
          clear hr4 hb4 HEVH
          obtain ⟨⟨b0, b1, b2, b3, b4, b5, b6, b7, b8, b9, b10, b11⟩, p0, p1, p2, p3, p4, p5, p6, p7, p8, p9, p10, p11⟩ := HX4.out.blk.twelve
          rw [show fcells f4 st4 = #[.slice f4.A0 f4.n0 f4.c0, .string st4.stdin, .slice f4.A2 st4.replies.length f4.c2, .slice f4.A3 st4.fails.length f4.c3, .int .i64 st4.lim, .int .i64 st4.clock, .int .u64 st4.ch, .slice f4.AF st4.files.length f4.cF, .int .i64 st4.taken, .slice f4.AO st4.opn.length f4.cO, .int .u64 st4.num, .slice f4.AE st4.events.length f4.cE] from rfl]
          go_wp2_with fail
          go_roundw
          case rel => exact ⟨5, f4, by omega, rfl, by rw [HSTEP.out], by rw [HSTEP.out], by rw [HSTEP.out]; exact HX6.out⟩
          case measure => simp [intOf]
    · obtain rfl : j = 5 := by omega
      have e6 : ((5 + 1 : Nat) : Int) = 6 := rfl
      rw [e6]
      clear e6 hlt hj
      have hopn : st1.opn = st.opn := by rw [HST1.out, (closeRK_same st name 5).1]
      have HOPN := Lib.hid hopn
      obtain ⟨n, hnn⟩ : ∃ n, n = st1.opn.length := ⟨_, rfl⟩
      have HNN := Lib.hid hnn
      have hn9 : n ≤ 90000 := by rw [hnn, hopn]; exact hop
      have HO4 := Lib.hid HX.out.rat.oO.1
      rw [← hnn] at HO4
      obtain ⟨AO2, cO2, hvO, hcO1, hcO2⟩ := own_form HO4.out
      obtain ⟨-, -, hcc⟩ := Value.slice.inj hvO
      have hcap3 : f1.cO < 9223372036854775808 := by rw [hcc]; unfold maxLen at hcO2; omega
      have HCO := Lib.hid (show n ≤ f1.cO by rw [hcc]; exact hcO1)
      clear hopn hnn hvO hcc
      go_wp2_with fail
      generalize wr = wz at *
      have HSZ0 := Lib.hid (show R < wz.heap.size from HX.out.big)
      go_loopw [12, 13] (fun lv iv wr => ∃ i : Nat, i ≤ n ∧ iv = .int .i64 i ∧ wr.ownsRow wz.heap.size 114 4 lv ((st1.opn.take i).filter (keptR name)).length (svals4 ((st1.opn.take i).filter (keptR name))) ∧ Below wz.heap.size wz wr) (fun _ i _ => n - (intOf i).toNat)
      case atStart => exact ⟨0, Nat.zero_le _, rfl, World.ownsRow_nil _ _ _ _, Below.refl _ _⟩
      case round =>
        obtain ⟨i, hi, rfl, hrow, hbr⟩ := hrel
        have HROW := Lib.hid hrow
        have HBR := Lib.hid hbr
        have HXR := Lib.hid (HX.out.pure hbr)
        obtain ⟨ll, hll⟩ : ∃ ll, ll = ((st1.opn.take i).filter (keptR name)).length := ⟨_, rfl⟩
        have hll9 : ll ≤ 90000 := by rw [hll]; have h1 := List.length_filter_le (keptR name) (st1.opn.take i); have h2 : (st1.opn.take i).length ≤ i := List.length_take_le _ _; omega
        rw [← hll] at HROW
        have HLL := Lib.hid hll
        obtain ⟨LA, LC, hlv, hl1, hl2⟩ := own_form HROW.out
        subst hlv
        have c9 : wr.cell? ⟨B, 9, none⟩ = some (.slice f1.AO n f1.cO) := by rw [HNN.out]; exact HXR.out.blk.cell 9
        clear hrow hbr hll
        by_cases hlt : i < n
        · have hil : i < st1.opn.length := by have := HNN.out; omega
          obtain ⟨gO, capO, hvO, -, -⟩ := ownBlock_form HO4.out (by omega)
          obtain ⟨hAO, -, -⟩ := Value.slice.inj hvO
          have h4 := HO4.out
          rw [hAO] at h4 c9
          have hgO : gO < wz.heap.size := (own_lt h4 rfl).choose_spec.2
          obtain ⟨⟨xk, xn, xs, xt⟩, hx⟩ : ∃ x, x = st1.opn[i] := ⟨_, rfl⟩
          have hall : ∀ q, q < 4 → wr.cell? ⟨gO, i * 4 + q, none⟩ = ((⟨xk, xn, xs, xt⟩ : RSm).vals)[q]? := by
            intro q hq
            rw [HBR.out.cell (p := ⟨gO, i * 4 + q, none⟩) hgO, h4.cellAt (i * 4 + q) (by omega), svals4_get st1.opn i q hil hq, hx]
          have d0 : wr.cell? ⟨gO, i * 4, none⟩ = some (.int .u8 xk) := hall 0 (by omega)
          have d1 : wr.cell? ⟨gO, i * 4 + 1, none⟩ = some (.string xn) := hall 1 (by omega)
          have d2 : wr.cell? ⟨gO, i * 4 + 2, none⟩ = some (.string xs) := hall 2 (by omega)
          have d3 : wr.cell? ⟨gO, i * 4 + 3, none⟩ = some (.int .i64 xt) := hall 3 (by omega)
          have HF := Lib.hid (filter_take_succ (keptR name) st1.opn i hil)
          rw [← hx] at HF
          have HKP : Hid (keptR name ⟨xk, xn, xs, xt⟩ = !decide (xn = name)) := rfl
          have hz1 : ll + 1 ≤ maxLen := by unfold maxLen; omega
          have hz2 : (ll + 1) * 48 ≤ 140737488355328 := by omega
          have HBW : Hid (wz.heap.size ≤ wr.heap.size) := HBR.out.size
          clear hall h4 hvO hx
          have HAOx := Lib.hid hAO
          clear hAO
          by_cases h1 : xn = name
          · have e1 : (xn.toList == name.toList) = true := by rw [str_eq]; exact decide_eq_true h1
            have e2 : (xn.toList != name.toList) = false := by rw [bne, e1]; rfl
            have HF2 : Hid ((st1.opn.take (i + 1)).filter (keptR name) = (st1.opn.take i).filter (keptR name)) := by unfold Hid; rw [HF.out, HKP.out, decide_eq_true h1]; simp
            clear h1
            go_wp2_with fail
            go_roundw
            case rel => exact ⟨i + 1, by omega, by go_num, by rw [HF2.out, ← HLL.out]; exact HROW.out, HBR.out⟩
            case measure => simp [intOf]; omega
          · have e1 : (xn.toList == name.toList) = false := by rw [str_eq]; exact decide_eq_false h1
            have e2 : (xn.toList != name.toList) = true := by rw [bne, e1]; rfl
            have HF2 : Hid ((st1.opn.take (i + 1)).filter (keptR name) = (st1.opn.take i).filter (keptR name) ++ [⟨xk, xn, xs, xt⟩]) := by unfold Hid; rw [HF.out, HKP.out, decide_eq_false h1]; simp
            clear h1
            go_wp2_with (at_builtin; refine wp_app1_at rfl (.tmp 58) (.tmp 64) _ rfl 114 4 48 _ Tryd.underlying43 info_sm rfl (by decide) wz.heap.size (.slice LA ll LC) ll _ rfl HROW.out [.int .u8 xk, .string xn, .string xs, .int .i64 xt] wr.heap.size rfl rfl rfl one_sm4 hz1 hz2 HBW.out ?_; intro g2 cap2 w2 hlc2 hcm2 hown2 hgrow2 hat2)
            have HO2 : Hid (w2.ownsRow wz.heap.size 114 4 (.slice (some ⟨g2, 0, none⟩) (ll + 1) cap2) ((st1.opn.take (i + 1)).filter (keptR name)).length (svals4 ((st1.opn.take (i + 1)).filter (keptR name)))) := by
              unfold Hid; rw [HF2.out, List.length_append, ← HLL.out, ← svals4_snoc]; exact hown2
            have HB2 : Hid (Below wz.heap.size wz w2) := HBR.out.trans ((Tur.of_grown hgrow2).below _ HBW.out (fun q hq h => by have := own_ge' HROW.out h.symm; omega))
            clear hown2 hgrow2 hat2
            go_wp2_with fail
            go_roundw
            case rel => exact ⟨i + 1, by omega, by go_num, HO2.out, HB2.out⟩
            case measure => simp [intOf]; omega
        · have hin : i = n := by omega
          subst hin
          have htk : st1.opn.take i = st1.opn := List.take_of_length_le (by have := HNN.out; omega)
          rw [htk] at HROW HLL
          have HFL : Hid (st1.opn.filter (keptR name) = st.opn.filter (keptR name)) := by unfold Hid; rw [HOPN.out]
          rw [HFL.out] at HROW HLL
          obtain ⟨ln, hln⟩ : ∃ ln, ln = st.opn.filter (keptR name) := ⟨_, rfl⟩
          rw [← hln] at HROW HLL
          have HLN := Lib.hid hln
          have hll := HLL.out
          subst hll
          have HX7 := Lib.hid (HX.out.setO HBR.out HROW.out (by omega))
          obtain ⟨f6, hf6⟩ : ∃ x, x = { f1 with AO := LA, cO := LC } := ⟨_, rfl⟩
          obtain ⟨st6, hst6⟩ : ∃ x, x = { st1 with opn := ln } := ⟨_, rfl⟩
          rw [← hf6, ← hst6] at HX7
          have HE : Hid (o = (st6, sv, av)) := by unfold Hid; rw [HO.out, hst6, HST1.out, HSV.out, HAV.out, HLN.out]; rfl
          have p9 := HXR.out.blk.free 9
          clear htk hf6 hst6 hln
          go_upto_region 20 with (fail)
          clear c9 p9
          generalize wr.setCell ⟨B, 9, none⟩ (.slice LA ln.length LC) = w7 at *
          obtain ⟨⟨b0, b1, b2, b3, b4, b5, b6, b7, b8, b9, b10, b11⟩, p0, p1, p2, p3, p4, p5, p6, p7, p8, p9, p10, p11⟩ := HX7.out.blk.twelve
          obtain ⟨⟨r0, r1, r2, r3, r4, r5, r6, r7, r8, r9, r10, r11⟩, q0, q1, q2, q3, q4, q5, q6, q7, q8, q9, q10, q11⟩ := HX7.out.res.twelve
          go_wp2_with fail
          clear b0 b1 b2 b3 b4 b5 b6 b7 b8 b9 b10 b11 r0 r1 r2 r3 r4 r5 r6 r7 r8 r9 r10 r11 q0 q1 q2 q3 q4 q5 q6 q7 q8 q9 q10 q11 p0 p1 p2 p3 p4 p5 p6 p7 p8 p9 p10 p11
          have HD := Lib.hid (HX7.out.done (wj := w7) (f' := f6) (st' := st6) (Below.refl _ _) HX7.out.same)
          generalize ((((((((((((w7.setCell ⟨R, 0, none⟩ (.slice f6.A0 f6.n0 f6.c0)).setCell ⟨R, 1, none⟩ (.string st6.stdin)).setCell ⟨R, 2, none⟩ (.slice f6.A2 st6.replies.length f6.c2)).setCell ⟨R, 3, none⟩ (.slice f6.A3 st6.fails.length f6.c3)).setCell ⟨R, 4, none⟩ (.int .i64 st6.lim)).setCell ⟨R, 5, none⟩ (.int .i64 st6.clock)).setCell ⟨R, 6, none⟩ (.int .u64 st6.ch)).setCell ⟨R, 7, none⟩ (.slice f6.AF st6.files.length f6.cF)).setCell ⟨R, 8, none⟩ (.int .i64 st6.taken)).setCell ⟨R, 9, none⟩ (.slice f6.AO st6.opn.length f6.cO)).setCell ⟨R, 10, none⟩ (.int .u64 st6.num)).setCell ⟨R, 11, none⟩ (.slice f6.AE st6.events.length f6.cE)) = w99 at *
          obtain ⟨⟨x0, x1, x2, x3, x4, x5, x6, x7, x8, x9, x10, x11⟩, -⟩ := HD.out.1.twelve
          refine bodyPost_ret (v := .tuple #[.agg #[.slice f6.A0 f6.n0 f6.c0, .string st6.stdin, .slice f6.A2 st6.replies.length f6.c2, .slice f6.A3 st6.fails.length f6.c3, .int .i64 st6.lim, .int .i64 st6.clock, .int .u64 st6.ch, .slice f6.AF st6.files.length f6.cF, .int .i64 st6.taken, .slice f6.AO st6.opn.length f6.cO, .int .u64 st6.num, .slice f6.AE st6.events.length f6.cE], .int .i64 sv, .bool av]) (by simp [results, Tryd.results17, go_sem, x0, x1, x2, x3, x4, x5, x6, x7, x8, x9, x10, x11]) rfl (by rw [HE.out]; exact ⟨f6, rfl, HD.out.2.1, HD.out.2.2⟩)
end
end Go.Proofs.YtdbdmgmenojcaaaDoor
namespace Go.Proofs.YtdbdmgmenojcaaaDoor
open Go
section
variable {P : Program} {ops : Array Oper} {md : Region.Mode} {S : World → Prop} {Q : Exit → Act → World → Prop}
/-- In every world that meets S the operation leaves v, and S holds behind it. -/
def Gives (P : Program) (ops : Array Oper) (S : World → Prop) (o : Oper) (a : Act) (v : Value) : Prop :=
  ∀ w, S w → wpList P ops (Exit.then (fun a' w' => a' = a.put o.dst v ∧ S w') (fun _ _ _ => False)) [o] a w
def wpDet (P : Program) (ops : Array Oper) (S : World → Prop) (K : Act → Prop) : List Oper → Act → Prop
  | [], a => K a
  | o :: l, a => ∃ v, Gives P ops S o a v ∧ wpDet P ops S K l (a.put o.dst v)
theorem put_size (a : Act) (d : Option Tmp) (v : Value) : (a.put d v).tmps.size = a.tmps.size := by
  cases d <;> simp [Act.put]
theorem put_eq_of {a a' : Act} {d : Option Tmp} {u v : Value} (hs : a.tmps.size = a'.tmps.size) (h : a.put d u = a.put d v) : a'.put d u = a'.put d v := by
  cases d with
  | none => rfl
  | some d =>
    have h1 := congrArg Act.tmps h
    simp only [Act.put] at h1 ⊢
    by_cases hd : d < a.tmps.size
    · have h2 := congrArg (·[d]?) h1
      simp [hd] at h2
      rw [h2]
    · have hsz : a'.tmps.size ≤ d := by rw [← hs]; exact Nat.le_of_not_lt hd
      rw [Array.setIfInBounds_eq_of_size_le hsz, Array.setIfInBounds_eq_of_size_le hsz]
theorem put_defers_ne {a : Act} {x : Option Tmp} {d : Deferred} {u v : Value} (h : ({ a with defers := d :: a.defers } : Act).put x u = a.put x v) : False := by
  have h1 := congrArg Act.defers h
  cases x <;> simp [Act.put] at h1
theorem lets_no {K : Act → World → Prop} (h : LetsOut (Exit.then K (fun _ _ _ => False))) : False := by
  obtain ⟨_, _, h⟩ := h; exact h
/-- A state that differs only in what the operation does not look at. -/
theorem Gives.same {o : Oper} {a a' : Act} {v : Value} (h : Gives P ops S o a v) (he : execOp a'.eval o = execOp a.eval o)
    (hw : Region.wanted o (yielded ops a'.tmps) = Region.wanted o (yielded ops a.tmps)) (hs : a.tmps.size = a'.tmps.size) : Gives P ops S o a' v := by
  intro w hS
  have h1 := h w hS
  unfold wpList at *
  rw [hw]
  split
  · rename_i hw
    simp only [hw, if_true] at h1
    refine .inl ?_
    rcases h1 with h1 | ⟨-, h1⟩
    case inr => exact (lets_no h1).elim
    unfold Oper.wp at *
    rw [he]
    generalize (execOp a.eval o).run P w = r at *
    cases r with
    | ok n w' =>
      cases n <;> simp only [Oper.upon] at h1 ⊢
      case value u => exact ⟨put_eq_of hs h1.1, h1.2⟩
      case skip => exact ⟨put_eq_of hs h1.1, h1.2⟩
      case defer d => exact (put_defers_ne h1.1).elim
      case enter f args =>
        refine Calls.mono h1 fun e w'' he => ?_
        cases e with
        | returned u => exact ⟨put_eq_of hs he.1, he.2⟩
        | panicked c => exact he
        | outgrown => exact (lets_no he).elim
      case row row args => exact Rows.mono h1 fun u w'' he => ⟨put_eq_of hs he.1, he.2⟩
    | halt x w' =>
      cases x <;> simp only [Oper.upon] at h1 ⊢
      case panic u => exact h1
  · rename_i hw
    simp only [hw] at h1
    exact ⟨put_eq_of hs h1.1, h1.2⟩
def detAct (ops : Array Oper) (vs : Nat → Value) (a0 : Act) (l : List Nat) : Act := l.foldl (fun a j => a.put ((ops[j]?).bind (·.dst)) (vs j)) a0
theorem detAct_append (vs : Nat → Value) (a0 : Act) (x y : List Nat) : detAct ops vs a0 (x ++ y) = detAct ops vs (detAct ops vs a0 x) y := by
  unfold detAct; rw [List.foldl_append]
theorem detAct_size (vs : Nat → Value) : ∀ (l : List Nat) (a0 : Act), (detAct ops vs a0 l).tmps.size = a0.tmps.size
  | [], _ => rfl
  | j :: l, a0 => by
    show (detAct ops vs (a0.put _ _) l).tmps.size = _
    rw [detAct_size vs l, put_size]
theorem detAct_vs (vs vs' : Nat → Value) : ∀ (l : List Nat) (a0 : Act), (∀ j ∈ l, vs j = vs' j) → detAct ops vs a0 l = detAct ops vs' a0 l
  | [], _, _ => rfl
  | j :: l, a0, h => by
    show detAct ops vs (a0.put _ (vs j)) l = detAct ops vs' (a0.put _ (vs' j)) l
    rw [h j List.mem_cons_self]
    exact detAct_vs vs vs' l _ (fun k hk => h k (List.mem_cons_of_mem _ hk))
/-- Each operation waits for earlier ones alone, and for all whose values it looks at; no two leave their values in one place. -/
def looksB (ops : Array Oper) (o : Oper) (j : Nat) : Bool := match (ops[j]?).bind (·.dst) with
  | some d => (o.looksAt ops).contains d
  | none => false
def detB (md : Region.Mode) (ops : Array Oper) : Bool :=
  Region.noSelect ops && (List.range ops.size).all fun i => match ops[i]? with
    | none => true
    | some o => (o.after.all fun e => !Region.binds md e || decide (e.on < i)) &&
        (List.range ops.size).all fun j => j == i || ((!looksB ops o j || o.after.any fun e => Region.binds md e && e.on == j) &&
          (match (ops[j]?).bind (·.dst) with
           | some d => o.dst != some d
           | none => true))
structure DetOk (md : Region.Mode) (ops : Array Oper) : Prop where
  sel : ∀ (j : Nat) (o : Oper) cs b, ops[j]? = some o → o.op ≠ .select cs b
  before : ∀ (i : Nat) (o : Oper), ops[i]? = some o → ∀ e ∈ o.after, Region.binds md e = true → e.on < i
  deps : ∀ (i : Nat) (o : Oper), ops[i]? = some o → ∀ j, j < ops.size → j ≠ i → looksB ops o j = true → ∃ e ∈ o.after, Region.binds md e = true ∧ e.on = j
  apart : ∀ (i j : Nat) (oi oj : Oper), ops[i]? = some oi → ops[j]? = some oj → i ≠ j → ∀ d, oi.dst = some d → oj.dst ≠ some d
theorem detOk (h : detB md ops = true) : DetOk md ops := by
  unfold detB at h
  simp only [Bool.and_eq_true, List.all_eq_true, List.mem_range] at h
  obtain ⟨hs, h⟩ := h
  refine ⟨fun j o cs b => Region.noSelect_spec hs j o cs b, fun i o ho e he hb => ?_, fun i o ho j hj hne hl => ?_, fun i j oi oj hoi hoj hne d hd hd2 => ?_⟩
  · have h1 := h i (Array.getElem?_eq_some_iff.1 ho).1
    rw [ho] at h1
    simp only [Bool.and_eq_true] at h1
    have h2 := Array.all_eq_true'.1 h1.1 e he
    simpa [hb] using h2
  · have h1 := h i (Array.getElem?_eq_some_iff.1 ho).1
    rw [ho] at h1
    simp only [Bool.and_eq_true, List.all_eq_true, List.mem_range] at h1
    have h2 := h1.2 j hj
    simp only [Bool.or_eq_true, beq_iff_eq, hne, false_or, Bool.and_eq_true, Bool.not_eq_true', hl, Bool.true_eq_false] at h2
    obtain ⟨e, he, hb⟩ := Array.any_eq_true'.1 h2.1
    simp only [Bool.and_eq_true, beq_iff_eq] at hb
    exact ⟨e, he, hb.1, hb.2⟩
  · have h1 := h i (Array.getElem?_eq_some_iff.1 hoi).1
    rw [hoi] at h1
    simp only [Bool.and_eq_true, List.all_eq_true, List.mem_range] at h1
    have h2 := h1.2 j (Array.getElem?_eq_some_iff.1 hoj).1
    simp only [Bool.or_eq_true, beq_iff_eq, Ne.symm hne, false_or, Bool.and_eq_true, hoj, Option.bind_some, hd2, hd] at h2
    simp at h2
theorem detAct_perm (hB : DetOk md ops) (vs : Nat → Value) {x y : List Nat} (a0 : Act) (h : x.Perm y) : detAct ops vs a0 x = detAct ops vs a0 y := by
  unfold detAct
  refine h.foldl_eq' (fun i _ j _ a => ?_) a0
  by_cases hij : i = j
  · subst hij; rfl
  · refine Act.put_comm a _ _ (fun d hd hd2 => ?_)
    cases hi : ops[i]? with
    | none => rw [hi] at hd; cases hd
    | some oi =>
      cases hj : ops[j]? with
      | none => rw [hj] at hd2; cases hd2
      | some oj =>
        rw [hi] at hd; rw [hj] at hd2
        exact hB.apart i j oi oj hi hj hij d hd hd2
theorem detAct_skip (hB : DetOk md ops) (vs : Nat → Value) {i : Nat} {o : Oper} (ho : ops[i]? = some o) : ∀ (l : List Nat) (a : Act), (∀ j ∈ l, looksB ops o j = false) →
    execOp (detAct ops vs a l).eval o = execOp a.eval o ∧ Region.wanted o (yielded ops (detAct ops vs a l).tmps) = Region.wanted o (yielded ops a.tmps)
  | [], _, _ => ⟨rfl, rfl⟩
  | j :: l, a, h => by
    have ih := detAct_skip hB vs ho l (a.put ((ops[j]?).bind (·.dst)) (vs j)) (fun k hk => h k (List.mem_cons_of_mem _ hk))
    have hj := h j List.mem_cons_self
    have hd : ∀ d, (ops[j]?).bind (·.dst) = some d → d ∉ o.looksAt ops := fun d hd hm => by
      unfold looksB at hj
      rw [hd] at hj
      simp only [List.contains_eq_mem, decide_eq_false_iff_not] at hj
      exact hj hm
    exact ⟨ih.1.trans (execOp_put o (hB.sel i o · · ho) a _ _ hd), ih.2.trans (wanted_put o a _ _ hd)⟩
theorem detAct_see (hB : DetOk md ops) (vs : Nat → Value) {i : Nat} {o : Oper} (ho : ops[i]? = some o) (a0 : Act) (l : List Nat) :
    execOp (detAct ops vs a0 l).eval o = execOp (detAct ops vs a0 (l.filter (looksB ops o))).eval o ∧
    Region.wanted o (yielded ops (detAct ops vs a0 l).tmps) = Region.wanted o (yielded ops (detAct ops vs a0 (l.filter (looksB ops o))).tmps) := by
  have hp := (List.filter_append_perm (looksB ops o) l).symm
  rw [detAct_perm hB vs a0 hp, detAct_append]
  exact detAct_skip hB vs ho _ _ (fun j hj => by
    have := (List.mem_filter.1 hj).2
    simpa using this)
theorem wpDet_vs {K : Act → Prop} : ∀ (l : List Oper) (k : Nat) (vs0 : Nat → Value) (a0 : Act), (∀ j, l[j]? = ops[k + j]?) → wpDet P ops S K l (detAct ops vs0 a0 (List.range k)) →
    ∃ vs : Nat → Value, (∀ j, j < k → vs j = vs0 j) ∧ (∀ i o, k ≤ i → ops[i]? = some o → Gives P ops S o (detAct ops vs a0 (List.range i)) (vs i)) ∧ K (detAct ops vs a0 (List.range (k + l.length)))
  | [], k, vs0, a0, hl, h => ⟨vs0, fun _ _ => rfl, fun i o hi ho => by
      have := hl (i - k)
      rw [show k + (i - k) = i by omega, ho] at this
      simp at this, by simpa [wpDet] using h⟩
  | o :: l, k, vs0, a0, hl, h => by
    obtain ⟨v, hg, h⟩ := h
    have h0 : ops[k]? = some o := by simpa using (hl 0).symm
    let vs1 : Nat → Value := fun j => if j = k then v else vs0 j
    have e1 : detAct ops vs1 a0 (List.range k) = detAct ops vs0 a0 (List.range k) := detAct_vs _ _ _ _ (fun j hj => by
      have := List.mem_range.1 hj
      show (if j = k then v else vs0 j) = _
      rw [if_neg (by omega)])
    have e2 : detAct ops vs1 a0 (List.range (k + 1)) = (detAct ops vs0 a0 (List.range k)).put o.dst v := by
      rw [List.range_succ, detAct_append, e1]
      show Act.put _ ((ops[k]?).bind (·.dst)) (if k = k then v else vs0 k) = _
      rw [h0, if_pos rfl]; rfl
    rw [← e2] at h
    obtain ⟨vs, hv, hG, hK⟩ := wpDet_vs l (k + 1) vs1 a0 (fun j => by
      have := hl (j + 1)
      rw [show k + (j + 1) = k + 1 + j by omega] at this
      simpa using this) h
    refine ⟨vs, fun j hj => (hv j (by omega)).trans (by show (if j = k then v else vs0 j) = _; rw [if_neg (by omega)]), fun i o' hi ho' => ?_, by rw [show k + (o :: l).length = k + 1 + l.length by simp; omega]; exact hK⟩
    rcases Nat.lt_or_ge k i with h1 | h1
    · exact hG i o' h1 ho'
    · obtain rfl : i = k := by omega
      obtain rfl : o = o' := Option.some.inj (h0.symm.trans ho')
      have e3 : detAct ops vs a0 (List.range i) = detAct ops vs0 a0 (List.range i) := (detAct_vs _ _ _ _ (fun j hj => hv j (by have := List.mem_range.1 hj; omega))).trans e1
      have e4 : vs i = v := (hv i (by omega)).trans (by show (if i = i then v else vs0 i) = _; rw [if_pos rfl])
      rw [e3, e4]; exact hg
theorem wpOp_gives {i : Nat} {o : Oper} {a : Act} {v : Value} {w : World} {K : Act → World → Prop} (ho : ops[i]? = some o) (h : Gives P ops S o a v) (hS : S w) (hK : ∀ w', S w' → K (a.put o.dst v) w') : wpOp P ops Q i K a w := by
  have h1 := h w hS
  unfold wpOp
  simp only [ho]
  unfold wpList at h1
  split
  · rename_i hw
    simp only [hw, if_true] at h1
    refine .inl ?_
    rcases h1 with h1 | ⟨-, h1⟩
    case inr => exact (lets_no h1).elim
    unfold Oper.wp at *
    generalize (execOp a.eval o).run P w = r at *
    cases r with
    | ok n w' =>
      cases n <;> simp only [Oper.upon] at h1 ⊢
      case value u => obtain ⟨e, h1⟩ := h1; rw [e]; exact hK _ h1
      case skip => obtain ⟨e, h1⟩ := h1; rw [e]; exact hK _ h1
      case defer d => exact (put_defers_ne h1.1).elim
      case enter f args =>
        refine Calls.mono h1 fun e w'' he => ?_
        cases e with
        | returned u => obtain ⟨e, h1⟩ := he; show K (a.put o.dst u) w''; rw [e]; exact hK _ h1
        | panicked c => exact he.elim
        | outgrown => exact (lets_no he).elim
      case row row args => exact Rows.mono h1 fun u w'' he => by obtain ⟨e, h1⟩ := he; show K (a.put o.dst u) w''; rw [e]; exact hK _ h1
    | halt x w' =>
      cases x <;> simp only [Oper.upon] at h1 ⊢
      case panic u => exact h1.elim
  · rename_i hw
    simp only [hw] at h1
    obtain ⟨e, h1⟩ := h1
    rw [show a.put o.dst undef = a.put o.dst v from e]; exact hK _ h1
def listedOf (n : Nat) (l : List Nat) : Array Bool := ((List.range n).map fun j => decide (j ∈ l)).toArray
theorem listedOf_get (n : Nat) (l : List Nat) (j : Nat) : (listedOf n l)[j]? = if j < n then some (decide (j ∈ l)) else none := by
  unfold listedOf
  rw [List.getElem?_toArray, List.getElem?_map]
  by_cases h : j < n
  · rw [if_pos h, List.getElem?_range h]; rfl
  · rw [if_neg h, List.getElem?_eq_none (by simp; omega)]; rfl
theorem listedOf_set {n : Nat} {l : List Nat} {i : Nat} (h : i < n) : (listedOf n l).setIfInBounds i true = listedOf n (l ++ [i]) := by
  apply Array.ext_getElem?
  intro j
  rw [Array.getElem?_setIfInBounds, listedOf_get, listedOf_get]
  have hsz : (listedOf n l).size = n := by simp [listedOf]
  by_cases hij : i = j
  · subst hij
    rw [if_pos rfl, hsz, if_pos h, if_pos h]; simp
  · rw [if_neg hij]
    by_cases hj : j < n
    · rw [if_pos hj, if_pos hj]
      congr 1
      simp [Ne.symm hij]
    · rw [if_neg hj, if_neg hj]
theorem any_det (hB : DetOk md ops) (vs : Nat → Value) (a0 : Act) (hG : ∀ i o, ops[i]? = some o → Gives P ops S o (detAct ops vs a0 (List.range i)) (vs i))
    (hE : ∀ w, S w → Q .normal (detAct ops vs a0 (List.range ops.size)) w) :
    ∀ (fuel : Nat) (l : List Nat) (w : World), l.Nodup → (∀ i ∈ l, i < ops.size) → ops.size ≤ fuel + l.length → S w → wpAny P md ops Q fuel (listedOf ops.size l) (detAct ops vs a0 l) w := by
  have hend : ∀ (l : List Nat) (w : World), l.Nodup → (∀ i ∈ l, i < ops.size) → (∀ i, i < ops.size → i ∈ l) → S w → Q .normal (detAct ops vs a0 l) w := fun l w hn hl hall hS => by
    have hp : l.Perm (List.range ops.size) := by
      rw [List.perm_ext_iff_of_nodup hn List.nodup_range]
      intro j
      exact ⟨fun h => List.mem_range.2 (hl j h), fun h => hall j (List.mem_range.1 h)⟩
    rw [detAct_perm hB vs a0 hp]; exact hE w hS
  have hready : ∀ (l : List Nat), Region.ready md ops (listedOf ops.size l) = [] → ∀ i, i < ops.size → i ∈ l := fun l hr => by
    intro i
    induction i using Nat.strongRecOn with
    | _ i ih =>
      intro hi
      by_cases hm : i ∈ l
      · exact hm
      have : i ∈ Region.ready md ops (listedOf ops.size l) := by
        rw [mem_ready]
        refine ⟨?_, ops[i], Array.getElem?_eq_getElem hi, fun e he hb => ?_⟩
        · rw [Array.getD_eq_getD_getElem?, listedOf_get, if_pos hi]; simp [hm]
        · have h1 := hB.before i _ (Array.getElem?_eq_getElem hi) e he hb
          have h2 := ih e.on h1 (by omega)
          rw [Array.getD_eq_getD_getElem?, listedOf_get, if_pos (by omega)]; simp [h2]
      rw [hr] at this
      cases this
  intro fuel
  induction fuel with
  | zero =>
    intro l w hn hl hlen hS
    have hall : ∀ i, i < ops.size → i ∈ l := by
      intro i hi
      by_cases hm : i ∈ l
      · exact hm
      have hn2 : (i :: l).Nodup := List.nodup_cons.2 ⟨hm, hn⟩
      have hsub : (i :: l) ⊆ List.range ops.size := fun j hj => by
        rcases List.mem_cons.1 hj with rfl | h
        · exact List.mem_range.2 hi
        · exact List.mem_range.2 (hl j h)
      have := List.Nodup.length_le_of_subset hn2 hsub
      simp at this
      omega
    refine ⟨?_, hend l w hn hl hall hS⟩
    cases hr : Region.ready md ops (listedOf ops.size l) with
    | nil => rfl
    | cons i r =>
      have h1 : i ∈ Region.ready md ops (listedOf ops.size l) := by rw [hr]; exact List.mem_cons_self
      obtain ⟨h2, o, ho, -⟩ := mem_ready.1 h1
      have hi := (Array.getElem?_eq_some_iff.1 ho).1
      rw [Array.getD_eq_getD_getElem?, listedOf_get, if_pos hi] at h2
      simp [hall i hi] at h2
  | succ fuel ih =>
    intro l w hn hl hlen hS
    refine ⟨fun hr => hend l w hn hl (hready l hr) hS, fun i hi => ?_⟩
    obtain ⟨h2, o, ho, haf⟩ := mem_ready.1 hi
    have hin := (Array.getElem?_eq_some_iff.1 ho).1
    have hil : i ∉ l := by
      rw [Array.getD_eq_getD_getElem?, listedOf_get, if_pos hin] at h2
      simpa using h2
    have hset := listedOf_set (l := l) hin
    rw [hset]
    have hsame : Gives P ops S o (detAct ops vs a0 l) (vs i) := by
      have e1 := detAct_see hB vs ho a0 l
      have e2 := detAct_see hB vs ho a0 (List.range i)
      have hp : (l.filter (looksB ops o)).Perm ((List.range i).filter (looksB ops o)) := by
        rw [List.perm_ext_iff_of_nodup (hn.filter _) (List.nodup_range.filter _)]
        intro j
        rw [List.mem_filter, List.mem_filter, List.mem_range]
        constructor
        · rintro ⟨hj, hlk⟩
          obtain ⟨e, he, hb, rfl⟩ := hB.deps i o ho j (hl j hj) (fun h => hil (h ▸ hj)) hlk
          exact ⟨hB.before i o ho e he hb, hlk⟩
        · rintro ⟨hj, hlk⟩
          obtain ⟨e, he, hb, rfl⟩ := hB.deps i o ho j (by omega) (by omega) hlk
          have h3 := haf e he hb
          rw [Array.getD_eq_getD_getElem?, listedOf_get, if_pos (by omega)] at h3
          exact ⟨by simpa using h3, hlk⟩
      have e3 := detAct_perm hB vs a0 hp
      refine (hG i o ho).same (e1.1.trans (by rw [e3]; exact e2.1.symm)) (e1.2.trans (by rw [e3]; exact e2.2.symm)) ?_
      rw [detAct_size, detAct_size]
    refine wpOp_gives ho hsame hS (fun w' hS' => ?_)
    have e4 : (detAct ops vs a0 l).put o.dst (vs i) = detAct ops vs a0 (l ++ [i]) := by
      rw [detAct_append]
      show _ = Act.put _ ((ops[i]?).bind (·.dst)) (vs i)
      rw [ho]; rfl
    rw [e4]
    refine ih (l ++ [i]) w' ?_ ?_ (by simp; omega) hS'
    · rw [List.nodup_append]
      exact ⟨hn, by simp, fun a ha b hb => by simp at hb; subst hb; exact fun h => hil (h ▸ ha)⟩
    · intro j hj
      rcases List.mem_append.1 hj with h | h
      · exact hl j h
      · simp at h; omega
/-- THE LAW. -/
theorem wp_region_det {id : Nat} {a : Act} {w : World} {l : List Oper} (S : World → Prop) (hm : P.follows .mixedOrders = true) (hB : detB .any l.toArray = true) (hS : S w.drew)
    (h : wpDet P l.toArray S (fun a' => ∀ w', S w' → Q .normal a' w') l a) : (Code.region id l.toArray true).wp P Q a w := by
  refine wp_region_any hm ?_
  obtain ⟨vs, -, hG, hK⟩ := wpDet_vs (P := P) (S := S) (ops := l.toArray) l 0 (fun _ => undef) a (fun j => by simp) (by simpa [detAct] using h)
  have h0 : listedOf l.toArray.size [] = Array.replicate l.toArray.size false := by
    apply Array.ext_getElem?
    intro j
    rw [listedOf_get, Array.getElem?_replicate]
    by_cases hj : j < l.toArray.size <;> simp [hj]
  have := any_det (P := P) (S := S) (md := .any) (Q := Q) (detOk hB) vs a (fun i o ho => hG i o (Nat.zero_le _) ho) (by simpa using hK) l.toArray.size [] w.drew (by simp) (by simp) (by simp) hS
  rw [h0] at this
  exact this
def valOf (d : Option Tmp) (a : Act) : Value := match d with
  | some d => a.tmps.getD d undef
  | none => undef
/-- One operation: run alone in a world of which S is known. -/
theorem det_step {K : Act → Prop} {o : Oper} {l : List Oper} {a : Act} (a2 : Act)
    (h : ∀ w, S w → ∀ M : Act → World → Prop, (∀ w', S w' → M a2 w') → wpList P ops (Exit.then M (fun _ _ _ => False)) [o] a w) (he : a.put o.dst (valOf o.dst a2) = a2) (h2 : wpDet P ops S K l a2) : wpDet P ops S K (o :: l) a :=
  ⟨valOf o.dst a2, fun w hS => h w hS _ (fun _ hS' => ⟨he.symm, hS'⟩), by rw [he]; exact h2⟩
end
end Go.Proofs.YtdbdmgmenojcaaaDoor
