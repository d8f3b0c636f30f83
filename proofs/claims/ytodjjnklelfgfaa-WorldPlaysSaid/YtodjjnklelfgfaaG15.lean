/- The document's world: CloseAll. -/
import Derived.Test.YtodjjnklelfgfaaG9
import Derived.Deep.AppendLies
import Derived.Test.YtodjjnklelfgfaaG10
import Derived.Deep.RegionHeld3
import Derived.Test.YtodjjnklelfgfaaG12
import Derived.Test.YtodjjnklelfgfaaG3
import Derived.Test.YtodjjnklelfgfaaG13
import Derived.Test.YtodjjnklelfgfaaG14
set_option linter.unusedVariables false
set_option linter.unusedSimpArgs false
namespace Go.Proofs.Ytodjjnklelfgfaa
open Go.RowKit Wd
namespace Wd
inductive ClosedR : RSt → RSt → Prop where
  | refl {st : RSt} : ClosedR st st
  | step {st st' : RSt} {m : RSm} {r : List RSm} : ClosedR st st' → st'.opn = m :: r → ClosedR st (closeD st' m.name).1
theorem closeD_less {st : RSt} {m : RSm} {r : List RSm} (h : st.opn = m :: r) : (closeD st m.name).1.opn.length + 1 ≤ st.opn.length ∧ (closeD st m.name).1.events.length ≤ st.events.length + 5 := by
  constructor
  · show (st.opn.filter (keptR m.name)).length + 1 ≤ _
    rw [h, List.filter_cons, if_neg (by simp [keptR])]
    have := List.length_filter_le (keptR m.name) r
    simp; omega
  · exact (closeRK_same st m.name 5).2
end Wd
def lenR (w : World) (b i : Nat) : Nat := match w.cell? ⟨b, i, none⟩ with
  | some (.slice _ n _) => n
  | _ => 0
theorem RW.lenR {K : Nat → Prop} {w wi : World} {B R : Nat} {f : Fm} {st : RSt} (h : RW K w wi B R f st) : lenR wi B 9 = st.opn.length := by
  have c9 : wi.cell? ⟨B, 9, none⟩ = some (.slice f.AO st.opn.length f.cO) := h.blk.cell 9
  unfold Proofs.Ytodjjnklelfgfaa.lenR
  rw [c9]
theorem RW.drew {K : Nat → Prop} {w wi : World} {B R : Nat} {f : Fm} {st : RSt} (h : RW K w wi B R f st) : RW K w wi.drew B R f st := h.pure (Below.refl _ _).drew
section
variable {K : Nat → Prop} {w : World} {f : Fm} {st : RSt}
def CaPost (K : Nat → Prop) (w : World) (st : RSt) (e : Ending) (w' : World) : Prop := ∃ st' f', ClosedR st st' ∧ st'.opn = [] ∧ e = .returned (.agg (fcells f' st')) ∧ RF (Nw K w) w' f' st' ∧ Below w.heap.size w w'
set_option maxRecDepth 100000 in
set_option maxHeartbeats 8000000 in
theorem fw_closeall (h : RF K w f st) (hev : st.events.length + 5 * st.opn.length ≤ 90000) :
    Calls Try.prog 49 #[.agg (fcells f st)] w (CaPost K w st) := by
  have HX0 := Lib.hid (RW.start h)
  have HRF := Lib.hid h
  clear h
  go_enter Try.func49, Try.ntmps49
  go_upto_region 1 with (fail)
  obtain ⟨B, hB⟩ : ∃ B, B = w.heap.size := ⟨_, rfl⟩
  rw [← hB] at HX0 ⊢
  obtain ⟨R, hR⟩ : ∃ R, R = B + 1 := ⟨_, rfl⟩
  rw [← hR] at HX0 ⊢
  clear hB hR
  generalize (w.alloc (.cells (fcells f st) 73)).alloc (.cells #[.slice none 0 0, .string ⟨#[]⟩, .slice none 0 0, .slice none 0 0, .int .i64 0, .int .i64 0, .int .u64 0, .slice none 0 0, .int .i64 0, .slice none 0 0, .int .u64 0, .slice none 0 0] 73) = w1 at *
  go_loopw [3] (fun _ wr => ∃ (f' : Fm) (st' : RSt), RW K w wr B R f' st' ∧ ClosedR st st' ∧ st'.events.length + 5 * st'.opn.length ≤ 90000) (fun _ wr => lenR wr B 9)
  case atStart => exact ⟨f, st, HX0.out, .refl, hev⟩
  case round =>
    obtain ⟨f1, st1, hx, hcl, hb1⟩ := hrel
    have HX := Lib.hid hx
    have HCL := Lib.hid hcl
    have HLEN := Lib.hid hx.lenR
    clear hx hcl HX0
    have c9 : wr.cell? ⟨B, 9, none⟩ = some (.slice f1.AO st1.opn.length f1.cO) := HX.out.blk.cell 9
    cases hopn : st1.opn with
    | nil =>
      have HOPN := Lib.hid hopn
      rw [hopn] at c9
      clear hopn c9
      obtain ⟨⟨b0, b1, b2, b3, b4, b5, b6, b7, b8, b9, b10, b11⟩, p0, p1, p2, p3, p4, p5, p6, p7, p8, p9, p10, p11⟩ := HX.out.blk.twelve
      obtain ⟨⟨r0, r1, r2, r3, r4, r5, r6, r7, r8, r9, r10, r11⟩, q0, q1, q2, q3, q4, q5, q6, q7, q8, q9, q10, q11⟩ := HX.out.res.twelve
      clear b9
      have hol : st1.opn.length = 0 := by rw [HOPN.out]; rfl
      have b9 : wr.cell? ⟨B, 9, none⟩ = some (.slice f1.AO 0 f1.cO) := by
        have h := HX.out.blk.cell 9
        rw [show (fcells f1 st1)[9]? = some (.slice f1.AO st1.opn.length f1.cO) from rfl, hol] at h
        exact h
      have HOL := Lib.hid hol
      clear hol
      go_wp2_with fail
      clear b0 b1 b2 b3 b4 b5 b6 b7 b8 b9 b10 b11 r0 r1 r2 r3 r4 r5 r6 r7 r8 r9 r10 r11 q0 q1 q2 q3 q4 q5 q6 q7 q8 q9 q10 q11 p0 p1 p2 p3 p4 p5 p6 p7 p8 p9 p10 p11
      have HD := HX.out.done (wj := wr) (f' := f1) (st' := st1) (Below.refl _ _) HX.out.same
      rw [HOL.out] at HD
      generalize ((((((((((((wr.setCell ⟨R, 0, none⟩ (.slice f1.A0 f1.n0 f1.c0)).setCell ⟨R, 1, none⟩ (.string st1.stdin)).setCell ⟨R, 2, none⟩ (.slice f1.A2 st1.replies.length f1.c2)).setCell ⟨R, 3, none⟩ (.slice f1.A3 st1.fails.length f1.c3)).setCell ⟨R, 4, none⟩ (.int .i64 st1.lim)).setCell ⟨R, 5, none⟩ (.int .i64 st1.clock)).setCell ⟨R, 6, none⟩ (.int .u64 st1.ch)).setCell ⟨R, 7, none⟩ (.slice f1.AF st1.files.length f1.cF)).setCell ⟨R, 8, none⟩ (.int .i64 st1.taken)).setCell ⟨R, 9, none⟩ (.slice f1.AO 0 f1.cO)).setCell ⟨R, 10, none⟩ (.int .u64 st1.num)).setCell ⟨R, 11, none⟩ (.slice f1.AE st1.events.length f1.cE)) = w99 at *
      obtain ⟨⟨x0, x1, x2, x3, x4, x5, x6, x7, x8, x9, x10, x11⟩, -⟩ := HD.1.twelve
      refine bodyPost_ret (v := .agg #[.slice f1.A0 f1.n0 f1.c0, .string st1.stdin, .slice f1.A2 st1.replies.length f1.c2, .slice f1.A3 st1.fails.length f1.c3, .int .i64 st1.lim, .int .i64 st1.clock, .int .u64 st1.ch, .slice f1.AF st1.files.length f1.cF, .int .i64 st1.taken, .slice f1.AO 0 f1.cO, .int .u64 st1.num, .slice f1.AE st1.events.length f1.cE]) (by simp [results, Try.results49, go_sem, x0, x1, x2, x3, x4, x5, x6, x7, x8, x9, x10, x11, HOPN.out]) rfl ⟨st1, f1, HCL.out, HOPN.out, by simp [fcells, HOPN.out], HD.2.1, HD.2.2⟩
    | cons m r =>
      have HOPN := Lib.hid hopn
      have hpos : 0 < st1.opn.length := by rw [hopn]; simp
      have hposi : (0 : Int) < (st1.opn.length : Int) := by omega
      have HO4 := Lib.hid HX.out.rat.oO.1
      obtain ⟨gO, capO, hvO, hcO1, hcO2⟩ := ownBlock_form HO4.out hpos
      obtain ⟨hAO, -, hcO⟩ := Value.slice.inj hvO
      have h4 := HO4.out
      rw [hvO] at h4
      have d1 : wr.cell? ⟨gO, 0 * 4 + 1, none⟩ = some (.string m.name) := by
        rw [h4.cellAt (0 * 4 + 1) (by omega), svals4_get st1.opn 0 1 hpos (by omega)]
        have : st1.opn[0] = m := by simp [hopn]
        rw [this]; rfl
      rw [Nat.zero_mul, Nat.zero_add] at d1
      have hclo := fun (w' : World) (h : RF (Kx K B) w' f1 st1) => fw_close h m.name (by omega) (by omega)
      obtain ⟨⟨st2, sv2, av2⟩, hcd⟩ : ∃ c, c = closeD st1 m.name := ⟨_, rfl⟩
      rw [← hcd] at hclo
      have HCLO := Lib.hid hclo
      have HCD := Lib.hid hcd
      clear hclo hcd
      have HAO := Lib.hid hAO
      clear h4 hvO hcO hAO hopn c9
      obtain ⟨⟨b0, b1, b2, b3, b4, b5, b6, b7, b8, b9, b10, b11⟩, p0, p1, p2, p3, p4, p5, p6, p7, p8, p9, p10, p11⟩ := HX.out.blk.twelve
      obtain ⟨⟨r0, r1, r2, r3, r4, r5, r6, r7, r8, r9, r10, r11⟩, q0, q1, q2, q3, q4, q5, q6, q7, q8, q9, q10, q11⟩ := HX.out.res.twelve
      rw [HAO.out] at b9
      go_wp2_with fail
      refine wp_region_noPanic ?_
      refine wp_region_segpi 6 (fun _ => True) [(7, true), (8, true), (9, true), (10, true), (11, false)] (by kernel_rfl) (by kernel_rfl) (fun _ _ _ _ _ h => h) ?_
      refine segpi_step (fun K hK => ?_)
      simp only [List.take_succ_cons, List.take_zero, List.drop_succ_cons, List.drop_zero]
      (repeat still_step)
      refine wpStill_nil ?_
      have HKK := Lib.hid hK
      clear hK
      go_wp2_with (go_at_call 47; rw [← HAO.out]; refine (HCLO.out wr.drew HX.out.drew.rat).mono ?_; rintro e w2 ⟨f2, rfl, hr2, hb2⟩; rw [show fcells f2 st2 = #[.slice f2.A0 f2.n0 f2.c0, .string st2.stdin, .slice f2.A2 st2.replies.length f2.c2, .slice f2.A3 st2.fails.length f2.c3, .int .i64 st2.lim, .int .i64 st2.clock, .int .u64 st2.ch, .slice f2.AF st2.files.length f2.cF, .int .i64 st2.taken, .slice f2.AO st2.opn.length f2.cO, .int .u64 st2.num, .slice f2.AE st2.events.length f2.cE] from rfl]; have HX2 := Lib.hid (HX.out.drew.pure hb2); have HX3 := Lib.hid (HX.out.drew.stored hb2 hr2))
      refine HKK.out _ _ trivial ?_
      clear HKK K
      clear b0 b1 b2 b3 b4 b5 b6 b7 b8 b9 b10 b11 r0 r1 r2 r3 r4 r5 r6 r7 r8 r9 r10 r11
      obtain ⟨⟨b0, b1, b2, b3, b4, b5, b6, b7, b8, b9, b10, b11⟩, p0, p1, p2, p3, p4, p5, p6, p7, p8, p9, p10, p11⟩ := HX2.out.blk.twelve
      simp only [piO, List.filterMap_cons, List.filterMap_nil, List.getElem?_toArray, List.getElem?_cons_zero, List.getElem?_cons_succ, Option.map_some]
      iterate 4 (
        refine pi_read ?_ (fun wd hS M hM => ?_) ?_ ?_
        rotate_left
        · have HM := Lib.hid hM
          clear hM hS
          go_wp2_with fail
          exact HM.out
        · rfl)
      refine pi_alone (fun M hM => ?_)
      have HM := Lib.hid hM
      clear hM
      go_wp2_with fail
      refine HM.out _ _ trivial ?_
      clear HM M
      refine NoPanic.normal (?_ : _)
      have HX4 := HX3
      clear b0 b1 b2 b3 b4 b5 b6 b7 b8 b9 b10 b11 p0 p1 p2 p3 p4 p5 p6 p7 p8 p9 p10 p11 q0 q1 q2 q3 q4 q5 q6 q7 q8 q9 q10 q11
      generalize ((((((((((((w2.setCell ⟨B, 0, none⟩ (.slice f2.A0 f2.n0 f2.c0)).setCell ⟨B, 1, none⟩ (.string st2.stdin)).setCell ⟨B, 2, none⟩ (.slice f2.A2 st2.replies.length f2.c2)).setCell ⟨B, 3, none⟩ (.slice f2.A3 st2.fails.length f2.c3)).setCell ⟨B, 4, none⟩ (.int .i64 st2.lim)).setCell ⟨B, 5, none⟩ (.int .i64 st2.clock)).setCell ⟨B, 6, none⟩ (.int .u64 st2.ch)).setCell ⟨B, 7, none⟩ (.slice f2.AF st2.files.length f2.cF)).setCell ⟨B, 8, none⟩ (.int .i64 st2.taken)).setCell ⟨B, 9, none⟩ (.slice f2.AO st2.opn.length f2.cO)).setCell ⟨B, 10, none⟩ (.int .u64 st2.num)).setCell ⟨B, 11, none⟩ (.slice f2.AE st2.events.length f2.cE)) = w9 at HX3 HX4 ⊢
      have HCD1 : Hid (st2 = (closeD st1 m.name).1) := congrArg Prod.fst HCD.out
      have HLS : Hid (st2.opn.length + 1 ≤ st1.opn.length ∧ st2.events.length ≤ st1.events.length + 5) := by have h := closeD_less HOPN.out; rw [← HCD1.out] at h; exact h
      go_wp2_with fail
      have hless := HLS.out
      go_roundw
      case rel => exact ⟨f2, st2, HX4.out, by rw [HCD1.out]; exact .step HCL.out HOPN.out, by omega⟩
      case measure => rw [HLEN.out, HX4.out.lenR]; omega
end
end Go.Proofs.Ytodjjnklelfgfaa
namespace Go.Proofs.Ytodjjnklelfgfaa
open Go.RowKit Wd
namespace Wd
def smOf (s : RSm) : Sm := ⟨s.k, s.name, s.src.extract s.tk s.src.size⟩
structure Corr (st : St) (rs : RSt) : Prop where
  lim : st.lim = rs.lim
  clock : st.clock = rs.clock
  chance : st.chance = rs.num
  reps : st.replies = rs.replies
  fails : st.fails = rs.fails
  trace : st.trace = rs.events
  tk : rs.taken ≤ rs.stdin.size
  stdin : st.stdin = rs.stdin.extract rs.taken rs.stdin.size
  opn : st.opn = rs.opn.map smOf
  tks : ∀ s ∈ rs.opn, s.tk ≤ s.src.size
  files : ∀ name : ByteArray, st.files name.data.toList = (fileF rs name).map (·.2)
  nodup : (rs.files.map (·.1)).Nodup
theorem find_of_ix {α : Type} (p : α → Bool) (l : List α) (d : α) : (match l.findIdx? p with | some i => l.getD i d | none => d) = (l.find? p).getD d := by
  induction l with
  | nil => rfl
  | cons a l ih =>
    rw [List.findIdx?_cons, List.find?_cons]
    cases hp : p a with
    | true => rfl
    | false =>
      rw [← ih]
      cases h : List.findIdx? p l <;> simp
theorem ix_some {α : Type} (p : α → Bool) (l : List α) : (l.findIdx? p).isSome = (l.find? p).isSome := by
  rw [List.findIdx?_isSome, Bool.eq_iff_iff, List.any_eq_true, List.find?_isSome]
variable {st st' : St} {rs rs' : RSt}
theorem Corr.find (h : Corr st rs) (k : Int) (name : ByteArray) : Wd.find st k name = findF rs k name := by
  unfold Wd.find findF
  rw [h.opn, List.findIdx?_map]
  rfl
theorem Corr.fail (h : Corr st rs) (op : Int) (name : ByteArray) : failB st op name = rs.fails.any (isFl op name) := by
  unfold failB failIx
  rw [h.fails, List.findIdx?_isSome]
theorem Corr.replyR (h : Corr st rs) (cmd : ByteArray) : Wd.replyR st cmd = (replyF rs cmd).getD rpZero := by
  unfold Wd.replyR replyIx replyF
  rw [h.reps]
  exact find_of_ix _ _ _
theorem Corr.replyB (h : Corr st rs) (cmd : ByteArray) : Wd.replyB st cmd = (replyF rs cmd).isSome := by
  unfold Wd.replyB replyIx replyF
  rw [h.reps]
  exact ix_some _ _
theorem Corr.fileD (h : Corr st rs) (name : ByteArray) : (st.files name.data.toList).getD ⟨#[]⟩ = ((fileF rs name).getD (⟨#[]⟩, ⟨#[]⟩)).2 := by
  rw [h.files]; cases fileF rs name <;> rfl
theorem Corr.fileS (h : Corr st rs) (name : ByteArray) : (st.files name.data.toList).isSome = (fileF rs name).isSome := by
  rw [h.files]; cases fileF rs name <;> rfl
theorem key_inj {a b : ByteArray} : (a.data.toList = b.data.toList) ↔ a = b := ⟨fun h => ByteArray.ext (Array.toList_inj.1 h), fun h => by rw [h]⟩
theorem find_with (l : List (ByteArray × ByteArray)) (name data x : ByteArray) : ((withL l name data).find? (isFile x)).map (·.2) = if x = name then some data else (l.find? (isFile x)).map (·.2) := by
  unfold withL
  rw [List.find?_append]
  have hm : ((l.map (withP name data)).find? (isFile x)).map (·.2) = if x = name then (l.find? (isFile x)).map (fun _ => data) else (l.find? (isFile x)).map (·.2) := by
    induction l with
    | nil => simp
    | cons a l ih =>
      rw [List.map_cons, List.find?_cons, List.find?_cons]
      have e : isFile x (withP name data a) = isFile x a := by unfold withP isFile; split <;> rfl
      rw [e]
      cases hp : isFile x a with
      | true =>
        have hx : a.1 = x := of_decide_eq_true hp
        by_cases hn : x = name
        · rw [if_pos hn]; simp [withP, hx, hn]
        · rw [if_neg hn]; simp [withP, hx, hn]
      | false => exact ih
  by_cases hx : x = name
  · subst hx
    rw [if_pos rfl] at hm ⊢
    cases hf : l.find? (isFile x) with
    | some p =>
      rw [hf] at hm
      obtain ⟨q, hq, hq2⟩ := Option.map_eq_some_iff.1 hm
      rw [hq]
      simpa using hq2
    | none =>
      rw [hf] at hm
      have hn : (l.map (withP x data)).find? (isFile x) = none := by simpa using hm
      have ha : l.any (isFile x) = false := by
        rw [List.any_eq_false]
        intro y hy
        have := List.find?_eq_none.1 hf y hy
        simpa using this
      rw [hn, ha]
      simp [isFile]
  · rw [if_neg hx] at hm ⊢
    rw [← hm]
    cases hf : (l.map (withP name data)).find? (isFile x) with
    | some p => rfl
    | none =>
      have hne : ¬ name = x := fun e => hx e.symm
      split <;> simp [isFile, hne]
theorem names_with (l : List (ByteArray × ByteArray)) (name data : ByteArray) (h : (l.map (·.1)).Nodup) : ((withL l name data).map (·.1)).Nodup := by
  unfold withL
  have e : (l.map (withP name data)).map (·.1) = l.map (·.1) := by
    rw [List.map_map]
    apply List.map_congr_left
    intro p _
    simp only [Function.comp, withP]
    split <;> rfl
  rw [List.map_append, e]
  cases ha : l.any (isFile name) with
  | true => simpa using h
  | false =>
    rw [List.nodup_append]
    refine ⟨h, by simp, ?_⟩
    intro a ha' b hb
    simp at hb
    subst hb
    obtain ⟨p, hp, rfl⟩ := List.mem_map.1 ha'
    intro e2
    rw [List.any_eq_false] at ha
    exact ha p hp (decide_eq_true e2)
theorem Corr.put (h : Corr st rs) (name data : ByteArray) : Corr { st with files := setF st.files name.data.toList data } { rs with files := withL rs.files name data } :=
  { h with
    files := fun x => by
      show setF st.files name.data.toList data x.data.toList = ((withL rs.files name data).find? (isFile x)).map (·.2)
      rw [find_with, ← show st.files x.data.toList = (rs.files.find? (isFile x)).map (·.2) from h.files x]
      unfold setF
      by_cases hx : x = name
      · rw [if_pos hx, if_pos (key_inj.2 hx)]
      · rw [if_neg hx, if_neg (fun e => hx (key_inj.1 e))]
    nodup := names_with _ _ _ h.nodup }
theorem Corr.event (h : Corr st rs) (e : Ev) : Corr (st.traced e) { rs with events := rs.events ++ [e] } :=
  { h with trace := by show st.trace ++ [e] = _; rw [h.trace] }
theorem Corr.push (h : Corr st rs) (k : Int) (name s : ByteArray) : Corr { st with opn := st.opn ++ [⟨k, name, s⟩] } { rs with opn := rs.opn ++ [⟨k, name, s, 0⟩] } :=
  { h with
    opn := by
      show st.opn ++ [_] = _
      rw [h.opn, List.map_append]
      simp [smOf, ByteArray.extract_zero_size]
    tks := fun x hx => by
      rcases List.mem_append.1 hx with hx | hx
      · exact h.tks x hx
      · simp at hx; subst hx; exact Nat.zero_le _ }
theorem Corr.open (h : Corr st rs) (k : Int) (name : ByteArray) : (openL st k name).2 = (openD rs k name).2 ∧ Corr (openL st k name).1 (openD rs k name).1 := by
  unfold openL openD
  have e3 : (st.lim ≤ (st.opn.length : Int)) ↔ (rs.lim ≤ (rs.opn.length : Int)) := by rw [h.lim, h.opn, List.length_map]
  rw [h.find, h.fail, h.fileS]
  split
  · exact ⟨rfl, h⟩
  split
  · exact ⟨rfl, h⟩
  by_cases hc : rs.lim ≤ (rs.opn.length : Int)
  · rw [if_pos hc, if_pos (e3.2 hc)]; exact ⟨rfl, h⟩
  rw [if_neg hc, if_neg (fun e => hc (e3.1 e))]
  split
  · exact ⟨rfl, h⟩
  refine ⟨rfl, ?_⟩
  have e1 : openLeft st k name = openS rs k name := by unfold openLeft openS; rw [h.fileD, h.replyR]
  rw [e1]
  have hf : Corr { st with files := openFiles st k name } { rs with files := openF rs k name } := by
    unfold openFiles openF
    split
    · exact h.put name _
    split
    · rw [h.fileD]; exact h.put name _
    · exact h
  exact (hf.push k name (openS rs k name)).event _
theorem Corr.system (h : Corr st rs) (cmd : ByteArray) : failB st 4 cmd = rs.fails.any (isFl 4 cmd) ∧ sysN st cmd = sysR rs cmd ∧ Corr (st.traced ⟨4, 0, cmd, ⟨#[]⟩, sysN st cmd⟩) { rs with events := rs.events ++ [⟨4, 0, cmd, ⟨#[]⟩, sysR rs cmd⟩] } := by
  have e : sysN st cmd = sysR rs cmd := by unfold sysN sysR; rw [h.replyB, h.replyR]
  exact ⟨h.fail _ _, e, by rw [e]; exact h.event _⟩
theorem Corr.chanced (h : Corr st rs) : Corr { st with chance := chanceW st.chance } { rs with num := chanceW rs.num } := { h with chance := by show chanceW st.chance = _; rw [h.chance] }
theorem Corr.closeK (h : Corr st rs) (name : ByteArray) (n : Nat) : (Wd.closeK st name n).2 = (closeRK rs name n).2 ∧ Corr (Wd.closeK st name n).1 (closeRK rs name n).1 := by
  induction n with
  | zero => exact ⟨rfl, h⟩
  | succ n ih =>
    unfold Wd.closeK closeRK
    have e : ∀ k : Nat, closeX st name k = statR rs (k : Int) name := fun k => by
      unfold closeX statR
      rw [h.replyR]
      have : (k = 2 ∨ k = 5) ↔ ((k : Int) = 2 ∨ (k : Int) = 5) := by omega
      simp only [this]
    rw [h.find, e]
    split
    · exact ⟨rfl, ih.2.event _⟩
    · exact ih
theorem Corr.close (h : Corr st rs) (name : ByteArray) : (closeL st name).2 = (closeD rs name).2 ∧ Corr (closeL st name).1 (closeD rs name).1 := by
  obtain ⟨h1, h2⟩ := h.closeK name 5
  refine ⟨h1, { h2 with opn := ?_, tks := ?_ }⟩
  · show st.opn.filter _ = (rs.opn.filter (keptR name)).map smOf
    rw [h.opn, List.filter_map]
    rfl
  · intro s hs
    exact h.tks s (List.mem_filter.1 hs).1
def seqL (st : St) : Nat → St
  | 0 => st
  | n + 1 => match (seqL st n).opn with
    | [] => seqL st n
    | m :: _ => (closeL (seqL st n) m.name).1
def seqD (rs : RSt) : Nat → RSt
  | 0 => rs
  | n + 1 => match (seqD rs n).opn with
    | [] => seqD rs n
    | m :: _ => (closeD (seqD rs n) m.name).1
theorem seqL_stay {n : Nat} (h : (seqL st n).opn = []) (m : Nat) : seqL st (n + m) = seqL st n := by
  induction m with
  | zero => rfl
  | succ m ih => show (match (seqL st (n + m)).opn with | [] => seqL st (n + m) | x :: _ => (closeL (seqL st (n + m)) x.name).1) = _; rw [ih, h]
theorem seqD_stay {n : Nat} (h : (seqD rs n).opn = []) (m : Nat) : seqD rs (n + m) = seqD rs n := by
  induction m with
  | zero => rfl
  | succ m ih => show (match (seqD rs (n + m)).opn with | [] => seqD rs (n + m) | x :: _ => (closeD (seqD rs (n + m)) x.name).1) = _; rw [ih, h]
theorem closedTo_seq (h : ClosedTo st st') : ∃ n, st' = seqL st n := by
  induction h with
  | refl => exact ⟨0, rfl⟩
  | step _ ho ih =>
    obtain ⟨n, rfl⟩ := ih
    exact ⟨n + 1, by show _ = (match (seqL st n).opn with | [] => _ | m :: _ => _); rw [ho]⟩
theorem closedR_seq (h : ClosedR rs rs') : ∃ n, rs' = seqD rs n := by
  induction h with
  | refl => exact ⟨0, rfl⟩
  | step _ ho ih =>
    obtain ⟨n, rfl⟩ := ih
    exact ⟨n + 1, by show _ = (match (seqD rs n).opn with | [] => _ | m :: _ => _); rw [ho]⟩
theorem Corr.seq (h : Corr st rs) (n : Nat) : Corr (seqL st n) (seqD rs n) := by
  induction n with
  | zero => exact h
  | succ n ih =>
    unfold seqL seqD
    have ho := ih.opn
    cases hr : (seqD rs n).opn with
    | nil => rw [hr] at ho; rw [ho]; exact ih
    | cons m r => rw [hr] at ho; rw [ho]; exact (ih.close m.name).2
theorem Corr.closeAll (h : Corr st rs) (h1 : ClosedTo st st') (e1 : st'.opn = []) (h2 : ClosedR rs rs') (e2 : rs'.opn = []) : Corr st' rs' := by
  obtain ⟨n, rfl⟩ := closedTo_seq h1
  obtain ⟨m, rfl⟩ := closedR_seq h2
  rw [← seqL_stay e1 m, ← seqD_stay e2 n, Nat.add_comm m n]
  exact h.seq _
theorem cut_eq {n : Int} (s : ByteArray) (hn : ¬ n < 1) : cutR n s = s.extract 0 (cutN n s) := by
  unfold cutR cutN
  split
  · rw [Nat.min_eq_left (by omega)]
  · rw [Nat.min_eq_right (by omega), ByteArray.extract_zero_size]
theorem cut_size {n : Int} (s : ByteArray) (hn : ¬ n < 1) : (cutR n s).size = cutN n s := by
  rw [cut_eq s hn, ByteArray.size_extract]
  unfold cutN
  omega
theorem cut_rest (s : ByteArray) (t c : Nat) (ht : t ≤ s.size) (hc : c ≤ (s.extract t s.size).size) : (s.extract t s.size).extract c (s.extract t s.size).size = s.extract (t + c) s.size := by
  rw [ByteArray.size_extract] at *
  rw [ByteArray.extract_extract]
  congr 1
  omega
theorem Corr.read (h : Corr st rs) (k : Int) (name : ByteArray) (n : Int) : (readL st k name n).2 = (readD rs k name n).2 ∧ Corr (readL st k name n).1 (readD rs k name n).1 := by
  unfold readL readD
  rw [h.find, h.fail]
  by_cases hk : k = 1 ∨ k = 2
  · rw [if_neg (not_not_intro hk)]
    cases hf : findF rs k name with
    | none => exact ⟨rfl, h⟩
    | some i =>
      have hil : i < rs.opn.length := (List.findIdx?_eq_some_iff_getElem.1 hf).1
      simp only
      rw [if_neg (show ¬ (k ≠ 1 ∧ k ≠ 2) by omega)]
      split
      · exact ⟨rfl, h⟩
      rename_i hn
      split
      · exact ⟨rfl, h⟩
      split
      · rw [← h.stdin, cut_eq _ hn, ← cut_eq _ hn, cut_size _ hn, cut_eq _ hn]
        refine ⟨rfl, { h with tk := ?_, stdin := ?_ }⟩
        · have h1 : cutN n st.stdin ≤ st.stdin.size := Nat.min_le_right _ _
          have h2 := h.stdin
          have h3 : st.stdin.size = rs.stdin.size - rs.taken := by rw [h2, ByteArray.size_extract]; omega
          have := h.tk
          show rs.taken + cutN n st.stdin ≤ rs.stdin.size
          omega
        · show st.stdin.extract (cutN n st.stdin) st.stdin.size = rs.stdin.extract (rs.taken + cutN n st.stdin) rs.stdin.size
          have h1 : cutN n st.stdin ≤ st.stdin.size := Nat.min_le_right _ _
          generalize hc : cutN n st.stdin = c at *
          rw [h.stdin] at h1 ⊢
          exact cut_rest _ _ _ h.tk h1
      · have e1 : st.opn.getD i smZero = smOf (rs.opn.getD i smZ) := by
          rw [h.opn]
          simp [List.getD_eq_getElem?_getD, List.getElem?_map, List.getElem?_eq_getElem hil]
        have hm : rs.opn.getD i smZ ∈ rs.opn := by
          simp [List.getD_eq_getElem?_getD, List.getElem?_eq_getElem hil]
        have ht := h.tks _ hm
        rw [e1]
        generalize rs.opn.getD i smZ = x at *
        obtain ⟨xk, xn, xs, xt⟩ := x
        simp only [smOf] at *
        have hcs := cut_size (xs.extract xt xs.size) hn
        have hce := cut_eq (xs.extract xt xs.size) hn
        have hle : cutN n (xs.extract xt xs.size) ≤ (xs.extract xt xs.size).size := Nat.min_le_right _ _
        have hcr := cut_rest xs xt _ ht hle
        refine ⟨by rw [hce], { h with opn := ?_, tks := ?_ }⟩
        · show setAtL st.opn i _ = (rs.opn.set i _).map smOf
          unfold setAtL
          rw [e1, h.opn, List.map_set]
          congr 1
          simp only [takenR, smOf, hcs, hcr]
        · intro s hs
          rcases List.mem_or_eq_of_mem_set hs with h1 | h1
          · exact h.tks s h1
          · subst h1
            show xt + (cutR n (xs.extract xt xs.size)).size ≤ xs.size
            rw [hcs]
            rw [ByteArray.size_extract] at hle
            omega
  · rw [if_pos hk]
    cases hf : findF rs k name with
    | none => exact ⟨rfl, h⟩
    | some i => simp only; rw [if_pos (show k ≠ 1 ∧ k ≠ 2 by omega)]; exact ⟨rfl, h⟩
/-- Write, as the program does it. -/
def writeS (st : St) (k : Int) (name data : ByteArray) : St × Int :=
  if k ≠ 6 ∧ ((k ≠ 3 ∧ k ≠ 4 ∧ k ≠ 5) ∨ Wd.find st k name = none) then (st, 16)
  else if failB st 3 (if k = 6 then ⟨#[]⟩ else name) = true then (st, 14)
  else if data.size = 0 then (st, 0)
  else (({ st with files := if k = 3 ∨ k = 4 then setF st.files name.data.toList ((st.files name.data.toList).getD ⟨#[]⟩ ++ data) else st.files } : St).traced ⟨2, k, (if k = 6 then ⟨#[]⟩ else name), data, 0⟩, 0)
theorem Corr.write (h : Corr st rs) (k : Int) (name data : ByteArray) : (writeS st k name data).2 = (writeD rs k name data).2 ∧ Corr (writeS st k name data).1 (writeD rs k name data).1 := by
  unfold writeS writeD
  rw [h.find, h.fail, h.fileD]
  generalize (if k = 6 then (⟨#[]⟩ : ByteArray) else name) = nm
  split
  · exact ⟨rfl, h⟩
  split
  · exact ⟨rfl, h⟩
  split
  · exact ⟨rfl, h⟩
  refine ⟨rfl, ?_⟩
  by_cases hk : k = 3 ∨ k = 4
  · rw [if_pos hk, if_pos hk]; exact (h.put name _).event _
  · rw [if_neg hk, if_neg hk]; exact Corr.event (st := { st with files := st.files }) h _
end Wd
end Go.Proofs.Ytodjjnklelfgfaa
