/- The kit's HugeExpr. -/
import Derived.Test.YtmapjahpjolmnaaGreatDoorG22
import Derived.Test.YtmapjahpjolmnaaGreatDoorG23
import Derived.Test.YtmapjahpjolmnaaGreatDoorG18
import Derived.Deep.QuietTactic
set_option linter.unusedVariables false
set_option linter.unusedSimpArgs false
namespace Go.Proofs.YtmapjahpjolmnaaGreatDoor
open Go.RowKit Tr
set_option maxRecDepth 20000
def HgB (nb : Nat) (w : World) (e : Ending) (w' : World) : Prop := ∃ hb, e = .returned (.bool hb) ∧ Tur (· = nb) w w'
def HgX (w : World) (e : Ending) (w' : World) : Prop := ∃ hb, e = .returned (.bool hb) ∧ Below w.heap.size w w'
set_option maxHeartbeats 4000000 in
theorem w_huge1 {w : World} {X nb Bd : Nat} (e : XE) {kv : Value} (hc : ecells w X 0 e kv) (hX : X ≠ nb) (hXs : X < w.heap.size) (hk : EsAt w Bd e.kids kv) (hBd : Bd ≤ w.heap.size) (hBn : Bd ≤ nb) (hnb : Blk w nb 3 #[.int .i64 0]) (hok : e.Ok) (hz : numEs e.kids ≤ 1500000) :
    Calls Tryz.prog 15 #[.slice (some ⟨X, 0, none⟩) 1 1, .int .i64 100, .int .i64 3000, .pointer (some ⟨nb, 0, none⟩)] w (HgB nb w) := by
  have hN1 : Blk (w.setCell ⟨nb, 0, none⟩ (.int .i64 1)) nb 3 #[.int .i64 1] := by simpa using hnb.set 0 (.int .i64 1)
  have HN1 := Lib.hid hN1
  have HT1 : Hid (Tur (· = nb) w (w.setCell ⟨nb, 0, none⟩ (.int .i64 1))) := Tur.of_set ⟨nb, 0, none⟩ _
  have x0 : w.cell? ⟨nb, 0, none⟩ = some (.int .i64 0) := hnb.cell 0
  have f0 := hnb.free 0
  have HC := Lib.hid hc
  have HK := Lib.hid hk
  have HOK := Lib.hid hok
  have HBd := Lib.hid hBd
  have HBn := Lib.hid hBn
  have HZ := Lib.hid hz
  clear hN1 hc hk hok hBd hBn hnb hz
  go_enter Tryz.func15, Tryz.ntmps15
  go_upto_region 4 with (fail)
  generalize w.setCell ⟨nb, 0, none⟩ (.int .i64 1) = w1 at *
  clear x0 f0
  go_wp2_with fail
  go_loopw [9] (fun v wr => ∃ i : Nat, v = .int .i64 i ∧ i ≤ 1 ∧ Tur (· = nb) w wr ∧ (i = 0 → Blk wr nb 3 #[.int .i64 1])) (fun v _ => 1 - (intOf v).toNat)
  case atStart => exact ⟨0, rfl, Nat.zero_le _, HT1.out, fun _ => HN1.out⟩
  case round =>
    obtain ⟨i, rfl, hi, htr, hbr⟩ := hrel
    have HTR := Lib.hid htr
    have HBR := Lib.hid hbr
    clear htr hbr
    by_cases hlt : i < 1
    · obtain rfl : i = 0 := by omega
      have hxk : wr.heap[X]? = w.heap[X]? := HTR.out.block X hXs hX
      obtain ⟨y0, y1, y2, y3⟩ : ecells wr X 0 e kv := by
        have h := HC.out
        unfold ecells at h ⊢
        simp only [cell_blk hxk]
        exact h
      have hbw : Below Bd w wr := HTR.out.below Bd HBd.out (fun k hk e => by have := HBn.out; omega)
      have hs := HOK.out.2.1
      have hss : e.s.size < 9223372036854775808 := by unfold maxLen at hs; omega
      have HCALL := Lib.hid (w_hugeE (HK.out.keep hbw) 99 3000 1 wr nb (Below.refl Bd wr) (Nat.le_trans HBd.out HTR.out.size) (HBR.out rfl) HBn.out (by decide) (by have := HZ.out; omega) (by decide) (by decide) (by decide) (by decide))
      obtain ⟨A1, c1, e1, -, -⟩ := HK.out.form
      subst e1
      clear hxk hbw hs
      by_cases hsz : 2000 < e.s.size
      · go_wp2_with fail
        go_ret
        exact ⟨true, rfl, HTR.out⟩
      · go_wp2_with fail
        refine HCALL.out.mono ?_
        rintro en w2 ⟨hb, a2, rfl, hg⟩
        have HT2 : Hid (Tur (· = nb) w w2) := HTR.out.trans hg.tur (fun _ _ h => h)
        clear hg y0 y1 y2 y3
        cases hb
        · go_wp2_with fail
          go_roundw
          case rel => exact ⟨1, by go_num, Nat.le_refl _, HT2.out, fun h => by omega⟩
          case measure => simp [intOf]
        · go_wp2_with fail
          go_ret
          exact ⟨true, rfl, HT2.out⟩
    · obtain rfl : i = 1 := by omega
      go_wp2_with fail
      go_ret
      exact ⟨false, rfl, HTR.out⟩
set_option maxHeartbeats 4000000 in
theorem w_HugeExpr {w : World} (e : XE) {A : Option Addr} {c : Nat} (h : EsAt w w.heap.size e.kids (.slice A e.kids.length c)) (hok : e.Ok) (hz : numE e ≤ 1500000) :
    Calls Tryz.prog 5 #[.agg #[.int .u8 e.k, .string e.s, .int .u64 e.n, .slice A e.kids.length c], .int .i64 100, .int .i64 3000] w (HgX w) := by
  obtain ⟨w3, hw3, hb3, hx3, hn3, ha3, hsz⟩ := three_new w 29 3 29 #[.int .u8 e.k, .string e.s, .int .u64 e.n, .slice A e.kids.length c] #[.int .i64 0] #[.int .u8 e.k, .string e.s, .int .u64 e.n, .slice A e.kids.length c]
  have HW3 := Lib.hid hw3
  have hnz : numEs e.kids ≤ 1500000 := by have := numE_eq e; omega
  have HCALL := Lib.hid (w_huge1 (w := w3) (X := w.heap.size + 1 + 1) (nb := w.heap.size + 1) (Bd := w.heap.size) e (kv := .slice A e.kids.length c) ⟨ha3.cell 0, ha3.cell 1, ha3.cell 2, ha3.cell 3⟩ (by omega) (by omega) (h.keep hb3) hb3.size (by omega) hn3 hok hnz)
  have HB3 := Lib.hid hb3
  clear hw3 hb3 hx3 hn3 ha3 hsz h hok hz hnz
  go_enter Tryz.func5, Tryz.ntmps5
  go_wp2_with fail
  rw [← HW3.out]
  refine HCALL.out.mono ?_
  rintro en w4 ⟨hb, rfl, ht⟩
  have HB4 : Hid (Below w.heap.size w w4) := HB3.out.trans (ht.below _ HB3.out.size (fun k hk e => by omega))
  clear ht HCALL HW3
  go_wp2_with fail
  go_ret
  exact ⟨hb, rfl, HB4.out⟩
end Go.Proofs.YtmapjahpjolmnaaGreatDoor
namespace Go.Proofs.YtmapjahpjolmnaaGreatDoor
open Go.RowKit Tr
set_option maxRecDepth 20000
def Yes (w : World) (e : Ending) (w' : World) : Prop := e = .returned (.bool true) ∧ Below w.heap.size w w'
set_option maxHeartbeats 2000000 in
theorem w_sameT {w : World} {Bd : Nat} {l : List ByteArray} {v v' : Value} (h1 : TsAt w Bd l v) (h2 : TsAt w Bd l v') (hB : Bd ≤ w.heap.size) :
    Calls Tryz.prog 37 #[v, v'] w (Yes w) := by
  obtain ⟨A, cap, rfl, hc, hm, hat⟩ := h1.form
  obtain ⟨A', cap', rfl, hc', hm', hat'⟩ := h2.form
  have HAT := Lib.hid hat
  have HAT' := Lib.hid hat'
  have hcl : cap < 9223372036854775808 := by unfold maxLen at hm; omega
  clear h1 h2 hat hat'
  go_enter Tryz.func37, Tryz.ntmps37
  go_wp2_with fail
  go_loopw [5] (fun i0 wr => ∃ k : Nat, k ≤ l.length ∧ i0 = .int .i64 k ∧ Below w.heap.size w wr) (fun i0 wr => l.length - (intOf i0).toNat)
  case atStart => exact ⟨0, Nat.zero_le _, rfl, Below.refl _ _⟩
  case round =>
    obtain ⟨k, hk, rfl, hb⟩ := hrel
    have HB := Lib.hid hb
    by_cases hlt : k < l.length
    · obtain ⟨b, o, rfl, hbB, hcells⟩ := HAT.out (by omega)
      obtain ⟨b', o', rfl, hbB', hcells'⟩ := HAT'.out (by omega)
      have y0 : wr.cell? ⟨b, o + k, none⟩ = some (.string l[k]) := by rw [cell_keep (hb.mono hB) hbB]; exact hcells k hlt
      have y1 : wr.cell? ⟨b', o' + k, none⟩ = some (.string l[k]) := by rw [cell_keep (hb.mono hB) hbB']; exact hcells' k hlt
      clear hcells hcells' hb
      go_wp2_with fail
      go_quiet (fail)
      go_wp2_with fail
      go_roundw
      case rel => exact ⟨k + 1, by omega, by go_num, drewN_B _ HB.out⟩
      case measure => simp [intOf]; omega
    · clear hb
      go_wp2_with fail
      go_ret
      exact ⟨rfl, HB.out⟩
set_option maxHeartbeats 2000000 in
theorem w_same1 {w : World} (e : XE) (A A' : Option Addr) (n n' c c' : Nat)
    (ih : ∀ w', Below w.heap.size w w' → Calls Tryz.prog 38 #[.slice A n c, .slice A' n' c'] w' (Yes w')) :
    Calls Tryz.prog 55 #[.agg #[.int .u8 e.k, .string e.s, .int .u64 e.n, .slice A n c], .agg #[.int .u8 e.k, .string e.s, .int .u64 e.n, .slice A' n' c']] w (Yes w) := by
  have HIH := Lib.hid ih
  clear ih
  obtain ⟨w2, hw2, hb2, hx, hy, -⟩ := two_new w 29 29 #[.int .u8 e.k, .string e.s, .int .u64 e.n, .slice A n c] #[.int .u8 e.k, .string e.s, .int .u64 e.n, .slice A' n' c']
  have HW2 := Lib.hid hw2
  have HB2 := Lib.hid hb2
  have HX := Lib.hid hx
  have HY := Lib.hid hy
  clear hw2 hb2 hx hy
  go_enter Tryz.func55, Tryz.ntmps55
  go_upto_region 1 with (fail)
  rw [← HW2.out]
  clear HW2
  obtain ⟨Y, hY⟩ : ∃ x, x = w.heap.size + 1 := ⟨_, rfl⟩
  rw [← hY] at HY ⊢
  clear hY
  have x0 : w2.cell? ⟨w.heap.size, 0, none⟩ = some (.int .u8 e.k) := HX.out.cell 0
  have x1 : w2.cell? ⟨w.heap.size, 1, none⟩ = some (.string e.s) := HX.out.cell 1
  have x2 : w2.cell? ⟨w.heap.size, 2, none⟩ = some (.int .u64 e.n) := HX.out.cell 2
  have x3 : w2.cell? ⟨w.heap.size, 3, none⟩ = some (.slice A n c) := HX.out.cell 3
  have y0 : w2.cell? ⟨Y, 0, none⟩ = some (.int .u8 e.k) := HY.out.cell 0
  have y1 : w2.cell? ⟨Y, 1, none⟩ = some (.string e.s) := HY.out.cell 1
  have y2 : w2.cell? ⟨Y, 2, none⟩ = some (.int .u64 e.n) := HY.out.cell 2
  have y3 : w2.cell? ⟨Y, 3, none⟩ = some (.slice A' n' c') := HY.out.cell 3
  go_wp2_with fail
  refine (HIH.out w2 HB2.out).mono ?_
  rintro en w3 ⟨rfl, hb3⟩
  have HB3 := Lib.hid (HB2.out.trans (hb3.mono HB2.out.size))
  clear hb3 x0 x1 x2 x3 y0 y1 y2 y3
  go_wp2_with fail
  go_ret
  exact ⟨rfl, HB3.out⟩
set_option maxHeartbeats 2000000 in
theorem w_sameE {w0 : World} {Bd : Nat} {l : List XE} {v : Value} (h : EsAt w0 Bd l v) : ∀ {v' : Value}, EsAt w0 Bd l v' → ∀ (w : World), Below Bd w0 w → Bd ≤ w0.heap.size → Calls Tryz.prog 38 #[v, v'] w (Yes w) := by
  induction h with
  | @mk l A cap kv hc hm hat hok hk ih =>
    intro v' h' w hbl hB0
    cases h' with
    | @mk _ A' cap' kv' hc' hm' hat' hok' hk' =>
    have HAT := Lib.hid hat
    have HAT' := Lib.hid hat'
    have HIH := Lib.hid ih
    have HK := Lib.hid hk
    have HK' := Lib.hid hk'
    have HBL := Lib.hid hbl
    have HB0 := Lib.hid hB0
    have hcl : cap < 9223372036854775808 := by unfold maxLen at hm; omega
    clear hat hat' ih hk hk' hok hok' hbl hB0
    go_enter Tryz.func38, Tryz.ntmps38
    go_wp2_with fail
    go_loopw [5] (fun i0 wr => ∃ k : Nat, k ≤ l.length ∧ i0 = .int .i64 k ∧ Below w.heap.size w wr) (fun i0 wr => l.length - (intOf i0).toNat)
    case atStart => exact ⟨0, Nat.zero_le _, rfl, Below.refl _ _⟩
    case round =>
      obtain ⟨k, hkl, rfl, hb⟩ := hrel
      have HB := Lib.hid hb
      clear hb
      by_cases hlt : k < l.length
      · have HBW : Hid (Below Bd w0 wr) := HBL.out.trans (HB.out.mono (Nat.le_trans HB0.out HBL.out.size))
        obtain ⟨b, o, rfl, hbB, hcells⟩ := HAT.out (by omega)
        obtain ⟨b', o', rfl, hbB', hcells'⟩ := HAT'.out (by omega)
        have hcc := hcells k hlt
        have hcc' := hcells' k hlt
        obtain ⟨A1, c1, e1, -, -⟩ := (HK.out k hlt).form
        obtain ⟨A2, c2, e2, -, -⟩ := (HK'.out k hlt).form
        have hih := fun wb (hb : Below Bd w0 wb) => HIH.out k hlt (HK'.out k hlt) wb hb HB0.out
        rw [e1] at hcc hih
        rw [e2] at hcc' hih
        generalize l[k] = x at *
        have HC := Lib.hid (fun wb (hb : Below Bd w0 wb) => w_same1 (w := wb) x A1 A2 x.kids.length x.kids.length c1 c2 (fun w' hb' => hih w' (hb.trans (hb'.mono (Nat.le_trans HB0.out hb.size)))))
        clear hcells hcells' hih e1 e2
        have HCC := Lib.hid (And.intro hcc hcc')
        clear hcc hcc'
        go_upto_region 6 with (fail)
        refine wp_region_noPanic ?_
        refine wp_region_pf (fun wd => Below wr.heap.size wr wd) 8 [(0, 2), (1, 2), (2, 2), (3, 1), (4, 2), (5, 2), (6, 2), (7, 1), (8, 3), (9, 3)] (by kernel_rfl) (by kernel_rfl) (fun _ _ _ _ _ h => h) (drew_B _) ?_
        simp only [pfO, List.filterMap_cons, List.filterMap_nil, List.getElem?_toArray, List.getElem?_cons_zero, List.getElem?_cons_succ, Option.map_some]
        iterate 8 (first
          | (refine pf_pure ?_ (fun wd M hM => ?_) ?_ ?_
             rotate_left
             · (have HM := Lib.hid hM; clear hM; go_wp2_with fail; exact HM.out)
             · rfl)
          | (refine pf_read ?_ (fun wd hS M hM => ?_) ?_ ?_
             rotate_left
             · have hbw := HBW.out.trans (hS.mono (Nat.le_trans HB0.out HBW.out.size))
               obtain ⟨y0, y1, y2, y3⟩ := HCC.out.1.keep hbw hbB
               obtain ⟨z0, z1, z2, z3⟩ := HCC.out.2.keep hbw hbB'
               clear hbw hS
               (have HM := Lib.hid hM; clear hM; go_wp2_with fail; exact HM.out)
             · rfl))
        refine pf_last (fun M hM => ?_)
        have HM := Lib.hid hM
        clear hM
        go_wp2_with fail
        refine (HC.out wr.drew (HBW.out.trans (drew_B _))).mono ?_
        rintro en w5 ⟨rfl, hb5⟩
        have HB5 : Hid (Below wr.heap.size wr w5) := (drew_B wr).trans hb5
        clear hb5
        go_wp2_with fail
        refine HM.out _ _ ?_
        clear HM M
        refine pf_last (fun M hM => ?_)
        have HM := Lib.hid hM
        clear hM
        go_wp2_with fail
        refine HM.out _ _ ?_
        clear HM M
        refine NoPanic.normal (?_ : _)
        go_wp2_with fail
        go_roundw
        case rel => exact ⟨k + 1, by omega, by go_num, HB.out.trans (HB5.out.mono HB.out.size)⟩
        case measure => simp [intOf]; omega
      · go_wp2_with fail
        go_ret
        exact ⟨rfl, HB.out⟩
end Go.Proofs.YtmapjahpjolmnaaGreatDoor
namespace Go.Proofs.YtmapjahpjolmnaaGreatDoor
open Go.RowKit Tr
set_option maxRecDepth 20000
theorem Blk.set7 {w : World} {g : Nat} {t : TypeId} {a b c d e f h : Value} (hb : Blk w g t #[a, b, c, d, e, f, h]) (a' b' c' d' e' f' h' : Value) : Blk (((((((w.setCell ⟨g, 0, none⟩ a').setCell ⟨g, 1, none⟩ b').setCell ⟨g, 2, none⟩ c').setCell ⟨g, 3, none⟩ d').setCell ⟨g, 4, none⟩ e').setCell ⟨g, 5, none⟩ f').setCell ⟨g, 6, none⟩ h') g t #[a', b', c', d', e', f', h'] := by
  have := ((((((hb.set 0 a').set 1 b').set 2 c').set 3 d').set 4 e').set 5 f').set 6 h'
  simpa using this
theorem Tur.set7 {w : World} {g : Nat} (a b c d e f h : Value) : Tur (· = g) w (((((((w.setCell ⟨g, 0, none⟩ a).setCell ⟨g, 1, none⟩ b).setCell ⟨g, 2, none⟩ c).setCell ⟨g, 3, none⟩ d).setCell ⟨g, 4, none⟩ e).setCell ⟨g, 5, none⟩ f).setCell ⟨g, 6, none⟩ h) :=
  ((Tur.set5 (g := g) (i1 := 0) (i2 := 1) (i3 := 2) (i4 := 3) (i5 := 4) a b c d e).trans (Tur.of_set ⟨g, 5, none⟩ f) (fun i _ h => h)).trans (Tur.of_set ⟨g, 6, none⟩ h) (fun i _ h => h)
theorem Blk.seven {w : World} {R : Nat} {t : TypeId} {a b c d e f g : Value} (h : Blk w R t #[a, b, c, d, e, f, g]) : (w.cell? ⟨R, 0, none⟩ = some a ∧ w.cell? ⟨R, 1, none⟩ = some b ∧ w.cell? ⟨R, 2, none⟩ = some c ∧ w.cell? ⟨R, 3, none⟩ = some d ∧ w.cell? ⟨R, 4, none⟩ = some e ∧ w.cell? ⟨R, 5, none⟩ = some f ∧ w.cell? ⟨R, 6, none⟩ = some g) ∧
    (w.frozen? ⟨R, 0, none⟩ = false ∧ w.frozen? ⟨R, 1, none⟩ = false ∧ w.frozen? ⟨R, 2, none⟩ = false ∧ w.frozen? ⟨R, 3, none⟩ = false ∧ w.frozen? ⟨R, 4, none⟩ = false ∧ w.frozen? ⟨R, 5, none⟩ = false ∧ w.frozen? ⟨R, 6, none⟩ = false) :=
  ⟨⟨h.cell 0, h.cell 1, h.cell 2, h.cell 3, h.cell 4, h.cell 5, h.cell 6⟩, h.free 0, h.free 1, h.free 2, h.free 3, h.free 4, h.free 5, h.free 6⟩
set_option maxHeartbeats 4000000 in
theorem w_sameS {w0 : World} {Bd : Nat} {l : List XS} {v : Value} (h : SsAt w0 Bd l v) : ∀ {v' : Value}, SsAt w0 Bd l v' → ∀ (w : World), Below Bd w0 w → Bd ≤ w0.heap.size → Calls Tryz.prog 39 #[v, v', .bool true] w (Yes w) := by
  induction h with
  | @mk l A cap ev bv lv hc hm hat hok hee hbb hll ih1 ih2 =>
    intro v' h' w hbl hB0
    cases h' with
    | @mk _ A' cap' ev' bv' lv' hc' hm' hat' hok' hee' hbb' hll' =>
    have HAT := Lib.hid hat
    have HAT' := Lib.hid hat'
    have HIH1 := Lib.hid ih1
    have HIH2 := Lib.hid ih2
    have HEE := Lib.hid hee
    have HBB := Lib.hid hbb
    have HLL := Lib.hid hll
    have HEE' := Lib.hid hee'
    have HBB' := Lib.hid hbb'
    have HLL' := Lib.hid hll'
    have HBL := Lib.hid hbl
    have HB0 := Lib.hid hB0
    have hcl : cap < 9223372036854775808 := by unfold maxLen at hm; omega
    clear hat hat' ih1 ih2 hee hbb hll hee' hbb' hll' hok hok' hbl hB0
    go_enter Tryz.func39, Tryz.ntmps39
    go_wp2_with fail
    go_loopw [7] (fun i0 wr => ∃ k : Nat, k ≤ l.length ∧ i0 = .int .i64 k ∧ Below w.heap.size w wr) (fun i0 wr => l.length - (intOf i0).toNat)
    case atStart => exact ⟨0, Nat.zero_le _, rfl, Below.refl _ _⟩
    case round =>
      obtain ⟨k, hkl, rfl, hb⟩ := hrel
      have HB := Lib.hid hb
      clear hb
      by_cases hlt : k < l.length
      · have HBW : Hid (Below Bd w0 wr) := HBL.out.trans (HB.out.mono (Nat.le_trans HB0.out HBL.out.size))
        obtain ⟨b, o, rfl, hbB, hcells⟩ := HAT.out (by omega)
        obtain ⟨b', o', rfl, hbB', hcells'⟩ := HAT'.out (by omega)
        have hcc := hcells k hlt
        have hcc' := hcells' k hlt
        obtain ⟨A1, c1, e1, -, -⟩ := (HEE.out k hlt).form
        obtain ⟨A2, c2, e2, -, -⟩ := (HBB.out k hlt).form
        obtain ⟨A3, c3, e3, -, -⟩ := (HLL.out k hlt).form
        obtain ⟨D1, d1, g1, -, -⟩ := (HEE'.out k hlt).form
        obtain ⟨D2, d2, g2, -, -⟩ := (HBB'.out k hlt).form
        obtain ⟨D3, d3, g3, -, -⟩ := (HLL'.out k hlt).form
        have HC1 := Lib.hid (fun wb (hb : Below Bd w0 wb) => w_sameE (HEE.out k hlt) (HEE'.out k hlt) wb hb HB0.out)
        have HC2 := Lib.hid (fun wb (hb : Below Bd w0 wb) => HIH1.out k hlt (HBB'.out k hlt) wb hb HB0.out)
        have HC3 := Lib.hid (fun wb (hb : Below Bd w0 wb) => HIH2.out k hlt (HLL'.out k hlt) wb hb HB0.out)
        rw [e1] at hcc HC1
        rw [e2] at hcc HC2
        rw [e3] at hcc HC3
        rw [g1] at hcc' HC1
        rw [g2] at hcc' HC2
        rw [g3] at hcc' HC3
        unfold scellsT at hcc hcc'
        generalize l[k] = x at *
        clear hcells hcells' e1 e2 e3 g1 g2 g3
        have HCC := Lib.hid (And.intro hcc hcc')
        clear hcc hcc'
        go_upto_region 6 with (fail)
        refine wp_region_noPanic ?_
        refine wp_region_fork (fun wd => Below wr.heap.size wr wd) 11 [(0, 2), (1, 2), (2, 2), (3, 1), (4, 2), (5, 2), (6, 2), (7, 1)] 8 9 [(10, 0), (11, 3)] (by kernel_rfl) (by kernel_rfl) (fun _ _ _ _ _ h => h) (drew_B _) ?_
        simp only [pfO, List.filterMap_cons, List.filterMap_nil, List.getElem?_toArray, List.getElem?_cons_zero, List.getElem?_cons_succ, Option.map_some]
        iterate 8 (first
          | (refine pf_pure ?_ (fun wd M hM => ?_) ?_ ?_
             rotate_left
             · (have HM := Lib.hid hM; clear hM; go_wp2_with fail; exact HM.out)
             · rfl)
          | (refine pf_read ?_ (fun wd hS M hM => ?_) ?_ ?_
             rotate_left
             · have hbw := HBW.out.trans (hS.mono (Nat.le_trans HB0.out HBW.out.size))
               obtain ⟨⟨y0, y1, y2, y3, y4, y5, y6⟩, z0, z1, z2, z3, z4, z5, z6⟩ := HCC.out
               rw [← cell_keep hbw hbB] at y0 y1 y2 y3 y4 y5 y6
               rw [← cell_keep hbw hbB'] at z0 z1 z2 z3 z4 z5 z6
               clear hbw hS
               (have HM := Lib.hid hM; clear hM; go_wp2_with fail; exact HM.out)
             · rfl))
        obtain ⟨w2', hw2', hb2', hx2, hy2, hsz2⟩ := two_new wr 50 50 #[.int .u8 0, .string ⟨#[]⟩, .int .i64 0, .slice none 0 0, .slice none 0 0, .slice none 0 0, .int .i64 0] #[.int .u8 0, .string ⟨#[]⟩, .int .i64 0, .slice none 0 0, .slice none 0 0, .slice none 0 0, .int .i64 0]
        obtain ⟨w2, hw2⟩ : ∃ w2, w2 = w2'.drew := ⟨_, rfl⟩
        have hb2 : Below wr.heap.size wr w2 := by rw [hw2]; exact hb2'.trans (drew_B w2')
        have HX2 : Hid (Blk w2 wr.heap.size 50 #[.int .u8 0, .string ⟨#[]⟩, .int .i64 0, .slice none 0 0, .slice none 0 0, .slice none 0 0, .int .i64 0]) := by rw [hw2]; exact hx2
        have HY2 : Hid (Blk w2 (wr.heap.size + 1) 50 #[.int .u8 0, .string ⟨#[]⟩, .int .i64 0, .slice none 0 0, .slice none 0 0, .slice none 0 0, .int .i64 0]) := by rw [hw2]; exact hy2
        rw [hw2'] at hw2
        have HW2 := Lib.hid hw2
        have HB2 := Lib.hid hb2
        have HS1 : Hid (Below wr.heap.size wr (wr.drew.alloc (.cells #[.int .u8 0, .string ⟨#[]⟩, .int .i64 0, .slice none 0 0, .slice none 0 0, .slice none 0 0, .int .i64 0] 50))) := (drew_B wr).alloc (Nat.le_refl _) _
        obtain ⟨Y, hY⟩ : ∃ x, x = wr.heap.size + 1 := ⟨_, rfl⟩
        rw [← hY] at HY2
        have HYE := Lib.hid hY
        clear hw2 hb2 hY hx2 hy2 hsz2 hw2' hb2' w2'
        refine pf_fork (pf_two (fun M1 hM1 => ?_)) (pf_two (fun M1 hM1 => ?_))
        · have HM1 := Lib.hid hM1
          clear hM1
          go_wp2_with fail
          refine HM1.out _ _ HS1.out (fun M2 hM2 => ?_)
          clear HM1 M1
          have HM2 := Lib.hid hM2
          clear hM2
          go_wp2_with fail
          rw [← HW2.out]
          refine HM2.out _ _ HB2.out ?_
          clear HM2 M2 HW2
          rw [← HYE.out]
          have HX := HX2
          have HY := HY2
          have HNE : Hid (wr.heap.size ≠ Y ∧ wr.heap.size ≤ wr.heap.size ∧ wr.heap.size ≤ Y) := by have := HYE.out; exact ⟨by omega, by omega, by omega⟩
          clear HX2 HY2 HS1 HYE
          have hne := HNE.out
          obtain ⟨⟨q0, q1, q2, q3, q4, q5, q6⟩, f0, f1, f2, f3, f4, f5, f6⟩ := HX.out.seven
          have HX3 := Lib.hid (HX.out.set7 (.int .u8 x.k) (.string x.s) (.int .i64 x.n) (.slice A1 x.exprs.length c1) (.slice A2 x.body.length c2) (.slice A3 x.els.length c3) (.int .i64 x.line))
          have HT3 := Lib.hid (Tur.set7 (w := w2) (g := wr.heap.size) (.int .u8 x.k) (.string x.s) (.int .i64 x.n) (.slice A1 x.exprs.length c1) (.slice A2 x.body.length c2) (.slice A3 x.els.length c3) (.int .i64 x.line))
          refine pf_alone (fun M hM => ?_)
          have HM := Lib.hid hM
          clear hM hne
          go_wp2_with fail
          clear q0 q1 q2 q3 q4 q5 q6 f0 f1 f2 f3 f4 f5 f6
          generalize (((((((w2.setCell ⟨wr.heap.size, 0, none⟩ (.int .u8 x.k)).setCell ⟨wr.heap.size, 1, none⟩ (.string x.s)).setCell ⟨wr.heap.size, 2, none⟩ (.int .i64 x.n)).setCell ⟨wr.heap.size, 3, none⟩ (.slice A1 x.exprs.length c1)).setCell ⟨wr.heap.size, 4, none⟩ (.slice A2 x.body.length c2)).setCell ⟨wr.heap.size, 5, none⟩ (.slice A3 x.els.length c3)).setCell ⟨wr.heap.size, 6, none⟩ (.int .i64 x.line)) = w3 at HX3 HT3 ⊢
          have hne := HNE.out
          have HB3 : Hid (Below wr.heap.size wr w3) := HB2.out.trans (HT3.out.below _ HB2.out.size (fun k hk e => by omega))
          have HY3 := Lib.hid (HY.out.keep HT3.out (fun e => hne.1 e.symm))
          refine HM.out _ _ HB3.out ?_
          clear HM M hne HX HY HT3
          obtain ⟨⟨q0, q1, q2, q3, q4, q5, q6⟩, f0, f1, f2, f3, f4, f5, f6⟩ := HY3.out.seven
          have HY4 := Lib.hid (HY3.out.set7 (.int .u8 x.k) (.string x.s) (.int .i64 x.n) (.slice D1 x.exprs.length d1) (.slice D2 x.body.length d2) (.slice D3 x.els.length d3) (.int .i64 x.line))
          have HT4 := Lib.hid (Tur.set7 (w := w3) (g := Y) (.int .u8 x.k) (.string x.s) (.int .i64 x.n) (.slice D1 x.exprs.length d1) (.slice D2 x.body.length d2) (.slice D3 x.els.length d3) (.int .i64 x.line))
          refine pf_last (fun M hM => ?_)
          have HM := Lib.hid hM
          clear hM
          go_wp2_with fail
          clear q0 q1 q2 q3 q4 q5 q6 f0 f1 f2 f3 f4 f5 f6
          generalize (((((((w3.setCell ⟨Y, 0, none⟩ (.int .u8 x.k)).setCell ⟨Y, 1, none⟩ (.string x.s)).setCell ⟨Y, 2, none⟩ (.int .i64 x.n)).setCell ⟨Y, 3, none⟩ (.slice D1 x.exprs.length d1)).setCell ⟨Y, 4, none⟩ (.slice D2 x.body.length d2)).setCell ⟨Y, 5, none⟩ (.slice D3 x.els.length d3)).setCell ⟨Y, 6, none⟩ (.int .i64 x.line)) = w4 at HY4 HT4 ⊢
          have hne := HNE.out
          have HB4 : Hid (Below wr.heap.size wr w4) := HB3.out.trans (HT4.out.below _ HB3.out.size (fun k hk e => by omega))
          have HX4 := Lib.hid (HX3.out.keep HT4.out hne.1)
          refine HM.out _ _ ?_
          clear HM M hne HX3 HY3 HT4 HB3 HB2
          refine NoPanic.normal (?_ : _)
          have HBD : Hid (Bd ≤ wr.heap.size) := Nat.le_trans HB0.out HBW.out.size
          have x0 : w4.cell? ⟨wr.heap.size, 0, none⟩ = some (.int .u8 x.k) := HX4.out.cell 0
          have x1 : w4.cell? ⟨wr.heap.size, 1, none⟩ = some (.string x.s) := HX4.out.cell 1
          have x2 : w4.cell? ⟨wr.heap.size, 2, none⟩ = some (.int .i64 x.n) := HX4.out.cell 2
          have x3 : w4.cell? ⟨wr.heap.size, 3, none⟩ = some (.slice A1 x.exprs.length c1) := HX4.out.cell 3
          have x6 : w4.cell? ⟨wr.heap.size, 6, none⟩ = some (.int .i64 x.line) := HX4.out.cell 6
          have y0 : w4.cell? ⟨Y, 0, none⟩ = some (.int .u8 x.k) := HY4.out.cell 0
          have y1 : w4.cell? ⟨Y, 1, none⟩ = some (.string x.s) := HY4.out.cell 1
          have y2 : w4.cell? ⟨Y, 2, none⟩ = some (.int .i64 x.n) := HY4.out.cell 2
          have y3 : w4.cell? ⟨Y, 3, none⟩ = some (.slice D1 x.exprs.length d1) := HY4.out.cell 3
          have y6 : w4.cell? ⟨Y, 6, none⟩ = some (.int .i64 x.line) := HY4.out.cell 6
          go_wp2_with fail
          refine (HC1.out w4 (HBW.out.trans (HB4.out.mono HBD.out))).mono ?_
          rintro en w5 ⟨rfl, hb5⟩
          have HB5 : Hid (Below wr.heap.size wr w5) := HB4.out.trans (hb5.mono HB4.out.size)
          have HX5 := Lib.hid (HX4.out.keep (Tur.of_gr (F := fun _ => False) hb5) (fun h => h))
          have HY5 := Lib.hid (HY4.out.keep (Tur.of_gr (F := fun _ => False) hb5) (fun h => h))
          clear hb5 x0 x1 x2 x3 x6 y0 y1 y2 y3 y6 HX4 HY4
          have x4 : w5.cell? ⟨wr.heap.size, 4, none⟩ = some (.slice A2 x.body.length c2) := HX5.out.cell 4
          have y4 : w5.cell? ⟨Y, 4, none⟩ = some (.slice D2 x.body.length d2) := HY5.out.cell 4
          go_wp2_with fail
          refine (HC2.out w5 (HBW.out.trans (HB5.out.mono HBD.out))).mono ?_
          rintro en w6 ⟨rfl, hb6⟩
          have HB6 : Hid (Below wr.heap.size wr w6) := HB5.out.trans (hb6.mono HB5.out.size)
          have HX6 := Lib.hid (HX5.out.keep (Tur.of_gr (F := fun _ => False) hb6) (fun h => h))
          have HY6 := Lib.hid (HY5.out.keep (Tur.of_gr (F := fun _ => False) hb6) (fun h => h))
          clear hb6 x4 y4 HX5 HY5
          have x5 : w6.cell? ⟨wr.heap.size, 5, none⟩ = some (.slice A3 x.els.length c3) := HX6.out.cell 5
          have y5 : w6.cell? ⟨Y, 5, none⟩ = some (.slice D3 x.els.length d3) := HY6.out.cell 5
          go_wp2_with fail
          refine (HC3.out w6 (HBW.out.trans (HB6.out.mono HBD.out))).mono ?_
          rintro en w7 ⟨rfl, hb7⟩
          have HB7 : Hid (Below wr.heap.size wr w7) := HB6.out.trans (hb7.mono HB6.out.size)
          clear hb7 x5 y5 HX6 HY6
          go_wp2_with fail
          go_roundw
          case rel => exact ⟨k + 1, by omega, by go_num, HB.out.trans (HB7.out.mono HB.out.size)⟩
          case measure => simp [intOf]; omega
        · have HM1 := Lib.hid hM1
          clear hM1
          go_wp2_with fail
          refine HM1.out _ _ HS1.out (fun M2 hM2 => ?_)
          clear HM1 M1
          have HM2 := Lib.hid hM2
          clear hM2
          go_wp2_with fail
          rw [← HW2.out]
          refine HM2.out _ _ HB2.out ?_
          clear HM2 M2 HW2
          rw [← HYE.out]
          have HX := HY2
          have HY := HX2
          have HNE : Hid (Y ≠ wr.heap.size ∧ wr.heap.size ≤ Y ∧ wr.heap.size ≤ wr.heap.size) := by have := HYE.out; exact ⟨by omega, by omega, by omega⟩
          clear HX2 HY2 HS1 HYE
          have hne := HNE.out
          obtain ⟨⟨q0, q1, q2, q3, q4, q5, q6⟩, f0, f1, f2, f3, f4, f5, f6⟩ := HX.out.seven
          have HX3 := Lib.hid (HX.out.set7 (.int .u8 x.k) (.string x.s) (.int .i64 x.n) (.slice A1 x.exprs.length c1) (.slice A2 x.body.length c2) (.slice A3 x.els.length c3) (.int .i64 x.line))
          have HT3 := Lib.hid (Tur.set7 (w := w2) (g := Y) (.int .u8 x.k) (.string x.s) (.int .i64 x.n) (.slice A1 x.exprs.length c1) (.slice A2 x.body.length c2) (.slice A3 x.els.length c3) (.int .i64 x.line))
          refine pf_alone (fun M hM => ?_)
          have HM := Lib.hid hM
          clear hM hne
          go_wp2_with fail
          clear q0 q1 q2 q3 q4 q5 q6 f0 f1 f2 f3 f4 f5 f6
          generalize (((((((w2.setCell ⟨Y, 0, none⟩ (.int .u8 x.k)).setCell ⟨Y, 1, none⟩ (.string x.s)).setCell ⟨Y, 2, none⟩ (.int .i64 x.n)).setCell ⟨Y, 3, none⟩ (.slice A1 x.exprs.length c1)).setCell ⟨Y, 4, none⟩ (.slice A2 x.body.length c2)).setCell ⟨Y, 5, none⟩ (.slice A3 x.els.length c3)).setCell ⟨Y, 6, none⟩ (.int .i64 x.line)) = w3 at HX3 HT3 ⊢
          have hne := HNE.out
          have HB3 : Hid (Below wr.heap.size wr w3) := HB2.out.trans (HT3.out.below _ HB2.out.size (fun k hk e => by omega))
          have HY3 := Lib.hid (HY.out.keep HT3.out (fun e => hne.1 e.symm))
          refine HM.out _ _ HB3.out ?_
          clear HM M hne HX HY HT3
          obtain ⟨⟨q0, q1, q2, q3, q4, q5, q6⟩, f0, f1, f2, f3, f4, f5, f6⟩ := HY3.out.seven
          have HY4 := Lib.hid (HY3.out.set7 (.int .u8 x.k) (.string x.s) (.int .i64 x.n) (.slice D1 x.exprs.length d1) (.slice D2 x.body.length d2) (.slice D3 x.els.length d3) (.int .i64 x.line))
          have HT4 := Lib.hid (Tur.set7 (w := w3) (g := wr.heap.size) (.int .u8 x.k) (.string x.s) (.int .i64 x.n) (.slice D1 x.exprs.length d1) (.slice D2 x.body.length d2) (.slice D3 x.els.length d3) (.int .i64 x.line))
          refine pf_last (fun M hM => ?_)
          have HM := Lib.hid hM
          clear hM
          go_wp2_with fail
          clear q0 q1 q2 q3 q4 q5 q6 f0 f1 f2 f3 f4 f5 f6
          generalize (((((((w3.setCell ⟨wr.heap.size, 0, none⟩ (.int .u8 x.k)).setCell ⟨wr.heap.size, 1, none⟩ (.string x.s)).setCell ⟨wr.heap.size, 2, none⟩ (.int .i64 x.n)).setCell ⟨wr.heap.size, 3, none⟩ (.slice D1 x.exprs.length d1)).setCell ⟨wr.heap.size, 4, none⟩ (.slice D2 x.body.length d2)).setCell ⟨wr.heap.size, 5, none⟩ (.slice D3 x.els.length d3)).setCell ⟨wr.heap.size, 6, none⟩ (.int .i64 x.line)) = w4 at HY4 HT4 ⊢
          have hne := HNE.out
          have HB4 : Hid (Below wr.heap.size wr w4) := HB3.out.trans (HT4.out.below _ HB3.out.size (fun k hk e => by omega))
          have HX4 := Lib.hid (HX3.out.keep HT4.out hne.1)
          refine HM.out _ _ ?_
          clear HM M hne HX3 HY3 HT4 HB3 HB2
          refine NoPanic.normal (?_ : _)
          have HBD : Hid (Bd ≤ wr.heap.size) := Nat.le_trans HB0.out HBW.out.size
          have x0 : w4.cell? ⟨Y, 0, none⟩ = some (.int .u8 x.k) := HX4.out.cell 0
          have x1 : w4.cell? ⟨Y, 1, none⟩ = some (.string x.s) := HX4.out.cell 1
          have x2 : w4.cell? ⟨Y, 2, none⟩ = some (.int .i64 x.n) := HX4.out.cell 2
          have x3 : w4.cell? ⟨Y, 3, none⟩ = some (.slice A1 x.exprs.length c1) := HX4.out.cell 3
          have x6 : w4.cell? ⟨Y, 6, none⟩ = some (.int .i64 x.line) := HX4.out.cell 6
          have y0 : w4.cell? ⟨wr.heap.size, 0, none⟩ = some (.int .u8 x.k) := HY4.out.cell 0
          have y1 : w4.cell? ⟨wr.heap.size, 1, none⟩ = some (.string x.s) := HY4.out.cell 1
          have y2 : w4.cell? ⟨wr.heap.size, 2, none⟩ = some (.int .i64 x.n) := HY4.out.cell 2
          have y3 : w4.cell? ⟨wr.heap.size, 3, none⟩ = some (.slice D1 x.exprs.length d1) := HY4.out.cell 3
          have y6 : w4.cell? ⟨wr.heap.size, 6, none⟩ = some (.int .i64 x.line) := HY4.out.cell 6
          go_wp2_with fail
          refine (HC1.out w4 (HBW.out.trans (HB4.out.mono HBD.out))).mono ?_
          rintro en w5 ⟨rfl, hb5⟩
          have HB5 : Hid (Below wr.heap.size wr w5) := HB4.out.trans (hb5.mono HB4.out.size)
          have HX5 := Lib.hid (HX4.out.keep (Tur.of_gr (F := fun _ => False) hb5) (fun h => h))
          have HY5 := Lib.hid (HY4.out.keep (Tur.of_gr (F := fun _ => False) hb5) (fun h => h))
          clear hb5 x0 x1 x2 x3 x6 y0 y1 y2 y3 y6 HX4 HY4
          have x4 : w5.cell? ⟨Y, 4, none⟩ = some (.slice A2 x.body.length c2) := HX5.out.cell 4
          have y4 : w5.cell? ⟨wr.heap.size, 4, none⟩ = some (.slice D2 x.body.length d2) := HY5.out.cell 4
          go_wp2_with fail
          refine (HC2.out w5 (HBW.out.trans (HB5.out.mono HBD.out))).mono ?_
          rintro en w6 ⟨rfl, hb6⟩
          have HB6 : Hid (Below wr.heap.size wr w6) := HB5.out.trans (hb6.mono HB5.out.size)
          have HX6 := Lib.hid (HX5.out.keep (Tur.of_gr (F := fun _ => False) hb6) (fun h => h))
          have HY6 := Lib.hid (HY5.out.keep (Tur.of_gr (F := fun _ => False) hb6) (fun h => h))
          clear hb6 x4 y4 HX5 HY5
          have x5 : w6.cell? ⟨Y, 5, none⟩ = some (.slice A3 x.els.length c3) := HX6.out.cell 5
          have y5 : w6.cell? ⟨wr.heap.size, 5, none⟩ = some (.slice D3 x.els.length d3) := HY6.out.cell 5
          go_wp2_with fail
          refine (HC3.out w6 (HBW.out.trans (HB6.out.mono HBD.out))).mono ?_
          rintro en w7 ⟨rfl, hb7⟩
          have HB7 : Hid (Below wr.heap.size wr w7) := HB6.out.trans (hb7.mono HB6.out.size)
          clear hb7 x5 y5 HX6 HY6
          go_wp2_with fail
          go_roundw
          case rel => exact ⟨k + 1, by omega, by go_num, HB.out.trans (HB7.out.mono HB.out.size)⟩
          case measure => simp [intOf]; omega
      · go_wp2_with fail
        go_ret
        exact ⟨rfl, HB.out⟩
end Go.Proofs.YtmapjahpjolmnaaGreatDoor
namespace Go.Proofs.YtmapjahpjolmnaaGreatDoor
open Go.RowKit Tr
set_option maxRecDepth 20000
set_option maxHeartbeats 4000000 in
theorem w_sameP {w : World} {l : List XI} {v v' : Value} (h : IsAt w w.heap.size l v) (h' : IsAt w w.heap.size l v') :
    Calls Tryz.prog 14 #[.agg #[v], .agg #[v'], .bool true] w (Yes w) := by
  obtain ⟨A, cap, pv, ev, bv, rfl, hc, hm, hat, hin⟩ := h.form
  obtain ⟨A', cap', pv', ev', bv', rfl, hc', hm', hat', hin'⟩ := h'.form
  have HAT := Lib.hid hat
  have HIN := Lib.hid hin
  have HAT' := Lib.hid hat'
  have HIN' := Lib.hid hin'
  have hcl : cap < 9223372036854775808 := by unfold maxLen at hm; omega
  obtain ⟨w2, hw2, hb2, hp2, hr2, -⟩ := two_new w 24 24 #[.slice A l.length cap] #[.slice A' l.length cap']
  have HW2 := Lib.hid hw2
  have HB2 := Lib.hid hb2
  have HP2 := Lib.hid hp2
  have HR2 := Lib.hid hr2
  clear h hat hin h' hat' hin' hw2 hb2 hp2 hr2
  go_enter Tryz.func14, Tryz.ntmps14
  go_upto_region 1 with (fail)
  rw [← HW2.out]
  clear HW2
  obtain ⟨R, hR⟩ : ∃ x, x = w.heap.size + 1 := ⟨_, rfl⟩
  rw [← hR] at HR2 ⊢
  clear hR
  have p0 : w2.cell? ⟨w.heap.size, 0, none⟩ = some (.slice A l.length cap) := HP2.out.cell 0
  have r0 : w2.cell? ⟨R, 0, none⟩ = some (.slice A' l.length cap') := HR2.out.cell 0
  go_wp2_with fail
  clear p0 r0
  go_loopw [7] (fun i0 wr => ∃ k : Nat, k ≤ l.length ∧ i0 = .int .i64 k ∧ Below w.heap.size w wr ∧ Blk wr w.heap.size 24 #[.slice A l.length cap] ∧ Blk wr R 24 #[.slice A' l.length cap']) (fun i0 wr => l.length - (intOf i0).toNat)
  case atStart => exact ⟨0, Nat.zero_le _, rfl, HB2.out, HP2.out, HR2.out⟩
  case round =>
    obtain ⟨k, hkl, rfl, hb, hp, hr⟩ := hrel
    have HB := Lib.hid hb
    have HP := Lib.hid hp
    have HR := Lib.hid hr
    clear hb hp hr HB2 HP2 HR2
    have p0 : wr.cell? ⟨w.heap.size, 0, none⟩ = some (.slice A l.length cap) := HP.out.cell 0
    by_cases hlt : k < l.length
    · obtain ⟨b, o, rfl, hbB, hcells⟩ := HAT.out (by omega)
      obtain ⟨b', o', rfl, hbB', hcells'⟩ := HAT'.out (by omega)
      have hcc := hcells k hlt
      have hcc' := hcells' k hlt
      obtain ⟨-, htp, hep, hbp⟩ := HIN.out k hlt
      obtain ⟨-, htp', hep', hbp'⟩ := HIN'.out k hlt
      obtain ⟨A1, c1, e1, -, -, -⟩ := htp.form
      obtain ⟨A2, c2, e2, -, -⟩ := hep.form
      obtain ⟨A3, c3, e3, -, -⟩ := hbp.form
      obtain ⟨D1, d1, g1, -, -, -⟩ := htp'.form
      obtain ⟨D2, d2, g2, -, -⟩ := hep'.form
      obtain ⟨D3, d3, g3, -, -⟩ := hbp'.form
      have HC1 := Lib.hid (fun wb (hb : Below w.heap.size w wb) => w_sameT (htp.keep hb) (htp'.keep hb) hb.size)
      have HC2 := Lib.hid (fun wb (hb : Below w.heap.size w wb) => w_sameE hep hep' wb hb (Nat.le_refl _))
      have HC3 := Lib.hid (fun wb (hb : Below w.heap.size w wb) => w_sameS hbp hbp' wb hb (Nat.le_refl _))
      rw [e1] at hcc HC1
      rw [e2] at hcc HC2
      rw [e3] at hcc HC3
      rw [g1] at hcc' HC1
      rw [g2] at hcc' HC2
      rw [g3] at hcc' HC3
      unfold icells at hcc hcc'
      generalize l[k] = x at *
      clear hcells hcells' e1 e2 e3 g1 g2 g3 htp hep hbp htp' hep' hbp'
      have HCC := Lib.hid (And.intro hcc hcc')
      clear hcc hcc'
      go_upto_region 6 with (fail)
      clear p0
      refine wp_region_noPanic ?_
      refine wp_region_fork (fun wd => Below wr.heap.size wr wd) 13 [(0, 2), (1, 1), (2, 2), (3, 2), (4, 1), (5, 2), (6, 1), (7, 2), (8, 2), (9, 1)] 10 11 [(12, 0), (13, 3)] (by kernel_rfl) (by kernel_rfl) (fun _ _ _ _ _ h => h) (drew_B _) ?_
      simp only [pfO, List.filterMap_cons, List.filterMap_nil, List.getElem?_toArray, List.getElem?_cons_zero, List.getElem?_cons_succ, Option.map_some]
      iterate 10 (first
        | (refine pf_pure ?_ (fun wd M hM => ?_) ?_ ?_
           rotate_left
           · (have HM := Lib.hid hM; clear hM; go_wp2_with fail; exact HM.out)
           · rfl)
        | (refine pf_read ?_ (fun wd hS M hM => ?_) ?_ ?_
           rotate_left
           · have hbw := HB.out.trans (hS.mono HB.out.size)
             have p0 : wd.cell? ⟨w.heap.size, 0, none⟩ = some (.slice (some ⟨b, o, none⟩) l.length cap) := (HP.out.keep ((Tur.of_gr (F := fun _ => False)) hS) (fun h => h)).cell 0
             have r0 : wd.cell? ⟨R, 0, none⟩ = some (.slice (some ⟨b', o', none⟩) l.length cap') := (HR.out.keep ((Tur.of_gr (F := fun _ => False)) hS) (fun h => h)).cell 0
             obtain ⟨⟨y0, y1, y2, y3, y4, y5, y6⟩, z0, z1, z2, z3, z4, z5, z6⟩ := HCC.out
             rw [← cell_keep hbw hbB] at y0 y1 y2 y3 y4 y5 y6
             rw [← cell_keep hbw hbB'] at z0 z1 z2 z3 z4 z5 z6
             clear hbw hS
             (have HM := Lib.hid hM; clear hM; go_wp2_with fail; exact HM.out)
           · rfl))
      obtain ⟨w2', hw2', hb2', hx2, hy2, hsz2⟩ := two_new wr 45 45 #[.int .u8 0, .string ⟨#[]⟩, .slice none 0 0, .slice none 0 0, .bool false, .slice none 0 0, .int .i64 0] #[.int .u8 0, .string ⟨#[]⟩, .slice none 0 0, .slice none 0 0, .bool false, .slice none 0 0, .int .i64 0]
      obtain ⟨w3, hw2⟩ : ∃ w3, w3 = w2'.drew := ⟨_, rfl⟩
      have hb2 : Below wr.heap.size wr w3 := by rw [hw2]; exact hb2'.trans (drew_B w2')
      have HX2 : Hid (Blk w3 wr.heap.size 45 #[.int .u8 0, .string ⟨#[]⟩, .slice none 0 0, .slice none 0 0, .bool false, .slice none 0 0, .int .i64 0]) := by rw [hw2]; exact hx2
      have HY2 : Hid (Blk w3 (wr.heap.size + 1) 45 #[.int .u8 0, .string ⟨#[]⟩, .slice none 0 0, .slice none 0 0, .bool false, .slice none 0 0, .int .i64 0]) := by rw [hw2]; exact hy2
      rw [hw2'] at hw2
      have HW2 := Lib.hid hw2
      have HB2 := Lib.hid hb2
      have HS1 : Hid (Below wr.heap.size wr (wr.drew.alloc (.cells #[.int .u8 0, .string ⟨#[]⟩, .slice none 0 0, .slice none 0 0, .bool false, .slice none 0 0, .int .i64 0] 45))) := (drew_B wr).alloc (Nat.le_refl _) _
      obtain ⟨Y, hY⟩ : ∃ x, x = wr.heap.size + 1 := ⟨_, rfl⟩
      rw [← hY] at HY2
      have HYE := Lib.hid hY
      clear hw2 hb2 hY hx2 hy2 hsz2 hw2' hb2' w2'
      refine pf_fork (pf_two (fun M1 hM1 => ?_)) (pf_two (fun M1 hM1 => ?_))
      · have HM1 := Lib.hid hM1
        clear hM1
        go_wp2_with fail
        refine HM1.out _ _ HS1.out (fun M2 hM2 => ?_)
        clear HM1 M1
        have HM2 := Lib.hid hM2
        clear hM2
        go_wp2_with fail
        rw [← HW2.out]
        refine HM2.out _ _ HB2.out ?_
        clear HM2 M2 HW2
        rw [← HYE.out]
        have HX := HX2
        have HY := HY2
        have HNE : Hid (wr.heap.size ≠ Y ∧ wr.heap.size ≤ wr.heap.size ∧ wr.heap.size ≤ Y) := by have := HYE.out; exact ⟨by omega, by omega, by omega⟩
        clear HX2 HY2 HS1 HYE
        have hne := HNE.out
        obtain ⟨⟨q0, q1, q2, q3, q4, q5, q6⟩, f0, f1, f2, f3, f4, f5, f6⟩ := HX.out.seven
        have HX4 := Lib.hid (HX.out.set7 (.int .u8 x.k) (.string x.name) (.slice A1 x.params.length c1) (.slice A2 x.exprs.length c2) (.bool x.has) (.slice A3 x.body.length c3) (.int .i64 x.line))
        have HT4 := Lib.hid (Tur.set7 (w := w3) (g := wr.heap.size) (.int .u8 x.k) (.string x.name) (.slice A1 x.params.length c1) (.slice A2 x.exprs.length c2) (.bool x.has) (.slice A3 x.body.length c3) (.int .i64 x.line))
        refine pf_alone (fun M hM => ?_)
        have HM := Lib.hid hM
        clear hM hne
        go_wp2_with fail
        clear q0 q1 q2 q3 q4 q5 q6 f0 f1 f2 f3 f4 f5 f6
        generalize (((((((w3.setCell ⟨wr.heap.size, 0, none⟩ (.int .u8 x.k)).setCell ⟨wr.heap.size, 1, none⟩ (.string x.name)).setCell ⟨wr.heap.size, 2, none⟩ (.slice A1 x.params.length c1)).setCell ⟨wr.heap.size, 3, none⟩ (.slice A2 x.exprs.length c2)).setCell ⟨wr.heap.size, 4, none⟩ (.bool x.has)).setCell ⟨wr.heap.size, 5, none⟩ (.slice A3 x.body.length c3)).setCell ⟨wr.heap.size, 6, none⟩ (.int .i64 x.line)) = w4 at HX4 HT4 ⊢
        have hne := HNE.out
        have HB4 : Hid (Below wr.heap.size wr w4) := HB2.out.trans (HT4.out.below _ HB2.out.size (fun k hk e => by omega))
        have HY4 := Lib.hid (HY.out.keep HT4.out (fun e => hne.1 e.symm))
        refine HM.out _ _ HB4.out ?_
        clear HM M hne HX HY HT4
        obtain ⟨⟨q0, q1, q2, q3, q4, q5, q6⟩, f0, f1, f2, f3, f4, f5, f6⟩ := HY4.out.seven
        have HY5 := Lib.hid (HY4.out.set7 (.int .u8 x.k) (.string x.name) (.slice D1 x.params.length d1) (.slice D2 x.exprs.length d2) (.bool x.has) (.slice D3 x.body.length d3) (.int .i64 x.line))
        have HT5 := Lib.hid (Tur.set7 (w := w4) (g := Y) (.int .u8 x.k) (.string x.name) (.slice D1 x.params.length d1) (.slice D2 x.exprs.length d2) (.bool x.has) (.slice D3 x.body.length d3) (.int .i64 x.line))
        refine pf_last (fun M hM => ?_)
        have HM := Lib.hid hM
        clear hM
        go_wp2_with fail
        clear q0 q1 q2 q3 q4 q5 q6 f0 f1 f2 f3 f4 f5 f6
        generalize (((((((w4.setCell ⟨Y, 0, none⟩ (.int .u8 x.k)).setCell ⟨Y, 1, none⟩ (.string x.name)).setCell ⟨Y, 2, none⟩ (.slice D1 x.params.length d1)).setCell ⟨Y, 3, none⟩ (.slice D2 x.exprs.length d2)).setCell ⟨Y, 4, none⟩ (.bool x.has)).setCell ⟨Y, 5, none⟩ (.slice D3 x.body.length d3)).setCell ⟨Y, 6, none⟩ (.int .i64 x.line)) = w5 at HY5 HT5 ⊢
        have hne := HNE.out
        have HB5 : Hid (Below wr.heap.size wr w5) := HB4.out.trans (HT5.out.below _ HB4.out.size (fun k hk e => by omega))
        have HX5 := Lib.hid (HX4.out.keep HT5.out hne.1)
        refine HM.out _ _ ?_
        clear HM M hne HX4 HY4 HT5 HB4 HB2
        refine NoPanic.normal (?_ : _)
        have HBD : Hid (w.heap.size ≤ wr.heap.size) := HB.out.size
        have x0 : w5.cell? ⟨wr.heap.size, 0, none⟩ = some (.int .u8 x.k) := HX5.out.cell 0
        have x1 : w5.cell? ⟨wr.heap.size, 1, none⟩ = some (.string x.name) := HX5.out.cell 1
        have x2 : w5.cell? ⟨wr.heap.size, 2, none⟩ = some (.slice A1 x.params.length c1) := HX5.out.cell 2
        have y0 : w5.cell? ⟨Y, 0, none⟩ = some (.int .u8 x.k) := HY5.out.cell 0
        have y1 : w5.cell? ⟨Y, 1, none⟩ = some (.string x.name) := HY5.out.cell 1
        have y2 : w5.cell? ⟨Y, 2, none⟩ = some (.slice D1 x.params.length d1) := HY5.out.cell 2
        go_wp2_with fail
        refine (HC1.out w5 (HB.out.trans (HB5.out.mono HBD.out))).mono ?_
        rintro en w6 ⟨rfl, hb6⟩
        have HB6 : Hid (Below wr.heap.size wr w6) := HB5.out.trans (hb6.mono HB5.out.size)
        have HX6 := Lib.hid (HX5.out.keep ((Tur.of_gr (F := fun _ => False)) hb6) (fun h => h))
        have HY6 := Lib.hid (HY5.out.keep ((Tur.of_gr (F := fun _ => False)) hb6) (fun h => h))
        clear hb6 x0 x1 x2 y0 y1 y2 HX5 HY5
        have x3 : w6.cell? ⟨wr.heap.size, 3, none⟩ = some (.slice A2 x.exprs.length c2) := HX6.out.cell 3
        have x4 : w6.cell? ⟨wr.heap.size, 4, none⟩ = some (.bool x.has) := HX6.out.cell 4
        have x6 : w6.cell? ⟨wr.heap.size, 6, none⟩ = some (.int .i64 x.line) := HX6.out.cell 6
        have y3 : w6.cell? ⟨Y, 3, none⟩ = some (.slice D2 x.exprs.length d2) := HY6.out.cell 3
        have y4 : w6.cell? ⟨Y, 4, none⟩ = some (.bool x.has) := HY6.out.cell 4
        have y6 : w6.cell? ⟨Y, 6, none⟩ = some (.int .i64 x.line) := HY6.out.cell 6
        go_wp2_with fail
        refine (HC2.out w6 (HB.out.trans (HB6.out.mono HBD.out))).mono ?_
        rintro en w7 ⟨rfl, hb7⟩
        have HB7 : Hid (Below wr.heap.size wr w7) := HB6.out.trans (hb7.mono HB6.out.size)
        have HX7 := Lib.hid (HX6.out.keep ((Tur.of_gr (F := fun _ => False)) hb7) (fun h => h))
        have HY7 := Lib.hid (HY6.out.keep ((Tur.of_gr (F := fun _ => False)) hb7) (fun h => h))
        clear hb7 x3 x4 x6 y3 y4 y6 HX6 HY6
        have x5 : w7.cell? ⟨wr.heap.size, 5, none⟩ = some (.slice A3 x.body.length c3) := HX7.out.cell 5
        have y5 : w7.cell? ⟨Y, 5, none⟩ = some (.slice D3 x.body.length d3) := HY7.out.cell 5
        go_wp2_with fail
        refine (HC3.out w7 (HB.out.trans (HB7.out.mono HBD.out))).mono ?_
        rintro en w8 ⟨rfl, hb8⟩
        have HB8 : Hid (Below wr.heap.size wr w8) := HB7.out.trans (hb8.mono HB7.out.size)
        have HP8 := Lib.hid (HP.out.keep ((Tur.of_gr (F := fun _ => False)) HB8.out) (fun h => h))
        have HR8 := Lib.hid (HR.out.keep ((Tur.of_gr (F := fun _ => False)) HB8.out) (fun h => h))
        clear hb8 x5 y5 HX7 HY7
        go_wp2_with fail
        go_roundw
        case rel => exact ⟨k + 1, by omega, by go_num, HB.out.trans (HB8.out.mono HB.out.size), HP8.out, HR8.out⟩
        case measure => simp [intOf]; omega
      · have HM1 := Lib.hid hM1
        clear hM1
        go_wp2_with fail
        refine HM1.out _ _ HS1.out (fun M2 hM2 => ?_)
        clear HM1 M1
        have HM2 := Lib.hid hM2
        clear hM2
        go_wp2_with fail
        rw [← HW2.out]
        refine HM2.out _ _ HB2.out ?_
        clear HM2 M2 HW2
        rw [← HYE.out]
        have HX := HY2
        have HY := HX2
        have HNE : Hid (Y ≠ wr.heap.size ∧ wr.heap.size ≤ Y ∧ wr.heap.size ≤ wr.heap.size) := by have := HYE.out; exact ⟨by omega, by omega, by omega⟩
        clear HX2 HY2 HS1 HYE
        have hne := HNE.out
        obtain ⟨⟨q0, q1, q2, q3, q4, q5, q6⟩, f0, f1, f2, f3, f4, f5, f6⟩ := HX.out.seven
        have HX4 := Lib.hid (HX.out.set7 (.int .u8 x.k) (.string x.name) (.slice A1 x.params.length c1) (.slice A2 x.exprs.length c2) (.bool x.has) (.slice A3 x.body.length c3) (.int .i64 x.line))
        have HT4 := Lib.hid (Tur.set7 (w := w3) (g := Y) (.int .u8 x.k) (.string x.name) (.slice A1 x.params.length c1) (.slice A2 x.exprs.length c2) (.bool x.has) (.slice A3 x.body.length c3) (.int .i64 x.line))
        refine pf_alone (fun M hM => ?_)
        have HM := Lib.hid hM
        clear hM hne
        go_wp2_with fail
        clear q0 q1 q2 q3 q4 q5 q6 f0 f1 f2 f3 f4 f5 f6
        generalize (((((((w3.setCell ⟨Y, 0, none⟩ (.int .u8 x.k)).setCell ⟨Y, 1, none⟩ (.string x.name)).setCell ⟨Y, 2, none⟩ (.slice A1 x.params.length c1)).setCell ⟨Y, 3, none⟩ (.slice A2 x.exprs.length c2)).setCell ⟨Y, 4, none⟩ (.bool x.has)).setCell ⟨Y, 5, none⟩ (.slice A3 x.body.length c3)).setCell ⟨Y, 6, none⟩ (.int .i64 x.line)) = w4 at HX4 HT4 ⊢
        have hne := HNE.out
        have HB4 : Hid (Below wr.heap.size wr w4) := HB2.out.trans (HT4.out.below _ HB2.out.size (fun k hk e => by omega))
        have HY4 := Lib.hid (HY.out.keep HT4.out (fun e => hne.1 e.symm))
        refine HM.out _ _ HB4.out ?_
        clear HM M hne HX HY HT4
        obtain ⟨⟨q0, q1, q2, q3, q4, q5, q6⟩, f0, f1, f2, f3, f4, f5, f6⟩ := HY4.out.seven
        have HY5 := Lib.hid (HY4.out.set7 (.int .u8 x.k) (.string x.name) (.slice D1 x.params.length d1) (.slice D2 x.exprs.length d2) (.bool x.has) (.slice D3 x.body.length d3) (.int .i64 x.line))
        have HT5 := Lib.hid (Tur.set7 (w := w4) (g := wr.heap.size) (.int .u8 x.k) (.string x.name) (.slice D1 x.params.length d1) (.slice D2 x.exprs.length d2) (.bool x.has) (.slice D3 x.body.length d3) (.int .i64 x.line))
        refine pf_last (fun M hM => ?_)
        have HM := Lib.hid hM
        clear hM
        go_wp2_with fail
        clear q0 q1 q2 q3 q4 q5 q6 f0 f1 f2 f3 f4 f5 f6
        generalize (((((((w4.setCell ⟨wr.heap.size, 0, none⟩ (.int .u8 x.k)).setCell ⟨wr.heap.size, 1, none⟩ (.string x.name)).setCell ⟨wr.heap.size, 2, none⟩ (.slice D1 x.params.length d1)).setCell ⟨wr.heap.size, 3, none⟩ (.slice D2 x.exprs.length d2)).setCell ⟨wr.heap.size, 4, none⟩ (.bool x.has)).setCell ⟨wr.heap.size, 5, none⟩ (.slice D3 x.body.length d3)).setCell ⟨wr.heap.size, 6, none⟩ (.int .i64 x.line)) = w5 at HY5 HT5 ⊢
        have hne := HNE.out
        have HB5 : Hid (Below wr.heap.size wr w5) := HB4.out.trans (HT5.out.below _ HB4.out.size (fun k hk e => by omega))
        have HX5 := Lib.hid (HX4.out.keep HT5.out hne.1)
        refine HM.out _ _ ?_
        clear HM M hne HX4 HY4 HT5 HB4 HB2
        refine NoPanic.normal (?_ : _)
        have HBD : Hid (w.heap.size ≤ wr.heap.size) := HB.out.size
        have x0 : w5.cell? ⟨Y, 0, none⟩ = some (.int .u8 x.k) := HX5.out.cell 0
        have x1 : w5.cell? ⟨Y, 1, none⟩ = some (.string x.name) := HX5.out.cell 1
        have x2 : w5.cell? ⟨Y, 2, none⟩ = some (.slice A1 x.params.length c1) := HX5.out.cell 2
        have y0 : w5.cell? ⟨wr.heap.size, 0, none⟩ = some (.int .u8 x.k) := HY5.out.cell 0
        have y1 : w5.cell? ⟨wr.heap.size, 1, none⟩ = some (.string x.name) := HY5.out.cell 1
        have y2 : w5.cell? ⟨wr.heap.size, 2, none⟩ = some (.slice D1 x.params.length d1) := HY5.out.cell 2
        go_wp2_with fail
        refine (HC1.out w5 (HB.out.trans (HB5.out.mono HBD.out))).mono ?_
        rintro en w6 ⟨rfl, hb6⟩
        have HB6 : Hid (Below wr.heap.size wr w6) := HB5.out.trans (hb6.mono HB5.out.size)
        have HX6 := Lib.hid (HX5.out.keep ((Tur.of_gr (F := fun _ => False)) hb6) (fun h => h))
        have HY6 := Lib.hid (HY5.out.keep ((Tur.of_gr (F := fun _ => False)) hb6) (fun h => h))
        clear hb6 x0 x1 x2 y0 y1 y2 HX5 HY5
        have x3 : w6.cell? ⟨Y, 3, none⟩ = some (.slice A2 x.exprs.length c2) := HX6.out.cell 3
        have x4 : w6.cell? ⟨Y, 4, none⟩ = some (.bool x.has) := HX6.out.cell 4
        have x6 : w6.cell? ⟨Y, 6, none⟩ = some (.int .i64 x.line) := HX6.out.cell 6
        have y3 : w6.cell? ⟨wr.heap.size, 3, none⟩ = some (.slice D2 x.exprs.length d2) := HY6.out.cell 3
        have y4 : w6.cell? ⟨wr.heap.size, 4, none⟩ = some (.bool x.has) := HY6.out.cell 4
        have y6 : w6.cell? ⟨wr.heap.size, 6, none⟩ = some (.int .i64 x.line) := HY6.out.cell 6
        go_wp2_with fail
        refine (HC2.out w6 (HB.out.trans (HB6.out.mono HBD.out))).mono ?_
        rintro en w7 ⟨rfl, hb7⟩
        have HB7 : Hid (Below wr.heap.size wr w7) := HB6.out.trans (hb7.mono HB6.out.size)
        have HX7 := Lib.hid (HX6.out.keep ((Tur.of_gr (F := fun _ => False)) hb7) (fun h => h))
        have HY7 := Lib.hid (HY6.out.keep ((Tur.of_gr (F := fun _ => False)) hb7) (fun h => h))
        clear hb7 x3 x4 x6 y3 y4 y6 HX6 HY6
        have x5 : w7.cell? ⟨Y, 5, none⟩ = some (.slice A3 x.body.length c3) := HX7.out.cell 5
        have y5 : w7.cell? ⟨wr.heap.size, 5, none⟩ = some (.slice D3 x.body.length d3) := HY7.out.cell 5
        go_wp2_with fail
        refine (HC3.out w7 (HB.out.trans (HB7.out.mono HBD.out))).mono ?_
        rintro en w8 ⟨rfl, hb8⟩
        have HB8 : Hid (Below wr.heap.size wr w8) := HB7.out.trans (hb8.mono HB7.out.size)
        have HP8 := Lib.hid (HP.out.keep ((Tur.of_gr (F := fun _ => False)) HB8.out) (fun h => h))
        have HR8 := Lib.hid (HR.out.keep ((Tur.of_gr (F := fun _ => False)) HB8.out) (fun h => h))
        clear hb8 x5 y5 HX7 HY7
        go_wp2_with fail
        go_roundw
        case rel => exact ⟨k + 1, by omega, by go_num, HB.out.trans (HB8.out.mono HB.out.size), HP8.out, HR8.out⟩
        case measure => simp [intOf]; omega
    · go_wp2_with fail
      go_ret
      exact ⟨rfl, HB.out⟩
end Go.Proofs.YtmapjahpjolmnaaGreatDoor
