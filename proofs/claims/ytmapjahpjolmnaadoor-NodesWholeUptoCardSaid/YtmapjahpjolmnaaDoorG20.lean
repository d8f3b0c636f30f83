/- The kit's 'Huge': programs. -/
import Derived.Test.YtmapjahpjolmnaaDoorG19
import Derived.Test.YtmapjahpjolmnaaDoorG18
set_option linter.unusedVariables false
set_option linter.unusedSimpArgs false
namespace Go.Proofs.YtmapjahpjolmnaaDoor
open Go.RowKit Tr
set_option maxRecDepth 20000
def HugeQ (k : Nat) (mn : Int) (w : World) (e : Ending) (w' : World) : Prop := ∃ hb, e = .returned (.bool hb) ∧ Below w.heap.size w w' ∧ (hb = false → (k : Int) ≤ mn)
theorem numP_take1 (l : List XI) (i : Nat) (h : i < l.length) : numP (l.take (i + 1)) = numP (l.take i) + numI l[i] := sum_take numI l i h
theorem numP_take_le (l : List XI) (i : Nat) : numP (l.take i) ≤ numP l := sum_take_le numI l i
set_option maxHeartbeats 4000000 in
theorem w_Huge {w : World} {l : List XI} {v : Value} (h : IsAt w w.heap.size l v) (hz : numP l ≤ 1500000) (lv mn : Int) (hl0 : 0 ≤ lv) (hl1 : lv ≤ 1000) (hm0 : 0 ≤ mn) (hm1 : mn ≤ 100000) :
    Calls Tryd.prog 10 #[.agg #[v], .int .i64 lv, .int .i64 mn] w (HugeQ (numP l) mn w) := by
  obtain ⟨A, cap, pv, ev, bv, rfl, hc, hm, hat, hin⟩ := h.form
  have HAT := Lib.hid hat
  have HIN := Lib.hid hin
  have hcl : cap < 9223372036854775808 := by unfold maxLen at hm; omega
  obtain ⟨w2, hw2, hb2, hP0, hN0, hsz⟩ := two_new w 39 3 #[.slice A l.length cap] #[.int .i64 0]
  have HW2 := Lib.hid hw2
  have HB2 := Lib.hid hb2
  have HP2 := Lib.hid hP0
  have HN2 := Lib.hid hN0
  have HSZ := Lib.hid hsz
  clear h hat hin hw2 hb2 hP0 hN0 hsz
  go_enter Tryd.func10, Tryd.ntmps10
  go_upto_region 2 with (fail)
  rw [← HW2.out]
  clear HW2
  obtain ⟨nb, hnb⟩ : ∃ x, x = w.heap.size + 1 := ⟨_, rfl⟩
  have HNE : Hid (w.heap.size ≠ nb ∧ w.heap.size ≤ nb) := ⟨by omega, by omega⟩
  rw [← hnb] at HN2 ⊢
  clear hnb
  go_wp2_with fail
  go_loopw [8] (fun v wr => ∃ i : Nat, v = .int .i64 i ∧ i ≤ l.length ∧ Below w.heap.size w wr ∧ Blk wr w.heap.size 39 #[.slice A l.length cap] ∧ Blk wr nb 3 #[.int .i64 (numP (l.take i))] ∧ (numP (l.take i) : Int) ≤ mn) (fun v _ => l.length - (intOf v).toNat)
  case atStart => exact ⟨0, rfl, Nat.zero_le _, HB2.out, HP2.out, HN2.out, hm0⟩
  case round =>
    obtain ⟨i, rfl, hi, hbr, hpr, hnr, hmr⟩ := hrel
    have HBR := Lib.hid hbr
    have HPR := Lib.hid hpr
    have HNR := Lib.hid hnr
    have HMR := Lib.hid hmr
    clear hbr hpr hnr hmr HB2 HP2 HN2
    have x0 : wr.cell? ⟨w.heap.size, 0, none⟩ = some (.slice A l.length cap) := HPR.out.cell 0
    by_cases hlt : i < l.length
    · obtain ⟨b, o, rfl, hbB, hcells⟩ := HAT.out (by omega)
      have HCC := Lib.hid (hcells i hlt)
      have HBB := Lib.hid hbB
      obtain ⟨hok, htp, hep, hbp⟩ := HIN.out i hlt
      obtain ⟨A1, n1, e1, hq1, hq2, -⟩ := htp.form
      rw [e1] at HCC
      have hn1 : n1 < 9223372036854775808 := by unfold maxLen at hq2; omega
      have hst := numP_take1 l i hlt
      have hsl := numP_take_le l (i + 1)
      have HEP := Lib.hid hep
      have HBP := Lib.hid hbp
      have HST := Lib.hid (show numP (l.take (i + 1)) = numP (l.take i) + (numEs l[i].exprs + numSs l[i].body) ∧ numP (l.take (i + 1)) ≤ 1500000 from ⟨hst, by omega⟩)
      generalize numP (l.take i) = c0 at *
      obtain ⟨c1, hc1⟩ : ∃ c1, numP (l.take (i + 1)) = c1 := ⟨_, rfl⟩
      have HC1 := Lib.hid hc1
      rw [hc1] at HST
      have HCALL := Lib.hid (w_hugeE (HEP.out.keep HBR.out) lv mn c0 wr nb (Below.refl _ wr) HBR.out.size HNR.out HNE.out.2 (by omega) (by have := HST.out; omega) hl0 hl1 hm0 hm1)
      obtain ⟨y0, y1, y2, y3, y4, y5, y6⟩ := HCC.out.keep HBR.out HBB.out
      clear hcells hbB hok htp hep hbp e1 hq2 hst hsl hc1
      go_wp2_with fail
      refine HCALL.out.mono ?_
      rintro en w3 ⟨hb, a3, rfl, hg⟩
      have HG := Lib.hid hg
      have HB3 : Hid (Below w.heap.size w w3) := HBR.out.trans (hg.tur.below _ HBR.out.size (fun k hk e => by have := HNE.out; omega))
      have HP3 := Lib.hid (HPR.out.keep hg.tur HNE.out.1)
      clear hg y0 y1 y2 y3 y4 y5 y6 x0
      cases hb
      rotate_left
      · go_wp2_with fail
        go_ret
        exact ⟨true, rfl, HB3.out, fun h => by cases h⟩
      have HNO := Lib.hid (HG.out.no rfl)
      have HCALL2 := Lib.hid (w_hugeS (HBP.out.keep HB3.out) lv mn a3 w3 nb (Below.refl _ w3) HB3.out.size HG.out.blk HNE.out.2 (by have := HG.out.lo; omega) (by have := HNO.out.1; have := HST.out; omega) hl0 hl1 hm0 hm1)
      have x0 : w3.cell? ⟨w.heap.size, 0, none⟩ = some (.slice (some ⟨b, o, none⟩) l.length cap) := HP3.out.cell 0
      obtain ⟨y0, y1, y2, y3, y4, y5, y6⟩ := HCC.out.keep HB3.out HBB.out
      go_wp2_with fail
      refine HCALL2.out.mono ?_
      rintro en w4 ⟨hb, a4, rfl, hg⟩
      have HG4 := Lib.hid hg
      have HB4 : Hid (Below w.heap.size w w4) := HB3.out.trans (hg.tur.below _ HB3.out.size (fun k hk e => by have := HNE.out; omega))
      have HP4 := Lib.hid (HP3.out.keep hg.tur HNE.out.1)
      clear hg y0 y1 y2 y3 y4 y5 y6 x0
      cases hb
      rotate_left
      · go_wp2_with fail
        go_ret
        exact ⟨true, rfl, HB4.out, fun h => by cases h⟩
      have HNO4 := Lib.hid (HG4.out.no rfl)
      have x0 : w4.cell? ⟨w.heap.size, 0, none⟩ = some (.slice (some ⟨b, o, none⟩) l.length cap) := HP4.out.cell 0
      obtain ⟨y0, y1, y2, y3, y4, y5, y6⟩ := HCC.out.keep HB4.out HBB.out
      have HEQ : Hid ((c1 : Int) = a4 ∧ a4 ≤ mn) := ⟨by have := HNO.out.1; have := HNO4.out.1; have := HST.out.1; omega, HNO4.out.2⟩
      have HBN2 : Hid (Blk w4 nb 3 #[.int .i64 c1]) := by
        unfold Hid
        rw [HEQ.out.1]; exact HG4.out.blk
      by_cases hpm : mn < l[i].params.length
      · go_wp2_with fail
        go_ret
        exact ⟨true, rfl, HB4.out, fun h => by cases h⟩
      · go_wp2_with fail
        go_roundw
        case rel => exact ⟨i + 1, by go_num, by omega, HB4.out, HP4.out, by rw [HC1.out]; exact HBN2.out, by rw [HC1.out, HEQ.out.1]; exact HEQ.out.2⟩
        case measure => simp [intOf]; omega
    · rw [List.take_of_length_le (by omega)] at HMR
      by_cases hgm : mn < l.length
      · go_wp2_with fail
        go_ret
        exact ⟨true, rfl, HBR.out, fun h => by cases h⟩
      · go_wp2_with fail
        go_ret
        exact ⟨false, rfl, HBR.out, fun _ => HMR.out⟩
end Go.Proofs.YtmapjahpjolmnaaDoor
namespace Go.Proofs.YtmapjahpjolmnaaDoor
open Go.RowKit Tr
set_option maxRecDepth 20000
namespace Low
def pick (x n : Int) : Int := if n ≤ 0 then 0 else x % n
theorem pick_range (x n : Int) (h : 0 < n) : 0 ≤ pick x n ∧ pick x n < n := by
  rw [pick, if_neg (by omega)]
  exact ⟨Int.emod_nonneg _ (by omega), Int.emod_lt_of_pos _ h⟩
theorem tmod_bounds (x n : Int) (h : 0 < n) : -n < x.tmod n ∧ x.tmod n < n := by
  have h1 := Int.emod_nonneg x (show n ≠ 0 by omega)
  have h2 := Int.emod_lt_of_pos x h
  rw [Int.tmod_eq_emod]
  split
  · omega
  · rename_i h3
    have h4 : x % n ≠ 0 := fun e => h3 (Or.inr (Int.dvd_of_emod_eq_zero e))
    omega
theorem pick_tmod (x n : Int) (h : 0 < n) : pick x n = if x.tmod n < 0 then x.tmod n + n else x.tmod n := by
  have h1 := Int.emod_nonneg x (show n ≠ 0 by omega)
  have h2 := Int.emod_lt_of_pos x h
  rw [pick, if_neg (by omega), Int.tmod_eq_emod]
  by_cases h3 : 0 ≤ x ∨ n ∣ x
  · rw [if_pos h3]; simp; omega
  · rw [if_neg h3]
    have h4 : x % n ≠ 0 := fun e => h3 (Or.inr (Int.dvd_of_emod_eq_zero e))
    rw [if_pos (by omega)]; omega
end Low
theorem w_pickK (x n : Int) (w : World) (hn0 : 0 < n) (hn1 : n ≤ 4611686018427387904) :
    Calls Tryd.prog 5 #[.int .i64 x, .int .i64 n] w fun e w' => e = .returned (.int .i64 (Low.pick x n)) ∧ w' = w := by
  obtain ⟨hb1, hb2⟩ := Low.tmod_bounds x n hn0
  have HP := Lib.hid (Low.pick_tmod x n hn0)
  by_cases hneg : x.tmod n < 0
  all_goals
    go_enter Tryd.func5, Tryd.ntmps5
    go_wp2_with fail
    go_ret
    exact ⟨ret_int (by rw [HP.out]; first | rw [if_pos (by omega)] | rw [if_neg (by omega)]), rfl⟩
/-- The chain in memory: its arrays lie one behind the other. -/
def kidv (X : Nat) : Nat → Value
  | 0 => .slice none 0 0
  | j + 1 => .slice (some ⟨X + 1 + j, 0, none⟩) 1 1
def chk (j : Nat) : Int := if j = 0 then 1 else 11
def chc (X j : Nat) : Array Value := #[.int .u8 (chk j), .string ⟨#[]⟩, .int .u64 0, kidv X j]
theorem chain_is (j : Nat) : (chain j).k = chk j ∧ (chain j).s = ⟨#[]⟩ ∧ (chain j).n = 0 := by
  cases j <;> exact ⟨rfl, rfl, rfl⟩
theorem chain_ok (j : Nat) : (chain j).Ok := by
  cases j <;> exact ⟨rfl, Nat.zero_le _, rfl⟩
theorem chain_cells {w : World} {b X j : Nat} {t : TypeId} (h : Blk w b t (chc X j)) : ecells w b 0 (chain j) (kidv X j) := by
  obtain ⟨h1, h2, h3⟩ := chain_is j
  unfold ecells
  rw [h1, h2, h3]
  exact ⟨h.cell 0, h.cell 1, h.cell 2, h.cell 3⟩
theorem chain_at {w : World} {X : Nat} {t : TypeId} : ∀ (n : Nat), (∀ j, j < n → Blk w (X + 1 + j) t (chc X j)) → EsAt w w.heap.size (chain n).kids (kidv X n)
  | 0, _ => EsAt.nil _ _
  | n + 1, h => by
    have hb := h n (by omega)
    exact EsAt.one (chain_cells hb) hb.lt (chain_at n (fun j hj => h j (by omega))) (chain_ok n) (Nat.le_refl _) (by unfold maxLen; decide)
theorem Blk.set4 {w : World} {g : Nat} {t : TypeId} {a b c d : Value} (h : Blk w g t #[a, b, c, d]) (v x y z : Value) : Blk ((((w.setCell ⟨g, 0, none⟩ v).setCell ⟨g, 1, none⟩ x).setCell ⟨g, 2, none⟩ y).setCell ⟨g, 3, none⟩ z) g t #[v, x, y, z] := by
  have := (((h.set 0 v).set 1 x).set 2 y).set 3 z
  simpa using this
theorem Tur.set4 {w : World} {g i1 i2 i3 i4 : Nat} (x1 x2 x3 x4 : Value) : Tur (· = g) w ((((w.setCell ⟨g, i1, none⟩ x1).setCell ⟨g, i2, none⟩ x2).setCell ⟨g, i3, none⟩ x3).setCell ⟨g, i4, none⟩ x4) :=
  (((Tur.of_set ⟨g, i1, none⟩ x1).trans (Tur.of_set ⟨g, i2, none⟩ x2) (fun i _ h => h)).trans (Tur.of_set ⟨g, i3, none⟩ x3) (fun i _ h => h)).trans (Tur.of_set ⟨g, i4, none⟩ x4) (fun i _ h => h)
/-- Inside the first loop. -/
structure ChI (w0 : World) (X i : Nat) (w : World) : Prop where
  below : Below X w0 w
  box : Blk w X 27 (chc X i)
  arr : ∀ j, j < i → Blk w (X + 1 + j) 27 (chc X j)
  size : w.heap.size = X + 1 + i
theorem chc_def (X j : Nat) : chc X j = #[.int .u8 (chk j), .string ⟨#[]⟩, .int .u64 0, kidv X j] := rfl
theorem ChI.next {w0 w : World} {X i : Nat} (h : ChI w0 X i w) (hX : X ≤ w0.heap.size) : ChI w0 X (i + 1) (((((w.setCell ⟨X, 0, none⟩ (.int .u8 11)).setCell ⟨X, 1, none⟩ (.string ⟨#[]⟩)).setCell ⟨X, 2, none⟩ (.int .u64 0)).setCell ⟨X, 3, none⟩ (.slice (some ⟨X + 1 + i, 0, none⟩) 1 1)).alloc (.cells (chc X i) 27)) := by
  have hs := h.below.size
  have ht := Tur.set4 (w := w) (g := X) (i1 := 0) (i2 := 1) (i3 := 2) (i4 := 3) (.int .u8 11) (.string ⟨#[]⟩) (.int .u64 0) (.slice (some ⟨X + 1 + i, 0, none⟩) 1 1)
  have hb := h.box.set4 (.int .u8 11) (.string ⟨#[]⟩) (.int .u64 0) (.slice (some ⟨X + 1 + i, 0, none⟩) 1 1)
  have hz : ((((w.setCell ⟨X, 0, none⟩ (.int .u8 11)).setCell ⟨X, 1, none⟩ (.string ⟨#[]⟩)).setCell ⟨X, 2, none⟩ (.int .u64 0)).setCell ⟨X, 3, none⟩ (.slice (some ⟨X + 1 + i, 0, none⟩) 1 1)).heap.size = X + 1 + i := by simp [World.setCell, h.size]
  have hbl := h.below.trans (ht.below X (by omega) (fun k hk e => by omega))
  generalize (((w.setCell ⟨X, 0, none⟩ (.int .u8 11)).setCell ⟨X, 1, none⟩ (.string ⟨#[]⟩)).setCell ⟨X, 2, none⟩ (.int .u64 0)).setCell ⟨X, 3, none⟩ (.slice (some ⟨X + 1 + i, 0, none⟩) 1 1) = w1 at *
  have hn := Blk.new w1 27 (chc X i)
  rw [hz] at hn
  refine ⟨hbl.alloc (by omega) _, ?_, fun j hj => ?_, by simp [hz]; omega⟩
  · exact alloc_keep hb _
  · rcases Nat.lt_succ_iff_lt_or_eq.1 hj with hj | rfl
    · exact alloc_keep ((h.arr j hj).keep ht (by omega)) _
    · exact hn
def snv : List Value := [.int .u8 11, .string ⟨#[]⟩, .int .i64 0, .slice none 0 0, .slice none 0 0, .slice none 0 0, .int .i64 0]
def snvs (n : Nat) : List Value := (List.replicate n sNext).flatMap (fun _ => snv)
theorem snvs_succ (n : Nat) : snvs (n + 1) = snvs n ++ snv := by
  unfold snvs
  rw [List.replicate_succ', List.flatMap_append]
  simp
theorem flat_getN {α : Type} (f : α → List Value) (n : Nat) (hf : ∀ a, (f a).length = n) : ∀ (l : List α) (i j : Nat) (h : i < l.length), j < n → (l.flatMap f)[i * n + j]? = (f l[i])[j]? := by
  intro l
  induction l with
  | nil => intro i j h; simp at h
  | cons a l ih =>
    intro i j h hj
    cases i with
    | zero => simp only [Nat.zero_mul, Nat.zero_add, List.flatMap_cons, List.getElem_cons_zero]; rw [List.getElem?_append_left (by rw [hf]; omega)]
    | succ i =>
      simp only [List.flatMap_cons, List.getElem_cons_succ]
      rw [List.getElem?_append_right (by rw [hf, Nat.succ_mul]; omega), hf, show (i + 1) * n + j - n = i * n + j by rw [Nat.succ_mul]; omega]
      exact ih i j (by simpa using h) hj
theorem many_at {w : World} {base n : Nat} {v : Value} (h : w.ownsRow base 31 7 v n (snvs n)) : SsAt w w.heap.size (List.replicate n sNext) v := by
  rcases h.2 with ⟨h1, h0⟩ | ⟨g, cap, cur, h1, hg, hh, h4, h5, h6⟩
  · subst h0
    subst h1
    exact SsAt.nil _ _
  · subst h1
    have hl : (List.replicate n sNext).length = n := List.length_replicate ..
    have hz : (List.replicate n sNext).length ≤ cap := by omega
    have key : SsAt w w.heap.size (List.replicate n sNext) (.slice (some ⟨g, 0, none⟩) (List.replicate n sNext).length cap) := by
      refine SsAt.mk (fun _ => .slice none 0 0) (fun _ => .slice none 0 0) (fun _ => .slice none 0 0) hz h5 (fun _ => ⟨g, 0, rfl, (Array.getElem?_eq_some_iff.1 hh).1, fun i hi => ?_⟩) (fun i hi => ?_) (fun i hi => ?_) (fun i hi => ?_) (fun i hi => ?_)
      · have hc : ∀ j, j < 7 → w.cell? ⟨g, 0 + i * 7 + j, none⟩ = snv[j]? := fun j hj => by
          rw [Nat.zero_add, h.cellAt (i * 7 + j) (by omega)]
          exact flat_getN (fun _ => snv) 7 (fun _ => rfl) (List.replicate n sNext) i j hi hj
        rw [List.getElem_replicate]
        exact ⟨hc 0 (by decide), hc 1 (by decide), hc 2 (by decide), hc 3 (by decide), hc 4 (by decide), hc 5 (by decide), hc 6 (by decide)⟩
      · rw [List.getElem_replicate]
        exact ⟨by decide, by decide, by decide, by decide⟩
      · rw [List.getElem_replicate]
        exact EsAt.nil _ _
      · rw [List.getElem_replicate]
        exact SsAt.nil _ _
      · rw [List.getElem_replicate]
        exact SsAt.nil _ _
    rw [hl] at key
    exact key
/-- A block in a block: the second loop's round. -/
theorem bchain_next {w : World} {n : Nat} {v : Value} (h : SsAt w w.heap.size (bchain n) v) :
    SsAt (w.alloc (.cells #[.int .u8 15, .string ⟨#[]⟩, .int .i64 0, .slice none 0 0, v, .slice none 0 0, .int .i64 0] 31)) (w.heap.size + 1) (bchain (n + 1)) (.slice (some ⟨w.heap.size, 0, none⟩) 1 1) := by
  have hb := Blk.new w 31 #[.int .u8 15, .string ⟨#[]⟩, .int .i64 0, .slice none 0 0, v, .slice none 0 0, .int .i64 0]
  exact SsAt.one (e := .mk 15 e0 0 [] (bchain n) [] 0) ⟨hb.cell 0, hb.cell 1, hb.cell 2, hb.cell 3, hb.cell 4, hb.cell 5, hb.cell 6⟩ (by omega) (EsAt.nil _ _) ((h.keep ((Below.refl _ _).alloc (Nat.le_refl _) _)).mono (by omega)) (SsAt.nil _ _) ⟨rfl, Nat.zero_le _, rfl, rfl⟩ (Nat.le_refl _) (by unfold maxLen; decide)
set_option maxHeartbeats 4000000 in
/-- The law's closure 'right'. -/
theorem x_right {w : World} (x : XI) {pv ev bv : Value} (hp : TsAt w w.heap.size x.params pv) (he : EsAt w w.heap.size x.exprs ev) (hb : SsAt w w.heap.size x.body bv) (hok : x.Ok) (hz : (sizeP [x]).1 ≤ 1000000) (htab : Lib.TabIs Tryd.prog w "strings.asciiSpace" .u8 Lib.asciiSpaceTab) :
    Calls Tryd.prog 6 #[.agg #[.int .u8 x.k, .string x.name, pv, ev, .bool x.has, bv, .int .i64 x.line]] w fun en w' => en = .returned (.bool (rightB nameB alB [x])) ∧ Below w.heap.size w w' := by
  obtain ⟨A1, c1, rfl, -, -, -⟩ := hp.form
  obtain ⟨A2, c2, rfl, -, -⟩ := he.form
  obtain ⟨A3, c3, rfl, -, -⟩ := hb.form
  have HTB := Lib.hid (Lib.tabBelow_of_tabIs htab)
  have HP := Lib.hid hp
  have HE := Lib.hid he
  have HB := Lib.hid hb
  clear hp he hb htab
  obtain ⟨w2, hw2, hb2, hB0, hB1, hsz⟩ := two_new w 35 35 #[.int .u8 x.k, .string x.name, .slice A1 x.params.length c1, .slice A2 x.exprs.length c2, .bool x.has, .slice A3 x.body.length c3, .int .i64 x.line] #[.int .u8 x.k, .string x.name, .slice A1 x.params.length c1, .slice A2 x.exprs.length c2, .bool x.has, .slice A3 x.body.length c3, .int .i64 x.line]
  have hI : IsAt w2 w2.heap.size [x] (.slice (some ⟨w.heap.size + 1, 0, none⟩) 1 1) := IsAt.one ⟨hB1.cell 0, hB1.cell 1, hB1.cell 2, hB1.cell 3, hB1.cell 4, hB1.cell 5, hB1.cell 6⟩ (by omega) ((HP.out.keep hb2).mono hb2.size) ((HE.out.keep hb2).mono hb2.size) ((HB.out.keep hb2).mono hb2.size) hok
  have HR := Lib.hid (w_Right hI hz (HTB.out _ hb2))
  have HW2 := Lib.hid hw2
  have HB2 := Lib.hid hb2
  clear hw2 hb2 hB0 hB1 hsz hI
  go_enter Tryd.func6, Tryd.ntmps6
  go_wp2_with fail
  rw [← HW2.out]
  refine HR.out.mono ?_
  rintro en w3 ⟨rfl, hb3⟩
  have HB3 := Lib.hid (HB2.out.trans (hb3.mono HB2.out.size))
  clear hb3
  go_wp2_with fail
  go_ret
  exact ⟨rfl, HB3.out⟩
end Go.Proofs.YtmapjahpjolmnaaDoor
namespace Go.Proofs.YtmapjahpjolmnaaDoor
open Go.RowKit Tr
set_option maxRecDepth 20000
set_option maxHeartbeats 4000000 in
theorem x_exprs {w0 : World} {Bd : Nat} {l : List XE} {v : Value} (htab : Lib.TabBelow Tryd.prog Bd w0 "strings.asciiSpace" .u8 Lib.asciiSpaceTab) (hB0 : Bd ≤ w0.heap.size) (h : EsAt w0 Bd l v) : ExprsA alB l → ∀ w, Below Bd w0 w →
    Calls Tryd.prog 12 #[v] w fun e w' => e = .returned (.bool true) ∧ Below w.heap.size w w' := by
  induction h with
  | @mk l A cap kv hc hm hat hok hk ih =>
    intro hA w hbl
    have HAT := Lib.hid hat
    have HIH := Lib.hid ih
    have HOK := Lib.hid hok
    have HK := Lib.hid hk
    have HBL := Lib.hid hbl
    have HA := Lib.hid hA
    have HTB := Lib.hid htab
    have hcl : cap < 9223372036854775808 := by unfold maxLen at hm; omega
    clear hat ih hok hk hbl hA htab
    go_enter Tryd.func12, Tryd.ntmps12
    go_wp2_with fail
    go_loopw [4, 7] (fun _ v wr => ∃ i : Nat, v = .int .i64 i ∧ i ≤ l.length ∧ Below w.heap.size w wr) (fun _ v _ => l.length - (intOf v).toNat)
    case atStart => exact ⟨0, rfl, Nat.zero_le _, Below.refl _ _⟩
    case round =>
      obtain ⟨i, rfl, hi, hbr⟩ := hrel
      have HBR := Lib.hid hbr
      have hsz := HBL.out.size
      have HBW : Hid (Below Bd w0 wr) := HBL.out.trans (hbr.mono (by omega))
      clear hbr
      by_cases hlt : i < l.length
      · obtain ⟨b, o, rfl, hbB, hcells⟩ := HAT.out (by omega)
        obtain ⟨y0, y1, y2, y3⟩ := (hcells i hlt).keep HBW.out hbB
        obtain ⟨A1, n1, e1, -, -⟩ := (HK.out i hlt).form
        have hkk := HK.out i hlt
        rw [e1] at y3 hkk
        have hal := ExprsA.at alB HA.out (List.getElem_mem hlt)
        have hIHi := HIH.out i hlt hal.2
        rw [e1] at hIHi
        have HIHI := Lib.hid hIHi
        have HX := Lib.hid (Blk.new wr 27 #[.int .u8 l[i].k, .string l[i].s, .int .u64 l[i].n, .slice A1 l[i].kids.length n1])
        have HXB := Lib.hid ((Below.refl wr.heap.size wr).alloc (Nat.le_refl _) (.cells #[.int .u8 l[i].k, .string l[i].s, .int .u64 l[i].n, .slice A1 l[i].kids.length n1] 27))
        have HKK := Lib.hid hkk
        have HOI := Lib.hid (HOK.out i hlt)
        have HA1 := Lib.hid hal.1
        clear hcells hkk hal hIHi e1
        go_upto_region 4 with (fail)
        clear y0 y1 y2 y3
        generalize wr.alloc (.cells #[.int .u8 l[i].k, .string l[i].s, .int .u64 l[i].n, .slice A1 l[i].kids.length n1] 27) = wa at *
        obtain ⟨xb, hxb⟩ : ∃ x, x = wr.heap.size := ⟨_, rfl⟩
        have HXS := Lib.hid hxb
        rw [← hxb] at HX ⊢
        clear hxb
        have hwa : Below Bd w0 wa := HBW.out.trans (HXB.out.mono (Nat.le_trans hB0 HBW.out.size))
        have HC1 := Lib.hid (w_Expr (w := wa) l[i] A1 n1 ((HKK.out.keep hwa).mono (Nat.le_trans hB0 hwa.size)) HOI.out (HTB.out _ hwa))
        rw [HA1.out] at HC1
        unfold evE at HC1
        have z0 : wa.cell? ⟨xb, 0, none⟩ = some (.int .u8 l[i].k) := HX.out.cell 0
        have z1 : wa.cell? ⟨xb, 1, none⟩ = some (.string l[i].s) := HX.out.cell 1
        have z2 : wa.cell? ⟨xb, 2, none⟩ = some (.int .u64 l[i].n) := HX.out.cell 2
        have z3 : wa.cell? ⟨xb, 3, none⟩ = some (.slice A1 l[i].kids.length n1) := HX.out.cell 3
        have HWA := Lib.hid hwa
        clear hwa
        go_wp2_with fail
        refine HC1.out.mono ?_
        rintro en w3 ⟨rfl, hb3⟩
        have HX3 := Lib.hid (HX.out.keep (Tur.of_gr (F := fun _ => False) hb3) (fun h => h))
        have HW3 : Hid (Below Bd w0 w3) := HWA.out.trans (hb3.mono (Nat.le_trans hB0 HWA.out.size))
        have HB3 : Hid (Below w.heap.size w w3) := HBR.out.trans ((HXB.out.trans (hb3.mono HXB.out.size)).mono HBR.out.size)
        clear hb3 z0 z1 z2 z3
        have z3 : w3.cell? ⟨xb, 3, none⟩ = some (.slice A1 l[i].kids.length n1) := HX3.out.cell 3
        go_wp2_with fail
        refine (HIHI.out w3 HW3.out).mono ?_
        rintro en w4 ⟨rfl, hb4⟩
        have HB4 : Hid (Below w.heap.size w w4) := HB3.out.trans (hb4.mono HB3.out.size)
        clear hb4 z3
        go_wp2_with fail
        go_roundw
        case rel => exact ⟨i + 1, by go_num, by omega, HB4.out⟩
        case measure => simp [intOf]; omega
      · go_wp2_with fail
        go_ret
        exact ⟨rfl, HBR.out⟩
end Go.Proofs.YtmapjahpjolmnaaDoor
namespace Go.Proofs.YtmapjahpjolmnaaDoor
open Go.RowKit Tr
set_option maxRecDepth 20000
theorem one_size (s : XS) (h : rightB nameB alB (oneS s) = true) : (sizeP (oneS s)).1 ≤ 1000000 := by
  have h2 := (fit_iff (oneS s)).2 ((right_iff nameB alB (oneS s)).1 h).1
  omega
theorem num_mem {l : List XS} {s : XS} (h : s ∈ l) : numS s ≤ numSs l := by
  induction l with
  | nil => cases h
  | cons x l ih =>
    rw [numSs_cons]
    rcases List.mem_cons.1 h with rfl | h
    · omega
    · have := ih h; omega
set_option maxHeartbeats 4000000 in
theorem x_within {w0 : World} {Bd : Nat} {l : List XS} {v : Value} (htab : Lib.TabBelow Tryd.prog Bd w0 "strings.asciiSpace" .u8 Lib.asciiSpaceTab) (hB0 : Bd ≤ w0.heap.size) (h : SsAt w0 Bd l v) : WithinA nameB alB l → numSs l ≤ 1000000 → ∀ w, Below Bd w0 w →
    Calls Tryd.prog 13 #[v] w fun e w' => e = .returned (.bool true) ∧ Below w.heap.size w w' := by
  induction h with
  | @mk l A cap ev bv lvv hc hm hat hok hee hbb hll ih1 ih2 =>
    intro hA hnm w hbl
    have HAT := Lib.hid hat
    have HIH1 := Lib.hid ih1
    have HIH2 := Lib.hid ih2
    have HOK := Lib.hid hok
    have HEE := Lib.hid hee
    have HBBV := Lib.hid hbb
    have HLLV := Lib.hid hll
    have HBL := Lib.hid hbl
    have HA := Lib.hid hA
    have HTB := Lib.hid htab
    have HNM := Lib.hid hnm
    have hcl : cap < 9223372036854775808 := by unfold maxLen at hm; omega
    clear hat ih1 ih2 hok hee hbb hll hbl hA htab hnm
    go_enter Tryd.func13, Tryd.ntmps13
    go_wp2_with fail
    go_loopw [4, 5, 8] (fun _ _ v wr => ∃ i : Nat, v = .int .i64 i ∧ i ≤ l.length ∧ Below w.heap.size w wr) (fun _ _ v _ => l.length - (intOf v).toNat)
    case atStart => exact ⟨0, rfl, Nat.zero_le _, Below.refl _ _⟩
    case round =>
      obtain ⟨i, rfl, hi, hbr⟩ := hrel
      have HBR := Lib.hid hbr
      have hsz := HBL.out.size
      have HBW : Hid (Below Bd w0 wr) := HBL.out.trans (hbr.mono (by omega))
      clear hbr
      by_cases hlt : i < l.length
      · obtain ⟨b, o, rfl, hbB, hcells⟩ := HAT.out (by omega)
        have hcc := (hcells i hlt).keep HBW.out hbB
        obtain ⟨A1, n1, e1, -, -⟩ := (HEE.out i hlt).form
        obtain ⟨A2, n2, e2, -, -⟩ := (HBBV.out i hlt).form
        obtain ⟨A3, n3, e3, -, -⟩ := (HLLV.out i hlt).form
        have hke := HEE.out i hlt
        have hkb := HBBV.out i hlt
        have hkl := HLLV.out i hlt
        have hwa := WithinA.at nameB alB HA.out (List.getElem_mem hlt)
        have hn := num_mem (List.getElem_mem hlt)
        have hnm := HNM.out
        rw [numS_eq] at hn
        have hIHb := HIH1.out i hlt hwa.2.2.1 (by omega)
        have hIHl := HIH2.out i hlt hwa.2.2.2 (by omega)
        rw [e1] at hcc hke
        rw [e2] at hcc hkb hIHb
        rw [e3] at hcc hkl hIHl
        have HKE := Lib.hid hke
        have HKB := Lib.hid hkb
        have HKL := Lib.hid hkl
        have HIHB := Lib.hid hIHb
        have HIHL := Lib.hid hIHl
        have HWA := Lib.hid hwa
        have HOI := Lib.hid (HOK.out i hlt)
        have HNS := Lib.hid (show numS l[i] ≤ 1000000 from by rw [numS_eq]; omega)
        obtain ⟨y0, y1, y2, y3, y4, y5, y6⟩ := hcc
        clear hcells hke hkb hkl hwa hn hnm hIHb hIHl e1 e2 e3
        generalize l[i] = s at *
        obtain ⟨wa, hwa, hba, hB0', hB1', hB2', hB3', hsa⟩ := four_new wr 31 31 35 39 #[.int .u8 s.k, .string s.s, .int .i64 s.n, .slice A1 s.exprs.length n1, .slice A2 s.body.length n2, .slice A3 s.els.length n3, .int .i64 s.line] #[.int .u8 s.k, .string s.s, .int .i64 s.n, .slice A1 s.exprs.length n1, .slice A2 s.body.length n2, .slice A3 s.els.length n3, .int .i64 s.line] #[.int .u8 2, .string ⟨#[]⟩, .slice none 0 0, .slice none 0 0, .bool false, .slice (some ⟨wr.heap.size + 1, 0, none⟩) 1 1, .int .i64 0] #[.slice (some ⟨wr.heap.size + 1 + 1, 0, none⟩) 1 1]
        have hwb : Below Bd w0 wa := HBW.out.trans (hba.mono (Nat.le_trans hB0 HBW.out.size))
        have hBa : Bd ≤ wa.heap.size := Nat.le_trans hB0 hwb.size
        have hsi : SsAt wa wa.heap.size [s] (.slice (some ⟨wr.heap.size + 1, 0, none⟩) 1 1) := SsAt.one ⟨hB1'.cell 0, hB1'.cell 1, hB1'.cell 2, hB1'.cell 3, hB1'.cell 4, hB1'.cell 5, hB1'.cell 6⟩ (by omega) ((HKE.out.keep hwb).mono hBa) ((HKB.out.keep hwb).mono hBa) ((HKL.out.keep hwb).mono hBa) HOI.out (Nat.le_refl _) (by unfold maxLen; decide)
        have hI : IsAt wa wa.heap.size (oneS s) (.slice (some ⟨wr.heap.size + 1 + 1, 0, none⟩) 1 1) := IsAt.one (e := ⟨2, e0, [], [], false, [s], 0⟩) ⟨hB2'.cell 0, hB2'.cell 1, hB2'.cell 2, hB2'.cell 3, hB2'.cell 4, hB2'.cell 5, hB2'.cell 6⟩ (by omega) (TsAt.nil _ _) (EsAt.nil _ _) hsi ⟨rfl, Nat.zero_le _, rfl, fun p hp => by cases hp⟩
        have HC1 := Lib.hid (w_Right hI (one_size s HWA.out.1) (HTB.out _ hwb))
        rw [HWA.out.1] at HC1
        have HWAA := Lib.hid hwa
        have HWB := Lib.hid hwb
        have HX := Lib.hid hB0'
        have HO := Lib.hid hB3'
        have HBA := Lib.hid hba
        clear hwa hwb hBa hsi hI hB0' hB1' hB2' hB3' hba hsa
        go_upto_region 5 with (fail)
        rw [← HWAA.out]
        clear HWAA y0 y1 y2 y3 y4 y5 y6
        obtain ⟨X, hX⟩ : ∃ x, x = wr.heap.size := ⟨_, rfl⟩
        have HXS := Lib.hid hX
        rw [← hX] at HX HO HC1 ⊢
        clear hX
        have p0 : wa.cell? ⟨X + 1 + 1 + 1, 0, none⟩ = some (.slice (some ⟨X + 1 + 1, 0, none⟩) 1 1) := HO.out.cell 0
        go_wp2_with fail
        refine HC1.out.mono ?_
        rintro en w3 ⟨rfl, hb3⟩
        have HX3 := Lib.hid (HX.out.keep (Tur.of_gr (F := fun _ => False) hb3) (fun h => h))
        have HW3 : Hid (Below Bd w0 w3) := HWB.out.trans (hb3.mono (Nat.le_trans hB0 HWB.out.size))
        have HB3 : Hid (Below w.heap.size w w3) := HBR.out.trans ((HBA.out.trans (hb3.mono HBA.out.size)).mono HBR.out.size)
        clear hb3 p0
        have z3 : w3.cell? ⟨X, 3, none⟩ = some (.slice A1 s.exprs.length n1) := HX3.out.cell 3
        go_wp2_with fail
        refine (x_exprs HTB.out hB0 HKE.out HWA.out.2.1 w3 HW3.out).mono ?_
        rintro en w4 ⟨rfl, hb4⟩
        have HX4 := Lib.hid (HX3.out.keep (Tur.of_gr (F := fun _ => False) hb4) (fun h => h))
        have HW4 : Hid (Below Bd w0 w4) := HW3.out.trans (hb4.mono (Nat.le_trans hB0 HW3.out.size))
        have HB4 : Hid (Below w.heap.size w w4) := HB3.out.trans (hb4.mono HB3.out.size)
        clear hb4 z3
        have z4 : w4.cell? ⟨X, 4, none⟩ = some (.slice A2 s.body.length n2) := HX4.out.cell 4
        go_wp2_with fail
        refine (HIHB.out w4 HW4.out).mono ?_
        rintro en w5 ⟨rfl, hb5⟩
        have HX5 := Lib.hid (HX4.out.keep (Tur.of_gr (F := fun _ => False) hb5) (fun h => h))
        have HW5 : Hid (Below Bd w0 w5) := HW4.out.trans (hb5.mono (Nat.le_trans hB0 HW4.out.size))
        have HB5 : Hid (Below w.heap.size w w5) := HB4.out.trans (hb5.mono HB4.out.size)
        clear hb5 z4
        have z5 : w5.cell? ⟨X, 5, none⟩ = some (.slice A3 s.els.length n3) := HX5.out.cell 5
        go_wp2_with fail
        refine (HIHL.out w5 HW5.out).mono ?_
        rintro en w6 ⟨rfl, hb6⟩
        have HB6 : Hid (Below w.heap.size w w6) := HB5.out.trans (hb6.mono HB5.out.size)
        clear hb6 z5
        go_wp2_with fail
        go_roundw
        case rel => exact ⟨i + 1, by go_num, by omega, HB6.out⟩
        case measure => simp [intOf]; omega
      · go_wp2_with fail
        go_ret
        exact ⟨rfl, HBR.out⟩
end Go.Proofs.YtmapjahpjolmnaaDoor
namespace Go.Proofs.YtmapjahpjolmnaaDoor
open Go.RowKit Tr
set_option maxRecDepth 20000
namespace Tr
mutual
theorem sizeE_le : ∀ (e : XE) (m : Int), (sizeE e m).1 ≤ numEs e.kids
  | .mk k s n l, m => by rw [sizeE_eq]; exact sizeEs_le l m
theorem sizeEs_le : ∀ (l : List XE) (m : Int), (sizeEs l m).1 ≤ numEs l
  | [], m => by rw [sizeEs_nil, numEs_nil]; exact Int.le_refl _
  | e :: r, m => by
    have h1 := sizeE_le e (m - 1)
    have h2 := sizeEs_le r m
    rw [sizeEs_cons, numEs_cons, numE_eq]
    split
    · simp only; omega
    · simp only; omega
end
mutual
theorem sizeS_le : ∀ (e : XS) (m : Int), (sizeS e m).1 + 1 ≤ numS e
  | .mk k s n l b o ln, m => by
    have h1 := sizeEs_le l m
    have h2 := sizeSs_le b m
    have h3 := sizeSs_le o m
    rw [sizeS_eq, numS_eq]
    show (sizeEs l m).1 + (sizeSs b m).1 + (sizeSs o m).1 + 1 ≤ ((numEs l + numSs b + numSs o + 1 : Nat) : Int)
    omega
theorem sizeSs_le : ∀ (l : List XS) (m : Int), (sizeSs l m).1 ≤ numSs l
  | [], m => by rw [sizeSs_nil, numSs_nil]; exact Int.le_refl _
  | e :: r, m => by
    have h1 := sizeS_le e (m - 1)
    have h2 := sizeSs_le r m
    rw [sizeSs_cons, numSs_cons]
    split
    · simp only; omega
    · simp only; omega
end
theorem foldI_le : ∀ (l : List XI) (a : Int × Int), (l.foldl sizeI a).1 ≤ a.1 + numP l
  | [], a => by simp [numP]
  | x :: l, a => by
    have h := foldI_le l (sizeI a x)
    have h1 := sizeEs_le x.exprs 61
    have h2 := sizeSs_le x.body 61
    have h3 : (sizeI a x).1 = a.1 + (sizeEs x.exprs 61).1 + (sizeSs x.body 61).1 := rfl
    rw [List.foldl_cons]
    simp only [numP, List.map_cons, List.sum_cons, numI] at h ⊢
    omega
theorem sizeP_num (l : List XI) : (sizeP l).1 ≤ numP l := by have h : (sizeP l).1 ≤ (0 : Int) + numP l := foldI_le l (0, 0); omega
end Tr
theorem IsAt.take {w : World} {Bd : Nat} {l : List XI} {A : Option Addr} {cap : Nat} (h : IsAt w Bd l (.slice A l.length cap)) (k : Nat) (hk : k ≤ l.length) : IsAt w Bd (l.take k) (.slice A k cap) := by
  obtain ⟨A', cap', pv, ev, bv, h1, h2, h3, h4, h5⟩ := h.form
  injection h1 with e1 e2 e3
  subst e1 e3
  have hl : (l.take k).length = k := by rw [List.length_take]; omega
  refine ⟨A, cap, pv, ev, bv, by rw [hl], by omega, h3, fun hp => ?_, fun i hi => ?_⟩
  · obtain ⟨b, o, g1, g2, g3⟩ := h4 (by omega)
    refine ⟨b, o, g1, g2, fun i hi => ?_⟩
    rw [List.getElem_take]
    exact g3 i (by omega)
  · rw [List.getElem_take]
    exact h5 i (by omega)
theorem one_size1 (x : XI) (h : rightB nameB alB [x] = true) : (sizeP [x]).1 ≤ 1000000 := by
  have h2 := (fit_iff [x]).2 ((right_iff nameB alB [x]).1 h).1
  omega
set_option maxHeartbeats 4000000 in
theorem l_whole0 {w : World} {l : List XI} {v : Value} (h : IsAt w w.heap.size l v) (hz : numP l ≤ 1500000) (htab : Lib.TabIs Tryd.prog w "strings.asciiSpace" .u8 Lib.asciiSpaceTab) :
    Calls Tryd.prog 4 #[.agg #[v]] w fun e w' => e = .returned (.bool true) ∧ Below w.heap.size w w' := by
  have HTB := Lib.hid (Lib.tabBelow_of_tabIs htab)
  obtain ⟨A, cap, pv, ev, bv, rfl, hc, hm, hat, hin⟩ := h.form
  have HH := Lib.hid h
  have HAT := Lib.hid hat
  have HIN := Lib.hid hin
  have hcl : cap < 9223372036854775808 := by unfold maxLen at hm; omega
  have hb1 := (Below.refl w.heap.size w).alloc (Nat.le_refl _) (.cells #[.slice A l.length cap] 39)
  have hp1 := Blk.new w 39 #[.slice A l.length cap]
  clear h hat hin htab
  go_enter Tryd.func4, Tryd.ntmps4
  go_upto_region 1 with (fail)
  generalize w.alloc (.cells #[.slice A l.length cap] 39) = w1 at *
  have HBC := Lib.hid hb1
  have HP1 := Lib.hid hp1
  have HHG := Lib.hid (w_Huge ((HH.out.keep hb1).mono hb1.size) hz 100 400 (by decide) (by decide) (by decide) (by decide))
  have x0 : w1.cell? ⟨w.heap.size, 0, none⟩ = some (.slice A l.length cap) := hp1.cell 0
  clear hb1 hp1
  go_wp2_with fail
  refine HHG.out.mono ?_
  rintro en w2 ⟨hbo, rfl, hb, hno⟩
  have HP2 := Lib.hid (HP1.out.keep (Tur.of_gr (F := fun _ => False) hb) (fun h => h))
  have HNO := Lib.hid hno
  (have hbz := HBC.out.trans (hb.mono HBC.out.size); clear HBC hb; have HBC := Lib.hid hbz; clear hbz)
  clear hno HHG HP1 x0
  cases hbo
  rotate_left
  · go_wp2_with fail
    refine (w_awake (HTB.out _ HBC.out)).mono ?_
    rintro en w3 ⟨rfl, hb⟩
    (have hbz := HBC.out.trans (hb.mono HBC.out.size); clear HBC hb; have HBC := Lib.hid hbz; clear hbz)
    go_wp2_with fail
    go_ret
    exact ⟨rfl, HBC.out⟩
  have HN4 : Hid (numP l ≤ 400) := by have := HNO.out rfl; unfold Hid; omega
  have HS1 : Hid ((sizeP l).1 ≤ 1000000) := by have := sizeP_num l; have := HN4.out; unfold Hid; omega
  have HRG := Lib.hid (w_Right ((HH.out.keep HBC.out).mono HBC.out.size) HS1.out (HTB.out _ HBC.out))
  have x0 : w2.cell? ⟨w.heap.size, 0, none⟩ = some (.slice A l.length cap) := HP2.out.cell 0
  clear HNO
  go_wp2_with fail
  refine HRG.out.mono ?_
  rintro en w3 ⟨rfl, hb⟩
  have HP3 := Lib.hid (HP2.out.keep (Tur.of_gr (F := fun _ => False) hb) (fun h => h))
  (have hbz := HBC.out.trans (hb.mono HBC.out.size); clear HBC hb; have HBC := Lib.hid hbz; clear hbz)
  clear HRG HP2 x0
  cases hrb : rightB nameB alB l
  · clear hrb
    go_wp2_with fail
    refine (w_awake (HTB.out _ HBC.out)).mono ?_
    rintro en w4 ⟨rfl, hb⟩
    (have hbz := HBC.out.trans (hb.mono HBC.out.size); clear HBC hb; have HBC := Lib.hid hbz; clear hbz)
    go_wp2_with fail
    go_ret
    exact ⟨rfl, HBC.out⟩
  have HRB := Lib.hid hrb
  have hfit := (fit_iff l).2 ((right_iff nameB alB l).1 hrb).1
  clear hrb
  have HSG := Lib.hid (w_Size ((HH.out.keep HBC.out).mono HBC.out.size) HS1.out)
  have x0 : w3.cell? ⟨w.heap.size, 0, none⟩ = some (.slice A l.length cap) := HP3.out.cell 0
  obtain ⟨hf1, hf2⟩ := hfit
  go_wp2_with fail
  refine HSG.out.mono ?_
  rintro en w4 ⟨rfl, hb⟩
  have HP4 := Lib.hid (HP3.out.keep (Tur.of_gr (F := fun _ => False) hb) (fun h => h))
  (have hbz := HBC.out.trans (hb.mono HBC.out.size); clear HBC hb; have HBC := Lib.hid hbz; clear hbz)
  clear HSG HP3 x0
  generalize (sizeP l).1 = sn at *
  generalize (sizeP l).2 = sd at *
  have hg1 : ¬ 4000 < sn := by omega
  have hg2 : ¬ 60 < sd := by omega
  have x0 : w4.cell? ⟨w.heap.size, 0, none⟩ = some (.slice A l.length cap) := HP4.out.cell 0
  go_wp2_with fail
  clear x0 hg1 hg2 hf1 hf2
  generalize w4 = wk at *
  go_loopw [6, 29] (fun _ v wr => ∃ i : Nat, v = .int .i64 i ∧ i ≤ l.length ∧ Below w.heap.size w wr ∧ Blk wr w.heap.size 39 #[.slice A l.length cap]) (fun _ v _ => l.length - (intOf v).toNat)
  case atStart => exact ⟨0, rfl, Nat.zero_le _, HBC.out, HP4.out⟩
  case round =>
    obtain ⟨i, rfl, hi, hbr, hpr⟩ := hrel
    clear HBC HP4
    have HBC := Lib.hid hbr
    have HPR := Lib.hid hpr
    clear hbr hpr
    by_cases hlt : i < l.length
    · obtain ⟨b, o, rfl, hbB, hcells⟩ := HAT.out (by omega)
      have hcc := (hcells i hlt).keep HBC.out hbB
      obtain ⟨hok, htp, hep, hbp⟩ := HIN.out i hlt
      obtain ⟨A1, n1, e1, -, -, -⟩ := htp.form
      obtain ⟨A2, n2, e2, -, -⟩ := hep.form
      obtain ⟨A3, n3, e3, -, -⟩ := hbp.form
      have hparts := item_parts nameB alB HRB.out (List.getElem_mem hlt)
      have hri := right_item nameB alB HRB.out (List.getElem_mem hlt)
      have hni := numI_le (List.getElem_mem hlt)
      have hn4 := HN4.out
      unfold numI at hni
      have HN9 := Lib.hid (show numSs l[i].body ≤ 1000000 from by omega)
      rw [e1] at hcc htp
      rw [e2] at hcc hep
      rw [e3] at hcc hbp
      have HTP := Lib.hid htp
      have HEP := Lib.hid hep
      have HBP := Lib.hid hbp
      have HOK := Lib.hid hok
      have HPT := Lib.hid hparts
      have HRI := Lib.hid hri
      obtain ⟨y0, y1, y2, y3, y4, y5, y6⟩ := hcc
      have HX := Lib.hid (Blk.new wr 35 #[.int .u8 l[i].k, .string l[i].name, .slice A1 l[i].params.length n1, .slice A2 l[i].exprs.length n2, .bool l[i].has, .slice A3 l[i].body.length n3, .int .i64 l[i].line])
      have hb := (Below.refl wr.heap.size wr).alloc (Nat.le_refl _) (.cells #[.int .u8 l[i].k, .string l[i].name, .slice A1 l[i].params.length n1, .slice A2 l[i].exprs.length n2, .bool l[i].has, .slice A3 l[i].body.length n3, .int .i64 l[i].line] 35)
      have HPA := Lib.hid (HPR.out.keep (Tur.of_gr (F := fun _ => False) hb) (fun h => h))
      clear hcells hbB hok htp hep hbp e1 e2 e3 hparts hri hni hn4 HPR
      generalize l[i] = x at *
      go_upto_region 9 with (fail)
      clear y0 y1 y2 y3 y4 y5 y6
      generalize wr.alloc (.cells #[.int .u8 x.k, .string x.name, .slice A1 x.params.length n1, .slice A2 x.exprs.length n2, .bool x.has, .slice A3 x.body.length n3, .int .i64 x.line] 35) = wa at *
      obtain ⟨X, hX⟩ : ∃ X, X = wr.heap.size := ⟨_, rfl⟩
      rw [← hX] at HX ⊢
      clear hX
      (have hbz := HBC.out.trans (hb.mono HBC.out.size); clear HBC hb; have HBC := Lib.hid hbz; clear hbz)
      have z3 : wa.cell? ⟨X, 3, none⟩ = some (.slice A2 x.exprs.length n2) := HX.out.cell 3
      go_wp2_with fail
      refine (x_exprs HTB.out (Nat.le_refl _) HEP.out HPT.out.1 wa HBC.out).mono ?_
      rintro en w5 ⟨rfl, hb⟩
      have HX5 := Lib.hid (HX.out.keep (Tur.of_gr (F := fun _ => False) hb) (fun h => h))
      have HP5 := Lib.hid (HPA.out.keep (Tur.of_gr (F := fun _ => False) hb) (fun h => h))
      (have hbz := HBC.out.trans (hb.mono HBC.out.size); clear HBC hb; have HBC := Lib.hid hbz; clear hbz)
      clear z3 HX HPA
      have z5 : w5.cell? ⟨X, 5, none⟩ = some (.slice A3 x.body.length n3) := HX5.out.cell 5
      go_wp2_with fail
      refine (x_within HTB.out (Nat.le_refl _) HBP.out HPT.out.2 HN9.out w5 HBC.out).mono ?_
      rintro en w6 ⟨rfl, hb⟩
      have HX6 := Lib.hid (HX5.out.keep (Tur.of_gr (F := fun _ => False) hb) (fun h => h))
      have HP6 := Lib.hid (HP5.out.keep (Tur.of_gr (F := fun _ => False) hb) (fun h => h))
      (have hbz := HBC.out.trans (hb.mono HBC.out.size); clear HBC hb; have HBC := Lib.hid hbz; clear hbz)
      clear z5 HX5 HP5
      obtain ⟨z0, z1, z2, z3, z4, z5, z6⟩ : w6.cell? ⟨X, 0, none⟩ = some (.int .u8 x.k) ∧ w6.cell? ⟨X, 1, none⟩ = some (.string x.name) ∧ w6.cell? ⟨X, 2, none⟩ = some (.slice A1 x.params.length n1) ∧ w6.cell? ⟨X, 3, none⟩ = some (.slice A2 x.exprs.length n2) ∧ w6.cell? ⟨X, 4, none⟩ = some (.bool x.has) ∧ w6.cell? ⟨X, 5, none⟩ = some (.slice A3 x.body.length n3) ∧ w6.cell? ⟨X, 6, none⟩ = some (.int .i64 x.line) := ⟨HX6.out.cell 0, HX6.out.cell 1, HX6.out.cell 2, HX6.out.cell 3, HX6.out.cell 4, HX6.out.cell 5, HX6.out.cell 6⟩
      have hbl := Blk.new w6 35 #[.int .u8 x.k, .string x.name, .slice A1 x.params.length n1, .slice A2 x.exprs.length n2, .bool x.has, .slice A3 x.body.length n3, .int .i64 x.line]
      have hb := (Below.refl w6.heap.size w6).alloc (Nat.le_refl _) (.cells #[.int .u8 x.k, .string x.name, .slice A1 x.params.length n1, .slice A2 x.exprs.length n2, .bool x.has, .slice A3 x.body.length n3, .int .i64 x.line] 35)
      have hbw : Below w.heap.size w (w6.alloc (.cells #[.int .u8 x.k, .string x.name, .slice A1 x.params.length n1, .slice A2 x.exprs.length n2, .bool x.has, .slice A3 x.body.length n3, .int .i64 x.line] 35)) := HBC.out.trans (hb.mono HBC.out.size)
      have hI := IsAt.one ⟨hbl.cell 0, hbl.cell 1, hbl.cell 2, hbl.cell 3, hbl.cell 4, hbl.cell 5, hbl.cell 6⟩ hbl.lt ((HTP.out.keep hbw).mono hbw.size) ((HEP.out.keep hbw).mono hbw.size) ((HBP.out.keep hbw).mono hbw.size) HOK.out
      have HRX := Lib.hid (w_Right hI (one_size1 x HRI.out) (HTB.out _ hbw))
      rw [HRI.out] at HRX
      have HBN := Lib.hid hb
      have HPN := Lib.hid (HP6.out.keep (Tur.of_gr (F := fun _ => False) hb) (fun h => h))
      clear hb hbl hbw hI
      go_wp2_with fail
      refine HRX.out.mono ?_
      rintro en w7 ⟨rfl, hb7⟩
      have HP7 := Lib.hid (HPN.out.keep (Tur.of_gr (F := fun _ => False) hb7) (fun h => h))
      have hb := HBN.out.trans (hb7.mono HBN.out.size)
      (have hbz := HBC.out.trans (hb.mono HBC.out.size); clear HBC hb; have HBC := Lib.hid hbz; clear hbz)
      clear hb7 z0 z1 z2 z3 z4 z5 z6
      go_wp2_with fail
      go_roundw
      case rel => exact ⟨i + 1, by go_num, by omega, HBC.out, HP7.out⟩
      case measure => simp [intOf]; omega
    · have x0 : wr.cell? ⟨w.heap.size, 0, none⟩ = some (.slice A l.length cap) := HPR.out.cell 0
      rcases Nat.eq_zero_or_pos l.length with hz0 | hp0
      · have hl0 : ((l.length : Int) == 0) = true := by rw [hz0]; rfl
        have HZ0 := Lib.hid hz0
        clear hz0
        go_wp2_with fail
        refine (w_awake (HTB.out _ HBC.out)).mono ?_
        rintro en w5 ⟨rfl, hb⟩
        (have hbz := HBC.out.trans (hb.mono HBC.out.size); clear HBC hb; have HBC := Lib.hid hbz; clear hbz)
        go_wp2_with fail
        go_ret
        exact ⟨rfl, HBC.out⟩
      · have hl0 : ((l.length : Int) == 0) = false := by rw [beq_eq_false_iff_ne]; omega
        have HRT := Lib.hid (w_Right (((HH.out.take (l.length - 1) (by omega)).keep HBC.out).mono HBC.out.size) (by have := sizeP_num (l.take (l.length - 1)); have := numP_take l (l.length - 1); have := HN4.out; omega) (HTB.out _ HBC.out))
        rw [right_take nameB alB HRB.out] at HRT
        go_wp2_with fail
        refine HRT.out.mono ?_
        rintro en w5 ⟨rfl, hb⟩
        (have hbz := HBC.out.trans (hb.mono HBC.out.size); clear HBC hb; have HBC := Lib.hid hbz; clear hbz)
        go_wp2_with fail
        refine (w_awake (HTB.out _ HBC.out)).mono ?_
        rintro en w6 ⟨rfl, hb⟩
        (have hbz := HBC.out.trans (hb.mono HBC.out.size); clear HBC hb; have HBC := Lib.hid hbz; clear hbz)
        go_wp2_with fail
        go_ret
        exact ⟨rfl, HBC.out⟩
open Go.ChangeShapes Go.WideShapes Go.Deep in
theorem agg_open {w : World} {base : Nat} {r : Reach} {t : TypeId} {fs : Array Field} {v : Value} {H : Type} {enc : TypeId × Value → H} {d : DataW H} {p : List MemPlace} {spare : Nat → Bool} {held : Bool} (hu : Tryd.prog.underlying t = some (.struct fs))
    (hval : Value.okWide Tryd.prog w r base t v) (k : DataW.Trod enc Tryd.prog w 0 spare held t v d p) : ∃ cs fuel, v = .agg cs ∧ DataW.trod enc Tryd.prog w 0 spare held fuel t cs.toList = some (d, p) := by
  unfold Value.okWide at hval
  rw [hu] at hval
  obtain ⟨cs, rfl, -⟩ := hval
  obtain ⟨fuel, hf⟩ := k
  exact ⟨cs, fuel, rfl, by simpa [Value.cells] using hf⟩
set_option maxRecDepth 100000 in
theorem l_whole {H : Type} {enc : TypeId × Value → H} {d0 : DataW H} {p0 : List MemPlace} {s0 : Nat → Bool} {g0 : Bool} {r0 : Reach} {b0 : Nat} (v0 : Value) (w : World) (hsh : w.ShapedOpen Tryd.prog) (htab : Lib.TabIs Tryd.prog w "strings.asciiSpace" .u8 Lib.asciiSpaceTab) (hbk : Rows.uptoBulkAll [d0] ≤ 1048576)
    (hv0 : Value.okWide Tryd.prog w r0 b0 39 v0) (k0 : DataW.Trod enc Tryd.prog w 0 s0 g0 39 v0 d0 p0) :
    Calls Tryd.prog 4 #[v0] w fun e w' => e = .returned (.bool true) ∧ Below w.heap.size w w' := by
  have hb0 : Rows.uptoBulk d0 ≤ 1048576 := Nat.le_trans (bulk_part (by simp)) hbk
  obtain ⟨vs, fuel, rfl, h⟩ := agg_open Tryd.underlying39 hv0 k0
  obtain ⟨cs⟩ := vs
  obtain ⟨l, v, hcs, hI, hn⟩ := t_program h
  have e : cs = [v] := hcs
  subst e
  dsimp only at hn
  exact l_whole0 hI (by omega) htab
end Go.Proofs.YtmapjahpjolmnaaDoor
