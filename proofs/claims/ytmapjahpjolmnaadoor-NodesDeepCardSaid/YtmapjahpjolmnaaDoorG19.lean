/- NodesDeep: what its loops lay. -/
import Derived.Test.YtmapjahpjolmnaaDoorG18
import Derived.Maps.AppendAt
set_option linter.unusedVariables false
set_option linter.unusedSimpArgs false
namespace Go.Proofs.YtmapjahpjolmnaaDoor
open Go.RowKit Tr
set_option maxRecDepth 20000
namespace Low
def pick (x n : Int) : Int := if n ≤ 0 then 0 else x % n
theorem pick_range (x n : Int) (h : 0 < n) : 0 ≤ pick x n ∧ pick x n < n := by
  rw [pick, if_neg (by omega)]
  exact ⟨Int.emod_nonneg _ (by omega), Int.emod_lt_of_pos _ h⟩
theorem tmod_bounds (x n : Int) (h : 0 < n) : -n < x.tmod n ∧ x.tmod n < n := by
  have h1 := Int.emod_nonneg x (show n ≠ 0 by omega)
  have h2 := Int.emod_lt_of_pos x h
  rw [Int.tmod_eq_emod]
  split
  · omega
  · rename_i h3
    have h4 : x % n ≠ 0 := fun e => h3 (Or.inr (Int.dvd_of_emod_eq_zero e))
    omega
theorem pick_tmod (x n : Int) (h : 0 < n) : pick x n = if x.tmod n < 0 then x.tmod n + n else x.tmod n := by
  have h1 := Int.emod_nonneg x (show n ≠ 0 by omega)
  have h2 := Int.emod_lt_of_pos x h
  rw [pick, if_neg (by omega), Int.tmod_eq_emod]
  by_cases h3 : 0 ≤ x ∨ n ∣ x
  · rw [if_pos h3]; simp; omega
  · rw [if_neg h3]
    have h4 : x % n ≠ 0 := fun e => h3 (Or.inr (Int.dvd_of_emod_eq_zero e))
    rw [if_pos (by omega)]; omega
end Low
theorem w_pickK (x n : Int) (w : World) (hn0 : 0 < n) (hn1 : n ≤ 4611686018427387904) :
    Calls Tryd.prog 5 #[.int .i64 x, .int .i64 n] w fun e w' => e = .returned (.int .i64 (Low.pick x n)) ∧ w' = w := by
  obtain ⟨hb1, hb2⟩ := Low.tmod_bounds x n hn0
  have HP := Lib.hid (Low.pick_tmod x n hn0)
  by_cases hneg : x.tmod n < 0
  all_goals
    go_enter Tryd.func5, Tryd.ntmps5
    go_wp2_with fail
    go_ret
    exact ⟨ret_int (by rw [HP.out]; first | rw [if_pos (by omega)] | rw [if_neg (by omega)]), rfl⟩
/-- The chain in memory: its arrays lie one behind the other. -/
def kidv (X : Nat) : Nat → Value
  | 0 => .slice none 0 0
  | j + 1 => .slice (some ⟨X + 1 + j, 0, none⟩) 1 1
def chk (j : Nat) : Int := if j = 0 then 1 else 11
def chc (X j : Nat) : Array Value := #[.int .u8 (chk j), .string ⟨#[]⟩, .int .u64 0, kidv X j]
theorem chain_is (j : Nat) : (chain j).k = chk j ∧ (chain j).s = ⟨#[]⟩ ∧ (chain j).n = 0 := by
  cases j <;> exact ⟨rfl, rfl, rfl⟩
theorem chain_ok (j : Nat) : (chain j).Ok := by
  cases j <;> exact ⟨rfl, Nat.zero_le _, rfl⟩
theorem chain_cells {w : World} {b X j : Nat} {t : TypeId} (h : Blk w b t (chc X j)) : ecells w b 0 (chain j) (kidv X j) := by
  obtain ⟨h1, h2, h3⟩ := chain_is j
  unfold ecells
  rw [h1, h2, h3]
  exact ⟨h.cell 0, h.cell 1, h.cell 2, h.cell 3⟩
theorem chain_at {w : World} {X : Nat} {t : TypeId} : ∀ (n : Nat), (∀ j, j < n → Blk w (X + 1 + j) t (chc X j)) → EsAt w w.heap.size (chain n).kids (kidv X n)
  | 0, _ => EsAt.nil _ _
  | n + 1, h => by
    have hb := h n (by omega)
    exact EsAt.one (chain_cells hb) hb.lt (chain_at n (fun j hj => h j (by omega))) (chain_ok n) (Nat.le_refl _) (by unfold maxLen; decide)
theorem Blk.set4 {w : World} {g : Nat} {t : TypeId} {a b c d : Value} (h : Blk w g t #[a, b, c, d]) (v x y z : Value) : Blk ((((w.setCell ⟨g, 0, none⟩ v).setCell ⟨g, 1, none⟩ x).setCell ⟨g, 2, none⟩ y).setCell ⟨g, 3, none⟩ z) g t #[v, x, y, z] := by
  have := (((h.set 0 v).set 1 x).set 2 y).set 3 z
  simpa using this
theorem Tur.set4 {w : World} {g i1 i2 i3 i4 : Nat} (x1 x2 x3 x4 : Value) : Tur (· = g) w ((((w.setCell ⟨g, i1, none⟩ x1).setCell ⟨g, i2, none⟩ x2).setCell ⟨g, i3, none⟩ x3).setCell ⟨g, i4, none⟩ x4) :=
  (((Tur.of_set ⟨g, i1, none⟩ x1).trans (Tur.of_set ⟨g, i2, none⟩ x2) (fun i _ h => h)).trans (Tur.of_set ⟨g, i3, none⟩ x3) (fun i _ h => h)).trans (Tur.of_set ⟨g, i4, none⟩ x4) (fun i _ h => h)
/-- Inside the first loop. -/
structure ChI (w0 : World) (X i : Nat) (w : World) : Prop where
  below : Below X w0 w
  box : Blk w X 27 (chc X i)
  arr : ∀ j, j < i → Blk w (X + 1 + j) 27 (chc X j)
  size : w.heap.size = X + 1 + i
theorem chc_def (X j : Nat) : chc X j = #[.int .u8 (chk j), .string ⟨#[]⟩, .int .u64 0, kidv X j] := rfl
theorem ChI.next {w0 w : World} {X i : Nat} (h : ChI w0 X i w) (hX : X ≤ w0.heap.size) : ChI w0 X (i + 1) (((((w.setCell ⟨X, 0, none⟩ (.int .u8 11)).setCell ⟨X, 1, none⟩ (.string ⟨#[]⟩)).setCell ⟨X, 2, none⟩ (.int .u64 0)).setCell ⟨X, 3, none⟩ (.slice (some ⟨X + 1 + i, 0, none⟩) 1 1)).alloc (.cells (chc X i) 27)) := by
  have hs := h.below.size
  have ht := Tur.set4 (w := w) (g := X) (i1 := 0) (i2 := 1) (i3 := 2) (i4 := 3) (.int .u8 11) (.string ⟨#[]⟩) (.int .u64 0) (.slice (some ⟨X + 1 + i, 0, none⟩) 1 1)
  have hb := h.box.set4 (.int .u8 11) (.string ⟨#[]⟩) (.int .u64 0) (.slice (some ⟨X + 1 + i, 0, none⟩) 1 1)
  have hz : ((((w.setCell ⟨X, 0, none⟩ (.int .u8 11)).setCell ⟨X, 1, none⟩ (.string ⟨#[]⟩)).setCell ⟨X, 2, none⟩ (.int .u64 0)).setCell ⟨X, 3, none⟩ (.slice (some ⟨X + 1 + i, 0, none⟩) 1 1)).heap.size = X + 1 + i := by simp [World.setCell, h.size]
  have hbl := h.below.trans (ht.below X (by omega) (fun k hk e => by omega))
  generalize (((w.setCell ⟨X, 0, none⟩ (.int .u8 11)).setCell ⟨X, 1, none⟩ (.string ⟨#[]⟩)).setCell ⟨X, 2, none⟩ (.int .u64 0)).setCell ⟨X, 3, none⟩ (.slice (some ⟨X + 1 + i, 0, none⟩) 1 1) = w1 at *
  have hn := Blk.new w1 27 (chc X i)
  rw [hz] at hn
  refine ⟨hbl.alloc (by omega) _, ?_, fun j hj => ?_, by simp [hz]; omega⟩
  · exact alloc_keep hb _
  · rcases Nat.lt_succ_iff_lt_or_eq.1 hj with hj | rfl
    · exact alloc_keep ((h.arr j hj).keep ht (by omega)) _
    · exact hn
def snv : List Value := [.int .u8 11, .string ⟨#[]⟩, .int .i64 0, .slice none 0 0, .slice none 0 0, .slice none 0 0, .int .i64 0]
def snvs (n : Nat) : List Value := (List.replicate n sNext).flatMap (fun _ => snv)
theorem snvs_succ (n : Nat) : snvs (n + 1) = snvs n ++ snv := by
  unfold snvs
  rw [List.replicate_succ', List.flatMap_append]
  simp
theorem flat_getN {α : Type} (f : α → List Value) (n : Nat) (hf : ∀ a, (f a).length = n) : ∀ (l : List α) (i j : Nat) (h : i < l.length), j < n → (l.flatMap f)[i * n + j]? = (f l[i])[j]? := by
  intro l
  induction l with
  | nil => intro i j h; simp at h
  | cons a l ih =>
    intro i j h hj
    cases i with
    | zero => simp only [Nat.zero_mul, Nat.zero_add, List.flatMap_cons, List.getElem_cons_zero]; rw [List.getElem?_append_left (by rw [hf]; omega)]
    | succ i =>
      simp only [List.flatMap_cons, List.getElem_cons_succ]
      rw [List.getElem?_append_right (by rw [hf, Nat.succ_mul]; omega), hf, show (i + 1) * n + j - n = i * n + j by rw [Nat.succ_mul]; omega]
      exact ih i j (by simpa using h) hj
theorem many_at {w : World} {base n : Nat} {v : Value} (h : w.ownsRow base 31 7 v n (snvs n)) : SsAt w w.heap.size (List.replicate n sNext) v := by
  rcases h.2 with ⟨h1, h0⟩ | ⟨g, cap, cur, h1, hg, hh, h4, h5, h6⟩
  · subst h0
    subst h1
    exact SsAt.nil _ _
  · subst h1
    have hl : (List.replicate n sNext).length = n := List.length_replicate ..
    have hz : (List.replicate n sNext).length ≤ cap := by omega
    have key : SsAt w w.heap.size (List.replicate n sNext) (.slice (some ⟨g, 0, none⟩) (List.replicate n sNext).length cap) := by
      refine SsAt.mk (fun _ => .slice none 0 0) (fun _ => .slice none 0 0) (fun _ => .slice none 0 0) hz h5 (fun _ => ⟨g, 0, rfl, (Array.getElem?_eq_some_iff.1 hh).1, fun i hi => ?_⟩) (fun i hi => ?_) (fun i hi => ?_) (fun i hi => ?_) (fun i hi => ?_)
      · have hc : ∀ j, j < 7 → w.cell? ⟨g, 0 + i * 7 + j, none⟩ = snv[j]? := fun j hj => by
          rw [Nat.zero_add, h.cellAt (i * 7 + j) (by omega)]
          exact flat_getN (fun _ => snv) 7 (fun _ => rfl) (List.replicate n sNext) i j hi hj
        rw [List.getElem_replicate]
        exact ⟨hc 0 (by decide), hc 1 (by decide), hc 2 (by decide), hc 3 (by decide), hc 4 (by decide), hc 5 (by decide), hc 6 (by decide)⟩
      · rw [List.getElem_replicate]
        exact ⟨by decide, by decide, by decide, by decide⟩
      · rw [List.getElem_replicate]
        exact EsAt.nil _ _
      · rw [List.getElem_replicate]
        exact SsAt.nil _ _
      · rw [List.getElem_replicate]
        exact SsAt.nil _ _
    rw [hl] at key
    exact key
/-- A block in a block: the second loop's round. -/
theorem bchain_next {w : World} {n : Nat} {v : Value} (h : SsAt w w.heap.size (bchain n) v) :
    SsAt (w.alloc (.cells #[.int .u8 15, .string ⟨#[]⟩, .int .i64 0, .slice none 0 0, v, .slice none 0 0, .int .i64 0] 31)) (w.heap.size + 1) (bchain (n + 1)) (.slice (some ⟨w.heap.size, 0, none⟩) 1 1) := by
  have hb := Blk.new w 31 #[.int .u8 15, .string ⟨#[]⟩, .int .i64 0, .slice none 0 0, v, .slice none 0 0, .int .i64 0]
  exact SsAt.one (e := .mk 15 e0 0 [] (bchain n) [] 0) ⟨hb.cell 0, hb.cell 1, hb.cell 2, hb.cell 3, hb.cell 4, hb.cell 5, hb.cell 6⟩ (by omega) (EsAt.nil _ _) ((h.keep ((Below.refl _ _).alloc (Nat.le_refl _) _)).mono (by omega)) (SsAt.nil _ _) ⟨rfl, Nat.zero_le _, rfl, rfl⟩ (Nat.le_refl _) (by unfold maxLen; decide)
set_option maxHeartbeats 4000000 in
/-- The law's closure 'right'. -/
theorem x_right {w : World} (x : XI) {pv ev bv : Value} (hp : TsAt w w.heap.size x.params pv) (he : EsAt w w.heap.size x.exprs ev) (hb : SsAt w w.heap.size x.body bv) (hok : x.Ok) (hz : (sizeP [x]).1 ≤ 1000000) (htab : Lib.TabIs Tryd.prog w "strings.asciiSpace" .u8 Lib.asciiSpaceTab) :
    Calls Tryd.prog 6 #[.agg #[.int .u8 x.k, .string x.name, pv, ev, .bool x.has, bv, .int .i64 x.line]] w fun en w' => en = .returned (.bool (rightB nameB alB [x])) ∧ Below w.heap.size w w' := by
  obtain ⟨A1, c1, rfl, -, -, -⟩ := hp.form
  obtain ⟨A2, c2, rfl, -, -⟩ := he.form
  obtain ⟨A3, c3, rfl, -, -⟩ := hb.form
  have HTB := Lib.hid (Lib.tabBelow_of_tabIs htab)
  have HP := Lib.hid hp
  have HE := Lib.hid he
  have HB := Lib.hid hb
  clear hp he hb htab
  obtain ⟨w2, hw2, hb2, hB0, hB1, hsz⟩ := two_new w 35 35 #[.int .u8 x.k, .string x.name, .slice A1 x.params.length c1, .slice A2 x.exprs.length c2, .bool x.has, .slice A3 x.body.length c3, .int .i64 x.line] #[.int .u8 x.k, .string x.name, .slice A1 x.params.length c1, .slice A2 x.exprs.length c2, .bool x.has, .slice A3 x.body.length c3, .int .i64 x.line]
  have hI : IsAt w2 w2.heap.size [x] (.slice (some ⟨w.heap.size + 1, 0, none⟩) 1 1) := IsAt.one ⟨hB1.cell 0, hB1.cell 1, hB1.cell 2, hB1.cell 3, hB1.cell 4, hB1.cell 5, hB1.cell 6⟩ (by omega) ((HP.out.keep hb2).mono hb2.size) ((HE.out.keep hb2).mono hb2.size) ((HB.out.keep hb2).mono hb2.size) hok
  have HR := Lib.hid (w_Right hI hz (HTB.out _ hb2))
  have HW2 := Lib.hid hw2
  have HB2 := Lib.hid hb2
  clear hw2 hb2 hB0 hB1 hsz hI
  go_enter Tryd.func6, Tryd.ntmps6
  go_wp2_with fail
  rw [← HW2.out]
  refine HR.out.mono ?_
  rintro en w3 ⟨rfl, hb3⟩
  have HB3 := Lib.hid (HB2.out.trans (hb3.mono HB2.out.size))
  clear hb3
  go_wp2_with fail
  go_ret
  exact ⟨rfl, HB3.out⟩
end Go.Proofs.YtmapjahpjolmnaaDoor
namespace Go.Proofs.YtmapjahpjolmnaaDoor
open Go.RowKit Tr
set_option maxRecDepth 20000
theorem al_num : alB (.mk 1 e0 0 []) = true := by kernel_rfl
theorem al_not (x : XE) : alB (.mk 11 e0 0 [x]) = true := by
  rw [al_is (.mk 11 e0 0 [x]) (show ¬ (11 : Int) = 1 by decide) (show ¬ (11 : Int) = 2 by decide) (show ¬ (11 : Int) = 3 by decide) (show ¬ (11 : Int) = 23 by decide) ⟨11, 1, 1, kNo, false⟩ (by rfl)]
  rfl
theorem info_stmt : (Tryd.prog.info? 31).map (fun i => (i.zero, i.size, i.bytes)) = some (some (.agg #[.int .u8 0, .string ⟨#[]⟩, .int .i64 0, .slice none 0 0, .slice none 0 0, .slice none 0 0, .int .i64 0]), 7, 112) := by kernel_rfl
theorem snv_one : ∀ u ∈ snv, u.oneCell' = true := by decide
theorem own_slice {w : World} {base e sz n : Nat} {v : Value} {xs : List Value} (h : w.ownsRow base e sz v n xs) : ∃ A m c, v = .slice A m c := by
  rcases h.2 with ⟨h1, -⟩ | ⟨g, cap, cur, h1, -⟩
  · exact ⟨_, _, _, h1⟩
  · exact ⟨_, _, _, h1⟩
section
variable {wc : World} {X k : Nat} {A A2 : Option Addr} {m c m2 c2 : Nat} {bb : Bool}
theorem dp_E (hch : EsAt wc wc.heap.size (chain (49 + k)).kids (.slice (some ⟨X + 1 + (48 + k), 0, none⟩) 1 1)) (htb : Lib.TabBelow Tryd.prog wc.heap.size wc "strings.asciiSpace" .u8 Lib.asciiSpaceTab) (hbb : decide (k ≤ 10) = bb) :
    Calls Tryd.prog 8 #[.agg #[.int .u8 11, .string ⟨#[]⟩, .int .u64 0, .slice (some ⟨X + 1 + (48 + k), 0, none⟩) 1 1]] wc fun en w' => en = .returned (.bool bb) ∧ Below wc.heap.size wc w' := by
  have hx := w_Expr (w := wc) (.mk 11 e0 0 [chain (48 + k)]) (some ⟨X + 1 + (48 + k), 0, none⟩) 1 (by rw [show 49 + k = (48 + k) + 1 by omega] at hch; exact hch) ⟨rfl, Nat.zero_le _, rfl⟩ (htb _ (Below.refl _ _))
  have hr := chain_R al_num al_not (48 + k + 1) 60
  rw [show exprR alB (.mk 11 e0 0 [chain (48 + k)]) 60 = bb from by rw [← hbb]; exact hr.trans (decide_eq_decide.2 (by omega))] at hx
  exact hx
theorem dp_R1 (hch : EsAt wc wc.heap.size (chain (49 + k)).kids (.slice (some ⟨X + 1 + (48 + k), 0, none⟩) 1 1)) (htb : Lib.TabBelow Tryd.prog wc.heap.size wc "strings.asciiSpace" .u8 Lib.asciiSpaceTab) (hbb : decide (k ≤ 10) = bb) (v : World) (hv : Below wc.heap.size wc v) :
    Calls Tryd.prog 6 #[.agg #[.int .u8 3, .string ⟨#[]⟩, .slice none 0 0, .slice (some ⟨v.heap.size, 0, none⟩) 1 1, .bool false, .slice none 0 0, .int .i64 0]] (v.alloc (.cells #[.int .u8 11, .string ⟨#[]⟩, .int .u64 0, .slice (some ⟨X + 1 + (48 + k), 0, none⟩) 1 1] 27)) fun en w' => en = .returned (.bool bb) ∧ Below v.heap.size v w' := by
  have hbn := (Below.refl v.heap.size v).alloc (Nat.le_refl _) (.cells #[.int .u8 11, .string ⟨#[]⟩, .int .u64 0, .slice (some ⟨X + 1 + (48 + k), 0, none⟩) 1 1] 27)
  have hbl := Blk.new v 27 #[.int .u8 11, .string ⟨#[]⟩, .int .u64 0, .slice (some ⟨X + 1 + (48 + k), 0, none⟩) 1 1]
  have hv2 := hv.trans (hbn.mono hv.size)
  generalize v.alloc (.cells #[.int .u8 11, .string ⟨#[]⟩, .int .u64 0, .slice (some ⟨X + 1 + (48 + k), 0, none⟩) 1 1] 27) = va at *
  rw [show 49 + k = (48 + k) + 1 by omega] at hch
  have hes : EsAt va va.heap.size [chain (48 + k + 1)] (.slice (some ⟨v.heap.size, 0, none⟩) 1 1) := EsAt.one (e := .mk 11 e0 0 [chain (48 + k)]) ⟨hbl.cell 0, hbl.cell 1, hbl.cell 2, hbl.cell 3⟩ hbl.lt ((hch.keep hv2).mono hv2.size) ⟨rfl, Nat.zero_le _, rfl⟩ (Nat.le_refl _) (by unfold maxLen; decide)
  have hrb := deep_rule nameB (al := alB) (48 + k + 1) al_num al_not
  have hsz : (sizeP [⟨3, e0, [], [chain (48 + k + 1)], false, [], 0⟩]).1 ≤ 1000000 := by
    unfold sizeP
    simp only [List.foldl_cons, List.foldl_nil, sizeI]
    rw [chain_N _ 61 (by decide), sizeSs_nil]
    simp only
    omega
  have hx := x_right (w := va) ⟨3, e0, [], [chain (48 + k + 1)], false, [], 0⟩ (TsAt.nil _ _) hes (SsAt.nil _ _) ⟨rfl, Nat.zero_le _, rfl, fun p hp => by cases hp⟩ hsz (htb _ hv2)
  rw [hrb, show decide (48 + k + 1 + 1 ≤ 60) = bb from by rw [← hbb]; exact decide_eq_decide.2 (by omega)] at hx
  refine hx.mono ?_
  rintro en w' ⟨rfl, hb⟩
  exact ⟨rfl, hbn.trans (hb.mono hbn.size)⟩
theorem dp_R2 (hsb : SsAt wc wc.heap.size (bchain (50 + k)) (.slice A m c)) (htb : Lib.TabBelow Tryd.prog wc.heap.size wc "strings.asciiSpace" .u8 Lib.asciiSpaceTab) (hbb : decide (k ≤ 10) = bb) (v : World) (hv : Below wc.heap.size wc v) :
    Calls Tryd.prog 6 #[.agg #[.int .u8 1, .string ⟨#[]⟩, .slice none 0 0, .slice none 0 0, .bool false, .slice A m c, .int .i64 0]] v fun en w' => en = .returned (.bool bb) ∧ Below v.heap.size v w' := by
  have hrb := deep_begin nameB (al := alB) (50 + k)
  have hsz : (sizeP [⟨1, e0, [], [], false, bchain (50 + k), 0⟩]).1 ≤ 1000000 := by
    unfold sizeP
    simp only [List.foldl_cons, List.foldl_nil, sizeI]
    rw [bchain_N _ 61 (by decide), sizeEs_nil]
    simp only
    omega
  have hx := x_right (w := v) ⟨1, e0, [], [], false, bchain (50 + k), 0⟩ (TsAt.nil _ _) (EsAt.nil _ _) ((hsb.keep hv).mono hv.size) ⟨rfl, Nat.zero_le _, rfl, fun p hp => by cases hp⟩ hsz (htb _ hv)
  rw [hrb, show decide (50 + k ≤ 60) = bb from by rw [← hbb]; exact decide_eq_decide.2 (by omega)] at hx
  exact hx
theorem dp_R3 (hmn : SsAt wc wc.heap.size (List.replicate (3990 + k) sNext) (.slice A2 m2 c2)) (htb : Lib.TabBelow Tryd.prog wc.heap.size wc "strings.asciiSpace" .u8 Lib.asciiSpaceTab) (hbb : decide (k ≤ 10) = bb) (hk : k < 21) (v : World) (hv : Below wc.heap.size wc v) :
    Calls Tryd.prog 6 #[.agg #[.int .u8 2, .string ⟨#[]⟩, .slice none 0 0, .slice none 0 0, .bool false, .slice A2 m2 c2, .int .i64 0]] v fun en w' => en = .returned (.bool bb) ∧ Below v.heap.size v w' := by
  have hrb := deep_end nameB (al := alB) (3990 + k)
  have hsz : (sizeP [⟨2, e0, [], [], false, List.replicate (3990 + k) sNext, 0⟩]).1 ≤ 1000000 := by
    unfold sizeP
    simp only [List.foldl_cons, List.foldl_nil, sizeI]
    rw [many_N sNext ⟨rfl, rfl, rfl⟩, sizeEs_nil]
    simp only
    omega
  have hx := x_right (w := v) ⟨2, e0, [], [], false, List.replicate (3990 + k) sNext, 0⟩ (TsAt.nil _ _) (EsAt.nil _ _) ((hmn.keep hv).mono hv.size) ⟨rfl, Nat.zero_le _, rfl, fun p hp => by cases hp⟩ hsz (htb _ hv)
  rw [hrb, show decide (3990 + k ≤ 4000) = bb from by rw [← hbb]; exact decide_eq_decide.2 (by omega)] at hx
  exact hx
end
set_option maxHeartbeats 4000000 in
theorem l_deep (n : Int) (w : World) (hsh : w.ShapedOpen Tryd.prog) (htab : Lib.TabIs Tryd.prog w "strings.asciiSpace" .u8 Lib.asciiSpaceTab) (hwf : (Lit.int .i64 n).wf = true) :
    Calls Tryd.prog 3 #[.int .i64 n] w fun e w' => e = .returned (.bool true) ∧ Below w.heap.size w w' := by
  have HTB := Lib.hid (Lib.tabBelow_of_tabIs htab)
  clear htab
  obtain ⟨hk0, hk1⟩ := Low.pick_range n 21 (by decide)
  have HPK := Lib.hid (w_pickK n 21 w (by decide) (by decide))
  obtain ⟨k, hk⟩ : ∃ k : Nat, Low.pick n 21 = k := ⟨(Low.pick n 21).toNat, by omega⟩
  rw [hk] at HPK hk0 hk1
  clear hk
  have HC0 : Hid (ChI w w.heap.size 0 (w.alloc (.cells (chc w.heap.size 0) 27))) := ⟨(Below.refl _ _).alloc (Nat.le_refl _) _, Blk.new w _ _, fun j hj => absurd hj (Nat.not_lt_zero _), by simp⟩
  rw [chc_def, show chk 0 = 1 from rfl, show kidv w.heap.size 0 = .slice none 0 0 from rfl] at HC0
  go_enter Tryd.func3, Tryd.ntmps3
  go_wp2_with (with_reducible (refine HPK.out.mono ?_); rintro en w2 ⟨rfl, rfl⟩)
  obtain ⟨X, hX⟩ : ∃ X, X = w2.heap.size := ⟨_, rfl⟩
  have HXL := Lib.hid (Nat.le_of_eq hX)
  have HXE := Lib.hid hX
  rw [← hX] at HC0 ⊢
  clear HPK hX
  go_loopw [6] (fun v wr => ∃ i : Nat, v = .int .i64 ((i : Int) + 1) ∧ i + 1 ≤ 50 + k ∧ ChI w2 X i wr) (fun v _ => 50 + k - (intOf v).toNat)
  case atStart => exact ⟨0, rfl, by omega, HC0.out⟩
  case round =>
    obtain ⟨i, rfl, hi, hch⟩ := hrel
    have HC := Lib.hid hch
    have hn := hch.next HXL.out
    rw [← hch.size, chc_def] at hn
    have HN := Lib.hid hn
    clear hch hn HC0
    by_cases hlt : (i : Int) + 1 < 50 + k
    · have x0 : wr.cell? ⟨X, 0, none⟩ = some (.int .u8 (chk i)) := HC.out.box.cell 0
      have x1 : wr.cell? ⟨X, 1, none⟩ = some (.string ⟨#[]⟩) := HC.out.box.cell 1
      have x2 : wr.cell? ⟨X, 2, none⟩ = some (.int .u64 0) := HC.out.box.cell 2
      have x3 : wr.cell? ⟨X, 3, none⟩ = some (kidv X i) := HC.out.box.cell 3
      have f0 := HC.out.box.free 0
      have f1 := HC.out.box.free 1
      have f2 := HC.out.box.free 2
      have f3 := HC.out.box.free 3
      obtain ⟨A, m, c, hkv⟩ : ∃ A m c, kidv X i = .slice A m c := by cases i <;> exact ⟨_, _, _, rfl⟩
      rw [hkv] at x3 HN
      have hXlt : X < wr.heap.size := HC.out.box.lt
      clear hkv HC
      go_wp2_with fail
      go_roundw
      case rel => exact ⟨i + 1, by go_num, by omega, HN.out⟩
      case measure => simp [intOf]; omega
    · obtain rfl : i = 49 + k := by omega
      clear HN
      go_wp2_with fail
      generalize wr = wa at *
      have hs1 := HC.out.size
      have HC1 := Lib.hid HC.out
      have HSB0 : Hid (SsAt wa wa.heap.size (bchain 0) (.slice none 0 0)) := SsAt.nil _ _
      go_loopw [4, 7] (fun v4 v7 ws => ∃ j : Nat, v7 = .int .i64 j ∧ j ≤ 50 + k ∧ (∃ A m c, v4 = .slice A m c) ∧ SsAt ws ws.heap.size (bchain j) v4 ∧ Below wa.heap.size wa ws) (fun _ v7 _ => 50 + k - (intOf v7).toNat)
      case atStart => exact ⟨0, rfl, by omega, ⟨_, _, _, rfl⟩, HSB0.out, Below.refl _ _⟩
      case round =>
        obtain ⟨j, rfl, hj, ⟨A, m, c, rfl⟩, hsb, hbs⟩ := hrel
        have HSB := Lib.hid hsb
        have HBS := Lib.hid hbs
        clear hsb hbs HSB0 HC
        by_cases hjt : (j : Int) < 50 + k
        · have HN := Lib.hid (bchain_next HSB.out)
          have HBN := Lib.hid (HBS.out.alloc HBS.out.size (.cells #[.int .u8 15, .string ⟨#[]⟩, .int .i64 0, .slice none 0 0, .slice A m c, .slice none 0 0, .int .i64 0] 31))
          go_wp2_with fail
          go_roundw
          case rel => exact ⟨j + 1, by go_num, by omega, ⟨_, _, _, rfl⟩, (by rw [World.size_alloc]; exact HN.out), HBN.out⟩
          case measure => simp [intOf]; omega
        · obtain rfl : j = 50 + k := by omega
          go_wp2_with fail
          generalize wr = wb at *
          have HO0 : Hid (wb.ownsRow wb.heap.size 31 7 (.slice none 0 0) 0 (snvs 0)) := World.ownsRow_nil wb wb.heap.size 31 7
          go_loopw [5, 8] (fun v5 v8 ws => ∃ j : Nat, v8 = .int .i64 j ∧ j ≤ 3990 + k ∧ (∃ A m c, v5 = .slice A m c) ∧ ws.ownsRow wb.heap.size 31 7 v5 j (snvs j) ∧ Below wb.heap.size wb ws) (fun _ v8 _ => 3990 + k - (intOf v8).toNat)
          case atStart => exact ⟨0, rfl, by omega, ⟨_, _, _, rfl⟩, HO0.out, Below.refl _ _⟩
          case round =>
            obtain ⟨q, rfl, hq, ⟨A2, m2, c2, rfl⟩, hso, hbo⟩ := hrel
            have HSO := Lib.hid hso
            have HBO := Lib.hid hbo
            clear hso hbo HO0
            by_cases hqt : (q : Int) < 3990 + k
            · have hz1 : q + 1 ≤ maxLen := by unfold maxLen; omega
              have hz2 : (q + 1) * 112 ≤ 140737488355328 := by omega
              have hbsz := HBO.out.size
              go_wp2_with (at_builtin; refine wp_app1 rfl _ _ _ rfl 31 7 112 _ Tryd.underlying28 info_stmt rfl (by decide) wb.heap.size _ _ _ rfl HSO.out snv rfl rfl snv_one hz1 hz2 hbsz ?_; intro v' wz hown' hgrow hne'; obtain ⟨A3, m3, c3, rfl⟩ := own_slice hown'; have HOW := Lib.hid hown'; have HGR := Lib.hid (HBO.out.trans (below_grown HSO.out hgrow hbsz)); clear hown' hgrow hne')
              go_roundw
              case rel => exact ⟨q + 1, by go_num, by omega, ⟨_, _, _, rfl⟩, (by rw [snvs_succ]; exact HOW.out), HGR.out⟩
              case measure => simp [intOf]; omega
            · obtain rfl : q = 3990 + k := by omega
              generalize wr = wc at *
              have hb1 : Below wa.heap.size wa wc := HBS.out.trans (HBO.out.mono HBS.out.size)
              have hch : EsAt wc wc.heap.size (chain (49 + k)).kids (kidv X (49 + k)) := ((chain_at (49 + k) HC1.out.arr).keep hb1).mono hb1.size
              have hbx : Blk wc X 27 (chc X (49 + k)) := below_blk HC1.out.box hb1 HC1.out.box.lt
              have hsb : SsAt wc wc.heap.size (bchain (50 + k)) (.slice A m c) := (HSB.out.keep HBO.out).mono HBO.out.size
              have hmn := many_at HSO.out
              have hb0 : Below w2.heap.size w2 wc := by
                rw [← HXE.out]
                exact HC1.out.below.trans (hb1.mono (by omega))
              have hkd : kidv X (49 + k) = .slice (some ⟨X + 1 + (48 + k), 0, none⟩) 1 1 := by
                rw [show 49 + k = (48 + k) + 1 by omega]
                rfl
              have hck : chk (49 + k) = 11 := by
                unfold chk
                rw [if_neg (by omega)]
              rw [chc_def, hck, hkd] at hbx
              rw [hkd] at hch
              obtain ⟨ce, hce⟩ : ∃ ce, chain (49 + k) = ce := ⟨_, rfl⟩
              obtain ⟨hi1, hi2, hi3⟩ := chain_is (49 + k)
              have hok := chain_ok (49 + k)
              have hkl : (chain (49 + k)).kids.length = 1 := by
                rw [show 49 + k = (48 + k) + 1 by omega]
                rfl
              rw [hck] at hi1
              have HCH := Lib.hid hch
              have HBX := Lib.hid hbx
              have HSS := Lib.hid hsb
              have HMN := Lib.hid hmn
              have HB0 := Lib.hid hb0
              have HIS := Lib.hid (And.intro hi1 (And.intro hi2 (And.intro hi3 (And.intro hkl hok))))
              have x0 : wc.cell? ⟨X, 0, none⟩ = some (.int .u8 11) := hbx.cell 0
              have x1 : wc.cell? ⟨X, 1, none⟩ = some (.string ⟨#[]⟩) := hbx.cell 1
              have x2 : wc.cell? ⟨X, 2, none⟩ = some (.int .u64 0) := hbx.cell 2
              have x3 : wc.cell? ⟨X, 3, none⟩ = some (.slice (some ⟨X + 1 + (48 + k), 0, none⟩) 1 1) := hbx.cell 3
              clear hb1 hch hbx hsb hmn hb0 hkd hck hce hi1 hi2 hi3 hok hkl HC1 HSB HSO HBO HBS hs1
              have HTC : Hid (Lib.TabBelow Tryd.prog wc.heap.size wc "strings.asciiSpace" .u8 Lib.asciiSpaceTab) := fun w' h => HTB.out _ (HB0.out.trans (h.mono HB0.out.size))
              have HXW : Hid (X < wc.heap.size) := HBX.out.lt
              clear HTB HIS
              cases hbb : decide (k ≤ 10)
              · have h10 : ¬ k ≤ 10 := of_decide_eq_false hbb
                have HE := Lib.hid (dp_E HCH.out HTC.out hbb)
                have HR1 := Lib.hid (dp_R1 HCH.out HTC.out hbb)
                have HR2 := Lib.hid (dp_R2 HSS.out HTC.out hbb)
                have HR3 := Lib.hid (dp_R3 HMN.out HTC.out hbb (by omega))
                clear hbb HCH HSS HMN
                (have HBC := Lib.hid (Below.refl wc.heap.size wc); go_wp2_with fail; refine HE.out.mono ?_; rintro en v1 ⟨rfl, hb⟩; (have hbz := HBC.out.trans (hb.mono HBC.out.size); clear HBC hb; have HBC := Lib.hid hbz; clear hbz); have y0 : v1.cell? ⟨X, 0, none⟩ = some (.int .u8 11) := (cell_keep HBC.out HXW.out).trans x0; have y1 : v1.cell? ⟨X, 1, none⟩ = some (.string ⟨#[]⟩) := (cell_keep HBC.out HXW.out).trans x1; have y2 : v1.cell? ⟨X, 2, none⟩ = some (.int .u64 0) := (cell_keep HBC.out HXW.out).trans x2; have y3 : v1.cell? ⟨X, 3, none⟩ = some (.slice (some ⟨X + 1 + (48 + k), 0, none⟩) 1 1) := (cell_keep HBC.out HXW.out).trans x3; clear x0 x1 x2 x3; go_wp2_with fail; refine (HR1.out v1 HBC.out).mono ?_; rintro en v2 ⟨rfl, hb⟩; (have hbz := HBC.out.trans (hb.mono HBC.out.size); clear HBC hb; have HBC := Lib.hid hbz; clear hbz); clear y0 y1 y2 y3; go_wp2_with fail; refine (HR2.out v2 HBC.out).mono ?_; rintro en v3 ⟨rfl, hb⟩; (have hbz := HBC.out.trans (hb.mono HBC.out.size); clear HBC hb; have HBC := Lib.hid hbz; clear hbz); go_wp2_with fail; refine (HR3.out v3 HBC.out).mono ?_; rintro en v4 ⟨rfl, hb⟩; (have hbz := HBC.out.trans (hb.mono HBC.out.size); clear HBC hb; have HBC := Lib.hid hbz; clear hbz); go_wp2_with fail; refine (w_awake (HTC.out _ HBC.out)).mono ?_; rintro en v5 ⟨rfl, hb⟩; (have hbz := HBC.out.trans (hb.mono HBC.out.size); clear HBC hb; have HBC := Lib.hid hbz; clear hbz); go_wp2_with fail; go_ret; exact ⟨(by first | rfl | exact ret_bool (by simp only [Bool.and_eq_true, Bool.not_eq_true', decide_eq_false_iff_not]; omega)), HB0.out.trans (HBC.out.mono HB0.out.size)⟩)
              · have h10 : k ≤ 10 := of_decide_eq_true hbb
                have HE := Lib.hid (dp_E HCH.out HTC.out hbb)
                have HR1 := Lib.hid (dp_R1 HCH.out HTC.out hbb)
                have HR2 := Lib.hid (dp_R2 HSS.out HTC.out hbb)
                have HR3 := Lib.hid (dp_R3 HMN.out HTC.out hbb (by omega))
                clear hbb HCH HSS HMN
                (have HBC := Lib.hid (Below.refl wc.heap.size wc); go_wp2_with fail; refine HE.out.mono ?_; rintro en v1 ⟨rfl, hb⟩; (have hbz := HBC.out.trans (hb.mono HBC.out.size); clear HBC hb; have HBC := Lib.hid hbz; clear hbz); have y0 : v1.cell? ⟨X, 0, none⟩ = some (.int .u8 11) := (cell_keep HBC.out HXW.out).trans x0; have y1 : v1.cell? ⟨X, 1, none⟩ = some (.string ⟨#[]⟩) := (cell_keep HBC.out HXW.out).trans x1; have y2 : v1.cell? ⟨X, 2, none⟩ = some (.int .u64 0) := (cell_keep HBC.out HXW.out).trans x2; have y3 : v1.cell? ⟨X, 3, none⟩ = some (.slice (some ⟨X + 1 + (48 + k), 0, none⟩) 1 1) := (cell_keep HBC.out HXW.out).trans x3; clear x0 x1 x2 x3; go_wp2_with fail; refine (HR1.out v1 HBC.out).mono ?_; rintro en v2 ⟨rfl, hb⟩; (have hbz := HBC.out.trans (hb.mono HBC.out.size); clear HBC hb; have HBC := Lib.hid hbz; clear hbz); clear y0 y1 y2 y3; go_wp2_with fail; refine (HR2.out v2 HBC.out).mono ?_; rintro en v3 ⟨rfl, hb⟩; (have hbz := HBC.out.trans (hb.mono HBC.out.size); clear HBC hb; have HBC := Lib.hid hbz; clear hbz); go_wp2_with fail; refine (HR3.out v3 HBC.out).mono ?_; rintro en v4 ⟨rfl, hb⟩; (have hbz := HBC.out.trans (hb.mono HBC.out.size); clear HBC hb; have HBC := Lib.hid hbz; clear hbz); go_wp2_with fail; refine (w_awake (HTC.out _ HBC.out)).mono ?_; rintro en v5 ⟨rfl, hb⟩; (have hbz := HBC.out.trans (hb.mono HBC.out.size); clear HBC hb; have HBC := Lib.hid hbz; clear hbz); go_wp2_with fail; go_ret; exact ⟨(by first | rfl | exact ret_bool (by simp only [Bool.and_eq_true, Bool.not_eq_true', decide_eq_false_iff_not]; omega)), HB0.out.trans (HBC.out.mono HB0.out.size)⟩)
end Go.Proofs.YtmapjahpjolmnaaDoor
