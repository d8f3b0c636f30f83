/- Arrays: the walks of the reference. -/
import Derived.Test.YtjgfhdabcahokaaArr2
import Derived.Test.YtjgfhdabcahokaaArrRefPlain
import Derived.Lib.Strings
import Derived.StillTailTactics
import Derived.RegionTactic
import Derived.BigRegion
namespace Go.Proofs.Ytjgfhdabcahokaa
open Go.RowKit
open Go.WideMaps Go.WideElems Go.WideAt

theorem info_item : (Try.prog.info? 72).map (fun i => (i.zero, i.size, i.bytes)) = some (some (.agg #[.string ⟨#[]⟩, .int .u8 0, .int .u64 0, .string ⟨#[]⟩]), 4, 48) := by kernel_rfl
theorem one_item {s : Arr.Item} : ∀ u ∈ Arr.ivals1 s, u.oneCell' = true := by
  intro u hu; simp [Arr.ivals1] at hu
  rcases hu with rfl | rfl | rfl | rfl <;> rfl
theorem all_items {l : List Arr.Item} : ∀ u ∈ Arr.ivals l, u.oneCell' = true := by
  intro u hu
  simp only [Arr.ivals, List.mem_flatMap] at hu
  obtain ⟨s, _, hs⟩ := hu
  exact one_item u hs
/-- An owned row of items, cell by cell. -/
theorem item_cells {w : World} {base g cap : Nat} {l : List Arr.Item} (h : w.ownsRow base 72 4 (.slice (some ⟨g, 0, none⟩) l.length cap) l.length (Arr.ivals l)) (i : Nat) (hi : i < l.length) :
    w.cell? ⟨g, i * 4, none⟩ = some (.string l[i].1) ∧ w.cell? ⟨g, i * 4 + 1, none⟩ = some (.int .u8 l[i].2.k) ∧ w.cell? ⟨g, i * 4 + 2, none⟩ = some (.int .u64 l[i].2.n) ∧ w.cell? ⟨g, i * 4 + 3, none⟩ = some (.string l[i].2.s) := by
  have e : ∀ j, j < 4 → w.cell? ⟨g, i * 4 + j, none⟩ = (Arr.ivals1 l[i])[j]? := fun j hj => by
    rw [h.cellAt _ (by omega), Arr.ivals_get l i j hi hj]
  exact ⟨e 0 (by omega), e 1 (by omega), e 2 (by omega), e 3 (by omega)⟩
theorem rf_find (w : World) (base : Nat) (v : Value) (l : List Arr.Item) (key : ByteArray) (h : w.ownsRow base 72 4 v l.length (Arr.ivals l)) (hl : l.length ≤ 1000000000) :
    Calls Try.prog 33 #[v, .string key] w fun e w' => e = .returned (.int .i64 (Arr.findR l key.data.toList)) ∧ w = w' := by
  obtain ⟨A, cap, hv⟩ := len_of_row h
  subst hv
  have H := Lib.hid h
  clear h
  go_enter Try.func33, Try.ntmps33
  go_wp2_with fail
  go_loop [5] (fun i => ∃ k : Nat, k ≤ l.length ∧ i = .int .i64 k ∧ ∀ j, (hj : j < l.length) → j < k → l[j].1.data.toList ≠ key.data.toList) (fun i => l.length - (intOf i).toNat)
  case atStart => exact ⟨0, Nat.zero_le _, rfl, fun j _ hj => by omega⟩
  case round =>
    obtain ⟨k, hk, rfl, hno⟩ := hrel
    have HNO := Lib.hid hno
    clear hno
    by_cases hlt : k < l.length
    · obtain ⟨g, cap', hv, hlc, hcm⟩ := ownBlock_form H.out (by omega)
      injection hv with e1 e2 e3
      subst e1
      subst e3
      unfold maxLen at hcm
      obtain ⟨c0, _, _, _⟩ := item_cells H.out k hlt
      have HT := Lib.hid (tolist_beq l[k].1 key)
      go_wp2
      · have hq : (l[k].1.toList == key.toList) = true := by assumption
        rw [HT.out] at hq
        go_ret
        refine ⟨ret_int ?_, rfl⟩
        rw [Arr.findR_some (Arr.findI_is hlt (by simpa using hq) (fun j hj => HNO.out j (by omega) hj))]
      · have hq : (l[k].1.toList == key.toList) = false := by assumption
        rw [HT.out] at hq
        go_round
        case rel => exact ⟨k + 1, by omega, by go_num, fun j hj h => by
          rcases Nat.lt_or_ge j k with h | h
          · exact HNO.out j hj h
          · obtain rfl : j = k := by omega
            simpa using hq⟩
        case measure => simp [intOf]; omega
    · obtain rfl : k = l.length := by omega
      go_wp2
      go_ret
      refine ⟨ret_int ?_, rfl⟩
      rw [Arr.findR_none (Arr.findI_not (fun j hj => HNO.out j hj hj))]
set_option maxHeartbeats 1000000 in
theorem rf_set (w : World) (base : Nat) (v : Value) (l : List Arr.Item) (key : ByteArray) (c : Arr.Cell) (h : w.ownsRow base 72 4 v l.length (Arr.ivals l)) (hl : l.length ≤ 1000000) :
    Calls Try.prog 24 #[v, .string key, .agg #[.int .u8 c.k, .int .u64 c.n, .string c.s]] w fun e w' => ∃ u, e = .returned u ∧ w'.ownsRow w.heap.size 72 4 u (Arr.setI l key c).length (Arr.ivals (Arr.setI l key c)) ∧ Below w.heap.size w w' := by
  have hz1 : 0 + l.length ≤ maxLen := by unfold maxLen; omega
  have hz2 : (0 + l.length) * 48 ≤ 140737488355328 := by omega
  obtain ⟨B, hB⟩ : ∃ B, B = w.heap.size := ⟨_, rfl⟩
  have HB := Lib.hid hB
  clear hB
  have hh := h.alloc (.cells #[.int .u8 c.k, .int .u64 c.n, .string c.s] 31)
  have hR := Blk.new w 31 #[.int .u8 c.k, .int .u64 c.n, .string c.s]
  have hbl : Below B w (w.alloc (.cells #[.int .u8 c.k, .int .u64 c.n, .string c.s] 31)) := (Below.refl _ _).alloc (by rw [HB.out]; exact Nat.le_refl _) _
  have hs : (w.alloc (.cells #[.int .u8 c.k, .int .u64 c.n, .string c.s] 31)).heap.size = w.heap.size + 1 := by simp
  rw [← HB.out] at hR hs ⊢
  have HS := Lib.hid hs
  clear hs
  go_enter Try.func24, Try.ntmps24
  have hB0 : B ≤ (w.alloc (.cells #[.int .u8 c.k, .int .u64 c.n, .string c.s] 31)).heap.size := by have := HS.out; have := HB.out; omega
  go_wp2_with (at_builtin; refine wp_appn rfl _ _ _ rfl 72 4 48 _ Try.underlying48 info_item rfl (by decide) B (.slice none 0 0) 0 [] rfl (World.ownsRow_nil _ _ _ _) base v l.length _ rfl hh all_items hz1 hz2 hB0 ?_; intro A cap w1 hown1 hgrow1 hat1)
  have hh1 : w1.ownsRow base 72 4 v l.length (Arr.ivals l) := own_of_block hh (fun g hg => hgrow1.block g (hh.lt g hg).2 (by simp [Value.ownBlock]))
  rw [← HB.out]
  generalize w.alloc (.cells #[.int .u8 c.k, .int .u64 c.n, .string c.s] 31) = w0 at *
  have hR1 : Blk w1 B 31 #[.int .u8 c.k, .int .u64 c.n, .string c.s] := (hgrow1.block B hR.lt (by simp [Value.ownBlock])).trans hR
  have hbl1 : Below B w w1 := hbl.trans (below_grown (World.ownsRow_nil w0 B 72 4) hgrow1 hB0)
  have hB1 : B ≤ w1.heap.size := Nat.le_trans hB0 hgrow1.size
  have HO : Hid (w1.ownsRow B 72 4 (.slice A (0 + l.length) cap) l.length (Arr.ivals l)) := by have := hown1; simp only [Nat.zero_add, List.nil_append] at this ⊢; exact this
  clear hown1 hgrow1 hat1 hh hR hbl
  rw [Nat.zero_add] at HO
  refine (rf_find w1 base v l key hh1 (by omega)).mono ?_
  rintro e w' ⟨rfl, rfl⟩
  have r0 := hR1.cell 0
  have r1 := hR1.cell 1
  have r2 := hR1.cell 2
  cases hf : Arr.findI l key.data.toList with
  | none =>
    rw [Arr.findR_none hf]
    have HE : Hid (Arr.setI l key c = l ++ [(key, c)]) := by simp [Hid, Arr.setI, hf]
    have hz3 : l.length + 1 ≤ maxLen := by unfold maxLen; omega
    have hz4 : (l.length + 1) * 48 ≤ 140737488355328 := by omega
    clear hf
    go_wp2_with (at_builtin; refine wp_app1_at rfl _ _ _ rfl 72 4 48 _ Try.underlying48 info_item rfl (by decide) B (.slice A l.length cap) l.length _ rfl HO.out (Arr.ivals1 (key, c)) _ rfl rfl rfl one_item hz3 hz4 hB1 ?_; intro g2 cap2 w2 hlc2 hcm2 hown2 hgrow2 hat2)
    go_ret
    refine ⟨_, rfl, ?_, hbl1.trans (below_grown HO.out hgrow2 hB1)⟩
    rw [HE.out, Arr.ivals_append, List.length_append]
    simpa [Arr.ivals] using hown2
  | some i =>
    rw [Arr.findR_some hf]
    obtain ⟨hi, _, _⟩ := Arr.findI_some hf
    have HE : Hid (Arr.setI l key c = l.set i (l[i].1, c)) := by simp [Hid, Arr.setI, hf, List.getD, hi]
    clear hf
    obtain ⟨g, cap', hv, hlc, hcm⟩ := ownBlock_form HO.out (by omega)
    injection hv with e1 e2 e3
    subst e1
    subst e3
    unfold maxLen at hcm
    obtain ⟨_, c1, c2, c3⟩ := item_cells HO.out i hi
    have q1 := HO.out.frozenAt (i * 4 + 1)
    have q2 := HO.out.frozenAt (i * 4 + 1 + 1)
    have q3 := HO.out.frozenAt (i * 4 + 1 + 2)
    have d2 : w1.cell? ⟨g, i * 4 + 1 + 1, none⟩ = some (.int .u64 l[i].2.n) := c2
    have d3 : w1.cell? ⟨g, i * 4 + 1 + 2, none⟩ = some (.string l[i].2.s) := c3
    have hgB : B ≤ g := (HO.out.lt g rfl).1
    have hRg : ¬ B = g := fun e => by
      obtain ⟨cur, hc⟩ := row_cells HO.out (g := g) rfl
      subst e
      unfold Blk at hR1; rw [hR1] at hc; injection hc with hc; injection hc with _ h2; exact absurd h2 (by decide)
    clear c2 c3
    generalize hii : l[i] = s at c1 d2 d3
    clear hii
    go_wp2_with fail
    go_ret
    refine ⟨_, rfl, ?_, hbl1.trans ((Tur.set3 (g := g) _ _ _).below B hB1 (fun k hk e => by omega))⟩
    rw [HE.out, List.length_set, ← Arr.ivals_cell l i c hi]
    exact ((((HO.out.stored (i * 4 + 1) (.int .u8 c.k)).1).stored (i * 4 + 1 + 1) (.int .u64 c.n)).1.stored (i * 4 + 1 + 2) (.string c.s)).1

set_option maxHeartbeats 1000000 in
theorem rf_get (w : World) (base : Nat) (v : Value) (l : List Arr.Item) (key : ByteArray) (h : w.ownsRow base 72 4 v l.length (Arr.ivals l)) (hl : l.length ≤ 1000000) :
    Calls Try.prog 25 #[v, .string key] w fun e w' => ∃ u, e = .returned (.tuple #[u, .agg (Arr.cellI l key.data.toList).vals.toArray]) ∧ w'.ownsRow 0 72 4 u (Arr.getI l key).length (Arr.ivals (Arr.getI l key)) ∧ (∀ g, u.ownBlock = some g → v.ownBlock = some g ∨ w.heap.size ≤ g) ∧ Below w.heap.size w w' := by
  obtain ⟨B, hB⟩ : ∃ B, B = w.heap.size := ⟨_, rfl⟩
  have HB := Lib.hid hB
  clear hB
  have hh := h.alloc (.cells #[.int .u8 0, .int .u64 0, .string ⟨#[]⟩] 31)
  have hR := Blk.new w 31 #[.int .u8 0, .int .u64 0, .string ⟨#[]⟩]
  have hbl : Below B w (w.alloc (.cells #[.int .u8 0, .int .u64 0, .string ⟨#[]⟩] 31)) := (Below.refl _ _).alloc (by rw [HB.out]; exact Nat.le_refl _) _
  have hs : (w.alloc (.cells #[.int .u8 0, .int .u64 0, .string ⟨#[]⟩] 31)).heap.size = w.heap.size + 1 := by simp
  rw [← HB.out] at hR hs ⊢
  have HS := Lib.hid hs
  clear hs
  go_enter Try.func25, Try.ntmps25
  go_wp2_with fail
  rw [← HB.out]
  generalize w.alloc (.cells #[.int .u8 0, .int .u64 0, .string ⟨#[]⟩] 31) = w0 at *
  refine (rf_find w0 base v l key hh (by omega)).mono ?_
  rintro e w' ⟨rfl, rfl⟩
  have r0 := hR.cell 0
  have r1 := hR.cell 1
  have r2 := hR.cell 2
  have q0 := hR.free 0
  have q1 := hR.free 1
  have q2 := hR.free 2
  cases hf : Arr.findI l key.data.toList with
  | none =>
    rw [Arr.findR_none hf]
    have HE : Hid (Arr.setI l key Arr.Cell.zero = l ++ [(key, Arr.Cell.zero)]) := by simp [Hid, Arr.setI, hf]
    have HG : Hid (Arr.getI l key = l ++ [(key, Arr.Cell.zero)]) := by simp [Hid, Arr.getI, hf]
    have HC : Hid (Arr.cellI l key.data.toList = Arr.Cell.zero) := by simp [Hid, Arr.cellI, hf]
    clear hf
    go_wp2_with fail
    refine (rf_set w0 base v l key Arr.Cell.zero hh hl).mono ?_
    rintro e w2 ⟨u, rfl, hown2, hbl2⟩
    have hR2 : Blk w2 B 31 #[.int .u8 0, .int .u64 0, .string ⟨#[]⟩] := below_blk hR hbl2 hR.lt
    have r0 := hR2.cell 0
    have r1 := hR2.cell 1
    have r2 := hR2.cell 2
    have q0 := hR2.free 0
    have q1 := hR2.free 1
    have q2 := hR2.free 2
    go_wp2_with fail
    have hR3 := hR2.set3 (.int .u8 0) (.int .u64 0) (.string ⟨#[]⟩)
    have s0 := hR3.cell 0
    have s1 := hR3.cell 1
    have s2 := hR3.cell 2
    have hsz := hbl2.size
    have hss := HS.out
    have hBl : B ≤ w2.heap.size := by omega
    refine bodyPost_ret (v := .tuple #[u, .agg Arr.Cell.zero.vals.toArray]) (by simp [results, Try.results25, go_sem, Arr.Cell.vals, Arr.Cell.zero, s0, s1, s2]) rfl ⟨u, by rw [HC.out], ?_, fun g hg => .inr (by have := (hown2.lt g hg).1; omega), (hbl.trans (hbl2.mono (by omega))).trans ((Tur.set3 (g := B) _ _ _).below B hBl (fun k hk e => by omega))⟩
    rw [HG.out, ← HE.out]
    exact own_of_block (own_base hown2 (fun _ _ => Nat.zero_le _)) (fun g hg => (Tur.set3 (g := B) _ _ _).block g (hown2.lt g hg).2 (fun e => by have := (hown2.lt g hg).1; omega))
  | some i =>
    rw [Arr.findR_some hf]
    obtain ⟨hi, _, _⟩ := Arr.findI_some hf
    have HG : Hid (Arr.getI l key = l) := by simp [Hid, Arr.getI, hf]
    have HC : Hid (Arr.cellI l key.data.toList = l[i].2) := by simp [Hid, Arr.cellI, hf, List.getD, hi]
    clear hf
    obtain ⟨g, cap, hv, hlc, hcm⟩ := ownBlock_form hh (by omega)
    subst hv
    unfold maxLen at hcm
    obtain ⟨_, c1, c2, c3⟩ := item_cells hh i hi
    have d2 : w0.cell? ⟨g, i * 4 + 1 + 1, none⟩ = some (.int .u64 l[i].2.n) := c2
    have d3 : w0.cell? ⟨g, i * 4 + 1 + 2, none⟩ = some (.string l[i].2.s) := c3
    have hRg : ¬ B = g := fun e => by
      obtain ⟨cur, hc⟩ := row_cells hh (g := g) rfl
      subst e
      unfold Blk at hR; rw [hR] at hc; injection hc with hc; injection hc with _ h2; exact absurd h2 (by decide)
    have hgR : ¬ g = B := fun e => hRg e.symm
    have hii : (0 : Int) ≤ (i : Int) := Int.natCast_nonneg _
    have hii2 : (i : Int) < (l.length : Int) := by omega
    clear c2 c3
    have HH := Lib.hid hh
    generalize l[i].2 = c at *
    go_wp2_with fail
    go_region
    clear r0 r1 r2 q0 q1 q2 c1 d2 d3 hh
    go_wp2_with fail
    have hR3 := hR.set3 (.int .u8 c.k) (.int .u64 c.n) (.string c.s)
    have hR4 : Blk (World.drew (((w0.setCell ⟨B, 0, none⟩ (.int .u8 c.k)).setCell ⟨B, 1, none⟩ (.int .u64 c.n)).setCell ⟨B, 2, none⟩ (.string c.s))) B 31 #[.int .u8 c.k, .int .u64 c.n, .string c.s] := hR3
    have s0 := hR4.cell 0
    have s1 := hR4.cell 1
    have s2 := hR4.cell 2
    have hBl : B ≤ w0.heap.size := by have := HS.out; omega
    refine bodyPost_ret (v := .tuple #[.slice (some ⟨g, 0, none⟩) l.length cap, .agg c.vals.toArray]) (by simp [results, Try.results25, go_sem, Arr.Cell.vals, s0, s1, s2]) rfl ⟨.slice (some ⟨g, 0, none⟩) l.length cap, by rw [HC.out], ?_, fun g hg => .inl hg, (hbl.trans ((Tur.set3 (g := B) _ _ _).below B hBl (fun k hk e => by omega))).drew⟩
    rw [HG.out]
    exact (own_of_block (own_base HH.out (fun _ _ => Nat.zero_le _)) (fun q hq => (Tur.set3 (g := B) _ _ _).block q (HH.out.lt q hq).2 (fun e => by
      have : q = g := by simpa [Value.ownBlock] using hq.symm
      omega))).drew
end Go.Proofs.Ytjgfhdabcahokaa
