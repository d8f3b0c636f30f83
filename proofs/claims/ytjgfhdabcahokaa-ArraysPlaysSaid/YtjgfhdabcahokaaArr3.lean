/- Arrays: the walks of Set, Peek, Has. -/
import Derived.Test.YtjgfhdabcahokaaArr2
import Derived.Deep.RegionHeld3
namespace Go.Proofs.Ytjgfhdabcahokaa
open Go.RowKit
open Go.Maps (Keyed string_keyed)
open Go.WideMaps Go.WideElems Go.WideAt

theorem far_of {F F1 : Nat → Prop} {S R g : Nat} (hF1 : ∀ g, F1 g → F g ∨ S ≤ g) (hRF : ¬ F R) (hRlt : R < S) (hg : F1 g) : ¬ R = g := by
  rintro rfl
  rcases hF1 _ hg with f | f
  · exact hRF f
  · omega
theorem ArrAt.put3 {w : World} {F : Nat → Prop} {pb bm : Nat} {v : Value} {l : List Arr.Slot} (h : ArrAt w F pb bm v l) {g : Nat} (hg : v.ownBlock = some g) (i : Nat) (hi : i < l.length) (c : Arr.Cell) :
    ArrAt (((w.setCell ⟨g, i * 5 + 1, none⟩ (.int .u8 c.k)).setCell ⟨g, i * 5 + 1 + 1, none⟩ (.int .u64 c.n)).setCell ⟨g, i * 5 + 1 + 2, none⟩ (.string c.s)) F pb bm v (l.set i ⟨l[i].key, c, l[i].off⟩) := by
  have ht := Tur.set3 (w := w) (g := g) (i := i * 5 + 1) (j := i * 5 + 1 + 1) (k := i * 5 + 1 + 2) (.int .u8 c.k) (.int .u64 c.n) (.string c.s)
  have hpb : pb ≠ g := fun e => h.row_pb (e ▸ hg)
  have hbm : bm ≠ g := fun e => h.row_bm (e ▸ hg)
  refine ⟨fun k hk => Nat.lt_of_lt_of_le (h.flt k hk) ht.size, h.fp, h.fm, h.fv, (ht.block pb h.head.lt hpb).trans h.head, ?_, ?_, ?_, fun s hs => by
    rcases List.mem_or_eq_of_mem_set hs with hs | rfl
    · exact h.small s hs
    · exact h.small l[i] (List.getElem_mem hi)⟩
  · have hm := h.map.of_block (ht.block bm h.map.lt hbm)
    rw [Arr.look_setCell l i c hi, Arr.live_len, Arr.keys_setCell l i c hi, ← Arr.live_len]; exact hm
  · rcases h.row.2 with ⟨rfl, _⟩ | ⟨g', cap, cur, rfl, _⟩
    · simp [Value.ownBlock] at hg
    · simp [Value.ownBlock] at hg; subst hg
      have := ((((h.row.stored (i * 5 + 1) (.int .u8 c.k)).1).stored (i * 5 + 1 + 1) (.int .u64 c.n)).1.stored (i * 5 + 1 + 2) (.string c.s)).1
      rw [List.length_set, ← Arr.vals_cell l i c hi]
      exact this
  · have := h.tidy
    unfold Arr.Tidy at this ⊢
    rw [Arr.keys_setCell l i c hi]; exact this
set_option maxHeartbeats 1000000 in
theorem arr_set (w : World) (F : Nat → Prop) (pb bm : Nat) (v : Value) (l : List Arr.Slot) (key : ByteArray) (c : Arr.Cell) (h : ArrAt w F pb bm v l) (hk : key.size ≤ maxLen) (hl : l.length ≤ 1000000000) :
    Calls Try.prog 13 #[.pointer (some ⟨pb, 0, none⟩), .string key, .agg #[.int .u8 c.k, .int .u64 c.n, .string c.s]] w fun e w' => ∃ v' F', e = .returned (.int .i64 0) ∧
      ArrAt w' F' pb bm v' (Arr.setL l key c) ∧ Tur F w w' ∧ ∀ g, F' g → F g ∨ w.heap.size ≤ g := by
  go_enter Try.func13, Try.ntmps13
  go_wp2_with fail
  have h0 : ArrAt (w.alloc (.cells #[.int .u8 c.k, .int .u64 c.n, .string c.s] 31)) F pb bm v l := h.tur (Tur.of_alloc (F := fun _ => False) w _) (fun _ _ f => f)
  have hR : Blk (w.alloc (.cells #[.int .u8 c.k, .int .u64 c.n, .string c.s] 31)) w.heap.size 31 #[.int .u8 c.k, .int .u64 c.n, .string c.s] := Blk.new _ _ _
  have hs0 : (w.alloc (.cells #[.int .u8 c.k, .int .u64 c.n, .string c.s] 31)).heap.size = w.heap.size + 1 := by simp
  have hB0 : Tur (fun _ => False) w (w.alloc (.cells #[.int .u8 c.k, .int .u64 c.n, .string c.s] 31)) := Tur.of_alloc w _
  have hRF : ¬ F w.heap.size := fun f => by have := h.flt _ f; omega
  generalize hw0 : (w.alloc (.cells #[.int .u8 c.k, .int .u64 c.n, .string c.s] 31)) = w0 at *
  clear hw0
  have HS := Lib.hid hs0
  clear hs0
  refine (none_at _ pb (some bm) v h0.head).mono ?_
  rintro e w' ⟨rfl, rfl⟩
  go_wp2_with fail
  obtain ⟨R, hRR⟩ : ∃ R, R = w.heap.size := ⟨_, rfl⟩
  have HR := Lib.hid hRR
  rw [← hRR] at hR hRF
  rw [← hRR]
  have hRlt : R < w0.heap.size := by rw [HS.out, hRR]; omega
  clear hRR
  have r0 := hR.cell 0
  have r1 := hR.cell 1
  have r2 := hR.cell 2
  go_region_held3 (fun w' => w'.cell? ⟨R, 0, none⟩ = some (.int .u8 c.k) ∧ w'.cell? ⟨R, 1, none⟩ = some (.int .u64 c.n) ∧ w'.cell? ⟨R, 2, none⟩ = some (.string c.s)) (first | go_keep | (go_split_ands; first | exact ⟨hR1.cell 0, hR1.cell 1, hR1.cell 2⟩ | exact ⟨((Tur.set3 _ _ _).block R hR1.lt hgR ▸ hR1 : Blk _ R _ _).cell 0, ((Tur.set3 _ _ _).block R hR1.lt hgR ▸ hR1 : Blk _ R _ _).cell 1, ((Tur.set3 _ _ _).block R hR1.lt hgR ▸ hR1 : Blk _ R _ _).cell 2⟩)) (first | (go_at_call 31; refine (place_any _ F pb bm v l key h0.drew hk hl).mono ?_; rintro e w1 ⟨g, v1, F1, i, hg, rfl, hfi, h1, ht1, hF1⟩; have hR1 : Blk w1 R 31 #[.int .u8 c.k, .int .u64 c.n, .string c.s] := (ht1.block _ hRlt hRF).trans hR; obtain ⟨hi, hoff, hkey⟩ := Arr.find_some hfi; obtain ⟨c1, c2, c3⟩ := h1.cell3 hg i hi; have hgR : ¬ R = g := far_of hF1 hRF hRlt (h1.fv _ hg); have hRg : ¬ g = R := (fun e => hgR e.symm); have f1 := h1.free hg (i * 5 + 1); have f2 := h1.free hg (i * 5 + 1 + 1); have f3 := h1.free hg (i * 5 + 1 + 2)))
  go_wp2_with fail
  go_ret
  have hset : Arr.setL l key c = (Arr.placeL l key).set i ⟨(Arr.placeL l key)[i].key, c, (Arr.placeL l key)[i].off⟩ := by
    simp [Arr.setL, hfi, List.getD, hi]
  refine ⟨v1, F1, rfl, ?_, ?_, ?_⟩
  · rw [hset]; exact h1.put3 hg i hi c
  · have ht2 : Tur F w0 w1 := (Tur.of_drew w0).trans ht1 (fun _ _ f => f)
    exact ((hB0.mono (fun _ _ f => f.elim)).trans ht2 (fun _ _ f => f)).trans (Tur.set3 _ _ _) (fun k hk e => by
      subst e
      rcases hF1 _ (h1.fv _ hg) with f | f
      · exact f
      · have := HS.out
        exact absurd (Nat.le_trans (Nat.le_of_eq this.symm) f) (by omega))
  · intro k hk
    rcases hF1 _ hk with f | f
    · exact .inl f
    · have := HS.out
      exact .inr (by have f' : w0.heap.size ≤ k := f; omega)

set_option maxHeartbeats 1000000 in
theorem arr_peek (w : World) (F : Nat → Prop) (pb bm : Nat) (v : Value) (l : List Arr.Slot) (key : ByteArray) (h : ArrAt w F pb bm v l) (hk : key.size ≤ maxLen) (hl : l.length ≤ 1000000000) :
    Calls Try.prog 11 #[.pointer (some ⟨pb, 0, none⟩), .string key] w fun e w' => e = .returned (.tuple #[.agg (Arr.cellAt l key.data.toList).vals.toArray, .bool (Arr.find l key.data.toList).isSome]) ∧ Below w.heap.size w w' := by
  have h0 : ArrAt (w.alloc (.cells #[.int .u8 0, .int .u64 0, .string ⟨#[]⟩] 31)) F pb bm v l := h.tur (Tur.of_alloc (F := fun _ => False) w _) (fun _ _ f => f)
  have hR : Blk (w.alloc (.cells #[.int .u8 0, .int .u64 0, .string ⟨#[]⟩] 31)) w.heap.size 31 #[.int .u8 0, .int .u64 0, .string ⟨#[]⟩] := Blk.new _ _ _
  have hB0 : Below w.heap.size w (w.alloc (.cells #[.int .u8 0, .int .u64 0, .string ⟨#[]⟩] 31)) := (Below.refl _ _).alloc (Nat.le_refl _) _
  have hRF : ¬ F w.heap.size := fun f => by have := h.flt _ f; omega
  go_enter Try.func11, Try.ntmps11
  go_wp2_with fail
  generalize hw0 : (w.alloc (.cells #[.int .u8 0, .int .u64 0, .string ⟨#[]⟩] 31)) = w0 at *
  clear hw0
  refine (none_at _ pb (some bm) v h0.head).mono ?_
  rintro e w' ⟨rfl, rfl⟩
  obtain ⟨R, hRR⟩ : ∃ R, R = w.heap.size := ⟨_, rfl⟩
  have HR := Lib.hid hRR
  rw [← hRR] at hR hRF hB0
  rw [← hRR]
  clear hRR
  have r0 := hR.cell 0
  have r1 := hR.cell 1
  have r2 := hR.cell 2
  have q0 := hR.free 0
  have q1 := hR.free 1
  have q2 := hR.free 2
  have a0 := h0.head.cell 0
  have a1 := h0.head.cell 1
  have hmap := h0.map
  cases hf : Arr.find l key.data.toList with
  | none =>
    have HLK : Hid (Arr.look l key.data.toList = none) := by simp [Hid, Arr.look, hf]
    have HC : Hid (Arr.cellAt l key.data.toList = Arr.Cell.zero) := by simp [Hid, Arr.cellAt, hf]
    have HSO : Hid ((Arr.find l key.data.toList).isSome = false) := by simp [Hid, hf]
    clear hf
    go_wp2_with (at_lookup; refine wp_map_look_ok rfl _ _ _ rfl klaw Try.underlying58 (.int .i64 0) (zero_int _) plain_zero_int rfl hmap _ _ rfl (keyOf_string_mk Try.underlying9 hk) ?_; rw [HLK.out])
    have hR3 := hR.set3 (.int .u8 0) (.int .u64 0) (.string ⟨#[]⟩)
    have s0 := hR3.cell 0
    have s1 := hR3.cell 1
    have s2 := hR3.cell 2
    refine bodyPost_ret (v := .tuple #[.agg Arr.Cell.zero.vals.toArray, .bool false]) (by simp [results, Try.results11, go_sem, Arr.Cell.vals, Arr.Cell.zero, s0, s1, s2]) rfl ⟨by rw [HC.out, HSO.out], ?_⟩
    have := HR.out
    exact hB0.trans ((Tur.set3 _ _ _).below R (Nat.le_of_lt hR.lt) (fun k hk e => by omega)) |>.mono (by omega)
  | some i =>
    have HLK : Hid (Arr.look l key.data.toList = some (.int .i64 i)) := by simp [Hid, Arr.look, hf]
    obtain ⟨hi, hoff, hkey⟩ := Arr.find_some hf
    have HC : Hid (Arr.cellAt l key.data.toList = l[i].cell) := by simp [Hid, Arr.cellAt, hf, List.getD, hi]
    have HSO : Hid ((Arr.find l key.data.toList).isSome = true) := by simp [Hid, hf]
    obtain ⟨g, cap, hv, hlc, hcm⟩ := ownBlock_form h0.row (by omega)
    subst hv
    obtain ⟨c1, c2, c3⟩ := h0.cell3 (g := g) rfl i hi
    have hgR : ¬ R = g := fun e => hRF (e ▸ h0.fv g rfl)
    have hRg : ¬ g = R := fun e => hgR e.symm
    clear hf hoff hkey
    unfold maxLen at hcm
    generalize l[i].cell = c at *
    go_wp2_with (at_lookup; refine wp_map_look_ok rfl _ _ _ rfl klaw Try.underlying58 (.int .i64 0) (zero_int _) plain_zero_int rfl hmap _ _ rfl (keyOf_string_mk Try.underlying9 hk) ?_; rw [HLK.out])
    have hR3 := hR.set3 (.int .u8 c.k) (.int .u64 c.n) (.string c.s)
    have s0 := hR3.cell 0
    have s1 := hR3.cell 1
    have s2 := hR3.cell 2
    refine bodyPost_ret (v := .tuple #[.agg c.vals.toArray, .bool true]) (by simp [results, Try.results11, go_sem, Arr.Cell.vals, s0, s1, s2]) rfl ⟨by rw [HC.out, HSO.out], ?_⟩
    have := HR.out
    exact hB0.trans ((Tur.set3 _ _ _).below R (Nat.le_of_lt hR.lt) (fun k hk e => by omega)) |>.mono (by omega)

theorem agg_zero : (.agg Arr.Cell.zero.vals.toArray : Value) = .agg #[.int .u8 0, .int .u64 0, .string ⟨#[]⟩] := rfl
set_option maxHeartbeats 1000000 in
/-- Peek at none: nil, or not made by New. -/
theorem arr_peek_none (w : World) (p : Value) (key : ByteArray) (hn : ∀ w0 : World, Below w.heap.size w w0 → Calls Try.prog 29 #[p] w0 fun e w' => e = .returned (.bool true) ∧ w0 = w') :
    Calls Try.prog 11 #[p, .string key] w fun e w' => e = .returned (.tuple #[.agg Arr.Cell.zero.vals.toArray, .bool false]) ∧ Below w.heap.size w w' := by
  have hR : Blk (w.alloc (.cells #[.int .u8 0, .int .u64 0, .string ⟨#[]⟩] 31)) w.heap.size 31 #[.int .u8 0, .int .u64 0, .string ⟨#[]⟩] := Blk.new _ _ _
  have hB0 : Below w.heap.size w (w.alloc (.cells #[.int .u8 0, .int .u64 0, .string ⟨#[]⟩] 31)) := (Below.refl _ _).alloc (Nat.le_refl _) _
  go_enter Try.func11, Try.ntmps11
  go_wp2_with fail
  generalize hw0 : (w.alloc (.cells #[.int .u8 0, .int .u64 0, .string ⟨#[]⟩] 31)) = w0 at *
  clear hw0
  refine (hn _ hB0).mono ?_
  rintro e w' ⟨rfl, rfl⟩
  obtain ⟨R, hRR⟩ : ∃ R, R = w.heap.size := ⟨_, rfl⟩
  have HR := Lib.hid hRR
  rw [← hRR] at hR hB0
  rw [← hRR]
  clear hRR
  have r0 := hR.cell 0
  have r1 := hR.cell 1
  have r2 := hR.cell 2
  have q0 := hR.free 0
  have q1 := hR.free 1
  have q2 := hR.free 2
  go_wp2_with fail
  have hR3 := hR.set3 (.int .u8 0) (.int .u64 0) (.string ⟨#[]⟩)
  have s0 := hR3.cell 0
  have s1 := hR3.cell 1
  have s2 := hR3.cell 2
  refine bodyPost_ret (v := .tuple #[.agg Arr.Cell.zero.vals.toArray, .bool false]) (by simp [results, Try.results11, go_sem, Arr.Cell.vals, Arr.Cell.zero, s0, s1, s2]) rfl ⟨rfl, ?_⟩
  have := HR.out
  exact hB0.trans ((Tur.set3 _ _ _).below R (Nat.le_of_lt hR.lt) (fun k hk e => by omega)) |>.mono (by omega)
/-- Has, of what Peek tells. -/
theorem arr_has_of (w : World) (p : Value) (key : ByteArray) (c : Arr.Cell) (b : Bool) (hp : Calls Try.prog 11 #[p, .string key] w fun e w' => e = .returned (.tuple #[.agg c.vals.toArray, .bool b]) ∧ Below w.heap.size w w') :
    Calls Try.prog 21 #[p, .string key] w fun e w' => e = .returned (.bool b) ∧ Below w.heap.size w w' := by
  have HP := Lib.hid hp
  clear hp
  go_enter Try.func21, Try.ntmps21
  go_wp2_with fail
  refine HP.out.mono ?_
  rintro e w1 ⟨rfl, hb1⟩
  have e1 : (c.vals.toArray) = #[.int .u8 c.k, .int .u64 c.n, .string c.s] := rfl
  rw [e1]
  clear e1
  have hz := hb1.size
  go_wp2_with fail
  go_ret
  exact ⟨rfl, hb1.alloc hz _⟩
theorem arr_has (w : World) (F : Nat → Prop) (pb bm : Nat) (v : Value) (l : List Arr.Slot) (key : ByteArray) (h : ArrAt w F pb bm v l) (hk : key.size ≤ maxLen) (hl : l.length ≤ 1000000000) :
    Calls Try.prog 21 #[.pointer (some ⟨pb, 0, none⟩), .string key] w fun e w' => e = .returned (.bool (Arr.find l key.data.toList).isSome) ∧ Below w.heap.size w w' :=
  arr_has_of w _ key _ _ (arr_peek w F pb bm v l key h hk hl)
theorem arr_has_none (w : World) (p : Value) (key : ByteArray) (hn : ∀ w0 : World, Below w.heap.size w w0 → Calls Try.prog 29 #[p] w0 fun e w' => e = .returned (.bool true) ∧ w0 = w') :
    Calls Try.prog 21 #[p, .string key] w fun e w' => e = .returned (.bool false) ∧ Below w.heap.size w w' :=
  arr_has_of w _ key _ _ (arr_peek_none w p key hn)
end Go.Proofs.Ytjgfhdabcahokaa
