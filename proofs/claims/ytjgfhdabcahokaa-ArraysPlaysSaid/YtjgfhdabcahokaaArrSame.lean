/- Arrays: 'same', walked: an array and the list of its items are told the same. -/
import Derived.Test.YtjgfhdabcahokaaArrOrder
namespace Go.Proofs.Ytjgfhdabcahokaa
open Go.RowKit Go.ChangeShapes Go.WideShapes
open Go.WideMaps Go.WideElems Go.WideAt
set_option linter.unusedSimpArgs false

theorem cell_of_items {l : List Arr.Slot} (ht : Arr.Tidy l) (i : Nat) (hi : i < (Arr.items l).length) :
    Arr.cellAt l (Arr.items l)[i].1.data.toList = (Arr.items l)[i].2 ∧ (Arr.find l (Arr.items l)[i].1.data.toList).isSome = true := by
  have hn : ((Arr.items l).map (fun p => p.1.data.toList)).Nodup := by
    have : (Arr.items l).map (fun p => p.1.data.toList) = Arr.keys l := by simp [Arr.items, Arr.keys, Arr.Slot.t, Function.comp_def]
    rw [this]; exact ht
  have hf : Arr.findI (Arr.items l) (Arr.items l)[i].1.data.toList = some i := Arr.findI_is hi rfl fun j hj e => by
    exact (List.pairwise_iff_getElem.1 hn) j i (by simp; omega) (by simpa using hi) hj (by simpa using e)
  rw [Arr.cellAt_items, Arr.find_items, hf]
  simp [Arr.cellI, hf, List.getD, hi]
/-- A row beside an array: elements of any kind. -/
structure RowV (B : Nat) (wr : World) (F : Nat → Prop) (e size : Nat) (u : Value) (n : Nat) (xs : List Value) : Prop where
  own : wr.ownsRow B e size u n xs
  apart : ∀ g, u.ownBlock = some g → ¬ F g
section
variable {B : Nat} {wr w' : World} {F F' G : Nat → Prop} {e size : Nat} {u : Value} {n : Nat} {xs : List Value}
theorem RowV.pure (h : RowV B wr F e size u n xs) (hb : Below wr.heap.size wr w') : RowV B w' F e size u n xs :=
  ⟨own_of_block h.own fun g hg => hb.block g (h.own.lt g hg).2, h.apart⟩
theorem RowV.turn (h : RowV B wr F e size u n xs) (ht : Tur F wr w') (hF : ∀ g, F' g → F g ∨ wr.heap.size ≤ g) : RowV B w' F' e size u n xs :=
  ⟨own_of_block h.own fun g hg => ht.block g (h.own.lt g hg).2 (h.apart g hg), fun g hg hf => by
    rcases hF g hf with hf | hf
    · exact h.apart g hg hf
    · have := (h.own.lt g hg).2; omega⟩
theorem RowV.fresh (ho : w'.ownsRow wr.heap.size e size u n xs) (hB : B ≤ wr.heap.size) (hF : ∀ x, F x → x < wr.heap.size) : RowV B w' F e size u n xs :=
  ⟨own_base ho fun g h => Nat.le_trans hB (ho.lt g h).1, fun g h hf => by have := (ho.lt g h).1; have := hF g hf; omega⟩
theorem RowV.nil (B : Nat) (wr : World) (F : Nat → Prop) (e size : Nat) : RowV B wr F e size (.slice none 0 0) 0 [] := ⟨World.ownsRow_nil _ _ _ _, fun g hg => by simp [Value.ownBlock] at hg⟩
end
set_option maxRecDepth 100000 in
set_option maxHeartbeats 2000000 in
theorem w_same (w : World) (F : Nat → Prop) (pb bm : Nat) (v : Value) (l : List Arr.Slot) (key : ByteArray) (u : Value) (base : Nat) (h : ArrAt w F pb bm v l) (hk : key.size ≤ maxLen) (hl : l.length ≤ 1000)
    (hi : w.ownsRow base 72 4 u (Arr.items l).length (Arr.ivals (Arr.items l))) :
    Calls Try.prog 27 #[.pointer (some ⟨pb, 0, none⟩), u, .string key] w fun e w' => e = .returned (.bool true) ∧ Below w.heap.size w w' := by
  have hs : ASt 0 w w pb bm v F l := ⟨h, fun _ _ => Nat.zero_le _, ⟨rfl, rfl, rfl, Nat.le_refl _, fun _ _ => rfl⟩, Nat.zero_le _⟩
  obtain ⟨A, cap, hv⟩ := len_of_row hi
  subst hv
  have hil := Arr.items_length l
  have hll : (Arr.live l).length ≤ l.length := List.length_filter_le _ _
  clear h
  go_enter Try.func27, Try.ntmps27
  go_wp2_with fail
  refine (arr_keys w _ _ _ _ l hs.arr (by omega)).mono ?_
  rintro e w1 ⟨ux, rfl, hown1, hb1⟩
  have hs1 := hs.pure hb1
  have hi1 : w1.ownsRow base 72 4 _ (Arr.items l).length (Arr.ivals (Arr.items l)) := own_of_block hi fun g hg => hb1.block g (hi.lt g hg).2
  have hB1 : Below w.heap.size w w1 := hb1
  obtain ⟨Ax, cx, rfl, hcx, hcmx, hsx⟩ := strs_form hown1
  clear hs hi hb1 hown1
  go_wp2_with fail
  refine (arr_len w1 _ _ _ _ l hs1.arr).mono ?_
  rintro e w2 ⟨rfl, rfl⟩
  have HX := Lib.hid hsx
  have HI := Lib.hid hi1
  have HIL := Lib.hid hil
  clear hsx hi1
  rw [← hil]
  go_wp2_with fail
  go_loopw [8] (fun i wr => ∃ k : Nat, k ≤ (Arr.live l).length ∧ i = .int .i64 k ∧ Below w1.heap.size w1 wr) (fun i _ => (Arr.live l).length - (intOf i).toNat)
  case atStart => exact ⟨0, Nat.zero_le _, rfl, Below.refl _ _⟩
  case round =>
    obtain ⟨k, hk2, rfl, hbq⟩ := hrel
    have hs2 := hs1.pure hbq
    by_cases hlt : k < (Arr.live l).length
    · have hik : k < (Arr.items l).length := by have := HIL.out; omega
      obtain ⟨bx, ox, rfl, hbx, hcx2⟩ := HX.out.2 (by omega)
      have e1 : wr.cell? ⟨bx, ox + k, none⟩ = some (.string (((Arr.live l).map Arr.Slot.key)[k]'(by simpa using hlt))) := (hbq.cell (p := ⟨bx, ox + k, none⟩) hbx).trans (hcx2 k (by simpa using hlt))
      have e2 : ((Arr.live l).map Arr.Slot.key)[k]'(by simpa using hlt) = (Arr.items l)[k].1 := by simp [Arr.items]
      rw [e2] at e1
      obtain ⟨g, cap', hv, hlc, hcm⟩ := ownBlock_form HI.out (by omega)
      cases hv
      have hiw : wr.ownsRow base 72 4 _ (Arr.items l).length (Arr.ivals (Arr.items l)) := own_of_block HI.out fun g hg => hbq.block g (HI.out.lt g hg).2
      obtain ⟨c0, c1, c2, c3⟩ := item_cells hiw k hik
      have hglt := (HI.out.lt g rfl).2
      have hkey : (Arr.items l)[k].1.size ≤ maxLen := by
        have : (Arr.items l)[k].1 = ((Arr.live l)[k]'hlt).key := by simp [Arr.items]
        rw [this]
        exact hs2.arr.small _ (List.mem_filter.1 (List.getElem_mem hlt)).1
      obtain ⟨q1, q2⟩ := cell_of_items hs2.arr.tidy k hik
      unfold maxLen at hcm
      have hii : (0 : Int) ≤ (k : Int) := Int.natCast_nonneg _
      have hii2 : (k : Int) < ((Arr.live l).length : Int) := by omega
      have d2 : wr.cell? ⟨g, k * 4 + 1 + 1, none⟩ = some (.int .u64 (Arr.items l)[k].2.n) := c2
      have d3 : wr.cell? ⟨g, k * 4 + 1 + 2, none⟩ = some (.string (Arr.items l)[k].2.s) := c3
      clear hcx2 e2 hiw c2 c3
      generalize (Arr.items l)[k].1 = ky at *
      generalize (Arr.items l)[k].2 = ce at *
      go_wp2_with fail
      refine (arr_peek wr _ _ _ _ l ky hs2.arr hkey (by omega)).mono ?_
      rintro e w3 ⟨rfl, hb3⟩
      rw [q1, q2]
      rw [show ce.vals.toArray = #[.int .u8 ce.k, .int .u64 ce.n, .string ce.s] from rfl]
      have hbq3 := hbq.trans (hb3.mono hbq.size)
      have hgw : g < wr.heap.size := Nat.lt_of_lt_of_le hglt hbq.size
      have hbw : bx < wr.heap.size := Nat.lt_of_lt_of_le hbx hbq.size
      have e1' := (hb3.cell (p := ⟨bx, ox + k, none⟩) hbw).trans e1
      have c0' := (hb3.cell (p := ⟨g, k * 4, none⟩) hgw).trans c0
      have c1' := (hb3.cell (p := ⟨g, k * 4 + 1, none⟩) hgw).trans c1
      have d2' := (hb3.cell (p := ⟨g, k * 4 + 1 + 1, none⟩) hgw).trans d2
      have d3' := (hb3.cell (p := ⟨g, k * 4 + 1 + 2, none⟩) hgw).trans d3
      have hg3 : g < w3.heap.size := Nat.lt_of_lt_of_le hgw hb3.size
      have hx3 : bx < w3.heap.size := Nat.lt_of_lt_of_le hbw hb3.size
      clear e1 c0 c1 d2 d3 hb3 hbq hs2 hgw hbw q1 q2
      have hb4 : Below w3.heap.size w3 (w3.alloc (.cells #[.int .u8 ce.k, .int .u64 ce.n, .string ce.s] 31)) := (Below.refl _ _).alloc (Nat.le_refl _) _
      have hR := Blk.new w3 31 #[.int .u8 ce.k, .int .u64 ce.n, .string ce.s]
      have hbq4 := hbq3.trans (hb4.mono hbq3.size)
      have e1 := (hb4.cell (p := ⟨bx, ox + k, none⟩) hx3).trans e1'
      have c0 := (hb4.cell (p := ⟨g, k * 4, none⟩) hg3).trans c0'
      have c1 := (hb4.cell (p := ⟨g, k * 4 + 1, none⟩) hg3).trans c1'
      have d2 := (hb4.cell (p := ⟨g, k * 4 + 1 + 1, none⟩) hg3).trans d2'
      have d3 := (hb4.cell (p := ⟨g, k * 4 + 1 + 2, none⟩) hg3).trans d3'
      have r0 : (w3.alloc (.cells #[.int .u8 ce.k, .int .u64 ce.n, .string ce.s] 31)).cell? ⟨w3.heap.size, 0, none⟩ = some (.int .u8 ce.k) := hR.cell 0
      have r1 : (w3.alloc (.cells #[.int .u8 ce.k, .int .u64 ce.n, .string ce.s] 31)).cell? ⟨w3.heap.size, 1, none⟩ = some (.int .u64 ce.n) := hR.cell 1
      have r2 : (w3.alloc (.cells #[.int .u8 ce.k, .int .u64 ce.n, .string ce.s] 31)).cell? ⟨w3.heap.size, 2, none⟩ = some (.string ce.s) := hR.cell 2
      clear e1' c0' c1' d2' d3' hbq3 hb4 hR hg3 hx3
      go_wp2_with fail
      generalize w3.alloc (.cells #[.int .u8 ce.k, .int .u64 ce.n, .string ce.s] 31) = w4 at *
      generalize w3.heap.size = R at *
      go_region
      clear r0 r1 r2 e1 c0 c1 d2 d3
      go_wp2_with fail
      go_roundw
      case rel => exact ⟨k + 1, by omega, by go_num, hbq4.drew⟩
      case measure => simp [intOf]; omega
    · have hiw : wr.ownsRow base 72 4 (.slice A (Arr.items l).length cap) (Arr.items l).length (Arr.ivals (Arr.items l)) := own_of_block HI.out fun g hg => hbq.block g (HI.out.lt g hg).2
      have hF := Arr.find_items l key.data.toList
      have hR : decide (0 ≤ Arr.findR (Arr.items l) key.data.toList) = (Arr.find l key.data.toList).isSome := by
        rw [hF]
        unfold Arr.findR
        cases Arr.findI (Arr.items l) key.data.toList with
        | none => rfl
        | some i => simp
      have HR := Lib.hid hR
      clear hF hR
      rw [HIL.out] at hiw
      go_wp2_with fail
      refine (arr_has wr _ _ _ _ l key hs2.arr hk (by omega)).mono ?_
      rintro e w3 ⟨rfl, hb3⟩
      rw [← HR.out]
      have hiw3 : w3.ownsRow base 72 4 (.slice A (Arr.live l).length cap) (Arr.live l).length (Arr.ivals (Arr.items l)) := own_of_block hiw fun g hg => hb3.block g (hiw.lt g hg).2
      have hbq3 := hbq.trans (hb3.mono hbq.size)
      clear hiw hbq hb3 hs2
      rw [← HIL.out] at hiw3
      have HW := Lib.hid hiw3
      clear hiw3
      go_wp2_with fail
      rw [← HIL.out]
      refine (rf_find w3 base _ (Arr.items l) key HW.out (by omega)).mono ?_
      rintro e w4 ⟨rfl, rfl⟩
      generalize Arr.findR (Arr.items l) key.data.toList = fr at *
      by_cases hfr : 0 ≤ fr
      · go_wp2_with fail
        go_ret
        exact ⟨by simp [go_sem, hfr], hB1.trans (hbq3.mono hB1.size)⟩
      · go_wp2_with fail
        go_ret
        exact ⟨by simp [go_sem, hfr], hB1.trans (hbq3.mono hB1.size)⟩
end Go.Proofs.Ytjgfhdabcahokaa
