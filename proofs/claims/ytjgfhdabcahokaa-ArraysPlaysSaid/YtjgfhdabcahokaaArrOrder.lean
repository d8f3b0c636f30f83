/- Arrays: the law ArraysOrder, walked: for every list of numbers, no condition. (Printed by gen_order.py.) -/
import Derived.Test.YtjgfhdabcahokaaArrAwake
import Derived.Test.YtjgfhdabcahokaaOpenS
namespace Go.Proofs.Ytjgfhdabcahokaa
open Go.RowKit Go.ChangeShapes Go.WideShapes
open Go.WideMaps Go.WideElems Go.WideAt
set_option linter.unusedSimpArgs false

/-- A []int that lies below B. -/
def Ints (w : World) (B : Nat) (A : Option Addr) (n : Nat) (xs : List Int) : Prop :=
  xs.length = n ∧ (∀ x ∈ xs, -9223372036854775808 ≤ x ∧ x ≤ 9223372036854775807) ∧ (0 < n → ∃ b o, A = some ⟨b, o, none⟩ ∧ b < B ∧ ∀ i, (hi : i < xs.length) → w.cell? ⟨b, o + i, none⟩ = some (.int .i64 xs[i]))
theorem ints_open {H : Type} {enc : TypeId × Value → H} {w : World} {base : Nat} {v : Value} {d : DataW H} {p : List MemPlace} {spare : Nat → Bool} {held : Bool} {r}
    (hval : Value.okWide Try.prog w r base 22 v) (k : DataW.Trod enc Try.prog w 0 spare held 22 v d p) :
    ∃ A n cap xs, v = .slice A n cap ∧ Ints w w.heap.size A n xs ∧ n ≤ cap ∧ cap ≤ maxLen := by
  obtain ⟨a0, len0, cap0, rfl⟩ := okWide_slice Try.underlying22 hval
  obtain ⟨fuel, hf⟩ := k
  rcases open_ints Try.underlying22 Try.underlying3 (by kernel_rfl) (by simpa [Value.cells] using hf) with ⟨hcs, _⟩ | ⟨a, len, cap, ss, hcs, _, hl, hm, hz, _, hcell, hws⟩
  · simp at hcs
    obtain ⟨rfl, rfl, rfl⟩ := hcs
    exact ⟨_, _, _, [], rfl, ⟨rfl, by simp, fun h => by omega⟩, Nat.le_refl _, by unfold maxLen; omega⟩
  · simp at hcs
    obtain ⟨rfl, rfl, rfl⟩ := hcs
    have hlen : len0 ≤ ss.length := by rw [hz]; split <;> omega
    refine ⟨_, _, _, ss.take len0, rfl, ⟨by simp; omega, fun x hx => ?_, fun hn => ?_⟩, hl, hm⟩
    · have := hws x (List.mem_of_mem_take hx)
      simp [Lit.wf, IntKind.min, IntKind.max, IntKind.bits, IntKind.signed] at this
      omega
    obtain ⟨b, o, s⟩ := a
    have h0 := hcell 0 (by omega)
    have hs : s = none := by simpa [Addr.add] using World.cell?_spot h0
    subst hs
    have hlt : b < w.heap.size := by
      rw [add_off'] at h0
      by_cases h : b < w.heap.size
      · exact h
      · simp [World.cell?, Array.getElem?_eq_none (Nat.le_of_not_lt h)] at h0
    refine ⟨b, o, rfl, hlt, fun i hi => ?_⟩
    have hi' : i < ss.length := by simp at hi; omega
    have := hcell i hi'
    rw [add_off'] at this
    rw [this]
    simp [List.getD_eq_getElem?_getD, hi']
/-- Where an array stands: behind B, and nothing below B is turned. -/
structure ASt (B : Nat) (w wr : World) (pb bm : Nat) (v : Value) (F : Nat → Prop) (l : List Arr.Slot) : Prop where
  arr : ArrAt wr F pb bm v l
  low : ∀ x, F x → B ≤ x
  bel : Below B w wr
  sz : B ≤ wr.heap.size
/-- A row of texts beside it. -/
structure RowT (B : Nat) (wr : World) (F : Nat → Prop) (u : Value) (xs : List ByteArray) : Prop where
  own : wr.ownsRow B 9 1 u xs.length (svals xs)
  apart : ∀ g, u.ownBlock = some g → ¬ F g
theorem RowT.lt {B : Nat} {wr : World} {F : Nat → Prop} {u : Value} {xs : List ByteArray} (h : RowT B wr F u xs) {g : Nat} (hg : u.ownBlock = some g) : g < wr.heap.size := by
  obtain ⟨cur, hc⟩ := row_cells h.own hg
  exact (Array.getElem?_eq_some_iff.1 hc).1
theorem RowT.pure {B : Nat} {wr w' : World} {F : Nat → Prop} {u : Value} {xs : List ByteArray} (h : RowT B wr F u xs) (hb : Below wr.heap.size wr w') : RowT B w' F u xs :=
  ⟨own_of_block h.own fun g hg => hb.block g (h.lt hg), h.apart⟩
theorem RowT.turn {B : Nat} {wr w' : World} {F F' : Nat → Prop} {u : Value} {xs : List ByteArray} (h : RowT B wr F u xs) (ht : Tur F wr w') (hF : ∀ g, F' g → F g ∨ wr.heap.size ≤ g) : RowT B w' F' u xs :=
  ⟨own_of_block h.own fun g hg => ht.block g (h.lt hg) (h.apart g hg), fun g hg hf => by
    rcases hF g hf with hf | hf
    · exact h.apart g hg hf
    · have := h.lt hg; omega⟩
theorem RowT.write {B : Nat} {wr w' : World} {F : Nat → Prop} {u : Value} {xs : List ByteArray} {b : Nat} (h : RowT B wr F u xs) (ht : Tur (· = b) wr w') (hb : u.ownBlock ≠ some b) : RowT B w' F u xs :=
  ⟨own_of_block h.own fun g hg => ht.block g (h.lt hg) (fun e => hb (by rw [hg, e])), h.apart⟩
theorem RowT.writeG {B : Nat} {wr w' : World} {F G : Nat → Prop} {u : Value} {xs : List ByteArray} (h : RowT B wr F u xs) (ht : Tur G wr w') (hb : ∀ j, G j → ¬ u.ownBlock = some j) : RowT B w' F u xs :=
  ⟨own_of_block h.own fun g hg => ht.block g (h.lt hg) (fun e => hb g e hg), h.apart⟩
theorem row_form {B : Nat} {wr : World} {F : Nat → Prop} {u : Value} {xs : List ByteArray} (h : RowT B wr F u xs) : ∃ A cap, u = .slice A xs.length cap ∧ xs.length ≤ cap ∧ cap ≤ maxLen ∧ (0 < xs.length → ∃ g cs, A = some ⟨g, 0, none⟩ ∧ B ≤ g ∧ Blk wr g 9 cs ∧ xs.length ≤ cs.size) := by
  rcases h.own.2 with ⟨h1, h0⟩ | ⟨g, cap, cur, h1, h2, h3, h4, h5, h6, -⟩
  · exact ⟨none, 0, by rw [h1, h0], by omega, Nat.zero_le _, fun h => by omega⟩
  · exact ⟨_, cap, h1, h4, h5, fun _ => ⟨g, cur, rfl, h2, h3, by omega⟩⟩
theorem RowT.drew {B : Nat} {wr : World} {F : Nat → Prop} {u : Value} {xs : List ByteArray} (h : RowT B wr F u xs) : RowT B wr.drew F u xs := ⟨own_of_block h.own fun _ _ => rfl, h.apart⟩
theorem RowT.nil (B : Nat) (wr : World) (F : Nat → Prop) : RowT B wr F (.slice none 0 0) [] := ⟨World.ownsRow_nil _ _ _ _, fun g hg => by simp [Value.ownBlock] at hg⟩
theorem RowT.fresh {B : Nat} {wr w' : World} {F : Nat → Prop} {u : Value} {xs : List ByteArray} (ho : w'.ownsRow wr.heap.size 9 1 u xs.length (svals xs)) (hB : B ≤ wr.heap.size) (hF : ∀ x, F x → x < wr.heap.size) : RowT B w' F u xs := by
  have hg : ∀ g, u.ownBlock = some g → wr.heap.size ≤ g := fun g hg => by
    rcases ho.2 with ⟨h1, -⟩ | ⟨g', cap, cur, h1, h2, -⟩
    · rw [h1] at hg; cases hg
    · rw [h1] at hg; cases hg; exact h2
  exact ⟨own_base ho fun g h => Nat.le_trans hB (hg g h), fun g h hf => by have := hg g h; have := hF g hf; omega⟩
theorem ASt.pure {B : Nat} {w wr w' : World} {pb bm : Nat} {v : Value} {F : Nat → Prop} {l : List Arr.Slot} (h : ASt B w wr pb bm v F l) (hb : Below wr.heap.size wr w') : ASt B w w' pb bm v F l :=
  ⟨h.arr.tur (Tur.of_gr (F := fun _ => False) hb) (fun _ _ f => f), h.low, h.bel.trans (hb.mono h.sz), Nat.le_trans h.sz hb.size⟩
theorem ASt.turn {B : Nat} {w wr w' : World} {pb bm : Nat} {v v' : Value} {F F' : Nat → Prop} {l l' : List Arr.Slot} (h : ASt B w wr pb bm v F l) (ha : ArrAt w' F' pb bm v' l') (ht : Tur F wr w') (hF : ∀ g, F' g → F g ∨ wr.heap.size ≤ g) : ASt B w w' pb bm v' F' l' :=
  ⟨ha, fun x hx => (hF x hx).elim (h.low x) (Nat.le_trans h.sz), h.bel.trans (ht.below B h.sz (fun j hj f => by have := h.low j f; omega)), Nat.le_trans h.sz ht.size⟩
theorem ASt.write {B : Nat} {w wr w' : World} {pb bm b : Nat} {v : Value} {F : Nat → Prop} {l : List Arr.Slot} (h : ASt B w wr pb bm v F l) (ht : Tur (· = b) wr w') (hb : ¬ F b) (hB : B ≤ b) : ASt B w w' pb bm v F l :=
  ⟨h.arr.tur ht (fun k hk e => hb (e ▸ hk)), h.low, h.bel.trans (ht.below B h.sz (fun j hj f => by omega)), Nat.le_trans h.sz ht.size⟩
theorem ASt.writeG {B : Nat} {w wr w' : World} {pb bm : Nat} {v : Value} {F G : Nat → Prop} {l : List Arr.Slot} (h : ASt B w wr pb bm v F l) (ht : Tur G wr w') (hb : ∀ j, G j → ¬ F j ∧ B ≤ j) : ASt B w w' pb bm v F l :=
  ⟨h.arr.tur ht (fun k hk e => (hb k e).1 hk), h.low, h.bel.trans (ht.below B h.sz (fun j hj f => by have := (hb j f).2; omega)), Nat.le_trans h.sz ht.size⟩
theorem ASt.drew {B : Nat} {w wr : World} {pb bm : Nat} {v : Value} {F : Nat → Prop} {l : List Arr.Slot} (h : ASt B w wr pb bm v F l) : ASt B w wr.drew pb bm v F l := ⟨h.arr.drew, h.low, h.bel.drew, h.sz⟩
def ksL (l : List Arr.Slot) : List ByteArray := (Arr.live l).map Arr.Slot.key
theorem ksL_items (l : List Arr.Slot) : ksL l = (Arr.items l).map Prod.fst := by simp [ksL, Arr.items]
theorem ksL_len (l : List Arr.Slot) : (ksL l).length = (Arr.live l).length := by simp [ksL]
theorem ksL_del {l : List Arr.Slot} {i : Nat} (ht : Arr.Tidy l) (key : ByteArray) (hf : Arr.find l key.data.toList = some i) : ksL (Arr.packL (l.set i Arr.Slot.dead)) = (ksL l).filter (fun k => decide (k ≠ key)) := by
  obtain ⟨hi, ho, hk⟩ := Arr.find_some hf
  rw [ksL_items, ksL_items, Arr.items_packL, Arr.items_dead ht hi ho, hk, Arr.delI, List.filter_map]
  congr 1
  apply List.filter_congr
  intro p _
  simp only [Arr.hasKey, Function.comp]
  by_cases h : p.1 = key
  · simp [h]
  · have : ¬ p.1.data.toList = key.data.toList := fun e => h (bytes_ext e)
    simp only [beq_eq_false_iff_ne.2 this, Bool.not_false, decide_true, h, ne_eq, not_false_eq_true]
theorem ksL_set (l : List Arr.Slot) (key : ByteArray) (c : Arr.Cell) : ksL (Arr.setL l key c) = if (Arr.find l key.data.toList).isSome then ksL l else ksL l ++ [key] := by
  rw [ksL_items, ksL_items, Arr.items_setL, Arr.find_items]
  unfold Arr.setI
  cases h : Arr.findI (Arr.items l) key.data.toList with
  | none => simp
  | some i =>
    obtain ⟨hi, h1, -⟩ := Arr.findI_some h
    simp only [Option.isSome_some, if_true]
    apply List.ext_getElem
    · simp
    · intro j h2 h3
      simp only [List.getElem_map, List.getElem_set]
      split
      · rename_i e; subst e; simp [List.getD, hi]
      · rfl
theorem cellAt_set (l : List Arr.Slot) (key : ByteArray) (c : Arr.Cell) : Arr.cellAt (Arr.setL l key c) key.data.toList = c ∧ (Arr.find (Arr.setL l key c) key.data.toList).isSome = true := by
  cases hf : Arr.find l key.data.toList with
  | none =>
    rw [Arr.setL_new _ _ _ hf]
    have := Arr.find_append_new c hf (y := key)
    rw [if_pos rfl] at this
    simp [Arr.cellAt, this, List.getD]
  | some i =>
    obtain ⟨hi, ho, hk⟩ := Arr.find_some hf
    rw [Arr.setL_old _ _ _ i hi hf]
    have := Arr.find_setCell l i c hi key.data.toList
    rw [hf] at this
    simp [Arr.cellAt, this, List.getD, hi]
theorem sametexts_at2 (w : World) (B B' : Nat) (A A' : Option Addr) (n m cap cap' : Nat) (xs ys : List ByteArray) (hx : Strs w B A n xs) (hy : Strs w B' A' m ys) (hc : n ≤ cap) (hc' : m ≤ cap') (hn : n ≤ 1000) (hm' : m ≤ 1000) :
    Calls Try.prog 16 #[.slice A n cap, .slice A' m cap'] w fun e w' => e = .returned (.bool (sameT xs ys)) ∧ Below w.heap.size w w' := by
  refine (w_sametexts _ B B' A A' n _ cap _ xs ys hx hy (by omega) (by omega) hc hc').mono ?_
  rintro e w' ⟨rfl, q, rfl⟩
  exact ⟨rfl, ⟨rfl, rfl, rfl, Nat.le_refl _, fun _ _ => rfl⟩⟩
theorem ksL_no {l : List Arr.Slot} {key : ByteArray} (hf : Arr.find l key.data.toList = none) : (ksL l).filter (fun k => decide (k ≠ key)) = ksL l := by
  rw [List.filter_eq_self]
  intro x hx
  simp only [decide_eq_true_eq]
  rintro rfl
  simp only [ksL, List.mem_map] at hx
  obtain ⟨s, hs, rfl⟩ := hx
  have := Arr.find_none hf
  exact this (by simp only [Arr.keys, List.mem_map]; exact ⟨s, hs, rfl⟩)
set_option maxRecDepth 100000 in
set_option maxHeartbeats 2000000 in
theorem l_order' (w : World) (W : Option Addr) (n cap : Nat) (xs : List Int) (hx : Ints w w.heap.size W n xs) (hc : n ≤ cap) (hcm : cap ≤ maxLen) :
    Calls Try.prog 3 #[.slice W n cap] w fun e w' => e = .returned (.bool true) ∧ Below w.heap.size w w' := by
  have HX := Lib.hid hx
  clear hx
  have hcl : cap < 9223372036854775808 := by unfold maxLen at hcm; omega
  go_enter Try.func3, Try.ntmps3
  go_wp2_with fail
  refine (arr_new _).mono ?_
  rintro e w1 ⟨rfl, ha1, hb1⟩
  have hs1 : ASt w.heap.size w w1 (w.heap.size + 1) w.heap.size (.slice none 0 0) (fun k => w.heap.size ≤ k ∧ k < w.heap.size + 2) [] := ⟨ha1, fun x hx => hx.1, hb1, hb1.size⟩
  generalize (fun k => w.heap.size ≤ k ∧ k < w.heap.size + 2) = F1 at *
  obtain ⟨B, hB⟩ : ∃ B, B = w.heap.size := ⟨_, rfl⟩
  have hZ := Lib.hid hB
  rw [← hB] at hs1 HX ⊢
  clear ha1 hb1 hB
  go_wp2_with fail
  go_loopw [4, 5] (fun u i wr => ∃ (k : Nat) (l : List Arr.Slot) (v : Value) (F : Nat → Prop), k ≤ n ∧ k ≤ 120 ∧ i = .int .i64 k ∧ ASt B w wr (B + 1) B v F l ∧ RowT B wr F u (ksL l) ∧ l.length ≤ k) (fun _ i _ => n - (intOf i).toNat)
  case atStart => exact ⟨0, [], _, F1, Nat.zero_le _, Nat.zero_le _, rfl, hs1, RowT.nil _ _ _, Nat.le_refl _⟩
  case round =>
    obtain ⟨k, l, v, F, hk, hk2, rfl, hs, hu, hl⟩ := hrel
    by_cases hlt : k < n
    · by_cases hlt2 : k < 120
      · obtain ⟨b, o, rfl, hbB, hcx⟩ := HX.out.2.2 (by omega)
        have hx1 : k < xs.length := by rw [HX.out.1]; exact hlt
        obtain ⟨hr1, hr2⟩ := HX.out.2.1 _ (List.getElem_mem hx1)
        have c1 : wr.cell? ⟨b, o + k, none⟩ = some (.int .i64 xs[k]) := (hs.bel.cell (p := ⟨b, o + k, none⟩) hbB).trans (hcx k hx1)
        clear hcx
        generalize xs[k] = x at *
        go_wp2_with fail
        refine (w_pick x 1000003 _ (by omega) (by omega)).mono ?_
        rintro e w2 ⟨rfl, rfl⟩
        obtain ⟨hp1, hp2⟩ := Low.pick_range x 1000003 (by omega)
        generalize Low.pick x 1000003 = N at *
        have ht1 : 0 ≤ N.tmod 12 := Int.tmod_nonneg _ hp1
        have ht2 : N.tmod 12 < 12 := Int.tmod_lt_of_pos _ (by omega)
        clear hr1 hr2 c1
        go_wp2_with fail
        obtain ⟨key, hkey⟩ : ∃ key : ByteArray, key = ({ data := #[97, 98, 99, 100, 101, 102, 103, 104, 105, 106, 107, 108] } : ByteArray).extract (N % 12).toNat (N % 12 + 1).toNat := ⟨_, rfl⟩
        have hks : key.size ≤ maxLen := by rw [hkey]; simp [maxLen]; omega
        rw [← hkey]
        clear hkey
        refine (arr_keys wr _ _ _ _ l hs.arr (by omega)).mono ?_
        rintro e w3 ⟨uw, rfl, hown3, hb3⟩
        have hw3 : RowT B w3 F uw (ksL l) := RowT.fresh (by rw [ksL_len]; exact hown3) hs.sz hs.arr.flt
        have hne : ∀ g, uw.ownBlock = some g → ¬ u4.ownBlock = some g := fun g h1 h2 => by
          have := hu.lt h2
          rcases hown3.2 with ⟨h3, -⟩ | ⟨g', cap, cur, h3, h4, -⟩
          · rw [h3] at h1; cases h1
          · rw [h3] at h1; injection h1 with h1; change g' = g at h1; omega
        have hs3 := hs.pure hb3
        have hu3 := hu.pure hb3
        clear hs hu hb3 hown3
        go_wp2_with fail
        refine (arr_peek w3 _ _ _ _ l key hs3.arr hks (by omega)).mono ?_
        rintro e w4 ⟨rfl, hb4⟩
        have hs4 := hs3.pure hb4
        have hu4 := hu3.pure hb4
        have hw4 := hw3.pure hb4
        clear hs3 hu3 hw3 hb4
        generalize Arr.cellAt l key.data.toList = q4
        rw [show q4.vals.toArray = #[.int .u8 q4.k, .int .u64 q4.n, .string q4.s] from rfl]
        have hb5 : Below w4.heap.size w4 (w4.alloc (.cells #[.int .u8 q4.k, .int .u64 q4.n, .string q4.s] 31)) := (Below.refl _ _).alloc (Nat.le_refl _) _
        by_cases hd : N / 12 % 3 = 0
        · rcases hfo : Arr.find l key.data.toList with _ | i0
          · go_wp2_with fail
            generalize w4.alloc (.cells #[.int .u8 q4.k, .int .u64 q4.n, .string q4.s] 31) = w5 at *
            have hs5 := hs4.pure hb5
            have hu5 := hu4.pure hb5
            have hw5 := hw4.pure hb5
            clear hs4 hu4 hw4 hb5
            refine (arr_delete_no w5 _ key (by have := arr_has w5 _ _ _ _ l key hs5.arr hks (by omega); rw [hfo] at this; exact this)).mono ?_
            rintro e w6 ⟨rfl, hb6⟩
            have hs6 := hs5.pure hb6
            have hu6 := hu5.pure hb6
            have hw6 := hw5.pure hb6
            clear hs5 hu5 hw5 hb6
            obtain ⟨l6, hl6e⟩ : ∃ l6, l6 = l := ⟨_, rfl⟩
            have hks6 : ksL l6 = (ksL l).filter (fun k => decide (k ≠ key)) := by rw [hl6e]; exact (ksL_no hfo).symm
            have hl6 : l6.length ≤ k + 1 := by rw [hl6e]; omega
            rw [← hl6e] at hs6
            clear hl6e
            generalize v = v6 at hs6
            generalize F = F6 at hs6 hu6 hw6
            obtain ⟨A4, c4, rfl, hc4, hcm4, hst4⟩ := strs_form hu6.own
            have hll4 : (ksL l).length ≤ k := by rw [ksL_len]; exact Nat.le_trans (List.length_filter_le _ _) hl
            go_wp2_with fail
            go_loopw [11, 12] (fun lv i wr => ∃ kk : Nat, kk ≤ (ksL l).length ∧ i = .int .i64 kk ∧ wr.ownsRow w6.heap.size 9 1 lv (((ksL l).take kk).filter (fun k => decide (k ≠ key))).length (svals (((ksL l).take kk).filter (fun k => decide (k ≠ key)))) ∧ Below w6.heap.size w6 wr) (fun _ i _ => (ksL l).length - (intOf i).toNat)
            case atStart => exact ⟨0, Nat.zero_le _, rfl, World.ownsRow_nil _ _ _ _, Below.refl _ _⟩
            case round =>
              obtain ⟨kk, hkk, rfl, hown, hbq⟩ := hrel
              have hbs := hbq.size
              by_cases hkl : kk < (ksL l).length
              · obtain ⟨b4, o4, rfl, hb4, hcx4⟩ := hst4.2 (by omega)
                have e1 : wr.cell? ⟨b4, o4 + kk, none⟩ = some (.string (ksL l)[kk]) := (hbq.cell (p := ⟨b4, o4 + kk, none⟩) hb4).trans (hcx4 kk hkl)
                have htk : (ksL l).take (kk + 1) = (ksL l).take kk ++ [(ksL l)[kk]] := by rw [List.take_append_getElem hkl]
                have hfl : (((ksL l).take kk).filter (fun k => decide (k ≠ key))).length ≤ kk := Nat.le_trans (List.length_filter_le _ _) (by simp; omega)
                clear hcx4
                generalize (ksL l)[kk] = y at *
                by_cases hy : y = key
                · have hy2 : (y.toList == key.toList) = true := by simp [hy]
                  have hT : ((ksL l).take (kk + 1)).filter (fun k => decide (k ≠ key)) = ((ksL l).take kk).filter (fun k => decide (k ≠ key)) := by rw [htk, List.filter_append]; simp [hy]
                  rw [← hT] at hown
                  have hT' := Lib.hid hT
                  have hO := Lib.hid hown
                  clear hT htk hown
                  go_wp2_with fail
                  go_roundw
                  case rel => exact ⟨kk + 1, by omega, by go_num, hO.out, hbq⟩
                  case measure => simp [intOf]; omega
                · have hy2 : (y.toList == key.toList) = false := by rw [tolist_beq]; exact decide_eq_false fun e => hy (bytes_ext e)
                  have hT : ((ksL l).take (kk + 1)).filter (fun k => decide (k ≠ key)) = ((ksL l).take kk).filter (fun k => decide (k ≠ key)) ++ [y] := by rw [htk, List.filter_append]; simp [hy]
                  have hT' := Lib.hid hT
                  clear hT htk
                  have hz1 : (((ksL l).take kk).filter (fun k => decide (k ≠ key))).length + 1 ≤ maxLen := by unfold maxLen; omega
                  have hz2 : ((((ksL l).take kk).filter (fun k => decide (k ≠ key))).length + 1) * 16 ≤ 140737488355328 := by omega
                  go_wp2_with (at_builtin; refine wp_app1 rfl _ _ _ rfl 9 1 16 _ Try.underlying25 info_str rfl (by decide) w6.heap.size _ _ _ rfl hown [_] rfl rfl one_str hz1 hz2 hbs ?_; intro v' wz hown' hgrow hne')
                  have hbq2 := hbq.trans (below_grown hown hgrow hbs)
                  have hown2 : wz.ownsRow w6.heap.size 9 1 v' (((ksL l).take (kk + 1)).filter (fun k => decide (k ≠ key))).length (svals (((ksL l).take (kk + 1)).filter (fun k => decide (k ≠ key)))) := by
                    rw [hT'.out, List.length_append]; simpa [svals] using hown'
                  clear hgrow hown hbq hne' hown' hz1 hz2
                  go_wp2_with fail
                  go_roundw
                  case rel => exact ⟨kk + 1, by omega, by go_num, hown2, hbq2⟩
                  case measure => simp [intOf]; omega
              · obtain rfl : kk = (ksL l).length := by omega
                rw [List.take_length, ← hks6] at hown
                have hu7 : RowT B wr F6 _ (ksL l6) := RowT.fresh hown hs6.sz hs6.arr.flt
                have hne7 : ∀ g, uw.ownBlock = some g → ¬ u11.ownBlock = some g := fun g h1 h2 => by
                  have := hw6.lt h1
                  rcases hown.2 with ⟨h3, -⟩ | ⟨g', cap, cur, h3, h4, -⟩
                  · rw [h3] at h2; cases h2
                  · rw [h3] at h2; injection h2 with h2; change g' = g at h2; omega
                have hs7 := hs6.pure hbq
                have hw7 := hw6.pure hbq
                clear hown hbq hs6 hu6 hw6 hst4 hbs
                generalize u11 = u7 at *
                have hl7 := hl6
                clear hl6 hks6
                generalize l6 = l7 at *
                generalize F6 = F7 at *
                generalize v6 = v7 at *
                go_wp2_with fail
                refine (arr_keys _ _ _ _ _ l7 hs7.arr (by omega)).mono ?_
                rintro e w8 ⟨ux, rfl, hown8, hb8⟩
                have hx8 : RowT B w8 F7 ux (ksL l7) := RowT.fresh (by rw [ksL_len]; exact hown8) hs7.sz hs7.arr.flt
                have hs8 := hs7.pure hb8
                have hu8 := hu7.pure hb8
                have hw8 := hw7.pure hb8
                clear hs7 hu7 hw7 hb8 hown8
                obtain ⟨Ax, cx, rfl, hcx, hcmx, hsx⟩ := strs_form hx8.own
                obtain ⟨A7, c7, rfl, hc7, hcm7, hsu⟩ := strs_form hu8.own
                have hll : (ksL l7).length ≤ k + 1 := by rw [ksL_len]; exact Nat.le_trans (List.length_filter_le _ _) hl7
                go_wp2_with fail
                refine (sametexts_at2 w8 _ _ Ax A7 _ _ cx c7 _ _ hsx hsu hcx hc7 (by omega) (by omega)).mono ?_
                rintro e w9 ⟨rfl, hb9⟩
                rw [show sameT (ksL l7) (ksL l7) = true from (sameT_iff _ _).2 rfl]
                have hs9 := hs8.pure hb9
                have hu9 := hu8.pure hb9
                have hw9 := hw8.pure hb9
                clear hs8 hu8 hw8 hx8 hb9 hsx hsu
                go_wp2_with fail
                refine (arr_len w9 _ _ _ _ l7 hs9.arr).mono ?_
                rintro e w10 ⟨rfl, rfl⟩
                rw [← ksL_len]
                obtain ⟨Aw, cw, rfl, hcw, hcmw, hfw⟩ := row_form hw9
                go_wp2_with fail
                have hTB := Lib.hid (trivial : True)
                go_loopw [15] (fun i wr => ∃ kk : Nat, kk ≤ (ksL l).length ∧ i = .int .i64 kk ∧ (0 < (ksL l).length → ∃ g cs, Aw = some ⟨g, 0, none⟩ ∧ Blk wr g 9 cs ∧ (ksL l).length ≤ cs.size) ∧ Tur (fun j => ∃ a, Aw = some a ∧ a.block = j) w9 wr) (fun i _ => (ksL l).length - (intOf i).toNat)
                case atStart => exact ⟨0, Nat.zero_le _, rfl, fun h0 => by obtain ⟨g, cs, h1, h2, h3, h4⟩ := hfw h0; exact ⟨g, cs, h1, h3, h4⟩, Tur.refl _ _⟩
                case round =>
                  obtain ⟨kk, hkk, rfl, hbk, htq⟩ := hrel
                  by_cases hkl : kk < (ksL l).length
                  · obtain ⟨g, cs, rfl, hblk, hcs⟩ := hbk (by omega)
                    have e1 := hblk.cell kk
                    rw [Array.getElem?_eq_getElem (by omega : kk < cs.size)] at e1
                    have e2 := hblk.free kk
                    generalize cs[kk] = old at *
                    go_wp2_with fail
                    have hbl2 := hblk.set kk (.string ({ data := #[111, 116, 104, 101, 114] } : ByteArray))
                    have htq2 := htq.trans (Tur.of_set (w := wr) ⟨g, kk, none⟩ (.string ({ data := #[111, 116, 104, 101, 114] } : ByteArray))) (fun i _ hi => ⟨_, rfl, hi.symm⟩)
                    clear hblk htq e1 e2
                    go_roundw
                    case rel => exact ⟨kk + 1, by omega, by go_num, fun _ => ⟨g, _, rfl, hbl2, by simpa using hcs⟩, htq2⟩
                    case measure => simp [intOf]; omega
                  · have hs10 := hs9.writeG htq (fun j hj => by
                      obtain ⟨a, rfl, rfl⟩ := hj
                      have hj1 : (Value.slice (some a) (ksL l).length cw).ownBlock = some a.block := rfl
                      refine ⟨hw9.apart _ hj1, ?_⟩
                      rcases hw9.own.2 with ⟨h3, -⟩ | ⟨g', cap, cur, h3, h4, -⟩
                      · cases h3
                      · cases h3; exact h4)
                    have hu10 := hu9.writeG htq (fun j hj => by
                      obtain ⟨a, rfl, rfl⟩ := hj
                      exact hne7 _ rfl)
                    clear hs9 hu9 hw9 hbk htq hfw
                    go_wp2_with fail
                    refine (arr_keys wr _ _ _ _ l7 hs10.arr (by omega)).mono ?_
                    rintro e w11 ⟨uy, rfl, hown11, hb11⟩
                    have hx11 : RowT B w11 F7 uy (ksL l7) := RowT.fresh (by rw [ksL_len]; exact hown11) hs10.sz hs10.arr.flt
                    have hs11 := hs10.pure hb11
                    have hu11 := hu10.pure hb11
                    clear hs10 hu10 hb11 hown11
                    obtain ⟨Ay, cy, rfl, hcy, hcmy, hsy⟩ := strs_form hx11.own
                    obtain ⟨A7', c7', he7, hc7', hcm7', hsu⟩ := strs_form hu11.own
                    cases he7
                    go_wp2_with fail
                    refine (sametexts_at2 w11 _ _ Ay A7 _ _ cy c7 _ _ hsy hsu hcy hc7' (by omega) (by omega)).mono ?_
                    rintro e w12 ⟨rfl, hb12⟩
                    rw [show sameT (ksL l7) (ksL l7) = true from (sameT_iff _ _).2 rfl]
                    have hs12 := hs11.pure hb12
                    have hu12 := hu11.pure hb12
                    clear hs11 hu11 hx11 hb12 hsy hsu
                    go_wp2_with fail
                    go_roundw
                    case rel => exact ⟨k + 1, l7, v7, F7, by omega, by omega, by go_num, hs12, hu12, hl7⟩
                    case measure => simp [intOf]; omega
          · go_wp2_with fail
            generalize w4.alloc (.cells #[.int .u8 q4.k, .int .u64 q4.n, .string q4.s] 31) = w5 at *
            have hs5 := hs4.pure hb5
            have hu5 := hu4.pure hb5
            have hw5 := hw4.pure hb5
            clear hs4 hu4 hw4 hb5
            refine (arr_delete_yes w5 _ _ _ _ l key i0 hs5.arr hks (by omega) hfo).mono ?_
            rintro e w6 ⟨rfl, v6, F6, ha6, ht6, hF6⟩
            have hs6 := hs5.turn ha6 ht6 hF6
            have hu6 := hu5.turn ht6 hF6
            have hw6 := hw5.turn ht6 hF6
            have hks6 := ksL_del hs5.arr.tidy key hfo
            have hl6 : (Arr.packL (l.set i0 Arr.Slot.dead)).length ≤ k + 1 := by have := Arr.packL_len (l.set i0 Arr.Slot.dead); simp at this; omega
            clear hs5 hu5 hw5 ha6 ht6 hF6
            generalize Arr.packL (l.set i0 Arr.Slot.dead) = l6 at *
            obtain ⟨A4, c4, rfl, hc4, hcm4, hst4⟩ := strs_form hu6.own
            have hll4 : (ksL l).length ≤ k := by rw [ksL_len]; exact Nat.le_trans (List.length_filter_le _ _) hl
            go_wp2_with fail
            go_loopw [11, 12] (fun lv i wr => ∃ kk : Nat, kk ≤ (ksL l).length ∧ i = .int .i64 kk ∧ wr.ownsRow w6.heap.size 9 1 lv (((ksL l).take kk).filter (fun k => decide (k ≠ key))).length (svals (((ksL l).take kk).filter (fun k => decide (k ≠ key)))) ∧ Below w6.heap.size w6 wr) (fun _ i _ => (ksL l).length - (intOf i).toNat)
            case atStart => exact ⟨0, Nat.zero_le _, rfl, World.ownsRow_nil _ _ _ _, Below.refl _ _⟩
            case round =>
              obtain ⟨kk, hkk, rfl, hown, hbq⟩ := hrel
              have hbs := hbq.size
              by_cases hkl : kk < (ksL l).length
              · obtain ⟨b4, o4, rfl, hb4, hcx4⟩ := hst4.2 (by omega)
                have e1 : wr.cell? ⟨b4, o4 + kk, none⟩ = some (.string (ksL l)[kk]) := (hbq.cell (p := ⟨b4, o4 + kk, none⟩) hb4).trans (hcx4 kk hkl)
                have htk : (ksL l).take (kk + 1) = (ksL l).take kk ++ [(ksL l)[kk]] := by rw [List.take_append_getElem hkl]
                have hfl : (((ksL l).take kk).filter (fun k => decide (k ≠ key))).length ≤ kk := Nat.le_trans (List.length_filter_le _ _) (by simp; omega)
                clear hcx4
                generalize (ksL l)[kk] = y at *
                by_cases hy : y = key
                · have hy2 : (y.toList == key.toList) = true := by simp [hy]
                  have hT : ((ksL l).take (kk + 1)).filter (fun k => decide (k ≠ key)) = ((ksL l).take kk).filter (fun k => decide (k ≠ key)) := by rw [htk, List.filter_append]; simp [hy]
                  rw [← hT] at hown
                  have hT' := Lib.hid hT
                  have hO := Lib.hid hown
                  clear hT htk hown
                  go_wp2_with fail
                  go_roundw
                  case rel => exact ⟨kk + 1, by omega, by go_num, hO.out, hbq⟩
                  case measure => simp [intOf]; omega
                · have hy2 : (y.toList == key.toList) = false := by rw [tolist_beq]; exact decide_eq_false fun e => hy (bytes_ext e)
                  have hT : ((ksL l).take (kk + 1)).filter (fun k => decide (k ≠ key)) = ((ksL l).take kk).filter (fun k => decide (k ≠ key)) ++ [y] := by rw [htk, List.filter_append]; simp [hy]
                  have hT' := Lib.hid hT
                  clear hT htk
                  have hz1 : (((ksL l).take kk).filter (fun k => decide (k ≠ key))).length + 1 ≤ maxLen := by unfold maxLen; omega
                  have hz2 : ((((ksL l).take kk).filter (fun k => decide (k ≠ key))).length + 1) * 16 ≤ 140737488355328 := by omega
                  go_wp2_with (at_builtin; refine wp_app1 rfl _ _ _ rfl 9 1 16 _ Try.underlying25 info_str rfl (by decide) w6.heap.size _ _ _ rfl hown [_] rfl rfl one_str hz1 hz2 hbs ?_; intro v' wz hown' hgrow hne')
                  have hbq2 := hbq.trans (below_grown hown hgrow hbs)
                  have hown2 : wz.ownsRow w6.heap.size 9 1 v' (((ksL l).take (kk + 1)).filter (fun k => decide (k ≠ key))).length (svals (((ksL l).take (kk + 1)).filter (fun k => decide (k ≠ key)))) := by
                    rw [hT'.out, List.length_append]; simpa [svals] using hown'
                  clear hgrow hown hbq hne' hown' hz1 hz2
                  go_wp2_with fail
                  go_roundw
                  case rel => exact ⟨kk + 1, by omega, by go_num, hown2, hbq2⟩
                  case measure => simp [intOf]; omega
              · obtain rfl : kk = (ksL l).length := by omega
                rw [List.take_length, ← hks6] at hown
                have hu7 : RowT B wr F6 _ (ksL l6) := RowT.fresh hown hs6.sz hs6.arr.flt
                have hne7 : ∀ g, uw.ownBlock = some g → ¬ u11.ownBlock = some g := fun g h1 h2 => by
                  have := hw6.lt h1
                  rcases hown.2 with ⟨h3, -⟩ | ⟨g', cap, cur, h3, h4, -⟩
                  · rw [h3] at h2; cases h2
                  · rw [h3] at h2; injection h2 with h2; change g' = g at h2; omega
                have hs7 := hs6.pure hbq
                have hw7 := hw6.pure hbq
                clear hown hbq hs6 hu6 hw6 hst4 hbs
                generalize u11 = u7 at *
                have hl7 := hl6
                clear hl6 hks6
                generalize l6 = l7 at *
                generalize F6 = F7 at *
                generalize v6 = v7 at *
                go_wp2_with fail
                refine (arr_keys _ _ _ _ _ l7 hs7.arr (by omega)).mono ?_
                rintro e w8 ⟨ux, rfl, hown8, hb8⟩
                have hx8 : RowT B w8 F7 ux (ksL l7) := RowT.fresh (by rw [ksL_len]; exact hown8) hs7.sz hs7.arr.flt
                have hs8 := hs7.pure hb8
                have hu8 := hu7.pure hb8
                have hw8 := hw7.pure hb8
                clear hs7 hu7 hw7 hb8 hown8
                obtain ⟨Ax, cx, rfl, hcx, hcmx, hsx⟩ := strs_form hx8.own
                obtain ⟨A7, c7, rfl, hc7, hcm7, hsu⟩ := strs_form hu8.own
                have hll : (ksL l7).length ≤ k + 1 := by rw [ksL_len]; exact Nat.le_trans (List.length_filter_le _ _) hl7
                go_wp2_with fail
                refine (sametexts_at2 w8 _ _ Ax A7 _ _ cx c7 _ _ hsx hsu hcx hc7 (by omega) (by omega)).mono ?_
                rintro e w9 ⟨rfl, hb9⟩
                rw [show sameT (ksL l7) (ksL l7) = true from (sameT_iff _ _).2 rfl]
                have hs9 := hs8.pure hb9
                have hu9 := hu8.pure hb9
                have hw9 := hw8.pure hb9
                clear hs8 hu8 hw8 hx8 hb9 hsx hsu
                go_wp2_with fail
                refine (arr_len w9 _ _ _ _ l7 hs9.arr).mono ?_
                rintro e w10 ⟨rfl, rfl⟩
                rw [← ksL_len]
                obtain ⟨Aw, cw, rfl, hcw, hcmw, hfw⟩ := row_form hw9
                go_wp2_with fail
                have hTB := Lib.hid (trivial : True)
                go_loopw [15] (fun i wr => ∃ kk : Nat, kk ≤ (ksL l).length ∧ i = .int .i64 kk ∧ (0 < (ksL l).length → ∃ g cs, Aw = some ⟨g, 0, none⟩ ∧ Blk wr g 9 cs ∧ (ksL l).length ≤ cs.size) ∧ Tur (fun j => ∃ a, Aw = some a ∧ a.block = j) w9 wr) (fun i _ => (ksL l).length - (intOf i).toNat)
                case atStart => exact ⟨0, Nat.zero_le _, rfl, fun h0 => by obtain ⟨g, cs, h1, h2, h3, h4⟩ := hfw h0; exact ⟨g, cs, h1, h3, h4⟩, Tur.refl _ _⟩
                case round =>
                  obtain ⟨kk, hkk, rfl, hbk, htq⟩ := hrel
                  by_cases hkl : kk < (ksL l).length
                  · obtain ⟨g, cs, rfl, hblk, hcs⟩ := hbk (by omega)
                    have e1 := hblk.cell kk
                    rw [Array.getElem?_eq_getElem (by omega : kk < cs.size)] at e1
                    have e2 := hblk.free kk
                    generalize cs[kk] = old at *
                    go_wp2_with fail
                    have hbl2 := hblk.set kk (.string ({ data := #[111, 116, 104, 101, 114] } : ByteArray))
                    have htq2 := htq.trans (Tur.of_set (w := wr) ⟨g, kk, none⟩ (.string ({ data := #[111, 116, 104, 101, 114] } : ByteArray))) (fun i _ hi => ⟨_, rfl, hi.symm⟩)
                    clear hblk htq e1 e2
                    go_roundw
                    case rel => exact ⟨kk + 1, by omega, by go_num, fun _ => ⟨g, _, rfl, hbl2, by simpa using hcs⟩, htq2⟩
                    case measure => simp [intOf]; omega
                  · have hs10 := hs9.writeG htq (fun j hj => by
                      obtain ⟨a, rfl, rfl⟩ := hj
                      have hj1 : (Value.slice (some a) (ksL l).length cw).ownBlock = some a.block := rfl
                      refine ⟨hw9.apart _ hj1, ?_⟩
                      rcases hw9.own.2 with ⟨h3, -⟩ | ⟨g', cap, cur, h3, h4, -⟩
                      · cases h3
                      · cases h3; exact h4)
                    have hu10 := hu9.writeG htq (fun j hj => by
                      obtain ⟨a, rfl, rfl⟩ := hj
                      exact hne7 _ rfl)
                    clear hs9 hu9 hw9 hbk htq hfw
                    go_wp2_with fail
                    refine (arr_keys wr _ _ _ _ l7 hs10.arr (by omega)).mono ?_
                    rintro e w11 ⟨uy, rfl, hown11, hb11⟩
                    have hx11 : RowT B w11 F7 uy (ksL l7) := RowT.fresh (by rw [ksL_len]; exact hown11) hs10.sz hs10.arr.flt
                    have hs11 := hs10.pure hb11
                    have hu11 := hu10.pure hb11
                    clear hs10 hu10 hb11 hown11
                    obtain ⟨Ay, cy, rfl, hcy, hcmy, hsy⟩ := strs_form hx11.own
                    obtain ⟨A7', c7', he7, hc7', hcm7', hsu⟩ := strs_form hu11.own
                    cases he7
                    go_wp2_with fail
                    refine (sametexts_at2 w11 _ _ Ay A7 _ _ cy c7 _ _ hsy hsu hcy hc7' (by omega) (by omega)).mono ?_
                    rintro e w12 ⟨rfl, hb12⟩
                    rw [show sameT (ksL l7) (ksL l7) = true from (sameT_iff _ _).2 rfl]
                    have hs12 := hs11.pure hb12
                    have hu12 := hu11.pure hb12
                    clear hs11 hu11 hx11 hb12 hsy hsu
                    go_wp2_with fail
                    go_roundw
                    case rel => exact ⟨k + 1, l7, v7, F7, by omega, by omega, by go_num, hs12, hu12, hl7⟩
                    case measure => simp [intOf]; omega
        · rcases hfo : Arr.find l key.data.toList with _ | i0
          · go_wp2_with fail
            generalize w4.alloc (.cells #[.int .u8 q4.k, .int .u64 q4.n, .string q4.s] 31) = w5 at *
            have hs5 := hs4.pure hb5
            have hu5 := hu4.pure hb5
            have hw5 := hw4.pure hb5
            clear hs4 hu4 hw4 hb5
            refine (w_num k _ (by omega) (by omega)).mono ?_
            rintro e w6 ⟨rfl, hb6⟩
            have hs6 := hs5.pure hb6
            have hu6 := hu5.pure hb6
            have hw6 := hw5.pure hb6
            clear hs5 hu5 hw5 hb6
            go_wp2_with fail
            refine (arr_set w6 _ _ _ _ l key ⟨1, k, ⟨#[]⟩⟩ hs6.arr hks (by omega)).mono ?_
            rintro e wa ⟨va, Fa, rfl, haa, hta, hFa⟩
            have hsa := hs6.turn haa hta hFa
            have hua := hu6.turn hta hFa
            have hwa := hw6.turn hta hFa
            have hksa := ksL_set l key ⟨1, k, ⟨#[]⟩⟩
            have hca := cellAt_set l key ⟨1, k, ⟨#[]⟩⟩
            have hla : (Arr.setL l key ⟨1, k, ⟨#[]⟩⟩).length ≤ k + 1 := Nat.le_trans (Arr.setL_len _ _ _) (by omega)
            rw [hfo] at hksa
            clear hs6 hu6 hw6 haa hta hFa
            generalize Arr.setL l key ⟨1, k, ⟨#[]⟩⟩ = la at *
            obtain ⟨A4, c4, rfl, hc4, hcm4, hst4⟩ := strs_form hua.own
            have hll4 : (ksL l).length ≤ k := by rw [ksL_len]; exact Nat.le_trans (List.length_filter_le _ _) hl
            go_wp2_with fail
            refine (w_copytexts wa B _ (ksL l) hua.own (by omega)).mono ?_
            rintro e wb ⟨Ab, cb, rfl, hownb, hbb⟩
            have hsb' := hsa.pure hbb
            have hwb' := hwa.pure hbb
            have hbsb := hbb.size
            have hwlt : ∀ g, uw.ownBlock = some g → g < wa.heap.size := fun g h => hwa.lt h
            have hsza := hsa.sz
            have hflt := hsa.arr.flt
            clear hua hwa hst4 hsa
            have hz1 : (ksL l).length + 1 ≤ maxLen := by unfold maxLen; omega
            have hz2 : ((ksL l).length + 1) * 16 ≤ 140737488355328 := by omega
            go_wp2_with (at_builtin; refine wp_app1 rfl _ _ _ rfl 9 1 16 _ Try.underlying25 info_str rfl (by decide) wa.heap.size _ _ _ rfl hownb [_] rfl rfl one_str hz1 hz2 hbsb ?_; intro v' wz hown' hgrow hne')
            have hga : ∀ g, (Value.slice Ab (ksL l).length cb).ownBlock = some g → wa.heap.size ≤ g := fun g h => by
              rcases hownb.2 with ⟨h3, -⟩ | ⟨g', cap, cur, h3, h4, -⟩
              · rw [h3] at h; cases h
              · rw [h3] at h; injection h with h; change g' = g at h; omega
            have htz := Tur.of_grown hgrow
            have hsb := hsb'.writeG htz (fun j hj => by have := hga j hj.symm; exact ⟨fun f => by have := hflt j f; omega, by omega⟩)
            have hwb := hwb'.writeG htz (fun j hj h => by have h1 := hga j hj.symm; have h2 := hwlt j h; omega)
            have hksz : (ksL la).length = (ksL l).length + 1 := by rw [hksa]; simp
            have hown2 : wz.ownsRow wa.heap.size 9 1 v' (ksL la).length (svals (ksL la)) := by
              rw [hksa]; simpa [svals] using hown'
            have hg7 : ∀ g, v'.ownBlock = some g → wa.heap.size ≤ g := fun g h => by
              rcases hown2.2 with ⟨h3, -⟩ | ⟨g', cap, cur, h3, h4, -⟩
              · rw [h3] at h; cases h
              · rw [h3] at h; injection h with h; change g' = g at h; omega
            have hub : RowT B wz Fa v' (ksL la) := ⟨own_base hown2 fun g h => Nat.le_trans hsza (hg7 g h), fun g h f => by have h1 := hg7 g h; have h2 := hflt g f; omega⟩
            have hne7 : ∀ g, uw.ownBlock = some g → ¬ v'.ownBlock = some g := fun g h1 h2 => by have h1 := hwlt g h1; have h2 := hg7 g h2; omega
            clear hsb' hwb' hbb hbsb hwlt hsza hflt hownb hz1 hz2 hown' hgrow hne' hga htz hown2 hg7 hksa hksz hne
            generalize v' = u7 at *
            go_wp2_with fail
            refine (arr_peek _ _ _ _ _ la key hsb.arr hks (by omega)).mono ?_
            rintro e wp ⟨rfl, hbp⟩
            rw [hca.1, hca.2]
            rw [show (⟨1, (k : Int), ⟨#[]⟩⟩ : Arr.Cell).vals.toArray = #[.int .u8 1, .int .u64 k, .string ⟨#[]⟩] from rfl]
            have hsp := hsb.pure hbp
            have hup := hub.pure hbp
            have hwp := hwb.pure hbp
            clear hsb hub hwb hbp hca
            have hbq : Below wp.heap.size wp (wp.alloc (.cells #[.int .u8 1, .int .u64 k, .string ⟨#[]⟩] 31)) := (Below.refl _ _).alloc (Nat.le_refl _) _
            have hRq := Blk.new wp 31 #[.int .u8 1, .int .u64 k, .string ⟨#[]⟩]
            go_wp2_with fail
            generalize wp.alloc (.cells #[.int .u8 1, .int .u64 k, .string ⟨#[]⟩] 31) = wq at *
            have hsq := (hsp.pure hbq).drew
            have huq := (hup.pure hbq).drew
            have hwq := (hwp.pure hbq).drew
            clear hsp hup hwp hbq
            generalize wp.heap.size = R at *
            have hRd : Blk wq.drew R 31 #[.int .u8 1, .int .u64 k, .string ⟨#[]⟩] := hRq
            have hRl := hRq.lt
            have hRld := hRd.lt
            have hc0 := hRq.cell 0
            have hc1 := hRq.cell 1
            have hc2 := hRq.cell 2
            have HRq := Lib.hid hRq
            have HRd := Lib.hid hRd
            clear hRq hRd
            go_region_held3 (fun w' => w'.cell? ⟨R, 0, none⟩ = some (.int .u8 1) ∧ w'.cell? ⟨R, 1, none⟩ = some (.int .u64 k) ∧ w'.cell? ⟨R, 2, none⟩ = some (.string ⟨#[]⟩)) (first | exact ⟨HRq.out.cell 0, HRq.out.cell 1, HRq.out.cell 2⟩ | exact ⟨HRd.out.cell 0, HRd.out.cell 1, HRd.out.cell 2⟩ | exact ⟨hRn.cell 0, hRn.cell 1, hRn.cell 2⟩ | go_keep) (first | (go_at_call 14; with_reducible refine (w_num k _ (by omega) (by omega)).mono ?_; rintro e wn ⟨rfl, hbn⟩; have hRn := below_blk HRd.out hbn hRld; have hsn := hsq.pure hbn; have hun := huq.pure hbn; have hwn := hwq.pure hbn; clear hbn))
            generalize va = v7 at *
            generalize Fa = F7 at *
            generalize la = l7 at *
            have hl7 := hla
            have hs7 := hsn
            have hu7 := hun
            have hw7 := hwn
            clear hla hsn hun hwn hc0 hc1 hc2 hRn hRl hRld HRq HRd hsq huq hwq
            go_wp2_with fail
            refine (arr_keys _ _ _ _ _ l7 hs7.arr (by omega)).mono ?_
            rintro e w8 ⟨ux, rfl, hown8, hb8⟩
            have hx8 : RowT B w8 F7 ux (ksL l7) := RowT.fresh (by rw [ksL_len]; exact hown8) hs7.sz hs7.arr.flt
            have hs8 := hs7.pure hb8
            have hu8 := hu7.pure hb8
            have hw8 := hw7.pure hb8
            clear hs7 hu7 hw7 hb8 hown8
            obtain ⟨Ax, cx, rfl, hcx, hcmx, hsx⟩ := strs_form hx8.own
            obtain ⟨A7, c7, rfl, hc7, hcm7, hsu⟩ := strs_form hu8.own
            have hll : (ksL l7).length ≤ k + 1 := by rw [ksL_len]; exact Nat.le_trans (List.length_filter_le _ _) hl7
            go_wp2_with fail
            refine (sametexts_at2 w8 _ _ Ax A7 _ _ cx c7 _ _ hsx hsu hcx hc7 (by omega) (by omega)).mono ?_
            rintro e w9 ⟨rfl, hb9⟩
            rw [show sameT (ksL l7) (ksL l7) = true from (sameT_iff _ _).2 rfl]
            have hs9 := hs8.pure hb9
            have hu9 := hu8.pure hb9
            have hw9 := hw8.pure hb9
            clear hs8 hu8 hw8 hx8 hb9 hsx hsu
            go_wp2_with fail
            refine (arr_len w9 _ _ _ _ l7 hs9.arr).mono ?_
            rintro e w10 ⟨rfl, rfl⟩
            rw [← ksL_len]
            obtain ⟨Aw, cw, rfl, hcw, hcmw, hfw⟩ := row_form hw9
            go_wp2_with fail
            have hTB := Lib.hid (trivial : True)
            go_loopw [15] (fun i wr => ∃ kk : Nat, kk ≤ (ksL l).length ∧ i = .int .i64 kk ∧ (0 < (ksL l).length → ∃ g cs, Aw = some ⟨g, 0, none⟩ ∧ Blk wr g 9 cs ∧ (ksL l).length ≤ cs.size) ∧ Tur (fun j => ∃ a, Aw = some a ∧ a.block = j) w9 wr) (fun i _ => (ksL l).length - (intOf i).toNat)
            case atStart => exact ⟨0, Nat.zero_le _, rfl, fun h0 => by obtain ⟨g, cs, h1, h2, h3, h4⟩ := hfw h0; exact ⟨g, cs, h1, h3, h4⟩, Tur.refl _ _⟩
            case round =>
              obtain ⟨kk, hkk, rfl, hbk, htq⟩ := hrel
              by_cases hkl : kk < (ksL l).length
              · obtain ⟨g, cs, rfl, hblk, hcs⟩ := hbk (by omega)
                have e1 := hblk.cell kk
                rw [Array.getElem?_eq_getElem (by omega : kk < cs.size)] at e1
                have e2 := hblk.free kk
                generalize cs[kk] = old at *
                go_wp2_with fail
                have hbl2 := hblk.set kk (.string ({ data := #[111, 116, 104, 101, 114] } : ByteArray))
                have htq2 := htq.trans (Tur.of_set (w := wr) ⟨g, kk, none⟩ (.string ({ data := #[111, 116, 104, 101, 114] } : ByteArray))) (fun i _ hi => ⟨_, rfl, hi.symm⟩)
                clear hblk htq e1 e2
                go_roundw
                case rel => exact ⟨kk + 1, by omega, by go_num, fun _ => ⟨g, _, rfl, hbl2, by simpa using hcs⟩, htq2⟩
                case measure => simp [intOf]; omega
              · have hs10 := hs9.writeG htq (fun j hj => by
                  obtain ⟨a, rfl, rfl⟩ := hj
                  have hj1 : (Value.slice (some a) (ksL l).length cw).ownBlock = some a.block := rfl
                  refine ⟨hw9.apart _ hj1, ?_⟩
                  rcases hw9.own.2 with ⟨h3, -⟩ | ⟨g', cap, cur, h3, h4, -⟩
                  · cases h3
                  · cases h3; exact h4)
                have hu10 := hu9.writeG htq (fun j hj => by
                  obtain ⟨a, rfl, rfl⟩ := hj
                  exact hne7 _ rfl)
                clear hs9 hu9 hw9 hbk htq hfw
                go_wp2_with fail
                refine (arr_keys wr _ _ _ _ l7 hs10.arr (by omega)).mono ?_
                rintro e w11 ⟨uy, rfl, hown11, hb11⟩
                have hx11 : RowT B w11 F7 uy (ksL l7) := RowT.fresh (by rw [ksL_len]; exact hown11) hs10.sz hs10.arr.flt
                have hs11 := hs10.pure hb11
                have hu11 := hu10.pure hb11
                clear hs10 hu10 hb11 hown11
                obtain ⟨Ay, cy, rfl, hcy, hcmy, hsy⟩ := strs_form hx11.own
                obtain ⟨A7', c7', he7, hc7', hcm7', hsu⟩ := strs_form hu11.own
                cases he7
                go_wp2_with fail
                refine (sametexts_at2 w11 _ _ Ay A7 _ _ cy c7 _ _ hsy hsu hcy hc7' (by omega) (by omega)).mono ?_
                rintro e w12 ⟨rfl, hb12⟩
                rw [show sameT (ksL l7) (ksL l7) = true from (sameT_iff _ _).2 rfl]
                have hs12 := hs11.pure hb12
                have hu12 := hu11.pure hb12
                clear hs11 hu11 hx11 hb12 hsy hsu
                go_wp2_with fail
                go_roundw
                case rel => exact ⟨k + 1, l7, v7, F7, by omega, by omega, by go_num, hs12, hu12, hl7⟩
                case measure => simp [intOf]; omega
          · go_wp2_with fail
            generalize w4.alloc (.cells #[.int .u8 q4.k, .int .u64 q4.n, .string q4.s] 31) = w5 at *
            have hs5 := hs4.pure hb5
            have hu5 := hu4.pure hb5
            have hw5 := hw4.pure hb5
            clear hs4 hu4 hw4 hb5
            refine (w_num k _ (by omega) (by omega)).mono ?_
            rintro e w6 ⟨rfl, hb6⟩
            have hs6 := hs5.pure hb6
            have hu6 := hu5.pure hb6
            have hw6 := hw5.pure hb6
            clear hs5 hu5 hw5 hb6
            go_wp2_with fail
            refine (arr_set w6 _ _ _ _ l key ⟨1, k, ⟨#[]⟩⟩ hs6.arr hks (by omega)).mono ?_
            rintro e wa ⟨va, Fa, rfl, haa, hta, hFa⟩
            have hsa := hs6.turn haa hta hFa
            have hua := hu6.turn hta hFa
            have hwa := hw6.turn hta hFa
            have hksa := ksL_set l key ⟨1, k, ⟨#[]⟩⟩
            have hca := cellAt_set l key ⟨1, k, ⟨#[]⟩⟩
            have hla : (Arr.setL l key ⟨1, k, ⟨#[]⟩⟩).length ≤ k + 1 := Nat.le_trans (Arr.setL_len _ _ _) (by omega)
            rw [hfo] at hksa
            clear hs6 hu6 hw6 haa hta hFa
            generalize Arr.setL l key ⟨1, k, ⟨#[]⟩⟩ = la at *
            have hll4 : (ksL l).length ≤ k := by rw [ksL_len]; exact Nat.le_trans (List.length_filter_le _ _) hl
            have hub : RowT B wa Fa u4 (ksL la) := by rw [hksa]; exact hua
            have hsb := hsa
            have hwb := hwa
            have hne7 := hne
            clear hsa hua hwa hksa hne
            go_wp2_with fail
            refine (arr_peek _ _ _ _ _ la key hsb.arr hks (by omega)).mono ?_
            rintro e wp ⟨rfl, hbp⟩
            rw [hca.1, hca.2]
            rw [show (⟨1, (k : Int), ⟨#[]⟩⟩ : Arr.Cell).vals.toArray = #[.int .u8 1, .int .u64 k, .string ⟨#[]⟩] from rfl]
            have hsp := hsb.pure hbp
            have hup := hub.pure hbp
            have hwp := hwb.pure hbp
            clear hsb hub hwb hbp hca
            have hbq : Below wp.heap.size wp (wp.alloc (.cells #[.int .u8 1, .int .u64 k, .string ⟨#[]⟩] 31)) := (Below.refl _ _).alloc (Nat.le_refl _) _
            have hRq := Blk.new wp 31 #[.int .u8 1, .int .u64 k, .string ⟨#[]⟩]
            go_wp2_with fail
            generalize wp.alloc (.cells #[.int .u8 1, .int .u64 k, .string ⟨#[]⟩] 31) = wq at *
            have hsq := (hsp.pure hbq).drew
            have huq := (hup.pure hbq).drew
            have hwq := (hwp.pure hbq).drew
            clear hsp hup hwp hbq
            generalize wp.heap.size = R at *
            have hRd : Blk wq.drew R 31 #[.int .u8 1, .int .u64 k, .string ⟨#[]⟩] := hRq
            have hRl := hRq.lt
            have hRld := hRd.lt
            have hc0 := hRq.cell 0
            have hc1 := hRq.cell 1
            have hc2 := hRq.cell 2
            have HRq := Lib.hid hRq
            have HRd := Lib.hid hRd
            clear hRq hRd
            go_region_held3 (fun w' => w'.cell? ⟨R, 0, none⟩ = some (.int .u8 1) ∧ w'.cell? ⟨R, 1, none⟩ = some (.int .u64 k) ∧ w'.cell? ⟨R, 2, none⟩ = some (.string ⟨#[]⟩)) (first | exact ⟨HRq.out.cell 0, HRq.out.cell 1, HRq.out.cell 2⟩ | exact ⟨HRd.out.cell 0, HRd.out.cell 1, HRd.out.cell 2⟩ | exact ⟨hRn.cell 0, hRn.cell 1, hRn.cell 2⟩ | go_keep) (first | (go_at_call 14; with_reducible refine (w_num k _ (by omega) (by omega)).mono ?_; rintro e wn ⟨rfl, hbn⟩; have hRn := below_blk HRd.out hbn hRld; have hsn := hsq.pure hbn; have hun := huq.pure hbn; have hwn := hwq.pure hbn; clear hbn))
            generalize u4 = u7 at *
            generalize va = v7 at *
            generalize Fa = F7 at *
            generalize la = l7 at *
            have hl7 := hla
            have hs7 := hsn
            have hu7 := hun
            have hw7 := hwn
            clear hla hsn hun hwn hc0 hc1 hc2 hRn hRl hRld HRq HRd hsq huq hwq
            go_wp2_with fail
            refine (arr_keys _ _ _ _ _ l7 hs7.arr (by omega)).mono ?_
            rintro e w8 ⟨ux, rfl, hown8, hb8⟩
            have hx8 : RowT B w8 F7 ux (ksL l7) := RowT.fresh (by rw [ksL_len]; exact hown8) hs7.sz hs7.arr.flt
            have hs8 := hs7.pure hb8
            have hu8 := hu7.pure hb8
            have hw8 := hw7.pure hb8
            clear hs7 hu7 hw7 hb8 hown8
            obtain ⟨Ax, cx, rfl, hcx, hcmx, hsx⟩ := strs_form hx8.own
            obtain ⟨A7, c7, rfl, hc7, hcm7, hsu⟩ := strs_form hu8.own
            have hll : (ksL l7).length ≤ k + 1 := by rw [ksL_len]; exact Nat.le_trans (List.length_filter_le _ _) hl7
            go_wp2_with fail
            refine (sametexts_at2 w8 _ _ Ax A7 _ _ cx c7 _ _ hsx hsu hcx hc7 (by omega) (by omega)).mono ?_
            rintro e w9 ⟨rfl, hb9⟩
            rw [show sameT (ksL l7) (ksL l7) = true from (sameT_iff _ _).2 rfl]
            have hs9 := hs8.pure hb9
            have hu9 := hu8.pure hb9
            have hw9 := hw8.pure hb9
            clear hs8 hu8 hw8 hx8 hb9 hsx hsu
            go_wp2_with fail
            refine (arr_len w9 _ _ _ _ l7 hs9.arr).mono ?_
            rintro e w10 ⟨rfl, rfl⟩
            rw [← ksL_len]
            obtain ⟨Aw, cw, rfl, hcw, hcmw, hfw⟩ := row_form hw9
            go_wp2_with fail
            have hTB := Lib.hid (trivial : True)
            go_loopw [15] (fun i wr => ∃ kk : Nat, kk ≤ (ksL l).length ∧ i = .int .i64 kk ∧ (0 < (ksL l).length → ∃ g cs, Aw = some ⟨g, 0, none⟩ ∧ Blk wr g 9 cs ∧ (ksL l).length ≤ cs.size) ∧ Tur (fun j => ∃ a, Aw = some a ∧ a.block = j) w9 wr) (fun i _ => (ksL l).length - (intOf i).toNat)
            case atStart => exact ⟨0, Nat.zero_le _, rfl, fun h0 => by obtain ⟨g, cs, h1, h2, h3, h4⟩ := hfw h0; exact ⟨g, cs, h1, h3, h4⟩, Tur.refl _ _⟩
            case round =>
              obtain ⟨kk, hkk, rfl, hbk, htq⟩ := hrel
              by_cases hkl : kk < (ksL l).length
              · obtain ⟨g, cs, rfl, hblk, hcs⟩ := hbk (by omega)
                have e1 := hblk.cell kk
                rw [Array.getElem?_eq_getElem (by omega : kk < cs.size)] at e1
                have e2 := hblk.free kk
                generalize cs[kk] = old at *
                go_wp2_with fail
                have hbl2 := hblk.set kk (.string ({ data := #[111, 116, 104, 101, 114] } : ByteArray))
                have htq2 := htq.trans (Tur.of_set (w := wr) ⟨g, kk, none⟩ (.string ({ data := #[111, 116, 104, 101, 114] } : ByteArray))) (fun i _ hi => ⟨_, rfl, hi.symm⟩)
                clear hblk htq e1 e2
                go_roundw
                case rel => exact ⟨kk + 1, by omega, by go_num, fun _ => ⟨g, _, rfl, hbl2, by simpa using hcs⟩, htq2⟩
                case measure => simp [intOf]; omega
              · have hs10 := hs9.writeG htq (fun j hj => by
                  obtain ⟨a, rfl, rfl⟩ := hj
                  have hj1 : (Value.slice (some a) (ksL l).length cw).ownBlock = some a.block := rfl
                  refine ⟨hw9.apart _ hj1, ?_⟩
                  rcases hw9.own.2 with ⟨h3, -⟩ | ⟨g', cap, cur, h3, h4, -⟩
                  · cases h3
                  · cases h3; exact h4)
                have hu10 := hu9.writeG htq (fun j hj => by
                  obtain ⟨a, rfl, rfl⟩ := hj
                  exact hne7 _ rfl)
                clear hs9 hu9 hw9 hbk htq hfw
                go_wp2_with fail
                refine (arr_keys wr _ _ _ _ l7 hs10.arr (by omega)).mono ?_
                rintro e w11 ⟨uy, rfl, hown11, hb11⟩
                have hx11 : RowT B w11 F7 uy (ksL l7) := RowT.fresh (by rw [ksL_len]; exact hown11) hs10.sz hs10.arr.flt
                have hs11 := hs10.pure hb11
                have hu11 := hu10.pure hb11
                clear hs10 hu10 hb11 hown11
                obtain ⟨Ay, cy, rfl, hcy, hcmy, hsy⟩ := strs_form hx11.own
                obtain ⟨A7', c7', he7, hc7', hcm7', hsu⟩ := strs_form hu11.own
                cases he7
                go_wp2_with fail
                refine (sametexts_at2 w11 _ _ Ay A7 _ _ cy c7 _ _ hsy hsu hcy hc7' (by omega) (by omega)).mono ?_
                rintro e w12 ⟨rfl, hb12⟩
                rw [show sameT (ksL l7) (ksL l7) = true from (sameT_iff _ _).2 rfl]
                have hs12 := hs11.pure hb12
                have hu12 := hu11.pure hb12
                clear hs11 hu11 hx11 hb12 hsy hsu
                go_wp2_with fail
                go_roundw
                case rel => exact ⟨k + 1, l7, v7, F7, by omega, by omega, by go_num, hs12, hu12, hl7⟩
                case measure => simp [intOf]; omega
      · go_wp2_with fail
        refine (l_awake _).mono ?_
        rintro e w2 ⟨rfl, hb2⟩
        go_wp2_with fail
        go_ret
        exact ⟨by simp [go_sem], hZ.out ▸ hs.bel.trans (hb2.mono hs.sz)⟩
    · go_wp2_with fail
      refine (l_awake _).mono ?_
      rintro e w2 ⟨rfl, hb2⟩
      go_wp2_with fail
      go_ret
      exact ⟨by simp [go_sem], hZ.out ▸ hs.bel.trans (hb2.mono hs.sz)⟩
theorem l_order {H : Type} {enc : TypeId × Value → H} {base : Nat} {d : DataW H} {p : List MemPlace} {spare : Nat → Bool} {held : Bool} {r} (v0 : Value) (w : World) (hsh : w.ShapedOpen Try.prog)
    (hval : Value.okWide Try.prog w r base 22 v0) (k : DataW.Trod enc Try.prog w 0 spare held 22 v0 d p) :
    Calls Try.prog 3 #[v0] w fun e w' => e = .returned (.bool true) ∧ Below w.heap.size w w' := by
  obtain ⟨A, n, cap, xs, rfl, hx, hc, hcm⟩ := ints_open hval k
  exact l_order' w A n cap xs hx hc hcm
end Go.Proofs.Ytjgfhdabcahokaa
