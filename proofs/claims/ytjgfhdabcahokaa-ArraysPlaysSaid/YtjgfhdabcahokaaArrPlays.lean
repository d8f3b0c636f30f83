/- Arrays: the law ArraysPlays, walked: for every script, list and text, no condition. (Printed by gen_plays.py.) -/
import Derived.Test.YtjgfhdabcahokaaArrOps
namespace Go.Proofs.Ytjgfhdabcahokaa
open Go.RowKit Go.ChangeShapes Go.WideShapes
open Go.WideMaps Go.WideElems Go.WideAt
set_option linter.unusedSimpArgs false

/-- A block beside an array. -/
structure BlkF (wr : World) (F : Nat → Prop) (R : Nat) (t : TypeId) (cs : Array Value) : Prop where
  blk : Blk wr R t cs
  apart : ¬ F R
section
variable {wr w' : World} {F F' : Nat → Prop} {R : Nat} {t : TypeId} {cs : Array Value}
theorem BlkF.pure (h : BlkF wr F R t cs) (hb : Below wr.heap.size wr w') : BlkF w' F R t cs := ⟨below_blk h.blk hb h.blk.lt, h.apart⟩
theorem BlkF.turn (h : BlkF wr F R t cs) (ht : Tur F wr w') (hF : ∀ g, F' g → F g ∨ wr.heap.size ≤ g) : BlkF w' F' R t cs :=
  ⟨(ht.block R h.blk.lt h.apart).trans h.blk, fun hf => by
    rcases hF R hf with hf | hf
    · exact h.apart hf
    · have := h.blk.lt; omega⟩
theorem BlkF.new (w : World) {F : Nat → Prop} (hF : ∀ x, F x → x < w.heap.size) (t : TypeId) (cs : Array Value) : BlkF (w.alloc (.cells cs t)) F w.heap.size t cs := ⟨Blk.new w t cs, fun hf => by have := hF _ hf; omega⟩
end
theorem BlkF.five {wr : World} {F : Nat → Prop} {R : Nat} {t : TypeId} {a b c d e : Value} (h : BlkF wr F R t #[a, b, c, d, e]) : wr.cell? ⟨R, 0, none⟩ = some a ∧ wr.cell? ⟨R, 1, none⟩ = some b ∧ wr.cell? ⟨R, 2, none⟩ = some c ∧ wr.cell? ⟨R, 3, none⟩ = some d ∧ wr.cell? ⟨R, 4, none⟩ = some e :=
  ⟨h.blk.cell 0, h.blk.cell 1, h.blk.cell 2, h.blk.cell 3, h.blk.cell 4⟩
theorem Blk.three {wr : World} {R : Nat} {t : TypeId} {a b c : Value} (h : Blk wr R t #[a, b, c]) : wr.cell? ⟨R, 0, none⟩ = some a ∧ wr.cell? ⟨R, 1, none⟩ = some b ∧ wr.cell? ⟨R, 2, none⟩ = some c :=
  ⟨h.cell 0, h.cell 1, h.cell 2⟩
theorem below_alloc (w : World) (o : Obj) : Below w.heap.size w (w.alloc o) := (Below.refl _ _).alloc (Nat.le_refl _) _
theorem row_cast {w : World} {B e size n m : Nat} {F : Nat → Prop} {u : Value} {xs ys : List Value} (h : RowV B w F e size u n xs) (h1 : n = m) (h2 : xs = ys) : RowV B w F e size u m ys := by subst h1; subst h2; exact h
set_option maxRecDepth 100000 in
set_option maxHeartbeats 4000000 in
theorem l_plays' (w : World) (W : Option Addr) (n cap : Nat) (os : List OpV) (hx : Ops w w.heap.size W n os) (hc : n ≤ cap) (hcm : cap ≤ maxLen)
    (A2 : Option Addr) (n2 cap2 : Nat) (xs : List ByteArray) (hx2 : Strs w w.heap.size A2 n2 xs) (hc2 : n2 ≤ cap2) (hcm2 : cap2 ≤ maxLen) (hxs : ∀ x ∈ xs, x.size ≤ maxLen) (sep : ByteArray) (hsep : sep.size ≤ maxLen) :
    Calls Try.prog 5 #[.slice W n cap, .slice A2 n2 cap2, .string sep] w fun e w' => e = .returned (.bool true) ∧ Below w.heap.size w w' := by
  have HX := Lib.hid hx
  have HX2 := Lib.hid hx2
  have HXS := Lib.hid hxs
  clear hx hx2 hxs
  have hcl : cap < 9223372036854775808 := by unfold maxLen at hcm; omega
  have hcl2 : cap2 < 9223372036854775808 := by unfold maxLen at hcm2; omega
  have hsl : sep.size < 9223372036854775808 := by unfold maxLen at hsep; omega
  by_cases h1 : n2 ≤ 20
  · by_cases h2 : sep.size ≤ 50
    · go_enter Try.func5, Try.ntmps5
      go_wp2_with fail
      go_loop [7] (fun i => ∃ k : Nat, k ≤ n2 ∧ i = .int .i64 k ∧ ∀ j, (hj : j < xs.length) → j < k → (xs[j]).size ≤ 50) (fun i => n2 - (intOf i).toNat)
      case atStart => exact ⟨0, Nat.zero_le _, rfl, fun j _ h => by omega⟩
      case round =>
        obtain ⟨k, hk, rfl, hno⟩ := hrel
        have HNO := Lib.hid hno
        clear hno
        by_cases hlt : k < n2
        · obtain ⟨b, o, rfl, hbB, hcx⟩ := HX2.out.2 (by omega)
          have hx1 : k < xs.length := by rw [HX2.out.1]; exact hlt
          have c1 := hcx k hx1
          have hkey := HXS.out _ (List.getElem_mem hx1)
          clear hcx
          have hkey2 : (xs[k]).size < 9223372036854775808 := by unfold maxLen at hkey; omega
          by_cases hlen : (xs[k]).size ≤ 50
          · go_wp2_with fail
            go_round
            case rel => exact ⟨k + 1, by omega, by go_num, fun j hj h => by
              rcases Nat.lt_or_ge j k with h | h
              · exact HNO.out j hj h
              · obtain rfl : j = k := by omega
                exact hlen⟩
            case measure => simp [intOf]; omega
          · go_wp2_with fail
            refine (l_awake _).mono ?_
            rintro e w2 ⟨rfl, hb2⟩
            go_wp2_with fail
            go_ret
            exact ⟨by simp [go_sem], hb2⟩
        · have hall : ∀ x ∈ xs, x.size ≤ 50 := fun x hx => by
            obtain ⟨j, hj, rfl⟩ := List.mem_iff_getElem.1 hx
            exact HNO.out j hj (by have := HX2.out.1; omega)
          have HALL := Lib.hid hall
          clear hall HNO
          go_wp2_with fail
          refine (arr_new _).mono ?_
          rintro e w1 ⟨rfl, ha1, hb1⟩
          have hs1 : ASt w.heap.size w w1 (w.heap.size + 1) w.heap.size (.slice none 0 0) (fun k => w.heap.size ≤ k ∧ k < w.heap.size + 2) [] := ⟨ha1, fun x hx => hx.1, hb1, hb1.size⟩
          generalize (fun k => w.heap.size ≤ k ∧ k < w.heap.size + 2) = F1 at *
          obtain ⟨B, hB⟩ : ∃ B, B = w.heap.size := ⟨_, rfl⟩
          have hZ := Lib.hid hB
          rw [← hB] at hs1 HX HX2 ⊢
          clear ha1 hb1 hB
          go_wp2_with fail
          go_loopw [8, 9, 10] (fun pa u i wr => ∃ (q : Nat) (l : List Arr.Slot) (v : Value) (F : Nat → Prop) (pb bm : Nat), q ≤ n ∧ q ≤ 80 ∧ i = .int .i64 q ∧ pa = .pointer (some ⟨pb, 0, none⟩) ∧ ASt B w wr pb bm v F l ∧ RowV B wr F 72 4 u (Arr.items l).length (Arr.ivals (Arr.items l)) ∧ l.length ≤ q) (fun _ _ i _ => n - (intOf i).toNat)
          case atStart => exact ⟨0, [], _, F1, _, _, Nat.zero_le _, Nat.zero_le _, rfl, rfl, hs1, RowV.nil _ _ _ _ _, Nat.le_refl _⟩
          case round =>
            obtain ⟨q, l, v, F, pb, bm, hq, hq2, rfl, rfl, hs, hu, hl⟩ := hrel
            by_cases hlq : q < n
            · by_cases hlq2 : q < 80
              · obtain ⟨b, o, rfl, hbB, hcx⟩ := HX.out.2.2 (by omega)
                have hx1 : q < os.length := by rw [HX.out.1]; exact hlq
                have hkey := HX.out.2.1 _ (List.getElem_mem hx1)
                obtain ⟨c0, c1, c2, c3, c4⟩ := hcx q hx1
                replace c0 := (hs.bel.cell (p := ⟨b, o + q * 5, none⟩) hbB).trans c0
                replace c1 := (hs.bel.cell (p := ⟨b, o + q * 5 + 1, none⟩) hbB).trans c1
                replace c2 := (hs.bel.cell (p := ⟨b, o + q * 5 + 2, none⟩) hbB).trans c2
                replace c3 := (hs.bel.cell (p := ⟨b, o + q * 5 + 3, none⟩) hbB).trans c3
                replace c4 := (hs.bel.cell (p := ⟨b, o + q * 5 + 4, none⟩) hbB).trans c4
                clear hcx
                generalize (os[q]).kind = kd at *
                generalize (os[q]).key = key at *
                generalize (os[q]).c = ce at *
                have hkey2 : key.size < 9223372036854775808 := by unfold maxLen at hkey; omega
                obtain ⟨ck, cn, cs⟩ := ce
                dsimp only at c2 c3 c4
                have hb2 := below_alloc wr (.cells #[.int .i64 kd, .string key, .int .u8 ck, .int .u64 cn, .string cs] 50)
                have hR2 := BlkF.new wr hs.arr.flt 50 #[.int .i64 kd, .string key, .int .u8 ck, .int .u64 cn, .string cs]
                have hs2 := hs.pure hb2
                have hu2 := hu.pure hb2
                obtain ⟨r0, r1, r2, r3, r4⟩ := hR2.five
                clear hs hu hb2
                by_cases hk50 : key.size ≤ 50
                · have hkd : kd = 1 ∨ kd = 2 ∨ kd = 3 ∨ kd = 4 ∨ kd = 5 ∨ kd = 6 ∨ (¬ kd = 1 ∧ ¬ kd = 2 ∧ ¬ kd = 3 ∧ ¬ kd = 4 ∧ ¬ kd = 5 ∧ ¬ kd = 6) := by omega
                  rcases hkd with rfl | rfl | rfl | rfl | rfl | rfl | ⟨k1, k2, k3, k4, k5, k6⟩
                  · go_wp2_with fail
                    generalize wr.alloc (.cells #[.int .i64 1, .string key, .int .u8 ck, .int .u64 cn, .string cs] 50) = w2 at *
                    generalize wr.heap.size = R at *
                    clear c0 c1 c2 c3 c4
                    refine (arr_set w2 _ _ _ _ l key ⟨ck, cn, cs⟩ hs2.arr hkey (by omega)).mono ?_
                    rintro e w3 ⟨v3, F3, rfl, ha3, ht3, hF3⟩
                    have hs3 := hs2.turn ha3 ht3 hF3
                    have hu3 := hu2.turn ht3 hF3
                    have hR3 := hR2.turn ht3 hF3
                    have hi := Arr.items_setL l key ⟨ck, cn, cs⟩
                    have hl7 : (Arr.setL l key ⟨ck, cn, cs⟩).length ≤ q + 1 := Nat.le_trans (Arr.setL_len _ _ _) (by omega)
                    have hil : (Arr.items l).length ≤ 1000000 := by rw [Arr.items_length]; exact Nat.le_trans (List.length_filter_le _ _) (by omega)
                    generalize Arr.setL l key ⟨ck, cn, cs⟩ = l7 at *
                    clear hs2 hu2 hR2 ha3 ht3 hF3 r0 r1 r2 r3 r4
                    obtain ⟨r0, r1, r2, r3, r4⟩ := hR3.five
                    go_wp2_with fail
                    refine (rf_set w3 B _ (Arr.items l) key ⟨ck, cn, cs⟩ hu3.own hil).mono ?_
                    rintro e w4 ⟨u4, rfl, hown4, hb4⟩
                    rw [← hi] at hown4
                    have hs7 := hs3.pure hb4
                    have hR7 := hR3.pure hb4
                    have hu7 : RowV B w4 F3 _ _ u4 _ _ := RowV.fresh hown4 hs3.sz hs3.arr.flt
                    clear hs3 hu3 hR3 hown4 hb4 hi r0 r1 r2 r3 r4
                    obtain ⟨r0, r1, r2, r3, r4⟩ := hR7.five
                    go_wp2_with fail
                    refine (w_same _ _ _ _ _ l7 key _ _ hs7.arr hkey (by omega) hu7.own).mono ?_
                    rintro e w8 ⟨rfl, hb8⟩
                    have hs8 := hs7.pure hb8
                    have hu8 := hu7.pure hb8
                    clear hs7 hu7 hb8 hR7 r0 r1 r2 r3 r4
                    go_wp2_with fail
                    go_roundw
                    case rel => exact ⟨q + 1, l7, _, _, _, _, by omega, by omega, by go_num, rfl, hs8, hu8, hl7⟩
                    case measure => simp [intOf]; omega
                  · go_wp2_with fail
                    generalize wr.alloc (.cells #[.int .i64 2, .string key, .int .u8 ck, .int .u64 cn, .string cs] 50) = w2 at *
                    generalize wr.heap.size = R at *
                    clear c0 c1 c2 c3 c4
                    refine (arr_set w2 _ _ _ _ l key ⟨ck, cn, cs⟩ hs2.arr hkey (by omega)).mono ?_
                    rintro e w3 ⟨v3, F3, rfl, ha3, ht3, hF3⟩
                    have hs3 := hs2.turn ha3 ht3 hF3
                    have hu3 := hu2.turn ht3 hF3
                    have hR3 := hR2.turn ht3 hF3
                    have hi := Arr.items_setL l key ⟨ck, cn, cs⟩
                    have hl7 : (Arr.setL l key ⟨ck, cn, cs⟩).length ≤ q + 1 := Nat.le_trans (Arr.setL_len _ _ _) (by omega)
                    have hil : (Arr.items l).length ≤ 1000000 := by rw [Arr.items_length]; exact Nat.le_trans (List.length_filter_le _ _) (by omega)
                    generalize Arr.setL l key ⟨ck, cn, cs⟩ = l7 at *
                    clear hs2 hu2 hR2 ha3 ht3 hF3 r0 r1 r2 r3 r4
                    obtain ⟨r0, r1, r2, r3, r4⟩ := hR3.five
                    go_wp2_with fail
                    refine (rf_set w3 B _ (Arr.items l) key ⟨ck, cn, cs⟩ hu3.own hil).mono ?_
                    rintro e w4 ⟨u4, rfl, hown4, hb4⟩
                    rw [← hi] at hown4
                    have hs7 := hs3.pure hb4
                    have hR7 := hR3.pure hb4
                    have hu7 : RowV B w4 F3 _ _ u4 _ _ := RowV.fresh hown4 hs3.sz hs3.arr.flt
                    clear hs3 hu3 hR3 hown4 hb4 hi r0 r1 r2 r3 r4
                    obtain ⟨r0, r1, r2, r3, r4⟩ := hR7.five
                    go_wp2_with fail
                    refine (w_same _ _ _ _ _ l7 key _ _ hs7.arr hkey (by omega) hu7.own).mono ?_
                    rintro e w8 ⟨rfl, hb8⟩
                    have hs8 := hs7.pure hb8
                    have hu8 := hu7.pure hb8
                    clear hs7 hu7 hb8 hR7 r0 r1 r2 r3 r4
                    go_wp2_with fail
                    go_roundw
                    case rel => exact ⟨q + 1, l7, _, _, _, _, by omega, by omega, by go_num, rfl, hs8, hu8, hl7⟩
                    case measure => simp [intOf]; omega
                  · go_wp2_with fail
                    generalize wr.alloc (.cells #[.int .i64 3, .string key, .int .u8 ck, .int .u64 cn, .string cs] 50) = w2 at *
                    generalize wr.heap.size = R at *
                    clear c0 c1 c2 c3 c4
                    refine (arr_get w2 _ _ _ _ l key hs2.arr hkey (by omega)).mono ?_
                    rintro e w3 ⟨v3, F3, rfl, ha3, ht3, hF3⟩
                    have hs3 := hs2.turn ha3 ht3 hF3
                    have hu3 := hu2.turn ht3 hF3
                    have hR3 := hR2.turn ht3 hF3
                    have hi := Arr.items_placeL l key
                    have hci := Arr.cellAt_items l key.data.toList
                    have hl7 : (Arr.placeL l key).length ≤ q + 1 := Nat.le_trans (Arr.placeL_len _ _) (by omega)
                    have hil : (Arr.items l).length ≤ 1000000 := by rw [Arr.items_length]; exact Nat.le_trans (List.length_filter_le _ _) (by omega)
                    generalize Arr.placeL l key = l7 at *
                    clear hs2 hu2 hR2 ha3 ht3 hF3 r0 r1 r2 r3 r4
                    rw [hci]
                    generalize Arr.cellAt l key.data.toList = cx at *
                    have HCI := Lib.hid hci
                    clear hci
                    rw [show (Arr.cellI (Arr.items l) key.data.toList).vals.toArray = #[.int .u8 (Arr.cellI (Arr.items l) key.data.toList).k, .int .u64 (Arr.cellI (Arr.items l) key.data.toList).n, .string (Arr.cellI (Arr.items l) key.data.toList).s] from rfl]
                    obtain ⟨cy, hcy⟩ : ∃ cy, cy = Arr.cellI (Arr.items l) key.data.toList := ⟨_, rfl⟩
                    have HCY := Lib.hid hcy
                    rw [← hcy]
                    clear hcy HCI
                    have hb4 := below_alloc w3 (.cells #[.int .u8 cy.k, .int .u64 cy.n, .string cy.s] 31)
                    have hC4 := Blk.new w3 31 #[.int .u8 cy.k, .int .u64 cy.n, .string cy.s]
                    have hs4 := hs3.pure hb4
                    have hu4 := hu3.pure hb4
                    have hR4 := hR3.pure hb4
                    obtain ⟨r0, r1, r2, r3, r4⟩ := hR4.five
                    clear hs3 hu3 hR3 hb4
                    go_wp2_with fail
                    generalize w3.alloc (.cells #[.int .u8 cy.k, .int .u64 cy.n, .string cy.s] 31) = w4 at *
                    generalize w3.heap.size = R3 at *
                    refine (rf_get w4 B _ (Arr.items l) key hu4.own hil).mono ?_
                    rintro e w5 ⟨u5, rfl, hown5, hub5, hb5⟩
                    rw [← hi] at hown5
                    rw [← HCY.out]
                    rw [show cy.vals.toArray = #[.int .u8 cy.k, .int .u64 cy.n, .string cy.s] from rfl]
                    have hs5 := hs4.pure hb5
                    have hR5 := hR4.pure hb5
                    have hC5 := below_blk hC4 hb5 hC4.lt
                    have hu5 : RowV B w5 F3 _ _ u5 _ _ := ⟨own_base hown5 fun g hg => by
                      rcases hub5 g hg with h | h
                      · exact (hu4.own.lt g h).1
                      · exact Nat.le_trans hs4.sz h, fun g hg hf => by
                      rcases hub5 g hg with h | h
                      · exact hu4.apart g h hf
                      · have := hs4.arr.flt g hf; omega⟩
                    clear hs4 hu4 hR4 hC4 hown5 hub5 hb5 hi r0 r1 r2 r3 r4
                    have hb6 := below_alloc w5 (.cells #[.int .u8 cy.k, .int .u64 cy.n, .string cy.s] 31)
                    have hs7 := hs5.pure hb6
                    have hu7 := hu5.pure hb6
                    have hR7 := hR5.pure hb6
                    have hC6 := below_blk hC5 hb6 hC5.lt
                    have hD6 := Blk.new w5 31 #[.int .u8 cy.k, .int .u64 cy.n, .string cy.s]
                    obtain ⟨p0, p1, p2⟩ := hC6.three
                    obtain ⟨d0, d1, d2⟩ := hD6.three
                    obtain ⟨r0, r1, r2, r3, r4⟩ := hR7.five
                    clear hs5 hu5 hR5 hC5 hb6 hC6 hD6
                    go_wp2_with fail
                    generalize w5.alloc (.cells #[.int .u8 cy.k, .int .u64 cy.n, .string cy.s] 31) = w6 at *
                    generalize w5.heap.size = R5 at *
                    clear p0 p1 p2 d0 d1 d2
                    refine (w_same _ _ _ _ _ l7 key _ _ hs7.arr hkey (by omega) hu7.own).mono ?_
                    rintro e w8 ⟨rfl, hb8⟩
                    have hs8 := hs7.pure hb8
                    have hu8 := hu7.pure hb8
                    clear hs7 hu7 hb8 hR7 r0 r1 r2 r3 r4
                    go_wp2_with fail
                    go_roundw
                    case rel => exact ⟨q + 1, l7, _, _, _, _, by omega, by omega, by go_num, rfl, hs8, hu8, hl7⟩
                    case measure => simp [intOf]; omega
                  · have hil : (Arr.items l).length ≤ 1000000 := by rw [Arr.items_length]; exact Nat.le_trans (List.length_filter_le _ _) (by omega)
                    rcases hfo : Arr.find l key.data.toList with _ | i0
                    · have hfi : (Arr.findI (Arr.items l) key.data.toList).isSome = false := by rw [← Arr.find_items, hfo]; rfl
                      have hdl := Arr.delI_none (l := Arr.items l) (x := key.data.toList) (by simpa using hfi)
                      go_wp2_with fail
                      generalize wr.alloc (.cells #[.int .i64 4, .string key, .int .u8 ck, .int .u64 cn, .string cs] 50) = w2 at *
                      generalize wr.heap.size = R at *
                      clear c0 c1 c2 c3 c4
                      refine (arr_delete_no w2 _ key (by have := arr_has w2 _ _ _ _ l key hs2.arr hkey (by omega); rw [hfo] at this; exact this)).mono ?_
                      rintro e w3 ⟨rfl, hb3⟩
                      have hs3 := hs2.pure hb3
                      have hu3 := hu2.pure hb3
                      have hR3 := hR2.pure hb3
                      clear hs2 hu2 hR2 hb3 r0 r1 r2 r3 r4
                      obtain ⟨r0, r1, r2, r3, r4⟩ := hR3.five
                      go_wp2_with fail
                      refine (rf_delete w3 B _ (Arr.items l) key hu3.own hil).mono ?_
                      rintro e w4 ⟨u4, rfl, hown4, hb4⟩
                      rw [hdl] at hown4
                      rw [hfi]
                      have hs7 := hs3.pure hb4
                      have hR7 := hR3.pure hb4
                      have hu7 : RowV B w4 F _ _ u4 _ _ := RowV.fresh hown4 hs3.sz hs3.arr.flt
                      have hl7 : l.length ≤ q + 1 := by omega
                      clear hs3 hu3 hR3 hown4 hb4 hdl hfi hil r0 r1 r2 r3 r4
                      generalize l = l7 at *
                      obtain ⟨r0, r1, r2, r3, r4⟩ := hR7.five
                      go_wp2_with fail
                      refine (w_same _ _ _ _ _ l7 key _ _ hs7.arr hkey (by omega) hu7.own).mono ?_
                      rintro e w8 ⟨rfl, hb8⟩
                      have hs8 := hs7.pure hb8
                      have hu8 := hu7.pure hb8
                      clear hs7 hu7 hb8 hR7 r0 r1 r2 r3 r4
                      go_wp2_with fail
                      go_roundw
                      case rel => exact ⟨q + 1, l7, _, _, _, _, by omega, by omega, by go_num, rfl, hs8, hu8, hl7⟩
                      case measure => simp [intOf]; omega
                    · have hfi : (Arr.findI (Arr.items l) key.data.toList).isSome = true := by rw [← Arr.find_items, hfo]; rfl
                      obtain ⟨hi0, ho0, hk0⟩ := Arr.find_some hfo
                      have hdl : Arr.items (Arr.packL (l.set i0 Arr.Slot.dead)) = Arr.delI (Arr.items l) key.data.toList := by rw [Arr.items_packL, Arr.items_dead hs2.arr.tidy hi0 ho0, hk0]
                      have hl7 : (Arr.packL (l.set i0 Arr.Slot.dead)).length ≤ q + 1 := by have := Arr.packL_len (l.set i0 Arr.Slot.dead); simp at this; omega
                      clear hi0 ho0 hk0
                      go_wp2_with fail
                      generalize wr.alloc (.cells #[.int .i64 4, .string key, .int .u8 ck, .int .u64 cn, .string cs] 50) = w2 at *
                      generalize wr.heap.size = R at *
                      clear c0 c1 c2 c3 c4
                      refine (arr_delete_yes w2 _ _ _ _ l key i0 hs2.arr hkey (by omega) hfo).mono ?_
                      rintro e w3 ⟨rfl, v3, F3, ha3, ht3, hF3⟩
                      have hs3 := hs2.turn ha3 ht3 hF3
                      have hu3 := hu2.turn ht3 hF3
                      have hR3 := hR2.turn ht3 hF3
                      generalize Arr.packL (l.set i0 Arr.Slot.dead) = l7 at *
                      clear hs2 hu2 hR2 ha3 ht3 hF3 r0 r1 r2 r3 r4
                      obtain ⟨r0, r1, r2, r3, r4⟩ := hR3.five
                      go_wp2_with fail
                      refine (rf_delete w3 B _ (Arr.items l) key hu3.own hil).mono ?_
                      rintro e w4 ⟨u4, rfl, hown4, hb4⟩
                      rw [← hdl] at hown4
                      rw [hfi]
                      have hs7 := hs3.pure hb4
                      have hR7 := hR3.pure hb4
                      have hu7 : RowV B w4 F3 _ _ u4 _ _ := RowV.fresh hown4 hs3.sz hs3.arr.flt
                      clear hs3 hu3 hR3 hown4 hb4 hdl hfi hil r0 r1 r2 r3 r4
                      obtain ⟨r0, r1, r2, r3, r4⟩ := hR7.five
                      go_wp2_with fail
                      refine (w_same _ _ _ _ _ l7 key _ _ hs7.arr hkey (by omega) hu7.own).mono ?_
                      rintro e w8 ⟨rfl, hb8⟩
                      have hs8 := hs7.pure hb8
                      have hu8 := hu7.pure hb8
                      clear hs7 hu7 hb8 hR7 r0 r1 r2 r3 r4
                      go_wp2_with fail
                      go_roundw
                      case rel => exact ⟨q + 1, l7, _, _, _, _, by omega, by omega, by go_num, rfl, hs8, hu8, hl7⟩
                      case measure => simp [intOf]; omega
                  · go_wp2_with fail
                    generalize wr.alloc (.cells #[.int .i64 5, .string key, .int .u8 ck, .int .u64 cn, .string cs] 50) = w2 at *
                    generalize wr.heap.size = R at *
                    clear c0 c1 c2 c3 c4
                    refine (arr_clear w2 _ _ _ _ l hs2.arr).mono ?_
                    rintro e w3 ⟨rfl, ha3, ht3⟩
                    have hs7 := hs2.turn ha3 ht3 (fun g h => .inl h)
                    have hR7 := hR2.turn ht3 (fun g h => .inl h)
                    have hu7 : RowV B w3 F 72 4 (.slice none 0 0) (Arr.items []).length (Arr.ivals (Arr.items [])) := RowV.nil _ _ _ _ _
                    obtain ⟨l7, hl7e⟩ : ∃ l7 : List Arr.Slot, l7 = [] := ⟨_, rfl⟩
                    rw [← hl7e] at hs7 hu7
                    have hl7 : l7.length ≤ q + 1 := by rw [hl7e]; simp
                    clear hl7e hs2 hu2 hR2 ha3 ht3 r0 r1 r2 r3 r4
                    obtain ⟨r0, r1, r2, r3, r4⟩ := hR7.five
                    go_wp2_with fail
                    refine (w_same _ _ _ _ _ l7 key _ _ hs7.arr hkey (by omega) hu7.own).mono ?_
                    rintro e w8 ⟨rfl, hb8⟩
                    have hs8 := hs7.pure hb8
                    have hu8 := hu7.pure hb8
                    clear hs7 hu7 hb8 hR7 r0 r1 r2 r3 r4
                    go_wp2_with fail
                    go_roundw
                    case rel => exact ⟨q + 1, l7, _, _, _, _, by omega, by omega, by go_num, rfl, hs8, hu8, hl7⟩
                    case measure => simp [intOf]; omega
                  · go_wp2_with fail
                    generalize wr.alloc (.cells #[.int .i64 6, .string key, .int .u8 ck, .int .u64 cn, .string cs] 50) = w2 at *
                    generalize wr.heap.size = R at *
                    clear c0 c1 c2 c3 c4
                    refine (arr_copy w2 _ _ _ _ l hs2.arr (by omega)).mono ?_
                    rintro e w3 ⟨pc, bc, vc, Fc, rfl, hac, hFc, hb3⟩
                    have hs3 := hs2.pure hb3
                    have hu3 := hu2.pure hb3
                    have hR3 := hR2.pure hb3
                    have hsc : ASt B w w3 pc bc vc Fc (Arr.live l) := ⟨hac, fun x hx => Nat.le_trans hs2.sz (hFc x hx), hs3.bel, hs3.sz⟩
                    have hFF : ∀ j, F j → ¬ Fc j := fun j h1 h2 => by have := hs2.arr.flt j h1; have := hFc j h2; omega
                    have hRc : ¬ Fc R := fun h => by have := hR2.blk.lt; have := hFc R h; omega
                    have huc : ∀ g, u9.ownBlock = some g → ¬ Fc g := fun g h1 h2 => by have := (hu2.own.lt g h1).2; have := hFc g h2; omega
                    have hil : Arr.items l = Arr.items (Arr.live l) := (Arr.items_live l).symm
                    have hl7 : (Arr.live l).length ≤ q + 1 := Nat.le_trans (List.length_filter_le _ _) (by omega)
                    generalize Arr.live l = l7 at *
                    clear hs2 hu2 hR2 hb3 hac hFc r0 r1 r2 r3 r4
                    go_wp2_with fail
                    refine (w_num 1 _ (by decide) (by decide)).mono ?_
                    rintro e w4 ⟨rfl, hb4⟩
                    have hs4 := hs3.pure hb4
                    have hu4 := hu3.pure hb4
                    have hR4 := hR3.pure hb4
                    have hsc4 := hsc.pure hb4
                    clear hs3 hu3 hR3 hb4 hsc
                    go_wp2_with fail
                    refine (arr_set w4 _ _ _ _ l ({ data := #[111, 116, 104, 101, 114] } : ByteArray) ⟨1, 1, ⟨#[]⟩⟩ hs4.arr (by decide) (by omega)).mono ?_
                    rintro e w5 ⟨v5, F5, rfl, ha5, ht5, hF5⟩
                    have hs5 := hs4.turn ha5 ht5 hF5
                    have hu5 := hu4.turn ht5 hF5
                    have hR5 := hR4.turn ht5 hF5
                    have hsc5 := hsc4.writeG ht5 (fun j hj => ⟨hFF j hj, hs4.low j hj⟩)
                    have hFF5 : ∀ j, F5 j → ¬ Fc j := fun j h1 h2 => by
                      rcases hF5 j h1 with h | h
                      · exact hFF j h h2
                      · have := hsc4.arr.flt j h2; omega
                    clear hs4 hu4 hR4 ha5 ht5 hF5 hsc4 hFF
                    go_wp2_with fail
                    refine (arr_clear w5 _ _ _ _ _ hs5.arr).mono ?_
                    rintro e w6 ⟨rfl, ha6, ht6⟩
                    have hu6 := hu5.turn ht6 (fun g h => .inl h)
                    have hR6 := hR5.turn ht6 (fun g h => .inl h)
                    have hs7 := hsc5.writeG ht6 (fun j hj => ⟨hFF5 j hj, hs5.low j hj⟩)
                    rw [hil] at hu6
                    have hu7 : RowV B w6 Fc _ _ _ _ _ := ⟨hu6.own, huc⟩
                    have hR7 : BlkF w6 Fc R _ _ := ⟨hR6.blk, hRc⟩
                    clear hs5 hu5 hR5 ha6 ht6 hsc5 hFF5 hu6 hR6 hRc huc hil
                    obtain ⟨r0, r1, r2, r3, r4⟩ := hR7.five
                    go_wp2_with fail
                    refine (w_same _ _ _ _ _ l7 key _ _ hs7.arr hkey (by omega) hu7.own).mono ?_
                    rintro e w8 ⟨rfl, hb8⟩
                    have hs8 := hs7.pure hb8
                    have hu8 := hu7.pure hb8
                    clear hs7 hu7 hb8 hR7 r0 r1 r2 r3 r4
                    go_wp2_with fail
                    go_roundw
                    case rel => exact ⟨q + 1, l7, _, _, _, _, by omega, by omega, by go_num, rfl, hs8, hu8, hl7⟩
                    case measure => simp [intOf]; omega
                  · go_wp2_with fail
                    generalize wr.alloc (.cells #[.int .i64 kd, .string key, .int .u8 ck, .int .u64 cn, .string cs] 50) = w2 at *
                    generalize wr.heap.size = R at *
                    clear c0 c1 c2 c3 c4
                    have hs7 := hs2
                    have hu7 := hu2
                    have hR7 := hR2
                    have hl7 : l.length ≤ q + 1 := by omega
                    clear hs2 hu2 hR2
                    generalize l = l7 at *
                    refine (w_same _ _ _ _ _ l7 key _ _ hs7.arr hkey (by omega) hu7.own).mono ?_
                    rintro e w8 ⟨rfl, hb8⟩
                    have hs8 := hs7.pure hb8
                    have hu8 := hu7.pure hb8
                    clear hs7 hu7 hb8 hR7 r0 r1 r2 r3 r4
                    go_wp2_with fail
                    go_roundw
                    case rel => exact ⟨q + 1, l7, _, _, _, _, by omega, by omega, by go_num, rfl, hs8, hu8, hl7⟩
                    case measure => simp [intOf]; omega
                · go_wp2_with fail
                  go_roundw
                  case rel => exact ⟨q + 1, l, v, F, pb, bm, by omega, by omega, by go_num, rfl, hs2, hu2, by omega⟩
                  case measure => simp [intOf]; omega
              · have hst := HX2.out.below hs.bel
                go_wp2_with fail
                refine (arr_key wr B cap2 n2 A2 xs sep hst hs.sz hc2 (by omega) (by omega) (fun x hx => by have := HALL.out x hx; omega)).mono ?_
                rintro e w3 ⟨rfl, hb3⟩
                have hs3 := hs.pure hb3
                have hst3 := HX2.out.below hs3.bel
                clear hs hst hb3
                go_wp2_with fail
                refine (rf_key w3 B cap2 n2 A2 xs sep hst3 hc2 (by omega) (by omega) (fun x hx => by have := HALL.out x hx; omega)).mono ?_
                rintro e w4 ⟨rfl, rfl⟩
                generalize mkS (Arr.joinD xs sep) = js
                have hjs : (js.toList == js.toList) = true := by simp
                go_wp2_with fail
                refine (l_awake _).mono ?_
                rintro e w5 ⟨rfl, hb5⟩
                go_wp2_with fail
                go_ret
                exact ⟨by simp [go_sem], hZ.out ▸ hs3.bel.trans (hb5.mono hs3.sz)⟩
            · have hst := HX2.out.below hs.bel
              go_wp2_with fail
              refine (arr_key wr B cap2 n2 A2 xs sep hst hs.sz hc2 (by omega) (by omega) (fun x hx => by have := HALL.out x hx; omega)).mono ?_
              rintro e w3 ⟨rfl, hb3⟩
              have hs3 := hs.pure hb3
              have hst3 := HX2.out.below hs3.bel
              clear hs hst hb3
              go_wp2_with fail
              refine (rf_key w3 B cap2 n2 A2 xs sep hst3 hc2 (by omega) (by omega) (fun x hx => by have := HALL.out x hx; omega)).mono ?_
              rintro e w4 ⟨rfl, rfl⟩
              generalize mkS (Arr.joinD xs sep) = js
              have hjs : (js.toList == js.toList) = true := by simp
              go_wp2_with fail
              refine (l_awake _).mono ?_
              rintro e w5 ⟨rfl, hb5⟩
              go_wp2_with fail
              go_ret
              exact ⟨by simp [go_sem], hZ.out ▸ hs3.bel.trans (hb5.mono hs3.sz)⟩
    · go_enter Try.func5, Try.ntmps5
      go_wp2_with fail
      refine (l_awake _).mono ?_
      rintro e w2 ⟨rfl, hb2⟩
      go_wp2_with fail
      go_ret
      exact ⟨by simp [go_sem], hb2⟩
  · go_enter Try.func5, Try.ntmps5
    go_wp2_with fail
    refine (l_awake _).mono ?_
    rintro e w2 ⟨rfl, hb2⟩
    go_wp2_with fail
    go_ret
    exact ⟨by simp [go_sem], hb2⟩
theorem l_plays {H : Type} {enc : TypeId × Value → H} {base base' : Nat} {d d' : DataW H} {p p' : List MemPlace} {spare spare' : Nat → Bool} {held held' : Bool} {r r'} (v0 v1 : Value) (sep : ByteArray) (w : World) (hsh : w.ShapedOpen Try.prog)
    (hval : Value.okWide Try.prog w r base 47 v0) (k : DataW.Trod enc Try.prog w 0 spare held 47 v0 d p)
    (hval' : Value.okWide Try.prog w r' base' 25 v1) (k' : DataW.Trod enc Try.prog w 0 spare' held' 25 v1 d' p') (hsep : sep.size ≤ maxLen) :
    Calls Try.prog 5 #[v0, v1, .string sep] w fun e w' => e = .returned (.bool true) ∧ Below w.heap.size w w' := by
  obtain ⟨A, n, cap, os, rfl, hx, hc, hcm⟩ := ops_open hval k
  obtain ⟨A2, n2, cap2, xs, rfl, hx2, hc2, hcm2, hxs⟩ := strs_open hval' k'
  exact l_plays' w A n cap os hx hc hcm A2 n2 cap2 xs hx2 hc2 hcm2 hxs sep hsep
end Go.Proofs.Ytjgfhdabcahokaa
