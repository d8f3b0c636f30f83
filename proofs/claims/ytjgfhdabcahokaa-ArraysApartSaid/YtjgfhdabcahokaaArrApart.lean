/- Arrays: the law ArraysApart, walked. -/
import Derived.Test.YtjgfhdabcahokaaArrAwake
import Derived.Test.YtjgfhdabcahokaaOpenS
namespace Go.Proofs.Ytjgfhdabcahokaa
open Go.RowKit
open Go.WideMaps Go.WideElems Go.WideAt

namespace Arr
theorem setL_of_find {m : List Slot} {key : ByteArray} {i : Nat} (c : Cell) (h : find m key.data.toList = some i) : keys (setL m key c) = keys m ∧ ∀ x, find (setL m key c) x = find m x := by
  have hp : placeL m key = m := by unfold placeL; rw [h]
  obtain ⟨hi, _, _⟩ := find_some h
  have hs : setL m key c = m.set i ⟨m[i].key, c, m[i].off⟩ := by
    unfold setL
    rw [hp, h]
    simp [List.getD, hi]
  rw [hs]
  exact ⟨keys_setCell m i c hi, fun x => find_setCell m i c hi x⟩
theorem find_live_isSome (l : List Slot) (x : List UInt8) : (find (live l) x).isSome = (find l x).isSome := by
  rw [find_isSome, find_isSome, keys_live]
theorem apart_len (l : List Slot) (key : ByteArray) (c : Cell) : (live (setL (placeL (live l) key) key c)).length = (live l).length + (if (find l key.data.toList).isSome then 0 else 1) := by
  obtain ⟨i, hi⟩ := find_placeL (live l) key
  rw [live_len, (setL_of_find c hi).1, ← live_len, ← find_live_isSome]
  unfold placeL
  cases h : find (live l) key.data.toList with
  | some i => simp [live_live]
  | none => simp [live_len_append, live_live]
theorem apart_has (l : List Slot) (key : ByteArray) (c : Cell) : (find (setL (placeL (live l) key) key c) key.data.toList).isSome = true := by
  obtain ⟨i, hi⟩ := find_placeL (live l) key
  rw [(setL_of_find c hi).2, hi]
  rfl
end Arr
theorem sametexts_at2 (w : World) (B B' : Nat) (A A' : Option Addr) (n m cap cap' : Nat) (xs ys : List ByteArray) (hx : Strs w B A n xs) (hy : Strs w B' A' m ys) (hc : n ≤ cap) (hc' : m ≤ cap') (hn : n ≤ 1000) (hm' : m ≤ 1000) :
    Calls Try.prog 16 #[.slice A n cap, .slice A' m cap'] w fun e w' => e = .returned (.bool (sameT xs ys)) ∧ Below w.heap.size w w' := by
  refine (w_sametexts _ B B' A A' n _ cap _ xs ys hx hy (by omega) (by omega) hc hc').mono ?_
  rintro e w' ⟨rfl, q, rfl⟩
  exact ⟨rfl, ⟨rfl, rfl, rfl, Nat.le_refl _, fun _ _ => rfl⟩⟩
set_option maxRecDepth 100000 in
set_option maxHeartbeats 2000000 in
theorem l_apart' (w : World) (A : Option Addr) (n cap : Nat) (xs : List ByteArray) (more : ByteArray) (hx : Strs w w.heap.size A n xs) (hc : n ≤ cap) (hcm : cap ≤ maxLen) (hxs : ∀ x ∈ xs, x.size ≤ maxLen) (hm : more.size ≤ maxLen) :
    Calls Try.prog 7 #[.slice A n cap, .string more] w fun e w' => e = .returned (.bool true) ∧ Below w.heap.size w w' := by
  have HX := Lib.hid hx
  have HXS := Lib.hid hxs
  clear hx hxs
  have hml : more.size < 9223372036854775808 := by unfold maxLen at hm; omega
  have hcl : cap < 9223372036854775808 := by unfold maxLen at hcm; omega
  by_cases h1 : n ≤ 60
  · by_cases h2 : more.size ≤ 100
    · go_enter Try.func7, Try.ntmps7
      go_wp2_with fail
      refine (arr_new _).mono ?_
      rintro e w1 ⟨rfl, ha1, hb1⟩
      have hF1 : ∀ x, (fun k => w.heap.size ≤ k ∧ k < w.heap.size + 2) x → w.heap.size ≤ x := fun x hx => hx.1
      have hz1 : w.heap.size ≤ w1.heap.size := hb1.size
      generalize (fun k => w.heap.size ≤ k ∧ k < w.heap.size + 2) = F1 at *
      go_wp2_with fail
      have H1 := Lib.hid h1
      have HA1 := Lib.hid ha1
      have HB1 := Lib.hid hb1
      have HF1 := Lib.hid hF1
      clear ha1 hb1 hF1
      obtain ⟨B, hB⟩ : ∃ B, B = w.heap.size := ⟨_, rfl⟩
      have hZ := Lib.hid hB
      rw [← hB] at HA1 HB1 HF1 hz1 HX ⊢
      clear hB
      go_loopw [6] (fun i wr => ∃ (k : Nat) (l : List Arr.Slot) (v : Value) (F : Nat → Prop), k ≤ n ∧ i = .int .i64 k ∧ ArrAt wr F (B + 1) B v l ∧ l.length ≤ k ∧ Below B w wr ∧ (∀ x, F x → B ≤ x) ∧ B ≤ wr.heap.size) (fun i _ => n - (intOf i).toNat)
      case atStart => exact ⟨0, [], _, F1, Nat.zero_le _, rfl, HA1.out, Nat.le_refl _, HB1.out, HF1.out, hz1⟩
      case round =>
        obtain ⟨k, l, v, F, hk, rfl, ha, hl, hb, hF, hz⟩ := hrel
        have HF := Lib.hid hF
        clear hF
        by_cases hlt : k < n
        · obtain ⟨b, o, rfl, hbB, hcx⟩ := HX.out.2 (by omega)
          have hx1 : k < xs.length := by rw [HX.out.1]; exact hlt
          have hkey := HXS.out _ (List.getElem_mem hx1)
          have c1 : wr.cell? ⟨b, o + k, none⟩ = some (.string xs[k]) := (hb.cell (p := ⟨b, o + k, none⟩) hbB).trans (hcx k hx1)
          have hk0 : (0 : Int) ≤ (k : Int) := Int.natCast_nonneg _
          have hk1 : (k : Int) < (n : Int) := by omega
          by_cases hlen : (xs[k]).size ≤ 100
          · go_wp2_with fail
            have ha' := ha.drew
            have hb' : Below B w wr.drew := hb.drew
            have hz' : B ≤ wr.drew.heap.size := hz
            clear ha hb hz hcx
            have hcx := HX.out.2 (by omega)
            obtain ⟨b1, o1, he1, _, hcx⟩ := hcx
            injection he1 with he1
            injection he1 with he1 he2
            subst he1
            subst he2
            have hck := hcx k hx1
            clear hcx
            go_region_held3 (fun w' => w'.cell? ⟨b, o + k, none⟩ = some (.string xs[k])) (first | exact (hb2.cell (p := ⟨b, o + k, none⟩) hbB).trans hck | exact (hb3.cell (p := ⟨b, o + k, none⟩) hbB).trans hck | go_keep) (first | (go_at_call 14; with_reducible refine (w_num k _ (by omega) (by omega)).mono ?_; rintro e w2 ⟨rfl, hb2'⟩; have ha2 := ha'.tur (Tur.of_gr (F := fun _ => False) hb2') (fun _ _ f => f); have hb2 := hb'.trans (hb2'.mono hz'); have hz2 := Nat.le_trans hz' hb2'.size; clear hb2') | (go_at_call 13; with_reducible refine (arr_set w2 _ _ _ _ l xs[k] ⟨1, k, ⟨#[]⟩⟩ ha2 hkey (by omega)).mono ?_; rintro e w3 ⟨v3, F3, rfl, ha3, ht3, hG3⟩; have hF3 : ∀ x, F3 x → B ≤ x := (fun x hx => (hG3 x hx).elim (HF.out x) (Nat.le_trans hz2)); have hb3 := hb2.trans (ht3.below B hz2 (fun j hj f => by have := HF.out j f; omega)); have hz3 := Nat.le_trans hz2 ht3.size; clear ht3 hG3))
            go_wp2_with fail
            go_roundw
            case rel => exact ⟨k + 1, _, v3, F3, by omega, by go_num, ha3, Nat.le_trans (Arr.setL_len _ _ _) (by omega), hb3, hF3, hz3⟩
            case measure => simp [intOf]; omega
          · go_wp2_with fail
            refine (l_awake _).mono ?_
            rintro e w2 ⟨rfl, hb2⟩
            go_wp2_with fail
            go_ret
            exact ⟨by simp [go_sem], hZ.out ▸ hb.trans (hb2.mono hz)⟩
        · go_wp2_with fail
          refine (arr_keys wr _ _ _ _ l ha (by omega)).mono ?_
          rintro e w2 ⟨u2, rfl, hown2, hb2'⟩
          have hL : (Arr.live l).length ≤ 60 := Nat.le_trans (List.length_filter_le _ _) (by omega)
          have ha2 := ha.tur (Tur.of_gr (F := fun _ => False) hb2') (fun _ _ f => f)
          have hb2 := hb.trans (hb2'.mono hz)
          have hz2 := Nat.le_trans hz hb2'.size
          obtain ⟨A2, cap2, rfl, hc2, hcm2, hs2⟩ := strs_form hown2
          clear ha hb hz hb2' hown2
          go_wp2_with fail
          refine (arr_copy w2 _ _ _ _ l ha2 (by omega)).mono ?_
          rintro e w3 ⟨pc, bc, vc, Fc, rfl, hc3, hFc, hb3'⟩
          have ha3 := ha2.tur (Tur.of_gr (F := fun _ => False) hb3') (fun _ _ f => f)
          have hb3 := hb2.trans (hb3'.mono hz2)
          have hz3 := Nat.le_trans hz2 hb3'.size
          have hs3 := hs2.below hb3'
          have hFcB : ∀ x, Fc x → B ≤ x := fun x hc' => Nat.le_trans hz2 (hFc x hc')
          have hFF : ∀ x, F x → ¬ Fc x := fun x hf hc' => by have := ha2.flt x hf; have := hFc x hc'; omega
          clear ha2 hs2 hb2
          go_wp2_with fail
          refine (arr_peek w3 _ _ _ _ l more ha3 hm (by omega)).mono ?_
          rintro e w4 ⟨rfl, hb4'⟩
          have ha4 := ha3.tur (Tur.of_gr (F := fun _ => False) hb4') (fun _ _ f => f)
          have hc4 := hc3.tur (Tur.of_gr (F := fun _ => False) hb4') (fun _ _ f => f)
          have hb4 := hb3.trans (hb4'.mono hz3)
          have hz4 := Nat.le_trans hz3 hb4'.size
          clear ha3 hc3 hb3
          generalize Arr.cellAt l more.data.toList = q4
          rw [show q4.vals.toArray = #[.int .u8 q4.k, .int .u64 q4.n, .string q4.s] from rfl]
          -- REST
          have hsz4 : w2.heap.size ≤ w4.heap.size := Nat.le_trans hb3'.size hb4'.size
          have hs4 := hs3.below (hb4'.mono hb3'.size)
          clear hs3 hb3' hb4' hz2 hz3
          go_wp2_with fail
          have hb5' : Below w4.heap.size w4 (w4.alloc (.cells #[.int .u8 q4.k, .int .u64 q4.n, .string q4.s] 31)) := (Below.refl _ _).alloc (Nat.le_refl _) _
          generalize w4.alloc (.cells #[.int .u8 q4.k, .int .u64 q4.n, .string q4.s] 31) = w5 at *
          have ha5 := ha4.tur (Tur.of_gr (F := fun _ => False) hb5') (fun _ _ f => f)
          have hc5 := hc4.tur (Tur.of_gr (F := fun _ => False) hb5') (fun _ _ f => f)
          have hs5 := hs4.below (hb5'.mono hsz4)
          have hsz5 := Nat.le_trans hsz4 hb5'.size
          have hb5 := hb4.trans (hb5'.mono hz4)
          have hz5 := Nat.le_trans hz4 hb5'.size
          clear hb4 hb5' hz4 ha4 hc4 hs4 hsz4
          refine (arr_has w5 _ _ _ _ l more ha5 hm (by omega)).mono ?_
          rintro e w6 ⟨rfl, hb6'⟩
          have ha6 := ha5.tur (Tur.of_gr (F := fun _ => False) hb6') (fun _ _ f => f)
          have hc6 := hc5.tur (Tur.of_gr (F := fun _ => False) hb6') (fun _ _ f => f)
          have hs6 := hs5.below (hb6'.mono hsz5)
          have hsz6 := Nat.le_trans hsz5 hb6'.size
          have hb6 := hb5.trans (hb6'.mono hz5)
          have hz6 := Nat.le_trans hz5 hb6'.size
          clear hb5 hb6' hz5 ha5 hc5 hs5 hsz5
          obtain ⟨fnd, hfnd⟩ : ∃ x, x = Arr.find l more.data.toList := ⟨_, rfl⟩
          rw [← hfnd]
          have HFN := Lib.hid hfnd
          clear hfnd
          go_wp2_with fail
          refine (arr_len w6 _ _ _ _ l ha6).mono ?_
          rintro e w7 ⟨rfl, rfl⟩
          go_wp2_with fail
          refine (arr_keys w6 _ _ _ _ _ hc6 (by omega)).mono ?_
          rintro e w8 ⟨u8, rfl, hown8, hb8'⟩
          have ha8 := ha6.tur (Tur.of_gr (F := fun _ => False) hb8') (fun _ _ f => f)
          have hc8 := hc6.tur (Tur.of_gr (F := fun _ => False) hb8') (fun _ _ f => f)
          have hs8 := hs6.below (hb8'.mono hsz6)
          have hsz8 := Nat.le_trans hsz6 hb8'.size
          have hb8 := hb6.trans (hb8'.mono hz6)
          have hz8 := Nat.le_trans hz6 hb8'.size
          clear hb6 hb8' hz6 ha6 hc6 hs6 hsz6
          rw [Arr.live_live] at hown8
          obtain ⟨A8, cap8, rfl, hc8', hcm8, hs8'⟩ := strs_form hown8
          clear hown8
          go_wp2_with fail
          refine (sametexts_at2 w8 _ _ A8 _ _ _ cap8 cap2 _ _ hs8' hs8 hc8' hc2 (by omega) (by omega)).mono ?_
          rintro e w9 ⟨rfl, hb9'⟩
          rw [show sameT ((Arr.live l).map Arr.Slot.key) ((Arr.live l).map Arr.Slot.key) = true from (sameT_iff _ _).2 rfl]
          clear hs8'
          have ha9 := ha8.tur (Tur.of_gr (F := fun _ => False) hb9') (fun _ _ f => f)
          have hc9 := hc8.tur (Tur.of_gr (F := fun _ => False) hb9') (fun _ _ f => f)
          have hs9 := hs8.below (hb9'.mono hsz8)
          have hsz9 := Nat.le_trans hsz8 hb9'.size
          have hb9 := hb8.trans (hb9'.mono hz8)
          have hz9 := Nat.le_trans hz8 hb9'.size
          clear hb8 hb9' hz8 ha8 hc8 hs8 hsz8
          go_wp2_with fail
          refine (arr_get w9 _ _ _ _ (Arr.live l) more hc9 hm (by omega)).mono ?_
          rintro e w10 ⟨vc10, Fc10, rfl, hc10, htc, hGc⟩
          have ha10 := ha9.tur htc hFF
          have hFF10 : ∀ x, F x → ¬ Fc10 x := fun x hf hc' => (hGc x hc').elim (hFF x hf) (fun h => by have := ha9.flt x hf; omega)
          have hFcB10 : ∀ x, Fc10 x → B ≤ x := fun x hc' => (hGc x hc').elim (hFcB x) (Nat.le_trans hz9)
          have hb10 := hb9.trans (htc.below B hz9 (fun j hj f => by have := hFcB j f; omega))
          have hz10 := Nat.le_trans hz9 htc.size
          clear htc hGc hFF hFcB ha9 hb9 hz9 hc9
          clear hs9 hsz9
          go_wp2_with fail
          refine (w_num 7 w10 (by decide) (by decide)).mono ?_
          rintro e w11 ⟨rfl, hb11'⟩
          have ha11 := ha10.tur (Tur.of_gr (F := fun _ => False) hb11') (fun _ _ f => f)
          have hc11 := hc10.tur (Tur.of_gr (F := fun _ => False) hb11') (fun _ _ f => f)
          have hb11 := hb10.trans (hb11'.mono hz10)
          have hz11 := Nat.le_trans hz10 hb11'.size
          clear hb10 hb11' hz10 ha10 hc10
          go_wp2_with fail
          refine (arr_set w11 _ _ _ _ (Arr.placeL (Arr.live l) more) more ⟨1, 7, ⟨#[]⟩⟩ hc11 hm (Nat.le_trans (Arr.placeL_len _ _) (by omega))).mono ?_
          rintro e w12 ⟨vc12, Fc12, rfl, hc12, htc, hGc⟩
          have hFF11 := hFF10
          have hFcB11 := hFcB10
          clear hFF10 hFcB10
          have ha12 := ha11.tur htc hFF11
          have hFF12 : ∀ x, F x → ¬ Fc12 x := fun x hf hc' => (hGc x hc').elim (hFF11 x hf) (fun h => by have := ha11.flt x hf; omega)
          have hFcB12 : ∀ x, Fc12 x → B ≤ x := fun x hc' => (hGc x hc').elim (hFcB11 x) (Nat.le_trans hz11)
          have hb12 := hb11.trans (htc.below B hz11 (fun j hj f => by have := hFcB11 j f; omega))
          have hz12 := Nat.le_trans hz11 htc.size
          clear htc hGc hFF11 hFcB11 ha11 hb11 hz11 hc11
          have hlen := Arr.apart_len l more ⟨1, 7, ⟨#[]⟩⟩
          have hhas := Arr.apart_has l more ⟨1, 7, ⟨#[]⟩⟩
          have hsl : (Arr.setL (Arr.placeL (Arr.live l) more) more ⟨1, 7, ⟨#[]⟩⟩).length ≤ 1000 := Nat.le_trans (Arr.setL_len _ _ _) (by have := Arr.placeL_len (Arr.live l) more; omega)
          rw [← HFN.out] at hlen
          generalize Arr.setL (Arr.placeL (Arr.live l) more) more ⟨1, 7, ⟨#[]⟩⟩ = l2 at *
          go_wp2_with fail
          refine (arr_len w12 _ _ _ _ l2 hc12).mono ?_
          rintro e w13 ⟨rfl, rfl⟩
          rcases fnd with _ | fi
          · have hlen' : ((Arr.live l2).length : Int) = (Arr.live l).length + 1 := by simp at hlen; omega
            have hge : ((Arr.live l).length : Int) ≤ (Arr.live l2).length := by omega
            have HFL := Lib.hid hlen'
            rw [hlen']
            have hL0 : (0 : Int) ≤ ((Arr.live l).length : Int) := Int.natCast_nonneg _
            have hL1 : ((Arr.live l).length : Int) ≤ 60 := by omega
            clear hlen hlen'
            go_wp2_with fail
            refine (arr_has w12 _ _ _ _ l more ha12 hm (by omega)).mono ?_
            rintro e w14 ⟨rfl, hb14'⟩
            rw [← HFN.out]
            have ha14 := ha12.tur (Tur.of_gr (F := fun _ => False) hb14') (fun _ _ f => f)
            have hc14 := hc12.tur (Tur.of_gr (F := fun _ => False) hb14') (fun _ _ f => f)
            have hb14 := hb12.trans (hb14'.mono hz12)
            have hz14 := Nat.le_trans hz12 hb14'.size
            clear hb12 hb14' hz12 ha12 hc12
            go_wp2_with fail
            refine (arr_has w14 _ _ _ _ l2 more hc14 hm (by omega)).mono ?_
            rintro e w15 ⟨rfl, hb15'⟩
            rw [hhas]
            have ha15 := ha14.tur (Tur.of_gr (F := fun _ => False) hb15') (fun _ _ f => f)
            have hc15 := hc14.tur (Tur.of_gr (F := fun _ => False) hb15') (fun _ _ f => f)
            have hb15 := hb14.trans (hb15'.mono hz14)
            have hz15 := Nat.le_trans hz14 hb15'.size
            clear hb14 hb15' hz14 ha14 hc14
            go_wp2_with fail
            refine (arr_clear w15 _ _ _ _ l ha15).mono ?_
            rintro e w16 ⟨rfl, ha16, hta⟩
            have hc16 := hc15.tur hta (fun x hc' hf => hFF12 x hf hc')
            have hb16 := hb15.trans (hta.below B hz15 (fun j hj f => by have := HF.out j f; omega))
            have hz16 := Nat.le_trans hz15 hta.size
            clear hta hb15 hz15 ha15 hc15
            go_wp2_with fail
            refine (arr_len w16 _ _ _ _ [] ha16).mono ?_
            rintro e w17 ⟨rfl, rfl⟩
            go_wp2_with fail
            refine (arr_len w16 _ _ _ _ l2 hc16).mono ?_
            rintro e w18 ⟨rfl, rfl⟩
            go_wp2_with fail
            refine (l_awake w16).mono ?_
            rintro e w19 ⟨rfl, hb19⟩
            go_wp2_with fail
            go_ret
            exact ⟨by simp [go_sem], hZ.out ▸ hb16.trans (hb19.mono hz16)⟩
          · have hlen' : ((Arr.live l2).length : Int) = (Arr.live l).length := by simp at hlen; omega
            have hge : ((Arr.live l).length : Int) ≤ (Arr.live l2).length := by omega
            have HFL := Lib.hid hlen'
            rw [hlen']
            have hL0 : (0 : Int) ≤ ((Arr.live l).length : Int) := Int.natCast_nonneg _
            have hL1 : ((Arr.live l).length : Int) ≤ 60 := by omega
            clear hlen hlen'
            go_wp2_with fail
            refine (arr_has w12 _ _ _ _ l more ha12 hm (by omega)).mono ?_
            rintro e w14 ⟨rfl, hb14'⟩
            rw [← HFN.out]
            have ha14 := ha12.tur (Tur.of_gr (F := fun _ => False) hb14') (fun _ _ f => f)
            have hc14 := hc12.tur (Tur.of_gr (F := fun _ => False) hb14') (fun _ _ f => f)
            have hb14 := hb12.trans (hb14'.mono hz12)
            have hz14 := Nat.le_trans hz12 hb14'.size
            clear hb12 hb14' hz12 ha12 hc12
            go_wp2_with fail
            refine (arr_has w14 _ _ _ _ l2 more hc14 hm (by omega)).mono ?_
            rintro e w15 ⟨rfl, hb15'⟩
            rw [hhas]
            have ha15 := ha14.tur (Tur.of_gr (F := fun _ => False) hb15') (fun _ _ f => f)
            have hc15 := hc14.tur (Tur.of_gr (F := fun _ => False) hb15') (fun _ _ f => f)
            have hb15 := hb14.trans (hb15'.mono hz14)
            have hz15 := Nat.le_trans hz14 hb15'.size
            clear hb14 hb15' hz14 ha14 hc14
            go_wp2_with fail
            refine (arr_clear w15 _ _ _ _ l ha15).mono ?_
            rintro e w16 ⟨rfl, ha16, hta⟩
            have hc16 := hc15.tur hta (fun x hc' hf => hFF12 x hf hc')
            have hb16 := hb15.trans (hta.below B hz15 (fun j hj f => by have := HF.out j f; omega))
            have hz16 := Nat.le_trans hz15 hta.size
            clear hta hb15 hz15 ha15 hc15
            go_wp2_with fail
            refine (arr_len w16 _ _ _ _ [] ha16).mono ?_
            rintro e w17 ⟨rfl, rfl⟩
            go_wp2_with fail
            refine (arr_len w16 _ _ _ _ l2 hc16).mono ?_
            rintro e w18 ⟨rfl, rfl⟩
            go_wp2_with fail
            refine (l_awake w16).mono ?_
            rintro e w19 ⟨rfl, hb19⟩
            go_wp2_with fail
            go_ret
            exact ⟨by simp [go_sem], hZ.out ▸ hb16.trans (hb19.mono hz16)⟩
          -- TSER
    · go_enter Try.func7, Try.ntmps7
      go_wp2_with fail
      refine (l_awake _).mono ?_
      rintro e w1 ⟨rfl, hb1⟩
      go_wp2_with fail
      go_ret
      exact ⟨by simp [go_sem], hb1⟩
  · go_enter Try.func7, Try.ntmps7
    go_wp2_with fail
    refine (l_awake _).mono ?_
    rintro e w1 ⟨rfl, hb1⟩
    go_wp2_with fail
    go_ret
    exact ⟨by simp [go_sem], hb1⟩
theorem l_apart {H : Type} {enc : TypeId × Value → H} {base : Nat} {d : DataW H} {p : List MemPlace} {spare : Nat → Bool} {held : Bool} {r} (v0 : Value) (more : ByteArray) (w : World) (hsh : w.ShapedOpen Try.prog)
    (hval : Value.okWide Try.prog w r base 25 v0) (k : DataW.Trod enc Try.prog w 0 spare held 25 v0 d p) (hm : more.size ≤ maxLen) :
    Calls Try.prog 7 #[v0, .string more] w fun e w' => e = .returned (.bool true) ∧ Below w.heap.size w w' := by
  obtain ⟨A, n, cap, xs, rfl, hx, hc, hcm, hxs⟩ := strs_open hval k
  exact l_apart' w A n cap xs more hx hc hcm hxs hm
end Go.Proofs.Ytjgfhdabcahokaa
