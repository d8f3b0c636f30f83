/- Arrays: the walk of the laws' awake. -/
import Derived.Test.YtjgfhdabcahokaaArr7
import Derived.Test.YtjgfhdabcahokaaArrRef2
import Derived.Laws.StructEq
import Derived.Deep.RegionHeld3
namespace Go.Proofs.Ytjgfhdabcahokaa
open Go.RowKit
open Go.WideMaps Go.WideElems Go.WideAt

namespace Arr
def kb : ByteArray := ⟨#[98]⟩
def ka : ByteArray := ⟨#[97]⟩
def kc : ByteArray := ⟨#[99]⟩
def nm (n : Int) : Cell := ⟨1, n, ⟨#[]⟩⟩
def l1 : List Slot := setL [] kb (nm 1)
def l2 : List Slot := setL l1 ka (nm 2)
def l3 : List Slot := placeL l2 kc
def l4 : List Slot := setL l3 kb (nm 3)
def l5 : List Slot := packL (l4.set 0 Slot.dead)
def l6 : List Slot := setL l5 kb (nm 4)
theorem l3_cell : cellAt l2 kc.data.toList = Cell.zero := rfl
theorem l4_keys : (live l4).map Slot.key = [kb, ka, kc] := rfl
theorem l4_find : find l4 kb.data.toList = some 0 := rfl
theorem l6_cell : cellAt l6 kb.data.toList = nm 4 := rfl
theorem l6_keys : (live l6).map Slot.key = [ka, kc, kb] := rfl
end Arr
def Held2 (c4 c9 : Nat) (w : World) : Prop := Blk w c4 31 #[.int .u8 0, .int .u64 0, .string ⟨#[]⟩] ∧ Blk w c9 31 #[.int .u8 1, .int .u64 4, .string ⟨#[]⟩]
theorem held_of {c4 c9 : Nat} {w : World} (h : Held2 c4 c9 w) : w.cell? ⟨c4, 0, none⟩ = some (.int .u8 0) ∧ w.cell? ⟨c4, 1, none⟩ = some (.int .u64 0) ∧ w.cell? ⟨c4, 2, none⟩ = some (.string ⟨#[]⟩) ∧ w.cell? ⟨c9, 0, none⟩ = some (.int .u8 1) ∧ w.cell? ⟨c9, 1, none⟩ = some (.int .u64 4) ∧ w.cell? ⟨c9, 2, none⟩ = some (.string ⟨#[]⟩) :=
  ⟨h.1.cell 0, h.1.cell 1, h.1.cell 2, h.2.cell 0, h.2.cell 1, h.2.cell 2⟩
theorem Held2.grow {c4 c9 : Nat} {w w' : World} (h : Held2 c4 c9 w) (hb : Below w.heap.size w w') : Held2 c4 c9 w' := ⟨below_blk h.1 hb h.1.lt, below_blk h.2 hb h.2.lt⟩
theorem below_lit (w : World) (o : Obj) (q : Nat) : Below w.heap.size w ((w.alloc o).drewN q) := by
  have h := (Below.refl w.heap.size w).alloc (Nat.le_refl _) o
  exact ⟨h.os, h.tape, h.output, h.size, h.block⟩
theorem sametexts_lit (w : World) (A : Option Addr) (n m cap : Nat) (xs ys : List ByteArray) (hx : Strs w w.heap.size A n xs) (hm : ys.length = m) (hc : n ≤ cap) (hn : n ≤ 1000) (hm' : m ≤ 1000) :
    Calls Try.prog 16 #[.slice A n cap, .slice (some ⟨w.heap.size, 0, none⟩) m m] (w.alloc (.cells (svals ys).toArray 9)) fun e w' => e = .returned (.bool (sameT xs ys)) ∧ Below w.heap.size w w' := by
  subst hm
  refine (w_sametexts _ w.heap.size (w.heap.size + 1) A _ n _ cap _ xs ys (hx.below ((Below.refl _ _).alloc (Nat.le_refl _) _)) (Strs.lit w 9 ys) (by omega) (by omega) hc (Nat.le_refl _)).mono ?_
  rintro e w' ⟨rfl, q, rfl⟩
  exact ⟨rfl, below_lit _ _ _⟩
theorem sametexts_at (w : World) (B : Nat) (A A' : Option Addr) (n m cap : Nat) (xs ys : List ByteArray) (hx : Strs w w.heap.size A n xs) (hy : Strs w B A' m ys) (hc : n ≤ cap) (hn : n ≤ 1000) (hm' : m ≤ 1000) :
    Calls Try.prog 16 #[.slice A n cap, .slice A' m m] w fun e w' => e = .returned (.bool (sameT xs ys)) ∧ Below w.heap.size w w' := by
  refine (w_sametexts _ w.heap.size B A A' n _ cap _ xs ys hx hy (by omega) (by omega) hc (Nat.le_refl _)).mono ?_
  rintro e w' ⟨rfl, q, rfl⟩
  exact ⟨rfl, ⟨rfl, rfl, rfl, Nat.le_refl _, fun _ _ => rfl⟩⟩
theorem keys_form {w : World} {base : Nat} {u : Value} (h : w.ownsRow base 9 1 u (Arr.live Arr.l6).length (svals ((Arr.live Arr.l6).map Arr.Slot.key))) : ∃ A cap, u = .slice A 3 cap ∧ 3 ≤ cap ∧ Strs w w.heap.size A 3 [Arr.ka, Arr.kc, Arr.kb] := by
  rw [show (Arr.live Arr.l6).map Arr.Slot.key = [Arr.ka, Arr.kc, Arr.kb] from rfl, show (Arr.live Arr.l6).length = 3 from rfl] at h
  obtain ⟨g, cap, rfl, h1, _⟩ := ownBlock_form h (by decide)
  exact ⟨_, _, rfl, h1, Strs.of_own h⟩
theorem keys_l6 (w : World) {F : Nat → Prop} {pb bm : Nat} {v : Value} (ha : ArrAt w F pb bm v Arr.l6) : Calls Try.prog 10 #[.pointer (some ⟨pb, 0, none⟩)] w fun e w' => ∃ A cap, e = .returned (.slice A 3 cap) ∧ 3 ≤ cap ∧ Strs w' w'.heap.size A 3 [Arr.ka, Arr.kc, Arr.kb] ∧ Below w.heap.size w w' := by
  refine (arr_keys w _ _ _ _ Arr.l6 ha (by decide)).mono ?_
  rintro e w' ⟨u, rfl, hown, hb⟩
  obtain ⟨A, cap, rfl, hc, hs⟩ := keys_form hown
  exact ⟨A, cap, rfl, hc, hs, hb⟩
theorem keys_l6' (w : World) {F : Nat → Prop} {pb bm : Nat} {v : Value} (ha : ArrAt w F pb bm v Arr.l6) : Calls Try.prog 10 #[.pointer (some ⟨pb, 0, none⟩)] (w.alloc (.cells #[.string ⟨#[97]⟩, .string ⟨#[99]⟩, .string ⟨#[98]⟩] 9)) fun e w' => ∃ A cap, e = .returned (.slice A 3 cap) ∧ 3 ≤ cap ∧ Strs w' w'.heap.size A 3 [Arr.ka, Arr.kc, Arr.kb] ∧ Strs w' (w.heap.size + 1) (some ⟨w.heap.size, 0, none⟩) 3 [Arr.ka, Arr.kc, Arr.kb] ∧ Below w.heap.size w w' := by
  refine (keys_l6 _ (ha.tur (Tur.of_alloc (F := fun _ => False) w _) (fun _ _ f => f))).mono ?_
  rintro e w' ⟨A, cap, rfl, hc, hs, hb⟩
  exact ⟨A, cap, rfl, hc, hs, (Strs.lit w 9 [Arr.ka, Arr.kc, Arr.kb]).below (hb.mono (by simp)), ((Below.refl _ _).alloc (Nat.le_refl _) _).trans (hb.mono (by simp))⟩
theorem key_12 (w : World) : Calls Try.prog 23 #[.slice (some ⟨w.heap.size, 0, none⟩) 2 2, .string ⟨#[45]⟩] (w.alloc (.cells #[.string ⟨#[49]⟩, .string ⟨#[50]⟩] 9)) fun e w' => e = .returned (.string ⟨#[49, 45, 50]⟩) ∧ Below w.heap.size w w' := by
  refine (arr_key _ (w.heap.size + 1) 2 2 (some ⟨w.heap.size, 0, none⟩) [⟨#[49]⟩, ⟨#[50]⟩] ⟨#[45]⟩ (Strs.lit w 9 [⟨#[49]⟩, ⟨#[50]⟩]) (by simp) (by decide) (by decide) (by decide) (by decide)).mono ?_
  rintro e w' ⟨rfl, hb⟩
  exact ⟨rfl, ((Below.refl _ _).alloc (Nat.le_refl _) _).trans (hb.mono (by simp))⟩
theorem key_0 (w : World) : Calls Try.prog 23 #[.slice none 0 0, .string ⟨#[45]⟩] w fun e w' => e = .returned (.string ⟨#[]⟩) ∧ Below w.heap.size w w' := by
  refine (arr_key w 0 0 0 none [] ⟨#[45]⟩ (Strs.nil _ _) (Nat.zero_le _) (by decide) (by decide) (by decide) (by decide)).mono ?_
  rintro e w' ⟨rfl, hb⟩
  exact ⟨rfl, hb⟩
theorem same_l6 (w : World) {B : Nat} {A A' : Option Addr} {cap : Nat} (hx : Strs w w.heap.size A 3 [Arr.ka, Arr.kc, Arr.kb]) (hy : Strs w B A' 3 [Arr.ka, Arr.kc, Arr.kb]) (hc : 3 ≤ cap) :
    Calls Try.prog 16 #[.slice A 3 cap, .slice A' 3 3] w fun e w' => e = .returned (.bool true) ∧ Below w.heap.size w w' := by
  refine (sametexts_at w _ A _ 3 3 cap [Arr.ka, Arr.kc, Arr.kb] [Arr.ka, Arr.kc, Arr.kb] hx hy hc (by decide) (by decide)).mono ?_
  rintro e w' ⟨rfl, hb⟩
  exact ⟨rfl, hb⟩
theorem same_l6' (w : World) {A : Option Addr} {cap : Nat} (hx : Strs w w.heap.size A 3 [Arr.ka, Arr.kc, Arr.kb]) (hc : 3 ≤ cap) :
    Calls Try.prog 16 #[.slice A 3 cap, .slice (some ⟨w.heap.size, 0, none⟩) 3 3] (w.alloc (.cells #[.string ⟨#[97]⟩, .string ⟨#[99]⟩, .string ⟨#[98]⟩] 9)) fun e w' => e = .returned (.bool true) ∧ Below w.heap.size w w' := by
  refine (sametexts_lit w A 3 3 cap [Arr.ka, Arr.kc, Arr.kb] [Arr.ka, Arr.kc, Arr.kb] hx rfl hc (by decide) (by decide)).mono ?_
  rintro e w' ⟨rfl, hb⟩
  exact ⟨rfl, hb⟩
set_option maxRecDepth 100000 in
set_option maxHeartbeats 16000000 in
theorem l_awake (w : World) : Calls Try.prog 18 #[] w fun e w' => e = .returned (.bool true) ∧ Below w.heap.size w w' := by
  obtain ⟨B, hB⟩ : ∃ B, B = w.heap.size := ⟨_, rfl⟩
  have HB := Lib.hid hB
  clear hB
  go_enter Try.func18, Try.ntmps18
  go_wp2_with fail
  refine (arr_new _).mono ?_
  rintro e w1 ⟨rfl, ha1, hb1⟩
  have hF1 : ∀ x, (fun k => w.heap.size ≤ k ∧ k < w.heap.size + 2) x → w.heap.size ≤ x := fun x hx => hx.1
  rw [← HB.out] at ha1 hb1 hF1 ⊢
  have hz1 := hb1.size
  rw [← HB.out] at hz1
  go_wp2_with fail
  refine (w_num 1 w1 (by decide) (by decide)).mono ?_
  rintro e w2 ⟨rfl, hb2'⟩
  have ha2 := ha1.tur (Tur.of_gr (F := fun _ => False) hb2') (fun _ _ f => f)
  have hF2 := hF1
  have hb2 := hb1.trans (hb2'.mono hz1)
  have hz2 := Nat.le_trans hz1 hb2'.size
  clear ha1 hb1 hb2' hz1 hF1
  go_wp2_with fail
  refine (arr_set w2 _ _ _ _ [] Arr.kb (Arr.nm 1) ha2 (by decide) (by decide)).mono ?_
  rintro e w3 ⟨v3, F3, rfl, ha3, ht3, hG3⟩
  have hF3 : ∀ x, F3 x → B ≤ x := fun x hx => (hG3 x hx).elim (hF2 x) (Nat.le_trans hz2)
  have hb3 := hb2.trans (ht3.below B hz2 (fun k hk f => by have := hF2 k f; omega))
  have hz3 := Nat.le_trans hz2 ht3.size
  clear ha2 hb2 hz2 hF2 ht3 hG3
  go_wp2_with fail
  refine (w_num 2 w3 (by decide) (by decide)).mono ?_
  rintro e w4 ⟨rfl, hb4'⟩
  have ha4 := ha3.tur (Tur.of_gr (F := fun _ => False) hb4') (fun _ _ f => f)
  have hF4 := hF3
  have hb4 := hb3.trans (hb4'.mono hz3)
  have hz4 := Nat.le_trans hz3 hb4'.size
  clear ha3 hb3 hb4' hz3 hF3
  go_wp2_with fail
  refine (arr_set w4 _ _ _ _ Arr.l1 Arr.ka (Arr.nm 2) ha4 (by decide) (by decide)).mono ?_
  rintro e w5 ⟨v5, F5, rfl, ha5, ht5, hG5⟩
  have hF5 : ∀ x, F5 x → B ≤ x := fun x hx => (hG5 x hx).elim (hF4 x) (Nat.le_trans hz4)
  have hb5 := hb4.trans (ht5.below B hz4 (fun k hk f => by have := hF4 k f; omega))
  have hz5 := Nat.le_trans hz4 ht5.size
  clear ha4 hb4 hz4 hF4 ht5 hG5
  go_wp2_with fail
  refine (arr_get w5 _ _ _ _ Arr.l2 Arr.kc ha5 (by decide) (by decide)).mono ?_
  rintro e w6 ⟨v6, F6, rfl, ha6, ht6, hG6⟩
  have hF6 : ∀ x, F6 x → B ≤ x := fun x hx => (hG6 x hx).elim (hF5 x) (Nat.le_trans hz5)
  have hb6 := hb5.trans (ht6.below B hz5 (fun k hk f => by have := hF5 k f; omega))
  have hz6 := Nat.le_trans hz5 ht6.size
  clear ha5 hb5 hz5 hF5 ht6 hG6
  rw [show (Arr.cellAt Arr.l2 Arr.kc.data.toList).vals.toArray = #[.int .u8 0, .int .u64 0, .string ⟨#[]⟩] from rfl]
  have hR6 := Blk.new w6 31 #[.int .u8 0, .int .u64 0, .string ⟨#[]⟩]
  have ha7 : ArrAt (w6.alloc (.cells #[.int .u8 0, .int .u64 0, .string ⟨#[]⟩] 31)) F6 (B + 1) B v6 _ := ha6.tur (Tur.of_alloc (F := fun _ => False) w6 _) (fun _ _ f => f)
  have hb7 := hb6.alloc hz6 (.cells #[.int .u8 0, .int .u64 0, .string ⟨#[]⟩] 31)
  have hz7 : B ≤ (w6.alloc (.cells #[.int .u8 0, .int .u64 0, .string ⟨#[]⟩] 31)).heap.size := by simp; omega
  have hc7 : ¬ F6 w6.heap.size := fun f => by have := ha6.flt _ f; omega
  go_wp2_with fail
  generalize w6.alloc (.cells #[.int .u8 0, .int .u64 0, .string ⟨#[]⟩] 31) = w7 at *
  generalize w6.heap.size = c4 at *
  refine (w_num 3 w7 (by decide) (by decide)).mono ?_
  rintro e w8 ⟨rfl, hb8'⟩
  have ha8 := ha7.tur (Tur.of_gr (F := fun _ => False) hb8') (fun _ _ f => f)
  have hb8 := hb7.trans (hb8'.mono hz7)
  have hz8 := Nat.le_trans hz7 hb8'.size
  have hR8 := below_blk hR6 hb8' hR6.lt
  clear ha7 hb7 hb8' hz7 hR6 ha6 hb6 hz6
  go_wp2_with fail
  refine (arr_set w8 _ _ _ _ Arr.l3 Arr.kb (Arr.nm 3) ha8 (by decide) (by decide)).mono ?_
  rintro e w9 ⟨v9, F9, rfl, ha9, ht9, hG9⟩
  have hF9 : ∀ x, F9 x → B ≤ x := fun x hx => (hG9 x hx).elim (hF6 x) (Nat.le_trans hz8)
  have hb9 := hb8.trans (ht9.below B hz8 (fun k hk f => by have := hF6 k f; omega))
  have hz9 := Nat.le_trans hz8 ht9.size
  have hR9 : Blk w9 c4 _ _ := (ht9.block c4 hR8.lt hc7).trans hR8
  have hc9 : ¬ F9 c4 := fun f => (hG9 c4 f).elim hc7 (fun h => by have := hR8.lt; omega)
  clear ha8 hb8 hz8 hF6 ht9 hG9 hR8 hc7
  go_wp2_with fail
  refine (arr_keys w9 _ _ _ _ Arr.l4 ha9 (by decide)).mono ?_
  rintro e w10 ⟨u10, rfl, hown10, hb10'⟩
  rw [show (Arr.live Arr.l4).map Arr.Slot.key = [Arr.kb, Arr.ka, Arr.kc] from rfl, show (Arr.live Arr.l4).length = 3 from rfl] at hown10
  obtain ⟨A10, cap10, hu10⟩ := len_of_row hown10
  subst hu10
  have ha10 := ha9.tur (Tur.of_gr (F := fun _ => False) hb10') (fun _ _ f => f)
  have hb10 := hb9.trans (hb10'.mono hz9)
  have hz10 := Nat.le_trans hz9 hb10'.size
  have hR10 := below_blk hR9 hb10' hR9.lt
  clear ha9 hb9 hb10' hz9 hR9
  go_wp2_with fail
  have hs10 : Strs (w10.alloc (.cells #[.string Arr.kb, .string Arr.ka, .string Arr.kc] 9)) w10.heap.size A10 3 [Arr.kb, Arr.ka, Arr.kc] := (Strs.of_own hown10).below ((Below.refl _ _).alloc (Nat.le_refl _) _)
  refine (w_sametexts _ _ _ _ _ _ _ _ _ _ _ hs10 (Strs.lit w10 9 [Arr.kb, Arr.ka, Arr.kc]) (by decide) (by decide) (by rcases hown10.2 with ⟨h0, _⟩ | ⟨_, _, _, h0, _, _, h1, _⟩ <;> injection h0 <;> omega) (by decide)).mono ?_
  rintro e w11 ⟨rfl, k11, rfl⟩
  rw [show sameT [Arr.kb, Arr.ka, Arr.kc] [Arr.kb, Arr.ka, Arr.kc] = true from (sameT_iff _ _).2 rfl]
  have hb11' : Below w10.heap.size w10 ((w10.alloc (.cells #[.string Arr.kb, .string Arr.ka, .string Arr.kc] 9)).drewN k11) := by
    have := (Below.refl w10.heap.size w10).alloc (Nat.le_refl _) (.cells #[.string Arr.kb, .string Arr.ka, .string Arr.kc] 9)
    exact ⟨this.os, this.tape, this.output, this.size, this.block⟩
  have ha11 := ha10.tur (Tur.of_gr (F := fun _ => False) hb11') (fun _ _ f => f)
  have hb11 := hb10.trans (hb11'.mono hz10)
  have hz11 := Nat.le_trans hz10 hb11'.size
  have hR11 := below_blk hR10 hb11' hR10.lt
  clear ha10 hb10 hb11' hz10 hR10 hs10 hown10
  generalize (w10.alloc (.cells #[.string Arr.kb, .string Arr.ka, .string Arr.kc] 9)).drewN k11 = w11 at *
  go_wp2_with fail
  refine (arr_delete_yes w11 _ _ _ _ Arr.l4 Arr.kb 0 ha11 (by decide) (by decide) rfl).mono ?_
  rintro e w12 ⟨rfl, v12, F12, ha12, ht12, hG12⟩
  have hF12 : ∀ x, F12 x → B ≤ x := fun x hx => (hG12 x hx).elim (hF9 x) (Nat.le_trans hz11)
  have hb12 := hb11.trans (ht12.below B hz11 (fun k hk f => by have := hF9 k f; omega))
  have hz12 := Nat.le_trans hz11 ht12.size
  have hR12 : Blk w12 c4 _ _ := (ht12.block c4 hR11.lt hc9).trans hR11
  have hc12 : ¬ F12 c4 := fun f => (hG12 c4 f).elim hc9 (fun h => by have := hR11.lt; omega)
  clear ha11 hb11 hz11 hF9 ht12 hG12 hR11 hc9
  go_wp2_with fail
  refine (w_num 4 w12 (by decide) (by decide)).mono ?_
  rintro e w13 ⟨rfl, hb13'⟩
  have ha13 := ha12.tur (Tur.of_gr (F := fun _ => False) hb13') (fun _ _ f => f)
  have hb13 := hb12.trans (hb13'.mono hz12)
  have hz13 := Nat.le_trans hz12 hb13'.size
  have hR13 := below_blk hR12 hb13' hR12.lt
  clear ha12 hb12 hb13' hz12 hR12
  go_wp2_with fail
  refine (arr_set w13 _ _ _ _ Arr.l5 Arr.kb (Arr.nm 4) ha13 (by decide) (by decide)).mono ?_
  rintro e w14 ⟨v14, F14, rfl, ha14, ht14, hG14⟩
  have hF14 : ∀ x, F14 x → B ≤ x := fun x hx => (hG14 x hx).elim (hF12 x) (Nat.le_trans hz13)
  have hb14 := hb13.trans (ht14.below B hz13 (fun k hk f => by have := hF12 k f; omega))
  have hz14 := Nat.le_trans hz13 ht14.size
  have hR14 : Blk w14 c4 _ _ := (ht14.block c4 hR13.lt hc12).trans hR13
  have hc14 : ¬ F14 c4 := fun f => (hG14 c4 f).elim hc12 (fun h => by have := hR13.lt; omega)
  clear ha13 hb13 hz13 hF12 ht14 hG14 hR13 hc12
  go_wp2_with fail
  refine (arr_peek w14 _ _ _ _ Arr.l6 Arr.kb ha14 (by decide) (by decide)).mono ?_
  rintro e w15 ⟨rfl, hb15'⟩
  rw [show (Arr.cellAt Arr.l6 Arr.kb.data.toList).vals.toArray = #[.int .u8 1, .int .u64 4, .string ⟨#[]⟩] from rfl, show (Arr.find Arr.l6 Arr.kb.data.toList).isSome = true from rfl]
  have ha15 := ha14.tur (Tur.of_gr (F := fun _ => False) hb15') (fun _ _ f => f)
  have hb15 := hb14.trans (hb15'.mono hz14)
  have hz15 := Nat.le_trans hz14 hb15'.size
  have hR15 := below_blk hR14 hb15' hR14.lt
  clear ha14 hb14 hb15' hz14 hR14
  have hX := Blk.new w15 31 #[.int .u8 1, .int .u64 4, .string ⟨#[]⟩]
  have ha16 : ArrAt (w15.alloc (.cells #[.int .u8 1, .int .u64 4, .string ⟨#[]⟩] 31)) F14 (B + 1) B v14 _ := ha15.tur (Tur.of_alloc (F := fun _ => False) w15 _) (fun _ _ f => f)
  have hb16 := hb15.alloc hz15 (.cells #[.int .u8 1, .int .u64 4, .string ⟨#[]⟩] 31)
  have hz16 : B ≤ (w15.alloc (.cells #[.int .u8 1, .int .u64 4, .string ⟨#[]⟩] 31)).heap.size := by simp; omega
  have hR16 : Blk (w15.alloc (.cells #[.int .u8 1, .int .u64 4, .string ⟨#[]⟩] 31)) c4 _ _ := (Below.heap_alloc _ _ _ hR15.lt).trans hR15
  clear ha15 hb15 hz15 hR15
  go_wp2_with fail
  generalize w15.alloc (.cells #[.int .u8 1, .int .u64 4, .string ⟨#[]⟩] 31) = w16 at *
  generalize w15.heap.size = c9 at *
  have hH16 : Held2 c4 c9 w16.drew := ⟨hR16, hX⟩
  have ha16' := ha16.drew
  have hb16' : Below B w w16.drew := hb16.drew
  have hz16' : B ≤ w16.drew.heap.size := hz16
  have r0 := hR16.cell 0
  have r1 := hR16.cell 1
  have r2 := hR16.cell 2
  have x0 := hX.cell 0
  have x1 := hX.cell 1
  have x2 := hX.cell 2
  clear hR16 hX ha16 hb16 hz16
  go_region_held3 (fun w' => w'.cell? ⟨c4, 0, none⟩ = some (.int .u8 0) ∧ w'.cell? ⟨c4, 1, none⟩ = some (.int .u64 0) ∧ w'.cell? ⟨c4, 2, none⟩ = some (.string ⟨#[]⟩) ∧ w'.cell? ⟨c9, 0, none⟩ = some (.int .u8 1) ∧ w'.cell? ⟨c9, 1, none⟩ = some (.int .u64 4) ∧ w'.cell? ⟨c9, 2, none⟩ = some (.string ⟨#[]⟩)) (first | exact held_of hH16 | exact held_of hH17 | exact held_of hH18 | exact held_of hH19 | exact held_of hH20 | exact held_of hH21 | go_keep) (first | (go_at_call 14; with_reducible refine (w_num 4 _ (by decide) (by decide)).mono ?_; rintro e w17 ⟨rfl, hb17'⟩; have hH17 := hH16.grow hb17'; have ha17 := ha16'.tur (Tur.of_gr (F := fun _ => False) hb17') (fun _ _ f => f); have hb17 := hb16'.trans (hb17'.mono hz16'); have hz17 := Nat.le_trans hz16' hb17'.size; clear hb17') | (go_at_call 10; with_reducible refine (keys_l6 w17 ha17).mono ?_; rintro e w18 ⟨A18, cap18, rfl, hc18, hs18, hb18'⟩; have hH18 := hH17.grow hb18'; have hb18 := hb17.trans (hb18'.mono hz17); have hz18 := Nat.le_trans hz17 hb18'.size; clear hb18') | (go_at_call 10; with_reducible refine (keys_l6' w17 ha17).mono ?_; rintro e w18 ⟨A18, cap18, rfl, hc18, hs18, hu18, hb18'⟩; have hH18 := hH17.grow hb18'; have hb18 := hb17.trans (hb18'.mono hz17); have hz18 := Nat.le_trans hz17 hb18'.size; clear hb18') | (go_at_call 16; with_reducible refine (same_l6' w18 hs18 hc18).mono ?_; rintro e w19 ⟨rfl, hb19'⟩; have hH19 := hH18.grow hb19'; have hb19 := hb18.trans (hb19'.mono hz18); have hz19 := Nat.le_trans hz18 hb19'.size; clear hb19') | (go_at_call 16; with_reducible refine (same_l6 w18 hs18 hu18 hc18).mono ?_; rintro e w19 ⟨rfl, hb19'⟩; have hH19 := hH18.grow hb19'; have hb19 := hb18.trans (hb19'.mono hz18); have hz19 := Nat.le_trans hz18 hb19'.size; clear hb19') | (go_at_call 23; with_reducible refine (key_12 w19).mono ?_; rintro e w20 ⟨rfl, hb20'⟩; have hH20 := hH19.grow hb20'; have hb20 := hb19.trans (hb20'.mono hz19); have hz20 := Nat.le_trans hz19 hb20'.size; clear hb20') | (go_at_call 23; with_reducible refine (key_0 w20).mono ?_; rintro e w21 ⟨rfl, hb21'⟩; have hH21 := hH20.grow hb21'; have hb21 := hb20.trans (hb21'.mono hz20); have hz21 := Nat.le_trans hz20 hb21'.size; clear hb21'))
  all_goals (go_wp2_with fail; go_ret; exact ⟨by simp [go_sem], HB.out ▸ hb21⟩)
end Go.Proofs.Ytjgfhdabcahokaa
