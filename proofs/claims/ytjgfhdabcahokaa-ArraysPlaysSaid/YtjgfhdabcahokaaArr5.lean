/- Arrays: the walks of Delete, packed, Copy. -/
import Derived.Test.YtjgfhdabcahokaaArr6
import Derived.Deep.RegionHeld3
import Derived.StillTailTactics
import Derived.BigQuiet
import Derived.Deep.QuietTactic
namespace Go.Proofs.Ytjgfhdabcahokaa
open Go.RowKit
open Go.Maps (Keyed string_keyed)
open Go.WideMaps Go.WideElems Go.WideAt

theorem Tur.set5 {w : World} {g i1 i2 i3 i4 i5 : Nat} (x1 x2 x3 x4 x5 : Value) : Tur (· = g) w (((((w.setCell ⟨g, i1, none⟩ x1).setCell ⟨g, i2, none⟩ x2).setCell ⟨g, i3, none⟩ x3).setCell ⟨g, i4, none⟩ x4).setCell ⟨g, i5, none⟩ x5) :=
  ((((Tur.of_set ⟨g, i1, none⟩ x1).trans (Tur.of_set ⟨g, i2, none⟩ x2) (fun _ _ h => h)).trans (Tur.of_set ⟨g, i3, none⟩ x3) (fun _ _ h => h)).trans (Tur.of_set ⟨g, i4, none⟩ x4) (fun _ _ h => h)).trans (Tur.of_set ⟨g, i5, none⟩ x5) (fun _ _ h => h)
/-- What the map tells at a key that is there. -/
def Looks (bm : Nat) (key : ByteArray) (i : Nat) (w : World) : Prop := (Instr.lookup 58 (.map (some bm)) (.string key) false).run Try.prog w = .ok (.int .i64 i) w
theorem looks_of {w : World} {bm m : Nat} {l : List Arr.Slot} {key : ByteArray} {i : Nat} (h : MapS Try.prog 9 3 w bm m (Arr.look l)) (hk : key.size ≤ maxLen) (hf : Arr.find l key.data.toList = some i) :
    (Instr.lookup 58 (.map (some bm)) (.string key) false).run Try.prog w = .ok (.int .i64 i) w := by
  have := h.run_look klaw Try.underlying58 (zero_int _) plain_zero_int (keyOf_string_mk Try.underlying9 hk)
  rw [show Arr.look l key.data.toList = some (.int .i64 i) from by simp [Arr.look, hf]] at this
  exact this
set_option maxHeartbeats 400000 in
theorem arr_delete_no (w : World) (p : Value) (key : ByteArray) (hh : Calls Try.prog 21 #[p, .string key] w fun e w' => e = .returned (.bool false) ∧ Below w.heap.size w w') :
    Calls Try.prog 12 #[p, .string key] w fun e w' => e = .returned (.bool false) ∧ Below w.heap.size w w' := by
  have HP := Lib.hid hh
  clear hh
  go_enter Try.func12, Try.ntmps12
  go_wp2_with fail
  refine HP.out.mono ?_
  rintro e w1 ⟨rfl, hb1⟩
  go_wp2_with fail
  go_ret
  exact ⟨rfl, hb1⟩
theorem ArrAt.struck {w w4 : World} {F : Nat → Prop} {pb bm g cap : Nat} {l : List Arr.Slot} {key : ByteArray} {i : Nat} (h : ArrAt w F pb bm (.slice (some ⟨g, 0, none⟩) l.length cap) l) (hf : Arr.find l key.data.toList = some i)
    (hm : MapS Try.prog 9 3 w4 bm (if (Arr.look l key.data.toList).isSome then (Arr.live l).length - 1 else (Arr.live l).length) (setAt (Arr.look l) key.data.toList none))
    (ht : (((((w.setCell ⟨g, i * 5, none⟩ (.string ⟨#[]⟩)).setCell ⟨g, i * 5 + 1, none⟩ (.int .u8 0)).setCell ⟨g, i * 5 + 2, none⟩ (.int .u64 0)).setCell ⟨g, i * 5 + 3, none⟩ (.string ⟨#[]⟩)).setCell ⟨g, i * 5 + 4, none⟩ (.bool true)).mapTurned w4 bm) :
    ArrAt w4 F pb bm (.slice (some ⟨g, 0, none⟩) l.length cap) (l.set i Arr.Slot.dead) ∧ Tur F w w4 := by
  obtain ⟨hi, hoff, hkey⟩ := Arr.find_some hf
  have hgm : bm ≠ g := fun e => h.row_bm (e ▸ rfl)
  have hgp : pb ≠ g := fun e => h.row_pb (e ▸ rfl)
  have t5 := Tur.set5 (w := w) (g := g) (i1 := i * 5) (i2 := i * 5 + 1) (i3 := i * 5 + 2) (i4 := i * 5 + 3) (i5 := i * 5 + 4) (.string ⟨#[]⟩) (.int .u8 0) (.int .u64 0) (.string ⟨#[]⟩) (.bool true)
  have tm := Tur.of_grown ht.grown
  have r5 := (((((((h.row.stored (i * 5) (.string ⟨#[]⟩)).1).stored (i * 5 + 1) (.int .u8 0)).1.stored (i * 5 + 2) (.int .u64 0)).1.stored (i * 5 + 3) (.string ⟨#[]⟩)).1).stored (i * 5 + 4) (.bool true)).1
  rw [Arr.vals_dead l i hi] at r5
  have hbm := h.map.lt
  have hpb := h.head.lt
  have hgl := (h.row.lt g rfl).2
  have hsz := t5.size
  refine ⟨⟨fun k hk => Nat.lt_of_lt_of_le (h.flt k hk) (Nat.le_trans t5.size tm.size), h.fp, h.fm, h.fv, ?_, ?_, ?_, Arr.tidy_dead h.tidy hi hoff, fun s hs => by
    rcases List.mem_or_eq_of_mem_set hs with hs | rfl
    · exact h.small s hs
    · exact Nat.zero_le _⟩, ?_⟩
  · exact ((tm.block pb (by omega) (fun e => h.pb_bm (by injection e))).trans (t5.block pb hpb hgp)).trans h.head
  · rw [Arr.look_dead h.tidy hi hoff, (Arr.live_dead hi hoff).1, hkey]
    have : (Arr.look l key.data.toList).isSome = true := by simp [Arr.look, hf]
    rw [this] at hm; exact hm
  · rw [List.length_set]
    exact own_of_block r5 (fun g' hg' => by
      have : g' = g := by simpa [Value.ownBlock] using hg'.symm
      subst this
      exact tm.block g' (by omega) (fun e => hgm (by injection e with e; exact e.symm)))
  · exact (t5.mono (fun k _ e => by subst e; exact h.fv _ rfl)).trans tm (fun k _ e => by injection e with e; subst e; exact h.fm)
set_option maxHeartbeats 400000 in
theorem arr_delete_yes (w : World) (F : Nat → Prop) (pb bm : Nat) (v : Value) (l : List Arr.Slot) (key : ByteArray) (i : Nat) (h : ArrAt w F pb bm v l) (hk : key.size ≤ maxLen) (hl : l.length ≤ 1000000000) (hf : Arr.find l key.data.toList = some i) :
    Calls Try.prog 12 #[.pointer (some ⟨pb, 0, none⟩), .string key] w fun e w' => e = .returned (.bool true) ∧ ∃ v' F', ArrAt w' F' pb bm v' (Arr.packL (l.set i Arr.Slot.dead)) ∧ Tur F w w' ∧ ∀ g, F' g → F g ∨ w.heap.size ≤ g := by
  have HF := Lib.hid hf
  have HLK : Hid (Arr.look l key.data.toList = some (.int .i64 i)) := by simp [Hid, Arr.look, hf]
  have hhas := Lib.hid (arr_has w F pb bm v l key h hk hl)
  obtain ⟨hi, _, _⟩ := Arr.find_some hf
  clear hf
  go_enter Try.func12, Try.ntmps12
  go_wp2_with fail
  refine hhas.out.mono ?_
  rintro e w1 ⟨rfl, hb1⟩
  have h1 : ArrAt w1 F pb bm v l := h.tur (Tur.of_gr (F := fun _ => False) hb1) (fun _ _ f => f)
  have hsz1 := hb1.size
  rw [show (Arr.find l key.data.toList).isSome = true from by rw [HF.out]; rfl]
  obtain ⟨g, cap, hv, hlc, hcm⟩ := ownBlock_form h1.row (by omega)
  subst hv
  have a0 := h1.head.cell 0
  have a1 := h1.head.cell 1
  have hgm : bm ≠ g := fun e => h1.row_bm (e ▸ rfl)
  have hlkd := looks_of (w := w1.drew) (h1.map.of_block rfl) hk HF.out
  have H1 := Lib.hid h1
  unfold maxLen at hcm
  have hii : (0 : Int) ≤ (i : Int) := Int.natCast_nonneg _
  have hii2 : (i : Int) < (l.length : Int) := by omega
  clear h1
  go_wp2_with fail
  go_still_tail 12, (by kernel_rfl)
  change wpList _ _ _ _ _ w1.drew
  have h2 := H1.out.drew
  have hb2 : Below w.heap.size w w1.drew := hb1.drew
  clear a0 a1 hlkd hb1 hsz1 H1
  generalize w1.drew = w2 at h2 hb2 ⊢
  have a0 := h2.head.cell 0
  have a1 := h2.head.cell 1
  obtain ⟨c0, c1, c2, c3, c4⟩ := h2.cell5 (g := g) rfl i hi
  have q0 := h2.free (g := g) rfl (i * 5)
  have q1 := h2.free (g := g) rfl (i * 5 + 1)
  have q2 := h2.free (g := g) rfl (i * 5 + 2)
  have q3 := h2.free (g := g) rfl (i * 5 + 3)
  have q4 := h2.free (g := g) rfl (i * 5 + 4)
  have hm3 := h2.map.of_block ((Tur.set5 (w := w2) (g := g) (i1 := i * 5) (i2 := i * 5 + 1) (i3 := i * 5 + 2) (i4 := i * 5 + 3) (i5 := i * 5 + 4) (.string ⟨#[]⟩) (.int .u8 0) (.int .u64 0) (.string ⟨#[]⟩) (.bool true)).block bm h2.map.lt hgm)
  have hgp : ¬ pb = g := fun e => h2.row_pb (e ▸ rfl)
  have hgp' : ¬ g = pb := fun e => hgp e.symm
  have H2 := Lib.hid h2
  have HM := Lib.hid hm3
  clear h2 hm3
  go_wp2_with (at_delete; refine wp_map_del rfl _ _ _ rfl klaw Try.underlying58 rfl HM.out _ _ rfl (keyOf_string_mk Try.underlying9 hk) ?_; intro w4 hmap4 hturn4; obtain ⟨h4, ht4⟩ := H2.out.struck HF.out hmap4 hturn4)
  refine (arr_packed w4 F pb bm _ _ h4 (by rw [List.length_set]; exact hl)).mono ?_
  rintro e w5 ⟨rfl, v', F', h5, ht5, hF5⟩
  go_wp2_with fail
  go_ret
  have hsz := hb2.size
  have ht : Tur F w w4 := (Tur.of_gr (F := F) hb2).trans ht4 (fun _ _ f => f)
  exact ⟨rfl, v', F', h5, ht.trans ht5 (fun _ _ f => f), fun x hx => (hF5 x hx).imp id (fun h => Nat.le_trans ht.size h)⟩
end Go.Proofs.Ytjgfhdabcahokaa
