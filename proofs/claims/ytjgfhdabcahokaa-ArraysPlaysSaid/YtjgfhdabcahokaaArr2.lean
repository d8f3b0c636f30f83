/- Arrays: the walks of none, New, Get, Set, Peek, Has. -/
import Derived.Test.YtjgfhdabcahokaaArr
namespace Go.Proofs.Ytjgfhdabcahokaa
open Go.RowKit
open Go.Maps (Keyed string_keyed)
open Go.WideMaps Go.WideElems Go.WideAt

theorem none_nil (w : World) : Calls Try.prog 29 #[.pointer none] w fun e w' => e = .returned (.bool true) ∧ w = w' := by
  go_enter Try.func29, Try.ntmps29
  go_wp2_with fail
  go_ret
  exact ⟨rfl, rfl⟩
theorem eql_map_nil : ∀ (w : World) (r : Option Nat), (binOp .eql 58 (.map r) (.map none)).run Try.prog w = .ok (.bool r.isNone) w := fun w r => run_eql_map_nil w _ _ _ r Try.underlying58
theorem none_at (w : World) (pb : Nat) (r : Option Nat) (v : Value) (h : Blk w pb 61 #[.map r, v]) : Calls Try.prog 29 #[.pointer (some ⟨pb, 0, none⟩)] w fun e w' => e = .returned (.bool r.isNone) ∧ w = w' := by
  have c0 := h.cell 0
  have hn := eql_map_nil
  go_enter Try.func29, Try.ntmps29
  go_wp2_with fail
  go_ret
  exact ⟨rfl, rfl⟩
theorem arr_new (w : World) : Calls Try.prog 8 #[] w fun e w' => e = .returned (.pointer (some ⟨w.heap.size + 1, 0, none⟩)) ∧ ArrAt w' (fun k => w.heap.size ≤ k ∧ k < w.heap.size + 2) (w.heap.size + 1) w.heap.size (.slice none 0 0) [] ∧ Below w.heap.size w w' := by
  have hmm := @run_makeMap Try.prog
  go_enter Try.func8, Try.ntmps8
  go_wp2_with fail
  go_ret
  refine ⟨rfl, ⟨fun k hk => by simp; omega, by omega, by omega, fun g hg => by simp [Value.ownBlock] at hg, ?_, ?_, World.ownsRow_nil _ _ _ _, by simp [Arr.Tidy, Arr.keys, Arr.live], fun s hs => by simp at hs⟩, ((Below.refl _ _).alloc (Nat.le_refl _) _).alloc (by simp) _⟩
  · have := Blk.new (w.alloc (.map #[] 0)) 61 #[.map (some w.heap.size), .slice none 0 0]
    simpa using this
  · have hm := MapS.made Try.prog 9 3 w
    have := hm.of_block (w' := (w.alloc (.map #[] 0)).alloc (.cells #[.map (some w.heap.size), .slice none 0 0] 61)) (Below.heap_alloc _ _ _ (by simp))
    have e : Arr.look [] = fun _ => none := by funext x; rfl
    rw [e]; exact this
set_option maxHeartbeats 1000000 in
theorem arr_get (w : World) (F : Nat → Prop) (pb bm : Nat) (v : Value) (l : List Arr.Slot) (key : ByteArray) (h : ArrAt w F pb bm v l) (hk : key.size ≤ maxLen) (hl : l.length ≤ 1000000000) :
    Calls Try.prog 22 #[.pointer (some ⟨pb, 0, none⟩), .string key] w fun e w' => ∃ v' F', e = .returned (.agg (Arr.cellAt l key.data.toList).vals.toArray) ∧
      ArrAt w' F' pb bm v' (Arr.placeL l key) ∧ Tur F w w' ∧ ∀ g, F' g → F g ∨ w.heap.size ≤ g := by
  go_enter Try.func22, Try.ntmps22
  go_wp2_with fail
  have h0 : ArrAt (w.alloc (.cells #[.int .u8 0, .int .u64 0, .string ⟨#[]⟩] 31)) F pb bm v l := h.tur (Tur.of_alloc (F := fun _ => False) w _) (fun _ _ f => f)
  have hR : Blk (w.alloc (.cells #[.int .u8 0, .int .u64 0, .string ⟨#[]⟩] 31)) w.heap.size 31 #[.int .u8 0, .int .u64 0, .string ⟨#[]⟩] := Blk.new _ _ _
  have hs0 : (w.alloc (.cells #[.int .u8 0, .int .u64 0, .string ⟨#[]⟩] 31)).heap.size = w.heap.size + 1 := by simp
  have hB0 : Tur (fun _ => False) w (w.alloc (.cells #[.int .u8 0, .int .u64 0, .string ⟨#[]⟩] 31)) := Tur.of_alloc w _
  have hRF : ¬ F w.heap.size := fun f => by have := h.flt _ f; omega
  generalize hw0 : (w.alloc (.cells #[.int .u8 0, .int .u64 0, .string ⟨#[]⟩] 31)) = w0 at *
  clear hw0
  have HS := Lib.hid hs0
  clear hs0
  refine (none_at _ pb (some bm) v h0.head).mono ?_
  rintro e w' ⟨rfl, rfl⟩
  go_wp2_with fail
  refine (place_any _ F pb bm v l key h0 hk hl).mono ?_
  rintro e w1 ⟨g, v1, F1, i, hg, rfl, hfi, h1, ht1, hF1⟩
  obtain ⟨hi, hoff, hkey⟩ := Arr.find_some hfi
  have hR1 : Blk w1 w.heap.size 31 #[.int .u8 0, .int .u64 0, .string ⟨#[]⟩] := (ht1.block _ (by rw [HS.out]; omega) hRF).trans hR
  have r0 := hR1.cell 0
  have r1 := hR1.cell 1
  have r2 := hR1.cell 2
  have q0 := hR1.free 0
  have q1 := hR1.free 1
  have q2 := hR1.free 2
  obtain ⟨c1, c2, c3⟩ := h1.cell3 hg i hi
  have hgR : g ≠ w.heap.size := fun e => by
    have := h1.fv g hg
    rcases hF1 _ this with f | f
    · subst e; exact hRF f
    · rw [HS.out] at f; omega
  have hcell : Arr.cellAt l key.data.toList = (Arr.placeL l key)[i].cell := by
    rw [← Arr.cellAt_placeL, Arr.cellAt, hfi]; simp [List.getD, hi]
  have HC := Lib.hid hcell
  clear hcell
  go_wp2_with fail
  generalize (Arr.placeL l key)[i].cell = c at *
  have hR3 := hR1.set3 (.int .u8 c.k) (.int .u64 c.n) (.string c.s)
  have s0 := hR3.cell 0
  have s1 := hR3.cell 1
  have s2 := hR3.cell 2
  refine bodyPost_ret (v := .agg c.vals.toArray) (by simp [results, Try.results22, go_sem, Arr.Cell.vals, s0, s1, s2]) rfl ⟨v1, F1, by rw [HC.out], ?_, ?_, ?_⟩
  · exact h1.tur (Tur.set3 _ _ _) (fun k hk e => by
      subst e
      rcases hF1 _ hk with f | f
      · exact hRF f
      · rw [HS.out] at f; omega)
  · exact ((hB0.mono (fun _ _ f => f.elim)).trans ht1 (fun _ _ f => f)).trans (Tur.set3 _ _ _) (fun k hk e => by subst e; omega)
  · intro k hk
    rcases hF1 _ hk with f | f
    · exact .inl f
    · rw [HS.out] at f; exact .inr (by omega)
end Go.Proofs.Ytjgfhdabcahokaa
