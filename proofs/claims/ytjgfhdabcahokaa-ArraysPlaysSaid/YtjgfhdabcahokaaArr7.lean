/- Arrays: the walk of Copy. -/
import Derived.Test.YtjgfhdabcahokaaArr5
namespace Go.Proofs.Ytjgfhdabcahokaa
open Go.RowKit
open Go.Maps (Keyed string_keyed)
open Go.WideMaps Go.WideElems Go.WideAt

theorem arr_copy_none (w : World) (p : Value) (hn : Calls Try.prog 29 #[p] w fun e w' => e = .returned (.bool true) ∧ w = w') :
    Calls Try.prog 19 #[p] w fun e w' => e = .returned (.pointer none) ∧ w = w' := by
  have HN := Lib.hid hn
  clear hn
  go_enter Try.func19, Try.ntmps19
  go_wp2_with fail
  refine HN.out.mono ?_
  rintro e w' ⟨rfl, rfl⟩
  go_wp2_with fail
  go_ret
  exact ⟨rfl, rfl⟩
set_option maxHeartbeats 1000000 in
theorem arr_copy (w : World) (F : Nat → Prop) (pb bm : Nat) (v : Value) (l : List Arr.Slot) (h : ArrAt w F pb bm v l) (hl : l.length ≤ 1000000000) :
    Calls Try.prog 19 #[.pointer (some ⟨pb, 0, none⟩)] w fun e w' => ∃ pc bc vc Fc, e = .returned (.pointer (some ⟨pc, 0, none⟩)) ∧ ArrAt w' Fc pc bc vc (Arr.live l) ∧ (∀ x, Fc x → w.heap.size ≤ x) ∧ Below w.heap.size w w' := by
  have HC := Lib.hid h
  obtain ⟨A, cap, hv⟩ := len_of_row h.row
  subst hv
  clear h
  obtain ⟨B, hB⟩ : ∃ B, B = w.heap.size := ⟨_, rfl⟩
  have HB := Lib.hid hB
  clear hB
  go_enter Try.func19, Try.ntmps19
  go_wp2_with fail
  refine (none_at _ pb (some bm) _ HC.out.head).mono ?_
  rintro e w' ⟨rfl, rfl⟩
  go_wp2_with fail
  refine (arr_new _).mono ?_
  rintro e w1 ⟨rfl, ha1, hb1⟩
  have hpbB : pb < B := by rw [HB.out]; exact HC.out.head.lt
  have hbr1 : Blk w1 pb _ _ := below_blk HC.out.head hb1 HC.out.head.lt
  have b1 := hbr1.cell 1
  have HA1 := Lib.hid ha1
  have HB1 := Lib.hid hb1
  clear ha1 hb1 hbr1
  rw [← HB.out] at HA1 ⊢
  have hBB : Below B w w1 := by rw [HB.out]; exact HB1.out
  go_wp2_with fail
  go_loopw [5, 14] (fun _ i wr => ∃ k : Nat, k ≤ l.length ∧ i = .int .i64 k ∧ (∃ vc Fc, ArrAt wr Fc (B + 1) B vc (Arr.live (l.take k)) ∧ ∀ x, Fc x → B ≤ x) ∧ Below B w wr) (fun _ i _ => l.length - (intOf i).toNat)
  case atStart => exact ⟨0, Nat.zero_le _, rfl, ⟨_, _, HA1.out, fun x hx => hx.1⟩, hBB⟩
  case round =>
    obtain ⟨k, hk, rfl, ⟨vc, Fc, hac, hFc⟩, hbl⟩ := hrel
    have hbs := hbl.size
    rw [← HB.out] at hbs
    by_cases hlt : k < l.length
    · obtain ⟨g, cap', hv, hlc, hcm⟩ := ownBlock_form HC.out.row (by omega)
      injection hv with e1 e2 e3
      subst e1
      subst e3
      have hgB : g < B := by rw [HB.out]; exact HC.out.flt _ (HC.out.fv g rfl)
      obtain ⟨d0, d1, d2, d3, d4⟩ := HC.out.cell5 (g := g) rfl k hlt
      have cc : ∀ o, wr.cell? ⟨g, o, none⟩ = w.cell? ⟨g, o, none⟩ := fun o => hbl.cell (p := ⟨g, o, none⟩) hgB
      rw [← cc] at d0 d1 d2 d3 d4
      have hle : (Arr.live (l.take k)).length ≤ k := Nat.le_trans (List.length_filter_le _ _) (List.length_take_le _ _)
      have hkl : Hid (l[k].key.size ≤ maxLen) := HC.out.small _ (List.getElem_mem hlt)
      clear cc
      unfold maxLen at hcm
      cases ho : l[k].off
      · rw [ho] at d4
        have HN := Lib.hid (Arr.copy_step l HC.out.tidy k hlt ho)
        clear ho
        generalize l[k] = s at *
        go_wp2_with fail
        have hac2 : ArrAt (wr.alloc (.cells #[.string s.key, .int .u8 s.cell.k, .int .u64 s.cell.n, .string s.cell.s, .bool false] 66)) Fc (B + 1) B vc (Arr.live (l.take k)) := hac.tur (Tur.of_alloc (F := fun _ => False) wr _) (fun _ _ f => f)
        have hbl2 := hbl.alloc hbs (.cells #[.string s.key, .int .u8 s.cell.k, .int .u64 s.cell.n, .string s.cell.s, .bool false] 66)
        refine (arr_set _ Fc (B + 1) B vc _ s.key s.cell hac2 hkl.out (by omega)).mono ?_
        rintro e w3 ⟨v3, F3, rfl, hac3, ht3, hF3⟩
        rw [HN.out] at hac3
        have hbl3 : Below B w w3 := hbl2.trans (ht3.below B (by simp; omega) (fun x hx f => by have := hFc x f; omega))
        have hF3' : ∀ x, F3 x → B ≤ x := fun x hx => (hF3 x hx).elim (fun f => hFc x f) (fun f => by simp at f; omega)
        clear hac hac2 hbl hbl2 ht3 hF3 d0 d1 d2 d3 d4
        go_wp2_with fail
        go_roundw
        case rel => first | exact ⟨k + 1, by omega, by go_num, ⟨v3, F3, hac3, hF3'⟩, hbl3⟩ | ((repeat apply Exists.intro); exact ⟨⟨k + 1, by omega, by go_num, ⟨v3, F3, hac3, hF3'⟩, hbl3⟩, rfl, rfl⟩) | ((repeat apply Exists.intro); exact ⟨⟨k + 1, by omega, by go_num, ⟨v3, F3, hac3, hF3'⟩, hbl3⟩, rfl⟩)
        case measure => simp [intOf]; omega
      · rw [ho] at d4
        have HN : Hid (Arr.live (l.take (k + 1)) = Arr.live (l.take k)) := by unfold Hid; rw [Arr.live_take l k hlt, ho]; simp
        clear ho
        generalize l[k] = s at *
        have K1 : Hid (∀ o, ArrAt (wr.alloc o) Fc (B + 1) B vc (Arr.live (l.take (k + 1)))) := fun o => by rw [HN.out]; exact hac.tur (Tur.of_alloc (F := fun _ => False) wr _) (fun _ _ f => f)
        have K2 : Hid (∀ o, Below B w (wr.alloc o)) := fun o => hbl.alloc hbs o
        clear hac hbl
        go_wp2_with fail
        go_roundw
        case rel => exact ⟨k + 1, by omega, by go_num, ⟨vc, Fc, K1.out _, hFc⟩, K2.out _⟩
        case measure => simp [intOf]; omega
    · obtain rfl : k = l.length := by omega
      have HT : Hid (l.take l.length = l) := List.take_length
      rw [HT.out] at hac
      go_wp2_with fail
      go_ret
      exact ⟨B + 1, B, vc, Fc, rfl, hac, fun x hx => by rw [← HB.out]; exact hFc x hx, by rw [← HB.out]; exact hbl⟩
end Go.Proofs.Ytjgfhdabcahokaa
