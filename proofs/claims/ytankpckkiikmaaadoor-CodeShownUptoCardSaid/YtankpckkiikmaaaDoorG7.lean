/- Code: the walks of the document's small tests on operands. -/
import Derived.Test.YtankpckkiikmaaaDoorG3
set_option linter.unusedVariables false
set_option linter.unusedSimpArgs false
namespace Go.Proofs.YtankpckkiikmaaaDoor
open Go.RowKit Cod
structure BoxR (W : World) (b B : Nat) (C : CV) (p : PV) : Prop where
  pl : W.heap[b]? = some (.cells #[.slice C.A0 C.n0 C.c0, .slice C.A1 C.n1 C.c1, .slice C.A2 C.n2 C.c2, .slice C.A3 C.n3 C.c3, .slice C.A4 C.n4 C.c4, .slice C.A5 C.n5 C.c5, .slice C.A6 C.n6 C.c6, .int .i64 p.regs, .slice p.A p.n p.c, .int .i64 p.loops, .slice p.A' p.n' p.c'] 63 (0, 0))
  at_ : PlaceAt W B C p
theorem BoxR.keep {W W' : World} {b B : Nat} {C : CV} {p : PV} (h : BoxR W b B C p) (hb : Below W.heap.size W W') : BoxR W' b B C p :=
  ⟨(hb.block b (Array.getElem?_eq_some_iff.1 h.pl).1).trans h.pl, h.at_.keep hb⟩
theorem BoxR.made {w : World} {B : Nat} {C : CV} {p : PV} (h : PlaceAt w B C p) : BoxR (w.alloc (.cells #[.slice C.A0 C.n0 C.c0, .slice C.A1 C.n1 C.c1, .slice C.A2 C.n2 C.c2, .slice C.A3 C.n3 C.c3, .slice C.A4 C.n4 C.c4, .slice C.A5 C.n5 C.c5, .slice C.A6 C.n6 C.c6, .int .i64 p.regs, .slice p.A p.n p.c, .int .i64 p.loops, .slice p.A' p.n' p.c'] 63)) w.heap.size B C p :=
  ⟨(MapKept.heap_alloc w _).1, h.keep ((Below.refl _ _).alloc (Nat.le_refl _) _)⟩
theorem BoxR.cells {w' : World} {b B : Nat} {C : CV} {p : PV} (h : BoxR w' b B C p) : (w'.cell? ⟨b, 0, none⟩ = some (.slice C.A0 C.n0 C.c0) ∧ w'.cell? ⟨b, 1, none⟩ = some (.slice C.A1 C.n1 C.c1) ∧ w'.cell? ⟨b, 2, none⟩ = some (.slice C.A2 C.n2 C.c2) ∧ w'.cell? ⟨b, 3, none⟩ = some (.slice C.A3 C.n3 C.c3) ∧ w'.cell? ⟨b, 4, none⟩ = some (.slice C.A4 C.n4 C.c4) ∧ w'.cell? ⟨b, 5, none⟩ = some (.slice C.A5 C.n5 C.c5) ∧ w'.cell? ⟨b, 6, none⟩ = some (.slice C.A6 C.n6 C.c6) ∧ w'.cell? ⟨b, 7, none⟩ = some (.int .i64 p.regs) ∧ w'.cell? ⟨b, 8, none⟩ = some (.slice p.A p.n p.c) ∧ w'.cell? ⟨b, 9, none⟩ = some (.int .i64 p.loops) ∧ w'.cell? ⟨b, 10, none⟩ = some (.slice p.A' p.n' p.c')) := pcells h.pl
theorem q_reg (C : CV) (p : PV) (n : Int) (w : World) : Calls Tryd.prog 26 #[.agg #[.slice C.A0 C.n0 C.c0, .slice C.A1 C.n1 C.c1, .slice C.A2 C.n2 C.c2, .slice C.A3 C.n3 C.c3, .slice C.A4 C.n4 C.c4, .slice C.A5 C.n5 C.c5, .slice C.A6 C.n6 C.c6, .int .i64 p.regs, .slice p.A p.n p.c, .int .i64 p.loops, .slice p.A' p.n' p.c'], .int .i64 n] w fun e w' => e = .returned (.bool (regB p n)) ∧ Below w.heap.size w w' := by
  go_enter Tryd.func26, Tryd.ntmps26
  go_wp2
  all_goals (go_ret; exact ⟨ret_bool (by rw [Bool.eq_iff_iff]; simp [regB, inB, *]; try omega), ((Below.refl _ _).alloc (Nat.le_refl _) _)⟩)
theorem q_opt (C : CV) (p : PV) (n : Int) (w : World) : Calls Tryd.prog 32 #[.agg #[.slice C.A0 C.n0 C.c0, .slice C.A1 C.n1 C.c1, .slice C.A2 C.n2 C.c2, .slice C.A3 C.n3 C.c3, .slice C.A4 C.n4 C.c4, .slice C.A5 C.n5 C.c5, .slice C.A6 C.n6 C.c6, .int .i64 p.regs, .slice p.A p.n p.c, .int .i64 p.loops, .slice p.A' p.n' p.c'], .int .i64 n] w fun e w' => e = .returned (.bool (optB p n)) ∧ Below w.heap.size w w' := by
  go_enter Tryd.func32, Tryd.ntmps32
  go_wp2_with (((with_reducible refine (q_reg C p n _).mono ?_); rintro e w2 ⟨rfl, hb2⟩; have HB2 := Lib.hid hb2; clear hb2))
  all_goals (go_ret; exact ⟨ret_bool (by unfold optB; simp [*]), by first | exact Gr.trans ((Below.refl _ _).alloc (Nat.le_refl _) _) HB2.out | exact ((Below.refl _ _).alloc (Nat.le_refl _) _)⟩)
theorem q_jump (C : CV) (p : PV) (n : Int) (w : World) : Calls Tryd.prog 52 #[.agg #[.slice C.A0 C.n0 C.c0, .slice C.A1 C.n1 C.c1, .slice C.A2 C.n2 C.c2, .slice C.A3 C.n3 C.c3, .slice C.A4 C.n4 C.c4, .slice C.A5 C.n5 C.c5, .slice C.A6 C.n6 C.c6, .int .i64 p.regs, .slice p.A p.n p.c, .int .i64 p.loops, .slice p.A' p.n' p.c'], .int .i64 n] w fun e w' => e = .returned (.bool (inB n p.n')) ∧ Below w.heap.size w w' := by
  go_enter Tryd.func52, Tryd.ntmps52
  go_wp2
  all_goals (go_ret; exact ⟨ret_bool (by rw [Bool.eq_iff_iff]; simp [inB, *]; try omega), ((Below.refl _ _).alloc (Nat.le_refl _) _)⟩)
theorem q_global {C : CV} {p : PV} {w : World} {B : Nat} (h : PlaceAt w B C p) (n : Int) : Calls Tryd.prog 50 #[.agg #[.slice C.A0 C.n0 C.c0, .slice C.A1 C.n1 C.c1, .slice C.A2 C.n2 C.c2, .slice C.A3 C.n3 C.c3, .slice C.A4 C.n4 C.c4, .slice C.A5 C.n5 C.c5, .slice C.A6 C.n6 C.c6, .int .i64 p.regs, .slice p.A p.n p.c, .int .i64 p.loops, .slice p.A' p.n' p.c'], .int .i64 n] w fun e w' => e = .returned (.bool (globB C n)) ∧ Below w.heap.size w w' := by
  have hl1 := h.glob.2.1
  have e1 := h.glob.1
  unfold maxLen at hl1
  by_cases h0 : 0 ≤ n
  · obtain ⟨k, rfl⟩ : ∃ k : Nat, n = k := ⟨n.toNat, by omega⟩
    by_cases hk : k < C.n1
    · obtain ⟨b, o, hA, hb, x, hx, hc⟩ := h.glob.at hk
      have HR : Hid (globB C k = !x) := by
        unfold Hid globB at?
        rw [if_pos h0, Int.toNat_natCast, hx, show inB (k : Int) C.n1 = true by simp [inB]; omega]
        cases x <;> rfl
      have hbs : b < w.heap.size := Nat.lt_of_lt_of_le hb h.le
      clear hx e1 h
      rw [hA]
      go_enter Tryd.func50, Tryd.ntmps50
      go_wp2
      go_ret
      exact ⟨ret_bool HR.out.symm, ((Below.refl _ _).alloc (Nat.le_refl _) _)⟩
    · have HR : Hid (globB C k = false) := by
        unfold Hid globB
        rw [show inB (k : Int) C.n1 = false by simp [inB]; omega]
        rfl
      clear e1 h
      go_enter Tryd.func50, Tryd.ntmps50
      go_wp2
      go_ret
      exact ⟨ret_bool HR.out.symm, ((Below.refl _ _).alloc (Nat.le_refl _) _)⟩
  · have HR : Hid (globB C n = false) := by
      unfold Hid globB
      rw [show inB n C.n1 = false by simp [inB]; omega]
      rfl
    clear e1 h
    go_enter Tryd.func50, Tryd.ntmps50
    go_wp2
    go_ret
    exact ⟨ret_bool HR.out.symm, ((Below.refl _ _).alloc (Nat.le_refl _) _)⟩
set_option maxHeartbeats 2000000 in
theorem q_row (C : CV) (p : PV) (fr n : Int) (w : World) (hp : (Lit.int .i64 p.regs).wf = true) : Calls Tryd.prog 49 #[.agg #[.slice C.A0 C.n0 C.c0, .slice C.A1 C.n1 C.c1, .slice C.A2 C.n2 C.c2, .slice C.A3 C.n3 C.c3, .slice C.A4 C.n4 C.c4, .slice C.A5 C.n5 C.c5, .slice C.A6 C.n6 C.c6, .int .i64 p.regs, .slice p.A p.n p.c, .int .i64 p.loops, .slice p.A' p.n' p.c'], .int .i64 fr, .int .i64 n] w fun e w' => e = .returned (.bool (rowB p fr n)) ∧ Below w.heap.size w w' := by
  obtain ⟨r1, r2⟩ := i64_bd hp
  have HCE : Hid (∀ w2, Below (w.alloc (.cells #[.slice C.A0 C.n0 C.c0, .slice C.A1 C.n1 C.c1, .slice C.A2 C.n2 C.c2, .slice C.A3 C.n3 C.c3, .slice C.A4 C.n4 C.c4, .slice C.A5 C.n5 C.c5, .slice C.A6 C.n6 C.c6, .int .i64 p.regs, .slice p.A p.n p.c, .int .i64 p.loops, .slice p.A' p.n' p.c'] 63)).heap.size (w.alloc (.cells #[.slice C.A0 C.n0 C.c0, .slice C.A1 C.n1 C.c1, .slice C.A2 C.n2 C.c2, .slice C.A3 C.n3 C.c3, .slice C.A4 C.n4 C.c4, .slice C.A5 C.n5 C.c5, .slice C.A6 C.n6 C.c6, .int .i64 p.regs, .slice p.A p.n p.c, .int .i64 p.loops, .slice p.A' p.n' p.c'] 63)) w2 → w2.cell? ⟨w.heap.size, 7, none⟩ = some (.int .i64 p.regs)) := fun w2 hb => (hb.cell (p := ⟨w.heap.size, 7, none⟩) (by simp)).trans (by simp)
  cases hr : regB p fr
  · have HRR := Lib.hid hr
    have HR : Hid (rowB p fr n = false) := by unfold Hid rowB; rw [hr]; rfl
    clear hr
    go_enter Tryd.func49, Tryd.ntmps49
    go_wp2_with (((with_reducible refine (q_reg C p fr _).mono ?_); rintro e w2 ⟨rfl, hb2⟩; rw [HRR.out]; have HB2 := Lib.hid hb2; clear hb2))
    go_ret
    exact ⟨ret_bool HR.out.symm, Gr.trans ((Below.refl _ _).alloc (Nat.le_refl _) _) HB2.out⟩
  · have HRR := Lib.hid hr
    have HR : Hid (rowB p fr n = (decide (1 ≤ n) && decide (n ≤ p.regs - fr))) := by unfold Hid rowB; rw [hr]; rfl
    simp only [regB, inB, Bool.and_eq_true, decide_eq_true_eq] at hr
    obtain ⟨g1, g2⟩ := hr
    by_cases n1 : 1 ≤ n
    · by_cases n2 : n ≤ p.regs
      · have n3 : 0 ≤ p.regs - n := by omega
        go_enter Tryd.func49, Tryd.ntmps49
        go_wp2_with (((with_reducible refine (q_reg C p fr _).mono ?_); rintro e w2 ⟨rfl, hb2⟩; rw [HRR.out]; have hce := HCE.out _ hb2; have HB2 := Lib.hid hb2; clear hb2))
        all_goals (go_ret; exact ⟨ret_bool (by rw [HR.out, Bool.eq_iff_iff]; simp; try omega), Gr.trans ((Below.refl _ _).alloc (Nat.le_refl _) _) HB2.out⟩)
      · go_enter Tryd.func49, Tryd.ntmps49
        go_wp2_with (((with_reducible refine (q_reg C p fr _).mono ?_); rintro e w2 ⟨rfl, hb2⟩; rw [HRR.out]; have hce := HCE.out _ hb2; have HB2 := Lib.hid hb2; clear hb2))
        all_goals (go_ret; exact ⟨ret_bool (by rw [HR.out, Bool.eq_iff_iff]; simp; try omega), Gr.trans ((Below.refl _ _).alloc (Nat.le_refl _) _) HB2.out⟩)
    · go_enter Tryd.func49, Tryd.ntmps49
      go_wp2_with (((with_reducible refine (q_reg C p fr _).mono ?_); rintro e w2 ⟨rfl, hb2⟩; rw [HRR.out]; have hce := HCE.out _ hb2; have HB2 := Lib.hid hb2; clear hb2))
      all_goals (go_ret; exact ⟨ret_bool (by rw [HR.out, Bool.eq_iff_iff]; simp; try omega), Gr.trans ((Below.refl _ _).alloc (Nat.le_refl _) _) HB2.out⟩)
def Cod.NoHit (p : PV) (n : Int) (k : Nat) : Prop := ∀ j : Nat, j < k → ¬ (p.arrays[j]? = some true ∧ n = -1 - (j : Int))
set_option maxRecDepth 20000 in
set_option maxHeartbeats 2000000 in
theorem q_array {C : CV} {p : PV} {w : World} {B : Nat} (h : PlaceAt w B C p) (n : Int) (hn : (Lit.int .i64 n).wf = true) : Calls Tryd.prog 31 #[.agg #[.slice C.A0 C.n0 C.c0, .slice C.A1 C.n1 C.c1, .slice C.A2 C.n2 C.c2, .slice C.A3 C.n3 C.c3, .slice C.A4 C.n4 C.c4, .slice C.A5 C.n5 C.c5, .slice C.A6 C.n6 C.c6, .int .i64 p.regs, .slice p.A p.n p.c, .int .i64 p.loops, .slice p.A' p.n' p.c'], .int .i64 n] w fun e w' => e = .returned (.bool (arrB C p n)) ∧ Below w.heap.size w w' := by
  obtain ⟨n1, n2⟩ := i64_bd hn
  have hl1 := h.glob.2.1
  have hl2 := h.arr.2.1
  have e1 := h.glob.1
  have e2 := h.arr.1
  unfold maxLen at hl1 hl2
  by_cases h0 : 0 ≤ n
  · obtain ⟨k, rfl⟩ : ∃ k : Nat, n = k := ⟨n.toNat, by omega⟩
    by_cases hk : k < C.n1
    · obtain ⟨b, o, hA, hb, x, hx, hc⟩ := h.glob.at hk
      have HR : Hid (arrB C p k = x) := by
        unfold Hid arrB at?
        rw [if_pos h0, if_pos h0, Int.toNat_natCast, hx]
        cases x <;> rfl
      have hbs : b < w.heap.size := Nat.lt_of_lt_of_le hb h.le
      clear hx e1 e2 h
      rw [hA]
      go_enter Tryd.func31, Tryd.ntmps31
      go_wp2
      go_ret
      exact ⟨ret_bool HR.out.symm, ((Below.refl _ _).alloc (Nat.le_refl _) _)⟩
    · have HR : Hid (arrB C p k = false) := by
        unfold Hid arrB at?
        rw [if_pos h0, if_pos h0, Int.toNat_natCast, List.getElem?_eq_none (by omega)]
        rfl
      clear e1 e2 h
      go_enter Tryd.func31, Tryd.ntmps31
      go_wp2
      go_ret
      exact ⟨ret_bool HR.out.symm, ((Below.refl _ _).alloc (Nat.le_refl _) _)⟩
  · have hn0 : n < 0 := by omega
    have HP := Lib.hid h
    have HB := Lib.hid (BoxR.made h).cells
    have HN := Lib.hid h0
    clear e1 e2 h h0
    go_enter Tryd.func31, Tryd.ntmps31
    go_wp2_with fail
    go_loop [5] (fun i0 => ∃ k : Nat, k ≤ p.n ∧ i0 = .int .i64 k ∧ NoHit p n k) (fun i0 => p.n - (intOf i0).toNat)
    case atStart => exact ⟨0, Nat.zero_le _, rfl, fun j hj => by omega⟩
    case round =>
      obtain ⟨k, hk, rfl, hall⟩ := hrel
      have HALL := Lib.hid hall
      clear hall
      by_cases hlt : k < p.n
      · obtain ⟨b, o, hA, hb, x, hx, hc⟩ := HP.out.arr.at hlt
        have hbs : b < w.heap.size := Nat.lt_of_lt_of_le hb HP.out.le
        have hg1 : -9223372036854775808 ≤ -1 - (k : Int) := by omega
        have hg2 : -1 - (k : Int) ≤ 9223372036854775807 := by omega
        have HXX := Lib.hid hx
        clear hx
        by_cases hit : x = true ∧ n = -1 - (k : Int)
        · have HR : Hid (arrB C p n = true) := by
            unfold Hid arrB at?
            rw [if_neg (by omega), if_pos (by omega), show (-1 - n).toNat = k by omega, HXX.out, hit.1]
            rfl
          obtain ⟨rfl, hnk⟩ := hit
          have hnb : (n == -1 - (k : Int)) = true := by simpa using hnk
          clear hnk
          go_wp2
          all_goals (go_ret; exact ⟨ret_bool HR.out.symm, ((Below.refl _ _).alloc (Nat.le_refl _) _)⟩)
        · have HIT := Lib.hid hit
          cases x
          · clear hit
            go_wp2
            go_round
            case rel => exact ⟨k + 1, by omega, by go_num, fun j hj => by
              rcases Nat.lt_or_ge j k with h | h
              · exact HALL.out j h
              · obtain rfl : j = k := by omega
                rw [HXX.out]; rintro ⟨h, -⟩; cases h⟩
            case measure => simp [intOf]; omega
          · have hnk : ¬ n = -1 - (k : Int) := fun h => HIT.out ⟨rfl, h⟩
            have hnb : (n == -1 - (k : Int)) = false := by simpa using hnk
            have HNK := Lib.hid hnk
            clear hit hnk
            go_wp2
            go_round
            case rel => exact ⟨k + 1, by omega, by go_num, fun j hj => by
              rcases Nat.lt_or_ge j k with h | h
              · exact HALL.out j h
              · obtain rfl : j = k := by omega
                rintro ⟨-, h⟩; exact HNK.out h⟩
            case measure => simp [intOf]; omega
      · obtain rfl : k = p.n := by omega
        have HR : Hid (arrB C p n = false) := by
          unfold Hid arrB at?
          rw [if_neg (by omega), if_pos (by omega)]
          by_cases hj : (-1 - n).toNat < p.n
          · have := HALL.out _ hj
            cases hx : p.arrays[(-1 - n).toNat]? with
            | none => rfl
            | some x =>
              cases x
              · rfl
              · exact absurd ⟨hx, by omega⟩ this
          · rw [List.getElem?_eq_none (by rw [HP.out.arr.1]; omega)]
            rfl
        go_wp2
        go_ret
        exact ⟨ret_bool HR.out.symm, ((Below.refl _ _).alloc (Nat.le_refl _) _)⟩
set_option maxRecDepth 20000 in
set_option maxHeartbeats 2000000 in
theorem q_all {C : CV} {p : PV} {w : World} {B : Nat} (h : PlaceAt w B C p) (A : Option Addr) (n cap : Nat) (l : List Int) (hl : Ints w B A n l) :
    Calls Tryd.prog 33 #[.agg #[.slice C.A0 C.n0 C.c0, .slice C.A1 C.n1 C.c1, .slice C.A2 C.n2 C.c2, .slice C.A3 C.n3 C.c3, .slice C.A4 C.n4 C.c4, .slice C.A5 C.n5 C.c5, .slice C.A6 C.n6 C.c6, .int .i64 p.regs, .slice p.A p.n p.c, .int .i64 p.loops, .slice p.A' p.n' p.c'], .slice A n cap] w fun e w' => e = .returned (.bool (allB p l)) ∧ Below w.heap.size w w' := by
  have HX := Lib.hid (BoxR.made h)
  have HL := Lib.hid (hl.keep h.le ((Below.refl _ _).alloc (Nat.le_refl _) (.cells #[.slice C.A0 C.n0 C.c0, .slice C.A1 C.n1 C.c1, .slice C.A2 C.n2 C.c2, .slice C.A3 C.n3 C.c3, .slice C.A4 C.n4 C.c4, .slice C.A5 C.n5 C.c5, .slice C.A6 C.n6 C.c6, .int .i64 p.regs, .slice p.A p.n p.c, .int .i64 p.loops, .slice p.A' p.n' p.c'] 63)))
  have hm := hl.2.1
  unfold maxLen at hm
  have HW : Hid (Below w.heap.size w (w.alloc (.cells #[.slice C.A0 C.n0 C.c0, .slice C.A1 C.n1 C.c1, .slice C.A2 C.n2 C.c2, .slice C.A3 C.n3 C.c3, .slice C.A4 C.n4 C.c4, .slice C.A5 C.n5 C.c5, .slice C.A6 C.n6 C.c6, .int .i64 p.regs, .slice p.A p.n p.c, .int .i64 p.loops, .slice p.A' p.n' p.c'] 63))) := ((Below.refl _ _).alloc (Nat.le_refl _) _)
  clear h hl
  go_enter Tryd.func33, Tryd.ntmps33
  go_wp2_with fail
  go_loopw [5] (fun i wr => ∃ k : Nat, k ≤ n ∧ i = .int .i64 k ∧ allB p (l.take k) = true ∧ Below w.heap.size w wr ∧ BoxR wr w.heap.size B C p ∧ Ints wr B A n l) (fun i wr => n - (intOf i).toNat)
  case atStart => exact ⟨0, Nat.zero_le _, rfl, rfl, HW.out, HX.out, HL.out⟩
  case round =>
    obtain ⟨k, hk, rfl, hall, hb, hX2, hL2⟩ := hrel
    have HAL := Lib.hid hall
    have HX2 := Lib.hid (hX2.keep (Below.refl _ _).drew)
    have HL2 := Lib.hid hL2
    have HW2 := Lib.hid (Gr.trans hb (Below.refl _ _).drew)
    have hcs := HX2.out.cells
    clear hall hX2 hL2
    by_cases hlt : k < n
    · obtain ⟨c, o, hA, hc, x, hx, hwf, hcell⟩ := (HL2.out.keep (by have := HX2.out.at_.le; simpa using this) (Below.refl _ _).drew).at hlt
      have HXX := Lib.hid hx
      have HT : Hid (allB p (l.take (k + 1)) = regB p x) := by
        unfold Hid allB
        rw [List.take_add_one, hx, List.all_append, show (l.take k).all (regB p) = true from HAL.out]
        simp
      clear hx
      cases hr : regB p x
      · have HR := Lib.hid hr
        have HALL : Hid (allB p l = false) := by
          unfold Hid allB
          rw [List.all_eq_false]
          exact ⟨x, List.mem_of_getElem? HXX.out, by rw [hr]; decide⟩
        clear hr
        go_wp2_with fail
        refine wp_region_segs [5] (by kernel_rfl) (by kernel_rfl) ?_
        (refine seg_step (fun K hK => ?_); simp only [List.take_succ_cons, List.take_zero, List.drop_succ_cons, List.drop_zero]; (repeat still_step); refine wpStill_nil ?_)
        go_wp2_with (((with_reducible refine (q_reg C p x _).mono ?_); rintro e w2 ⟨rfl, hb2⟩; rw [HR.out]))
        (refine seg_done ?_; simp only [List.drop_succ_cons, List.drop_zero]; go_wp2_with fail)
        go_ret
        exact ⟨ret_bool HALL.out.symm, Gr.trans HW2.out hb2⟩
      · have HR := Lib.hid hr
        rw [hr] at HT
        clear hr
        go_wp2_with fail
        refine wp_region_segs [5] (by kernel_rfl) (by kernel_rfl) ?_
        (refine seg_step (fun K hK => ?_); simp only [List.take_succ_cons, List.take_zero, List.drop_succ_cons, List.drop_zero]; (repeat still_step); refine wpStill_nil ?_)
        go_wp2_with (((with_reducible refine (q_reg C p x _).mono ?_); rintro e w2 ⟨rfl, hb2⟩; rw [HR.out]))
        (refine seg_done ?_; simp only [List.drop_succ_cons, List.drop_zero]; go_wp2_with fail)
        rw [← hA]
        go_roundw
        case rel => exact ⟨k + 1, by omega, by go_num, HT.out, Gr.trans HW2.out hb2, HX2.out.keep hb2, (HL2.out.keep (by have := HX2.out.at_.le; simpa using this) (Below.refl _ _).drew).keep HX2.out.at_.le hb2⟩
        case measure => simp [intOf]; omega
    · obtain rfl : k = n := by omega
      go_wp2_with fail
      go_ret
      exact ⟨ret_bool (by have := HAL.out; rw [List.take_of_length_le (by rw [HL2.out.1]; exact Nat.le_refl _)] at this; exact this.symm), hb⟩
end Go.Proofs.YtankpckkiikmaaaDoor
namespace Go.Proofs.YtankpckkiikmaaaDoor
open Go.RowKit Cod
set_option maxHeartbeats 1000000 in
theorem q_has (w : World) (B : Nat) (A : Option Addr) (n cap : Nat) (xs : List ByteArray) (x : ByteArray) (hx : Strs w B A n xs) (hn : n ≤ 1000) :
    Calls Tryd.prog 28 #[.string x, .slice A n cap] w fun e w' => e = .returned (.bool (Lib.containsS xs x)) ∧ w = w' := by
  have HX := Lib.hid hx
  clear hx
  go_enter Tryd.func28, Tryd.ntmps28
  go_wp2_with fail
  go_loop [5] (fun i => ∃ k : Nat, k ≤ n ∧ i = .int .i64 k ∧ ∀ j, (hj : j < xs.length) → j < k → xs[j] ≠ x) (fun i => n - (intOf i).toNat)
  case atStart => exact ⟨0, Nat.zero_le _, rfl, fun j _ h => by omega⟩
  case round =>
    obtain ⟨k, hk, rfl, hno⟩ := hrel
    have HNO := Lib.hid hno
    clear hno
    by_cases hlt : k < n
    · obtain ⟨b, o, rfl, hbB, hcx⟩ := HX.out.2 (by omega)
      have hx1 : k < xs.length := by rw [HX.out.1]; exact hlt
      have c1 := hcx k hx1
      clear hcx
      by_cases he : xs[k] = x
      · have hd : Lib.containsS xs x = true := (Lib.containsS_iff _ _).2 (by rw [← he]; exact List.getElem_mem _)
        have hq : (x.toList == x.toList) = true := by simp
        rw [he] at c1
        have HD := Lib.hid hd
        clear hd HNO
        go_wp2_with fail
        go_ret
        exact ⟨ret_bool (by rw [HD.out]), rfl⟩
      · have hq : ((xs[k]).toList == x.toList) = false := by rw [tolist_beq]; exact decide_eq_false fun e => he (bytes_ext e)
        have HE := Lib.hid he
        clear he
        go_wp2_with fail
        go_round
        case rel => exact ⟨k + 1, by omega, by go_num, fun j hj h => by
          rcases Nat.lt_or_ge j k with h | h
          · exact HNO.out j hj h
          · obtain rfl : j = k := by omega
            exact HE.out⟩
        case measure => simp [intOf]; omega
    · have hd : Lib.containsS xs x = false := Bool.eq_false_iff.2 fun hm' => by
        have hm := (Lib.containsS_iff _ _).1 hm'
        obtain ⟨j, hj, e⟩ := List.mem_iff_getElem.1 hm
        exact HNO.out j hj (by have := HX.out.1; omega) e
      have HD := Lib.hid hd
      clear hd
      go_wp2_with fail
      go_ret
      exact ⟨ret_bool (by rw [HD.out]), rfl⟩
def FindPost (x : Bool) (w : World) (e : Ending) (w' : World) : Prop := ∃ r : Int, e = .returned (.int .i64 r) ∧ decide (0 ≤ r) = x ∧ w = w'
set_option maxHeartbeats 1000000 in
theorem q_find (w : World) (B : Nat) (A : Option Addr) (n cap : Nat) (xs : List ByteArray) (x : ByteArray) (hx : Strs w B A n xs) (hn : n ≤ 1000) :
    Calls Tryd.prog 47 #[.slice A n cap, .string x] w (FindPost (Lib.containsS xs x) w) := by
  have HX := Lib.hid hx
  clear hx
  go_enter Tryd.func47, Tryd.ntmps47
  go_wp2_with fail
  go_loop [5] (fun i => ∃ k : Nat, k ≤ n ∧ i = .int .i64 k ∧ ∀ j, (hj : j < xs.length) → j < k → xs[j] ≠ x) (fun i => n - (intOf i).toNat)
  case atStart => exact ⟨0, Nat.zero_le _, rfl, fun j _ h => by omega⟩
  case round =>
    obtain ⟨k, hk, rfl, hno⟩ := hrel
    have HNO := Lib.hid hno
    clear hno
    by_cases hlt : k < n
    · obtain ⟨b, o, rfl, hbB, hcx⟩ := HX.out.2 (by omega)
      have hx1 : k < xs.length := by rw [HX.out.1]; exact hlt
      have c1 := hcx k hx1
      clear hcx
      by_cases he : xs[k] = x
      · have hd : Lib.containsS xs x = true := (Lib.containsS_iff _ _).2 (by rw [← he]; exact List.getElem_mem _)
        have hq : (x.toList == x.toList) = true := by simp
        rw [he] at c1
        have HD := Lib.hid hd
        clear hd HNO
        go_wp2_with fail
        go_ret
        exact ⟨k, rfl, by rw [HD.out]; simp, rfl⟩
      · have hq : ((xs[k]).toList == x.toList) = false := by rw [tolist_beq]; exact decide_eq_false fun e => he (bytes_ext e)
        have HE := Lib.hid he
        clear he
        go_wp2_with fail
        go_round
        case rel => exact ⟨k + 1, by omega, by go_num, fun j hj h => by
          rcases Nat.lt_or_ge j k with h | h
          · exact HNO.out j hj h
          · obtain rfl : j = k := by omega
            exact HE.out⟩
        case measure => simp [intOf]; omega
    · have hd : Lib.containsS xs x = false := Bool.eq_false_iff.2 fun hm' => by
        have hm := (Lib.containsS_iff _ _).1 hm'
        obtain ⟨j, hj, e⟩ := List.mem_iff_getElem.1 hm
        exact HNO.out j hj (by have := HX.out.1; omega) e
      have HD := Lib.hid hd
      clear hd
      go_wp2_with fail
      go_ret
      exact ⟨-1, rfl, by rw [HD.out]; simp, rfl⟩
theorem q_specials (w : World) : Calls Tryd.prog 48 #[] w fun e w' => e = .returned (.slice (some ⟨w.heap.size, 0, none⟩) 13 13) ∧ w' = w.alloc (.cells (svals specS).toArray 9) := by
  go_enter Tryd.func48, Tryd.ntmps48
  go_wp2_with fail
  go_ret
  exact ⟨rfl, rfl⟩
theorem q_special (s : ByteArray) (w : World) : Calls Tryd.prog 27 #[.string s] w fun e w' => e = .returned (.bool (specB s)) ∧ Below w.heap.size w w' := by
  have HS := Lib.hid (Strs.lit w 9 specS)
  go_enter Tryd.func27, Tryd.ntmps27
  go_wp2_with fail
  refine (q_specials w).mono ?_
  rintro e w2 ⟨rfl, rfl⟩
  go_wp2_with fail
  refine (q_find _ _ _ _ _ _ s HS.out (by decide)).mono ?_
  rintro e w2 ⟨r, rfl, hr, rfl⟩
  have HR := Lib.hid hr
  clear hr
  go_wp2_with fail
  all_goals (go_ret; exact ⟨ret_bool (by unfold specB; rw [← HR.out] <;> simp [*]), ((Below.refl _ _).alloc (Nat.le_refl _) _)⟩)
/-- Two boxes: of a place and of an instruction. -/
structure BoxI (W : World) (b c : Nat) (B : Nat) (C : CV) (p : PV) (i : IV) : Prop where
  pl : W.heap[b]? = some (.cells #[.slice C.A0 C.n0 C.c0, .slice C.A1 C.n1 C.c1, .slice C.A2 C.n2 C.c2, .slice C.A3 C.n3 C.c3, .slice C.A4 C.n4 C.c4, .slice C.A5 C.n5 C.c5, .slice C.A6 C.n6 C.c6, .int .i64 p.regs, .slice p.A p.n p.c, .int .i64 p.loops, .slice p.A' p.n' p.c'] 63 (0, 0))
  il : W.heap[c]? = some (.cells #[.int .u8 i.op, .int .i64 i.a, .int .i64 i.b, .int .i64 i.c, .string i.s, .slice i.A i.n i.cap] 31 (0, 0))
  at_ : PlaceAt W B C p
theorem BoxI.keep {W W' : World} {b c B : Nat} {C : CV} {p : PV} {i : IV} (h : BoxI W b c B C p i) (hb : Below W.heap.size W W') : BoxI W' b c B C p i :=
  ⟨(hb.block b (Array.getElem?_eq_some_iff.1 h.pl).1).trans h.pl, (hb.block c (Array.getElem?_eq_some_iff.1 h.il).1).trans h.il, h.at_.keep hb⟩
theorem BoxI.drew {W : World} {b c B : Nat} {C : CV} {p : PV} {i : IV} (h : BoxI W b c B C p i) : BoxI W.drew b c B C p i := h.keep (Below.refl _ _).drew
theorem BoxI.made {w : World} {B : Nat} {C : CV} {p : PV} (i : IV) (h : PlaceAt w B C p) : BoxI ((w.alloc (.cells #[.slice C.A0 C.n0 C.c0, .slice C.A1 C.n1 C.c1, .slice C.A2 C.n2 C.c2, .slice C.A3 C.n3 C.c3, .slice C.A4 C.n4 C.c4, .slice C.A5 C.n5 C.c5, .slice C.A6 C.n6 C.c6, .int .i64 p.regs, .slice p.A p.n p.c, .int .i64 p.loops, .slice p.A' p.n' p.c'] 63)).alloc (.cells #[.int .u8 i.op, .int .i64 i.a, .int .i64 i.b, .int .i64 i.c, .string i.s, .slice i.A i.n i.cap] 31)) w.heap.size (w.heap.size + 1) B C p i := by
  refine ⟨?_, ?_, h.keep (((Below.refl _ _).alloc (Nat.le_refl _) _).alloc (by simp) _)⟩
  · rw [(MapKept.heap_alloc _ _).2 _ (by simp), (MapKept.heap_alloc w _).1]
  · have := (MapKept.heap_alloc (w.alloc (.cells #[.slice C.A0 C.n0 C.c0, .slice C.A1 C.n1 C.c1, .slice C.A2 C.n2 C.c2, .slice C.A3 C.n3 C.c3, .slice C.A4 C.n4 C.c4, .slice C.A5 C.n5 C.c5, .slice C.A6 C.n6 C.c6, .int .i64 p.regs, .slice p.A p.n p.c, .int .i64 p.loops, .slice p.A' p.n' p.c'] 63)) (.cells #[.int .u8 i.op, .int .i64 i.a, .int .i64 i.b, .int .i64 i.c, .string i.s, .slice i.A i.n i.cap] 31)).1
    rwa [World.size_alloc] at this
theorem BoxI.all {w w' : World} {B : Nat} {C : CV} {p : PV} {i : IV} (h : BoxI w' w.heap.size (w.heap.size + 1) B C p i) : w'.cell? ⟨w.heap.size, 0, none⟩ = some (.slice C.A0 C.n0 C.c0) ∧ w'.cell? ⟨w.heap.size, 1, none⟩ = some (.slice C.A1 C.n1 C.c1) ∧ w'.cell? ⟨w.heap.size, 2, none⟩ = some (.slice C.A2 C.n2 C.c2) ∧ w'.cell? ⟨w.heap.size, 3, none⟩ = some (.slice C.A3 C.n3 C.c3) ∧ w'.cell? ⟨w.heap.size, 4, none⟩ = some (.slice C.A4 C.n4 C.c4) ∧ w'.cell? ⟨w.heap.size, 5, none⟩ = some (.slice C.A5 C.n5 C.c5) ∧ w'.cell? ⟨w.heap.size, 6, none⟩ = some (.slice C.A6 C.n6 C.c6) ∧ w'.cell? ⟨w.heap.size, 7, none⟩ = some (.int .i64 p.regs) ∧ w'.cell? ⟨w.heap.size, 8, none⟩ = some (.slice p.A p.n p.c) ∧ w'.cell? ⟨w.heap.size, 9, none⟩ = some (.int .i64 p.loops) ∧ w'.cell? ⟨w.heap.size, 10, none⟩ = some (.slice p.A' p.n' p.c') ∧ w'.cell? ⟨w.heap.size + 1, 0, none⟩ = some (.int .u8 i.op) ∧ w'.cell? ⟨w.heap.size + 1, 1, none⟩ = some (.int .i64 i.a) ∧ w'.cell? ⟨w.heap.size + 1, 2, none⟩ = some (.int .i64 i.b) ∧ w'.cell? ⟨w.heap.size + 1, 3, none⟩ = some (.int .i64 i.c) ∧ w'.cell? ⟨w.heap.size + 1, 4, none⟩ = some (.string i.s) ∧ w'.cell? ⟨w.heap.size + 1, 5, none⟩ = some (.slice i.A i.n i.cap) := by
  have h1 := pcells h.pl
  have h2 := icells h.il
  have := And.intro h1 h2
  simp only [and_assoc] at this
  exact this
theorem enterI (w : World) (C : CV) (p : PV) (i : IV) : Below w.heap.size w ((w.alloc (.cells #[.slice C.A0 C.n0 C.c0, .slice C.A1 C.n1 C.c1, .slice C.A2 C.n2 C.c2, .slice C.A3 C.n3 C.c3, .slice C.A4 C.n4 C.c4, .slice C.A5 C.n5 C.c5, .slice C.A6 C.n6 C.c6, .int .i64 p.regs, .slice p.A p.n p.c, .int .i64 p.loops, .slice p.A' p.n' p.c'] 63)).alloc (.cells #[.int .u8 i.op, .int .i64 i.a, .int .i64 i.b, .int .i64 i.c, .string i.s, .slice i.A i.n i.cap] 31)) := ((Below.refl _ _).alloc (Nat.le_refl _) _).alloc (by simp) _
set_option maxRecDepth 20000 in
set_option maxHeartbeats 4000000 in
theorem q_io29 {C : CV} {p : PV} {w : World} {B : Nat} (h : PlaceAt w B C p) (i : IV) (hi : IOk i) (hl : Ints w B i.A i.n i.args) (o29 : (i.op == 29) = true) :
    Calls Tryd.prog 34 #[.agg #[.slice C.A0 C.n0 C.c0, .slice C.A1 C.n1 C.c1, .slice C.A2 C.n2 C.c2, .slice C.A3 C.n3 C.c3, .slice C.A4 C.n4 C.c4, .slice C.A5 C.n5 C.c5, .slice C.A6 C.n6 C.c6, .int .i64 p.regs, .slice p.A p.n p.c, .int .i64 p.loops, .slice p.A' p.n' p.c'], .agg #[.int .u8 i.op, .int .i64 i.a, .int .i64 i.b, .int .i64 i.c, .string i.s, .slice i.A i.n i.cap]] w fun e w' => e = .returned (.bool (getlB p i)) ∧ Below w.heap.size w w' := by
  have HX := Lib.hid (BoxI.made i h)
  have HW := Lib.hid (enterI w C p i)
  have HP := Lib.hid h
  have hln := hl.2.1
  have HL := Lib.hid hl
  have HLE := Lib.hid h.le
  obtain ⟨a1, a2⟩ := i64_bd hi.a
  obtain ⟨b1, b2⟩ := i64_bd hi.b
  obtain ⟨c1, c2⟩ := i64_bd hi.c
  unfold maxLen at hln
  clear h hl
  cases hra : regB p i.a
  all_goals cases hrb : allB p i.args
  all_goals
    have HRA := Lib.hid hra
    have HRB := Lib.hid hrb
    have HR : Hid (getlB p i = (regB p i.a && (decide (1 ≤ i.b) && (decide (i.b ≤ 3) && (decide (i.n ≤ 1) && (allB p i.args && (decide (i.b = 1) && decide (i.c = -1) || decide (1 < i.b) && regB p i.c))))))) := rfl
    rw [hra, hrb] at HR
    clear hra hrb
    go_enter Tryd.func34, Tryd.ntmps34
    go_wp2_with (first | ((with_reducible refine (q_reg C p i.a _).mono ?_); rintro e w2 ⟨rfl, hb2⟩; have HX2 := Lib.hid (HX.out.keep hb2); have HW2 := Lib.hid (Gr.trans HW.out hb2); have hall2 := HX2.out.all; clear hb2; rw [HRA.out]) | ((with_reducible refine (q_all HX2.out.at_ _ _ _ _ (HL.out.keep HLE.out HW2.out)).mono ?_); rintro e w3 ⟨rfl, hb3⟩; have HX3 := Lib.hid (HX2.out.keep hb3); have HW3 := Lib.hid (Gr.trans HW2.out hb3); have hall3 := HX3.out.all; clear hb3; rw [HRB.out]) | ((with_reducible refine (q_reg C p i.c _).mono ?_); rintro e w4 ⟨rfl, hb4⟩; have HX4 := Lib.hid (HX3.out.keep hb4); have HW4 := Lib.hid (Gr.trans HW3.out hb4); have hall4 := HX4.out.all; clear hb4))
    all_goals (go_ret; exact ⟨ret_bool (by rw [HR.out]; (try unfold bitB); (try generalize regB p i.c = z0); cases z0 <;> rw [Bool.eq_iff_iff] <;> simp <;> omega), by first | exact HW4.out | exact HW3.out | exact HW2.out⟩)
set_option maxRecDepth 20000 in
set_option maxHeartbeats 4000000 in
theorem q_io30 {C : CV} {p : PV} {w : World} {B : Nat} (h : PlaceAt w B C p) (i : IV) (hi : IOk i) (hl : Ints w B i.A i.n i.args) (o29 : (i.op == 29) = false) :
    Calls Tryd.prog 34 #[.agg #[.slice C.A0 C.n0 C.c0, .slice C.A1 C.n1 C.c1, .slice C.A2 C.n2 C.c2, .slice C.A3 C.n3 C.c3, .slice C.A4 C.n4 C.c4, .slice C.A5 C.n5 C.c5, .slice C.A6 C.n6 C.c6, .int .i64 p.regs, .slice p.A p.n p.c, .int .i64 p.loops, .slice p.A' p.n' p.c'], .agg #[.int .u8 i.op, .int .i64 i.a, .int .i64 i.b, .int .i64 i.c, .string i.s, .slice i.A i.n i.cap]] w fun e w' => e = .returned (.bool (printB p i)) ∧ Below w.heap.size w w' := by
  have HX := Lib.hid (BoxI.made i h)
  have HW := Lib.hid (enterI w C p i)
  have HP := Lib.hid h
  have hln := hl.2.1
  have HL := Lib.hid hl
  have HLE := Lib.hid h.le
  obtain ⟨a1, a2⟩ := i64_bd hi.a
  obtain ⟨b1, b2⟩ := i64_bd hi.b
  obtain ⟨c1, c2⟩ := i64_bd hi.c
  unfold maxLen at hln
  clear h hl
  cases hrb : allB p i.args
  all_goals
    have HRB := Lib.hid hrb
    have hall := HX.out.all
    have HR : Hid (printB p i = (decide (0 ≤ i.a) && (decide (i.a ≤ 3) && (bitB i.c && (decide (i.c ≤ i.n) && (allB p i.args && (decide (i.a = 0) && decide (i.b = -1) || decide (0 < i.a) && regB p i.b))))))) := rfl
    rw [hrb] at HR
    clear hrb
    cases hz : ((i.n : Int) == 0)
    all_goals
     have hz' := hz
     simp only [beq_eq_false_iff_ne, beq_iff_eq, ne_eq] at hz'
     go_enter Tryd.func34, Tryd.ntmps34
     go_wp2_with (first | ((with_reducible refine (q_all HX.out.at_ _ _ _ _ (HL.out.keep HLE.out HW.out)).mono ?_); rintro e w3 ⟨rfl, hb3⟩; have HX3 := Lib.hid (HX.out.keep hb3); have HW3 := Lib.hid (Gr.trans HW.out hb3); have hall3 := HX3.out.all; clear hb3; rw [HRB.out]) | ((with_reducible refine (q_reg C p i.b _).mono ?_); rintro e w4 ⟨rfl, hb4⟩; have HX4 := Lib.hid (HX3.out.keep hb4); have HW4 := Lib.hid (Gr.trans HW3.out hb4); have hall4 := HX4.out.all; clear hb4))
     all_goals (go_ret; exact ⟨ret_bool (by rw [HR.out]; (try unfold bitB); (try generalize regB p i.b = z0); cases z0 <;> rw [Bool.eq_iff_iff] <;> simp <;> omega), by first | exact HW4.out | exact HW3.out | exact HW.out⟩)
end Go.Proofs.YtankpckkiikmaaaDoor
namespace Go.Proofs.YtankpckkiikmaaaDoor
open Go.RowKit Cod
set_option maxRecDepth 20000 in
set_option maxHeartbeats 4000000 in
theorem q_arrays_10 {C : CV} {p : PV} {w : World} {B : Nat} (h : PlaceAt w B C p) (i : IV) (hi : IOk i) (ho : i.op = 10) :
    Calls Tryd.prog 51 #[.agg #[.slice C.A0 C.n0 C.c0, .slice C.A1 C.n1 C.c1, .slice C.A2 C.n2 C.c2, .slice C.A3 C.n3 C.c3, .slice C.A4 C.n4 C.c4, .slice C.A5 C.n5 C.c5, .slice C.A6 C.n6 C.c6, .int .i64 p.regs, .slice p.A p.n p.c, .int .i64 p.loops, .slice p.A' p.n' p.c'], .agg #[.int .u8 i.op, .int .i64 i.a, .int .i64 i.b, .int .i64 i.c, .string i.s, .slice i.A i.n i.cap]] w fun e w' => e = .returned (.bool (abcB C p [114, 120, 114] i)) ∧ Below w.heap.size w w' := by
  have HX := Lib.hid (BoxI.made i h)
  have HW := Lib.hid (enterI w C p i)
  have hall := True.intro
  have hn0 := h.n0
  have hn' := h.n'
  unfold maxLen at hn0 hn'
  obtain ⟨a1, a2⟩ := i64_bd hi.a
  obtain ⟨b1, b2⟩ := i64_bd hi.b
  obtain ⟨c1, c2⟩ := i64_bd hi.c
  have HR : Hid (abcB C p [114, 120, 114] i = (regB p i.a && (arrB C p i.b && (regB p i.c)))) := rfl
  clear h
  have o10 : (i.op == 10) = true := by rw [ho]; rfl
  have o11 : (i.op == 11) = false := by rw [ho]; rfl
  have o12 : (i.op == 12) = false := by rw [ho]; rfl
  have o13 : (i.op == 13) = false := by rw [ho]; rfl
  have o14 : (i.op == 14) = false := by rw [ho]; rfl
  have o15 : (i.op == 15) = false := by rw [ho]; rfl
  clear ho
  (go_enter Tryd.func51, Tryd.ntmps51; go_wp2_with (first | ((with_reducible refine (q_reg C p i.a _).mono ?_); rintro e w2 ⟨rfl, hb2⟩; have HX2 := Lib.hid (HX.out.keep hb2); have HW2 := Lib.hid (Gr.trans HW.out hb2); have hall2 := HX2.out.all; clear hb2) | ((with_reducible refine (q_array HX2.out.at_ i.b hi.b).mono ?_); rintro e w3 ⟨rfl, hb3⟩; have HX3 := Lib.hid (HX2.out.keep hb3); have HW3 := Lib.hid (Gr.trans HW2.out hb3); have hall3 := HX3.out.all; clear hb3) | ((with_reducible refine (q_reg C p i.c _).mono ?_); rintro e w4 ⟨rfl, hb4⟩; have HX4 := Lib.hid (HX3.out.keep hb4); have HW4 := Lib.hid (Gr.trans HW3.out hb4); have hall4 := HX4.out.all; clear hb4)))
  all_goals (go_ret; exact ⟨ret_bool (by rw [HR.out]; simp [inB, *] <;> omega), by first | exact HW4.out | exact HW3.out | exact HW2.out | exact HW.out⟩)
set_option maxRecDepth 20000 in
set_option maxHeartbeats 4000000 in
theorem q_arrays_11 {C : CV} {p : PV} {w : World} {B : Nat} (h : PlaceAt w B C p) (i : IV) (hi : IOk i) (ho : i.op = 11) :
    Calls Tryd.prog 51 #[.agg #[.slice C.A0 C.n0 C.c0, .slice C.A1 C.n1 C.c1, .slice C.A2 C.n2 C.c2, .slice C.A3 C.n3 C.c3, .slice C.A4 C.n4 C.c4, .slice C.A5 C.n5 C.c5, .slice C.A6 C.n6 C.c6, .int .i64 p.regs, .slice p.A p.n p.c, .int .i64 p.loops, .slice p.A' p.n' p.c'], .agg #[.int .u8 i.op, .int .i64 i.a, .int .i64 i.b, .int .i64 i.c, .string i.s, .slice i.A i.n i.cap]] w fun e w' => e = .returned (.bool (abcB C p [114, 120, 114] i)) ∧ Below w.heap.size w w' := by
  have HX := Lib.hid (BoxI.made i h)
  have HW := Lib.hid (enterI w C p i)
  have hall := True.intro
  have hn0 := h.n0
  have hn' := h.n'
  unfold maxLen at hn0 hn'
  obtain ⟨a1, a2⟩ := i64_bd hi.a
  obtain ⟨b1, b2⟩ := i64_bd hi.b
  obtain ⟨c1, c2⟩ := i64_bd hi.c
  have HR : Hid (abcB C p [114, 120, 114] i = (regB p i.a && (arrB C p i.b && (regB p i.c)))) := rfl
  clear h
  have o10 : (i.op == 10) = false := by rw [ho]; rfl
  have o11 : (i.op == 11) = true := by rw [ho]; rfl
  have o12 : (i.op == 12) = false := by rw [ho]; rfl
  have o13 : (i.op == 13) = false := by rw [ho]; rfl
  have o14 : (i.op == 14) = false := by rw [ho]; rfl
  have o15 : (i.op == 15) = false := by rw [ho]; rfl
  clear ho
  (go_enter Tryd.func51, Tryd.ntmps51; go_wp2_with (first | ((with_reducible refine (q_reg C p i.a _).mono ?_); rintro e w2 ⟨rfl, hb2⟩; have HX2 := Lib.hid (HX.out.keep hb2); have HW2 := Lib.hid (Gr.trans HW.out hb2); have hall2 := HX2.out.all; clear hb2) | ((with_reducible refine (q_array HX2.out.at_ i.b hi.b).mono ?_); rintro e w3 ⟨rfl, hb3⟩; have HX3 := Lib.hid (HX2.out.keep hb3); have HW3 := Lib.hid (Gr.trans HW2.out hb3); have hall3 := HX3.out.all; clear hb3) | ((with_reducible refine (q_reg C p i.c _).mono ?_); rintro e w4 ⟨rfl, hb4⟩; have HX4 := Lib.hid (HX3.out.keep hb4); have HW4 := Lib.hid (Gr.trans HW3.out hb4); have hall4 := HX4.out.all; clear hb4)))
  all_goals (go_ret; exact ⟨ret_bool (by rw [HR.out]; simp [inB, *] <;> omega), by first | exact HW4.out | exact HW3.out | exact HW2.out | exact HW.out⟩)
set_option maxRecDepth 20000 in
set_option maxHeartbeats 4000000 in
theorem q_arrays_12 {C : CV} {p : PV} {w : World} {B : Nat} (h : PlaceAt w B C p) (i : IV) (hi : IOk i) (ho : i.op = 12) :
    Calls Tryd.prog 51 #[.agg #[.slice C.A0 C.n0 C.c0, .slice C.A1 C.n1 C.c1, .slice C.A2 C.n2 C.c2, .slice C.A3 C.n3 C.c3, .slice C.A4 C.n4 C.c4, .slice C.A5 C.n5 C.c5, .slice C.A6 C.n6 C.c6, .int .i64 p.regs, .slice p.A p.n p.c, .int .i64 p.loops, .slice p.A' p.n' p.c'], .agg #[.int .u8 i.op, .int .i64 i.a, .int .i64 i.b, .int .i64 i.c, .string i.s, .slice i.A i.n i.cap]] w fun e w' => e = .returned (.bool (abcB C p [114, 120, 114] i)) ∧ Below w.heap.size w w' := by
  have HX := Lib.hid (BoxI.made i h)
  have HW := Lib.hid (enterI w C p i)
  have hall := True.intro
  have hn0 := h.n0
  have hn' := h.n'
  unfold maxLen at hn0 hn'
  obtain ⟨a1, a2⟩ := i64_bd hi.a
  obtain ⟨b1, b2⟩ := i64_bd hi.b
  obtain ⟨c1, c2⟩ := i64_bd hi.c
  have HR : Hid (abcB C p [114, 120, 114] i = (regB p i.a && (arrB C p i.b && (regB p i.c)))) := rfl
  clear h
  have o10 : (i.op == 10) = false := by rw [ho]; rfl
  have o11 : (i.op == 11) = false := by rw [ho]; rfl
  have o12 : (i.op == 12) = true := by rw [ho]; rfl
  have o13 : (i.op == 13) = false := by rw [ho]; rfl
  have o14 : (i.op == 14) = false := by rw [ho]; rfl
  have o15 : (i.op == 15) = false := by rw [ho]; rfl
  clear ho
  (go_enter Tryd.func51, Tryd.ntmps51; go_wp2_with (first | ((with_reducible refine (q_reg C p i.a _).mono ?_); rintro e w2 ⟨rfl, hb2⟩; have HX2 := Lib.hid (HX.out.keep hb2); have HW2 := Lib.hid (Gr.trans HW.out hb2); have hall2 := HX2.out.all; clear hb2) | ((with_reducible refine (q_array HX2.out.at_ i.b hi.b).mono ?_); rintro e w3 ⟨rfl, hb3⟩; have HX3 := Lib.hid (HX2.out.keep hb3); have HW3 := Lib.hid (Gr.trans HW2.out hb3); have hall3 := HX3.out.all; clear hb3) | ((with_reducible refine (q_reg C p i.c _).mono ?_); rintro e w4 ⟨rfl, hb4⟩; have HX4 := Lib.hid (HX3.out.keep hb4); have HW4 := Lib.hid (Gr.trans HW3.out hb4); have hall4 := HX4.out.all; clear hb4)))
  all_goals (go_ret; exact ⟨ret_bool (by rw [HR.out]; simp [inB, *] <;> omega), by first | exact HW4.out | exact HW3.out | exact HW2.out | exact HW.out⟩)
set_option maxRecDepth 20000 in
set_option maxHeartbeats 4000000 in
theorem q_arrays_13 {C : CV} {p : PV} {w : World} {B : Nat} (h : PlaceAt w B C p) (i : IV) (hi : IOk i) (ho : i.op = 13) :
    Calls Tryd.prog 51 #[.agg #[.slice C.A0 C.n0 C.c0, .slice C.A1 C.n1 C.c1, .slice C.A2 C.n2 C.c2, .slice C.A3 C.n3 C.c3, .slice C.A4 C.n4 C.c4, .slice C.A5 C.n5 C.c5, .slice C.A6 C.n6 C.c6, .int .i64 p.regs, .slice p.A p.n p.c, .int .i64 p.loops, .slice p.A' p.n' p.c'], .agg #[.int .u8 i.op, .int .i64 i.a, .int .i64 i.b, .int .i64 i.c, .string i.s, .slice i.A i.n i.cap]] w fun e w' => e = .returned (.bool (abcB C p [48, 120, 114] i)) ∧ Below w.heap.size w w' := by
  have HX := Lib.hid (BoxI.made i h)
  have HW := Lib.hid (enterI w C p i)
  have hall := True.intro
  have hn0 := h.n0
  have hn' := h.n'
  unfold maxLen at hn0 hn'
  obtain ⟨a1, a2⟩ := i64_bd hi.a
  obtain ⟨b1, b2⟩ := i64_bd hi.b
  obtain ⟨c1, c2⟩ := i64_bd hi.c
  have HR : Hid (abcB C p [48, 120, 114] i = (i.a == 0 && (arrB C p i.b && (regB p i.c)))) := rfl
  clear h
  have o10 : (i.op == 10) = false := by rw [ho]; rfl
  have o11 : (i.op == 11) = false := by rw [ho]; rfl
  have o12 : (i.op == 12) = false := by rw [ho]; rfl
  have o13 : (i.op == 13) = true := by rw [ho]; rfl
  have o14 : (i.op == 14) = false := by rw [ho]; rfl
  have o15 : (i.op == 15) = false := by rw [ho]; rfl
  clear ho
  cases hza : (i.a == 0)
  all_goals have hya : decide (i.a = 0) = _ := hza
  all_goals (go_enter Tryd.func51, Tryd.ntmps51; go_wp2_with (first | ((with_reducible refine (q_array HX.out.at_ i.b hi.b).mono ?_); rintro e w2 ⟨rfl, hb2⟩; have HX2 := Lib.hid (HX.out.keep hb2); have HW2 := Lib.hid (Gr.trans HW.out hb2); have hall2 := HX2.out.all; clear hb2) | ((with_reducible refine (q_reg C p i.c _).mono ?_); rintro e w3 ⟨rfl, hb3⟩; have HX3 := Lib.hid (HX2.out.keep hb3); have HW3 := Lib.hid (Gr.trans HW2.out hb3); have hall3 := HX3.out.all; clear hb3)))
  all_goals (go_ret; exact ⟨ret_bool (by rw [HR.out]; simp [inB, *] <;> omega), by first | exact HW3.out | exact HW2.out | exact HW.out⟩)
set_option maxRecDepth 20000 in
set_option maxHeartbeats 4000000 in
theorem q_arrays_14 {C : CV} {p : PV} {w : World} {B : Nat} (h : PlaceAt w B C p) (i : IV) (hi : IOk i) (ho : i.op = 14) :
    Calls Tryd.prog 51 #[.agg #[.slice C.A0 C.n0 C.c0, .slice C.A1 C.n1 C.c1, .slice C.A2 C.n2 C.c2, .slice C.A3 C.n3 C.c3, .slice C.A4 C.n4 C.c4, .slice C.A5 C.n5 C.c5, .slice C.A6 C.n6 C.c6, .int .i64 p.regs, .slice p.A p.n p.c, .int .i64 p.loops, .slice p.A' p.n' p.c'], .agg #[.int .u8 i.op, .int .i64 i.a, .int .i64 i.b, .int .i64 i.c, .string i.s, .slice i.A i.n i.cap]] w fun e w' => e = .returned (.bool (abcB C p [48, 120, 48] i)) ∧ Below w.heap.size w w' := by
  have HX := Lib.hid (BoxI.made i h)
  have HW := Lib.hid (enterI w C p i)
  have hall := True.intro
  have hn0 := h.n0
  have hn' := h.n'
  unfold maxLen at hn0 hn'
  obtain ⟨a1, a2⟩ := i64_bd hi.a
  obtain ⟨b1, b2⟩ := i64_bd hi.b
  obtain ⟨c1, c2⟩ := i64_bd hi.c
  have HR : Hid (abcB C p [48, 120, 48] i = (i.a == 0 && (arrB C p i.b && (i.c == 0)))) := rfl
  clear h
  have o10 : (i.op == 10) = false := by rw [ho]; rfl
  have o11 : (i.op == 11) = false := by rw [ho]; rfl
  have o12 : (i.op == 12) = false := by rw [ho]; rfl
  have o13 : (i.op == 13) = false := by rw [ho]; rfl
  have o14 : (i.op == 14) = true := by rw [ho]; rfl
  have o15 : (i.op == 15) = false := by rw [ho]; rfl
  clear ho
  cases hza : (i.a == 0)
  all_goals have hya : decide (i.a = 0) = _ := hza
  all_goals cases hzc : (i.c == 0)
  all_goals have hyc : decide (i.c = 0) = _ := hzc
  all_goals (go_enter Tryd.func51, Tryd.ntmps51; go_wp2_with (first | ((with_reducible refine (q_array HX.out.at_ i.b hi.b).mono ?_); rintro e w2 ⟨rfl, hb2⟩; have HX2 := Lib.hid (HX.out.keep hb2); have HW2 := Lib.hid (Gr.trans HW.out hb2); have hall2 := HX2.out.all; clear hb2)))
  all_goals (go_ret; exact ⟨ret_bool (by rw [HR.out]; simp [inB, *] <;> omega), by first | exact HW2.out | exact HW.out⟩)
set_option maxRecDepth 20000 in
set_option maxHeartbeats 4000000 in
theorem q_arrays_15 {C : CV} {p : PV} {w : World} {B : Nat} (h : PlaceAt w B C p) (i : IV) (hi : IOk i) (ho : i.op = 15) :
    Calls Tryd.prog 51 #[.agg #[.slice C.A0 C.n0 C.c0, .slice C.A1 C.n1 C.c1, .slice C.A2 C.n2 C.c2, .slice C.A3 C.n3 C.c3, .slice C.A4 C.n4 C.c4, .slice C.A5 C.n5 C.c5, .slice C.A6 C.n6 C.c6, .int .i64 p.regs, .slice p.A p.n p.c, .int .i64 p.loops, .slice p.A' p.n' p.c'], .agg #[.int .u8 i.op, .int .i64 i.a, .int .i64 i.b, .int .i64 i.c, .string i.s, .slice i.A i.n i.cap]] w fun e w' => e = .returned (.bool (abcB C p [114, 120, 48] i)) ∧ Below w.heap.size w w' := by
  have HX := Lib.hid (BoxI.made i h)
  have HW := Lib.hid (enterI w C p i)
  have hall := True.intro
  have hn0 := h.n0
  have hn' := h.n'
  unfold maxLen at hn0 hn'
  obtain ⟨a1, a2⟩ := i64_bd hi.a
  obtain ⟨b1, b2⟩ := i64_bd hi.b
  obtain ⟨c1, c2⟩ := i64_bd hi.c
  have HR : Hid (abcB C p [114, 120, 48] i = (regB p i.a && (arrB C p i.b && (i.c == 0)))) := rfl
  clear h
  have o10 : (i.op == 10) = false := by rw [ho]; rfl
  have o11 : (i.op == 11) = false := by rw [ho]; rfl
  have o12 : (i.op == 12) = false := by rw [ho]; rfl
  have o13 : (i.op == 13) = false := by rw [ho]; rfl
  have o14 : (i.op == 14) = false := by rw [ho]; rfl
  have o15 : (i.op == 15) = true := by rw [ho]; rfl
  clear ho
  cases hzc : (i.c == 0)
  all_goals have hyc : decide (i.c = 0) = _ := hzc
  all_goals (go_enter Tryd.func51, Tryd.ntmps51; go_wp2_with (first | ((with_reducible refine (q_reg C p i.a _).mono ?_); rintro e w2 ⟨rfl, hb2⟩; have HX2 := Lib.hid (HX.out.keep hb2); have HW2 := Lib.hid (Gr.trans HW.out hb2); have hall2 := HX2.out.all; clear hb2) | ((with_reducible refine (q_array HX2.out.at_ i.b hi.b).mono ?_); rintro e w3 ⟨rfl, hb3⟩; have HX3 := Lib.hid (HX2.out.keep hb3); have HW3 := Lib.hid (Gr.trans HW2.out hb3); have hall3 := HX3.out.all; clear hb3)))
  all_goals (go_ret; exact ⟨ret_bool (by rw [HR.out]; simp [inB, *] <;> omega), by first | exact HW3.out | exact HW2.out | exact HW.out⟩)
set_option maxRecDepth 20000 in
set_option maxHeartbeats 4000000 in
theorem q_arrays_31 {C : CV} {p : PV} {w : World} {B : Nat} (h : PlaceAt w B C p) (i : IV) (hi : IOk i) (ho : i.op = 31) :
    Calls Tryd.prog 51 #[.agg #[.slice C.A0 C.n0 C.c0, .slice C.A1 C.n1 C.c1, .slice C.A2 C.n2 C.c2, .slice C.A3 C.n3 C.c3, .slice C.A4 C.n4 C.c4, .slice C.A5 C.n5 C.c5, .slice C.A6 C.n6 C.c6, .int .i64 p.regs, .slice p.A p.n p.c, .int .i64 p.loops, .slice p.A' p.n' p.c'], .agg #[.int .u8 i.op, .int .i64 i.a, .int .i64 i.b, .int .i64 i.c, .string i.s, .slice i.A i.n i.cap]] w fun e w' => e = .returned (.bool (abcB C p [108, 120, 48] i)) ∧ Below w.heap.size w w' := by
  have HX := Lib.hid (BoxI.made i h)
  have HW := Lib.hid (enterI w C p i)
  have hall := True.intro
  have hn0 := h.n0
  have hn' := h.n'
  unfold maxLen at hn0 hn'
  obtain ⟨a1, a2⟩ := i64_bd hi.a
  obtain ⟨b1, b2⟩ := i64_bd hi.b
  obtain ⟨c1, c2⟩ := i64_bd hi.c
  have HR : Hid (abcB C p [108, 120, 48] i = (inB i.a p.loops && (arrB C p i.b && (i.c == 0)))) := rfl
  clear h
  have o10 : (i.op == 10) = false := by rw [ho]; rfl
  have o11 : (i.op == 11) = false := by rw [ho]; rfl
  have o12 : (i.op == 12) = false := by rw [ho]; rfl
  have o13 : (i.op == 13) = false := by rw [ho]; rfl
  have o14 : (i.op == 14) = false := by rw [ho]; rfl
  have o15 : (i.op == 15) = false := by rw [ho]; rfl
  clear ho
  cases hzc : (i.c == 0)
  all_goals have hyc : decide (i.c = 0) = _ := hzc
  all_goals (go_enter Tryd.func51, Tryd.ntmps51; go_wp2_with (first | ((with_reducible refine (q_array HX.out.at_ i.b hi.b).mono ?_); rintro e w2 ⟨rfl, hb2⟩; have HX2 := Lib.hid (HX.out.keep hb2); have HW2 := Lib.hid (Gr.trans HW.out hb2); have hall2 := HX2.out.all; clear hb2)))
  all_goals (go_ret; exact ⟨ret_bool (by rw [HR.out]; simp [inB, *] <;> omega), by first | exact HW2.out | exact HW.out⟩)
end Go.Proofs.YtankpckkiikmaaaDoor
