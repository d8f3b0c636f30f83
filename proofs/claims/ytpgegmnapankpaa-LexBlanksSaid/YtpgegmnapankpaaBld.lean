/- strings.Builder where a written panic is refused: the walks of copyCheck, WriteByte, WriteString. -/
import Derived.Test.YtpgegmnapankpaaShelf
import Derived.Test.YtpgegmnapankpaaBase
import Derived.Lib.Builder
import Derived.Lib.UnsafeStr
namespace Go.Proofs.Ytpgegmnapankpaa
open Go.RowKit

theorem bld_info : (Try.prog.info? 61).map (·.size) = some 2 := by kernel_rfl
theorem bld_u8 : (Try.prog.info? 5).map (fun i => (i.zero, i.size, i.bytes)) = some (some (.int .u8 0), 1, 1) := by kernel_rfl
set_option maxRecDepth 100000 in
theorem b_check (B b : Nat) (bs : List Value) (w : World) (h : Lib.IsBuilder 61 5 B b bs w) :
    Calls Try.prog 49 #[.pointer (some ⟨b, 0, none⟩)] w fun e w' => e = .returned (.tuple #[]) ∧ Lib.BuilderAt 61 5 B b (.pointer (some ⟨b, 0, none⟩)) bs w' ∧ Below B w w' := by
  obtain ⟨i, hi, his⟩ := Option.map_eq_some_iff.1 bld_info
  rcases h with h | h
  · have c0 := h.cell0
    have f0 := h.frozen0
    have hsh := h.shape
    have H := Lib.hid h
    clear h
    go_enter Try.func49, Try.ntmps49
    go_wp2
    rw [Lib.run_to_unsafe w ⟨b, 0, none⟩ Try.underlying59 Try.underlying71 hi (by rw [his]; decide) hsh (Nat.zero_lt_succ 1)]
    simp only [Result.andThen]
    rw [Oper.upon_value]
    go_wp2
    rw [run_callFunc_extern Try.func54 (by kernel_rfl) (by kernel_rfl) (by kernel_rfl) (e := Extern.AbiNoEscape.same) (by kernel_rfl)]
    rw [Lib.run_noEscape]
    simp only [Result.andThen]
    rw [Oper.upon_value]
    go_wp2
    rw [Lib.run_from_unsafe w ⟨b, 0, none⟩ Try.underlying71 Try.underlying59 hi hsh (by kernel_rfl)]
    simp only [Result.andThen]
    rw [Oper.upon_value]
    go_wp2
    go_end0
    exact ⟨rfl, H.out.used _, (Below.refl B w).setCell (p := ⟨b, 0, none⟩) H.out.1 _⟩
  · have c0 := h.cell0
    have H := Lib.hid h
    clear h
    go_enter Try.func49, Try.ntmps49
    go_wp2
    rw [Lib.run_neq_ptr_same w _ Try.underlying59 hi]
    go_wp2
    go_end0
    exact ⟨rfl, H.out, Below.refl B _⟩
set_option maxRecDepth 100000 in
set_option maxHeartbeats 1000000 in
theorem b_byte (B b : Nat) (l : List UInt8) (c : UInt8) (w : World) (h : Lib.IsBuilder 61 5 B b (bvals l) w) (hlen : l.length + 1 ≤ 4294967296) (hBw : B ≤ w.heap.size) :
    Calls Try.prog 40 #[.pointer (some ⟨b, 0, none⟩), .int .u8 c.toNat] w fun e w' => e = .returned .nilIface ∧ Lib.BuilderAt 61 5 B b (.pointer (some ⟨b, 0, none⟩)) (bvals (l ++ [c])) w' ∧ Below B w w' := by
  have HB := Lib.hid h
  clear h
  go_enter Try.func40, Try.ntmps40
  go_wp2_with fail
  refine (b_check B b (bvals l) _ HB.out).mono ?_
  rintro e w1 ⟨rfl, h1, hb1⟩
  obtain ⟨hB, v, hbk, hown, hne⟩ := h1
  have c0 : w1.cell? ⟨b, 0, none⟩ = some (.pointer (some ⟨b, 0, none⟩)) := by rw [Lib.cell_of_heap hbk]; rfl
  have c1 : w1.cell? ⟨b, 1, none⟩ = some v := by rw [Lib.cell_of_heap hbk]; rfl
  have hz1 : (bvals l).length + 1 ≤ maxLen := by rw [bvals_length]; unfold maxLen; omega
  have hz2 : ((bvals l).length + 1) * 1 ≤ 140737488355328 := by rw [bvals_length]; omega
  have hs1 : B ≤ w1.heap.size := Nat.le_trans hBw hb1.size
  go_wp2_with (at_builtin; refine wp_app1 rfl _ _ _ rfl 5 1 1 (.int .u8 0) Try.underlying33 bld_u8 rfl (by decide) B v (bvals l).length (bvals l) rfl hown [_] rfl rfl one_int hz1 hz2 hs1 ?_)
  intro v' w2 hown' hgrow _
  have hlt : b < w1.heap.size := by
    rcases Nat.lt_or_ge b w1.heap.size with h' | h'
    · exact h'
    · simp [Array.getElem?_eq_none h'] at hbk
  have hb2 : w2.heap[b]? = some (.cells #[.pointer (some ⟨b, 0, none⟩), v] 61 (0, 0)) := by
    rw [hgrow.block b (by omega) (fun e => hne e.symm)]
    exact hbk
  have d0 : w2.cell? ⟨b, 0, none⟩ = some (.pointer (some ⟨b, 0, none⟩)) := by rw [Lib.cell_of_heap hb2]; rfl
  have d1 : w2.cell? ⟨b, 1, none⟩ = some v := by rw [Lib.cell_of_heap hb2]; rfl
  have f1 : w2.frozen? ⟨b, 1, none⟩ = false := Lib.frozen_of_heap hb2 1
  have hB2 := hb1.trans (below_grown hown hgrow hs1)
  have HOWN := Lib.hid hown'
  clear hown' hown hgrow c0 c1 hbk
  obtain ⟨g, cap, rfl⟩ : ∃ g cap, v' = .slice (some ⟨g, 0, none⟩) ((bvals l).length + 1) cap := by
    rcases HOWN.out.2 with ⟨_, h0⟩ | ⟨g, cap, cur, hv, _⟩
    · omega
    · exact ⟨g, cap, hv⟩
  go_wp2_with fail
  go_ret
  refine ⟨rfl, ?_, hB2.setCell (p := ⟨b, 1, none⟩) hB _⟩
  exact Lib.BuilderAt.put (T := 61) (e := 5) hB hb2 (bs' := bvals (l ++ [c])) (by rw [← bvals_snoc]; simpa using HOWN.out) (by decide)
set_option maxRecDepth 100000 in
set_option maxHeartbeats 1000000 in
theorem b_text (B b : Nat) (l : List UInt8) (s : ByteArray) (w : World) (h : Lib.IsBuilder 61 5 B b (bvals l) w) (hlen : l.length + s.size ≤ 4294967296) (hBw : B ≤ w.heap.size) :
    Calls Try.prog 42 #[.pointer (some ⟨b, 0, none⟩), .string s] w fun e w' => e = .returned (.tuple #[.int .i64 s.size, .nilIface]) ∧ Lib.BuilderAt 61 5 B b (.pointer (some ⟨b, 0, none⟩)) (bvals (l ++ s.data.toList)) w' ∧ Below B w w' := by
  obtain ⟨i0, hi, hz0, hz1, hz2⟩ := info_parts bld_u8
  have HB := Lib.hid h
  clear h
  have hsc : Lib.strCells s = bvals s.data.toList := rfl
  have HSC := Lib.hid hsc
  clear hsc
  go_enter Try.func42, Try.ntmps42
  go_wp2_with fail
  refine (b_check B b (bvals l) _ HB.out).mono ?_
  rintro e w1 ⟨rfl, h1, hb1⟩
  obtain ⟨hB, v, hbk, hown, hne⟩ := h1
  have c0 : w1.cell? ⟨b, 0, none⟩ = some (.pointer (some ⟨b, 0, none⟩)) := by rw [Lib.cell_of_heap hbk]; rfl
  have c1 : w1.cell? ⟨b, 1, none⟩ = some v := by rw [Lib.cell_of_heap hbk]; rfl
  have hs1 : B ≤ w1.heap.size := Nat.le_trans hBw hb1.size
  have hbl := bvals_length l
  go_wp2_with (at_builtin; refine Lib.wpList_append_own_string _ rfl _ _ 33 9 rfl B 5 i0 Try.underlying33 Try.underlying9 hi hz0 hz1 hz2 _ _ _ rfl hown s rfl ?c3 ?c4 ?c5 ?_)
  case c3 => rw [hbl]; unfold maxLen; omega
  case c4 => rw [hbl]; omega
  case c5 => exact hs1
  intro v' w2 hown' hgrow _
  have hlt : b < w1.heap.size := by
    rcases Nat.lt_or_ge b w1.heap.size with h' | h'
    · exact h'
    · simp [Array.getElem?_eq_none h'] at hbk
  have hb2 : w2.heap[b]? = some (.cells #[.pointer (some ⟨b, 0, none⟩), v] 61 (0, 0)) := by
    rw [hgrow.block b (by omega) (fun e => hne e.symm)]
    exact hbk
  have d0 : w2.cell? ⟨b, 0, none⟩ = some (.pointer (some ⟨b, 0, none⟩)) := by rw [Lib.cell_of_heap hb2]; rfl
  have d1 : w2.cell? ⟨b, 1, none⟩ = some v := by rw [Lib.cell_of_heap hb2]; rfl
  have f1 : w2.frozen? ⟨b, 1, none⟩ = false := Lib.frozen_of_heap hb2 1
  have hB2 := hb1.trans (below_grown hown hgrow hs1)
  have HOWN := Lib.hid hown'
  clear hown' hown hgrow c0 c1 hbk
  obtain ⟨ao, n', cap, rfl⟩ : ∃ ao n' cap, v' = .slice ao n' cap := by
    rcases HOWN.out.2 with ⟨hv, _⟩ | ⟨g, cap, cur, hv, _⟩
    · exact ⟨_, _, _, hv⟩
    · exact ⟨_, _, _, hv⟩
  go_wp2_with fail
  refine bodyPost_ret (v := .tuple #[.int .i64 s.size, .nilIface]) (by simp [results, Try.results42, go_sem]) rfl ⟨rfl, ?_, hB2.setCell (p := ⟨b, 1, none⟩) hB _⟩
  refine Lib.BuilderAt.put (T := 61) (e := 5) hB hb2 (bs' := bvals (l ++ s.data.toList)) ?_ (by decide)
  have e1 : bvals (l ++ s.data.toList) = bvals l ++ Lib.strCells s := by rw [HSC.out]; simp [bvals]
  rw [e1, List.length_append, Lib.strCells_length, hbl]
  exact HOWN.out
end Go.Proofs.Ytpgegmnapankpaa
