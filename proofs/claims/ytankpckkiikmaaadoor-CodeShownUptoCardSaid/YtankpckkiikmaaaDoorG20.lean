/- 'CodeShown': the law's walk. -/
import Derived.Test.YtankpckkiikmaaaDoorG19
import Derived.Deep.RegionHeld3
import Derived.Deep.Cut
import Derived.Test.YtankpckkiikmaaaDoorRows
set_option linter.unusedVariables false
set_option linter.unusedSimpArgs false
namespace Go.Proofs.YtankpckkiikmaaaDoor
open Go.RowKit Cod
/-- What is known of an instruction that came in. -/
structure InOk (w : World) (i : IV) : Prop where
  ok : IOk i
  op : (Lit.int .i64 i.op).wf = true
  op8 : (Lit.int .u8 i.op).wf = true
  ints : Ints w w.heap.size i.A i.n i.args
  s : i.s.size ≤ 1048576
  n : i.n ≤ 1048576
theorem l_same2 {w : World} {B B' : Nat} {A A' : Option Addr} {n n' cap cap' : Nat} {l l' : List Int} (hn : n' = n) (hl : l' = l) (h1 : Ints w B A n l) (h2 : Ints w B' A' n' l') (hB : B ≤ w.heap.size) (hB' : B' ≤ w.heap.size) :
    Calls Tryd.prog 9 #[.slice A n cap, .slice A' n' cap'] w fun e w' => e = .returned (.bool true) ∧ Below w.heap.size w w' := by
  subst hn; subst hl
  exact l_same h1 h2 hB hB'
theorem toL_ne {s t : ByteArray} (h : ¬ s = t) : ¬ s.toList = t.toList := fun e => h (bytes_ext (by rw [ByteArray.toList_eq, ByteArray.toList_eq] at e; exact e))
set_option maxRecDepth 20000 in
set_option maxHeartbeats 16000000 in
theorem l_cshown0 {w : World} {C : CV} {i j : IV} (hC : CodeAt w w.heap.size C) (hI : InOk w i) (hJ : InOk w j) (hP : ∀ q ∈ C.parts, q.n' ≤ 1048576 ∧ ∃ news, Src w q.A' q.n' q.c' 6 news) (hn2 : C.n2 ≤ 1048576) (ht : Lib.TabBelow Tryd.prog w.heap.size w "internal/strconv.uint64pow10" .u64 Lib.pow10Tab) :
    Calls Tryd.prog 3 #[.agg #[.slice C.A0 C.n0 C.c0, .slice C.A1 C.n1 C.c1, .slice C.A2 C.n2 C.c2, .slice C.A3 C.n3 C.c3, .slice C.A4 C.n4 C.c4, .slice C.A5 C.n5 C.c5, .slice C.A6 C.n6 C.c6], .agg #[.int .u8 i.op, .int .i64 i.a, .int .i64 i.b, .int .i64 i.c, .string i.s, .slice i.A i.n i.cap], .agg #[.int .u8 j.op, .int .i64 j.a, .int .i64 j.b, .int .i64 j.c, .string j.s, .slice j.A j.n j.cap]] w fun e w' => e = .returned (.bool true) ∧ Below w.heap.size w w' := by
  have HC := Lib.hid hC
  have HI := Lib.hid hI
  have HJ := Lib.hid hJ
  have HP := Lib.hid hP
  have HT := Lib.hid ht
  have his := hI.s
  have hin := hI.n
  have hjs := hJ.s
  have hjn := hJ.n
  have hX := BoxS.made w C i j
  clear hC hI hJ hP ht
  go_enter Tryd.func3, Tryd.ntmps3
  go_wp2_with fail
  generalize (((w.alloc (.cells #[.slice C.A0 C.n0 C.c0, .slice C.A1 C.n1 C.c1, .slice C.A2 C.n2 C.c2, .slice C.A3 C.n3 C.c3, .slice C.A4 C.n4 C.c4, .slice C.A5 C.n5 C.c5, .slice C.A6 C.n6 C.c6] 28)).alloc (.cells #[.int .u8 i.op, .int .i64 i.a, .int .i64 i.b, .int .i64 i.c, .string i.s, .slice i.A i.n i.cap] 31)).alloc (.cells #[.int .u8 j.op, .int .i64 j.a, .int .i64 j.b, .int .i64 j.c, .string j.s, .slice j.A j.n j.cap] 31)) = W at hX ⊢
  have HX := Lib.hid hX
  have hall := hX.cells
  clear hX
  go_wp2_with (first
    | ((with_reducible refine (l_great (HX.out.code HC.out)).mono ?_); rintro e w2 ⟨gb, rfl, hb2⟩; have HX2 := Lib.hid (HX.out.keep hb2); have hall2 := HX2.out.cells; clear hb2)
    | ((with_reducible refine (l_awake _ (HX2.out.tab HT.out)).mono ?_); rintro e w3 ⟨rfl, hb3⟩; have HX3 := Lib.hid (HX2.out.keep hb3); clear hb3)
    | fail)
  all_goals (try (go_ret; exact ⟨rfl, HX3.out.below⟩))
  clear hall hall2
  go_loopw [7] (fun i0 wr => ∃ k : Nat, k ≤ C.n2 ∧ k ≤ 5 ∧ i0 = .int .i64 k ∧ BoxS w wr C i j) (fun i0 wr => C.n2 - (intOf i0).toNat)
  case atStart => exact ⟨0, Nat.zero_le _, Nat.zero_le _, rfl, HX2.out⟩
  case round =>
    obtain ⟨k, hk, hk5, rfl, hX3⟩ := hrel
    have HX3 := Lib.hid hX3
    have hall3 := hX3.cells
    clear hX3
    by_cases hlt : k < C.n2
    case neg =>
      obtain rfl : k = C.n2 := by omega
      go_wp2_with (first
        | ((with_reducible refine (l_awake _ (HX3.out.tab HT.out)).mono ?_); rintro e w4 ⟨rfl, hb4⟩; have HX4 := Lib.hid (HX3.out.keep hb4); clear hb4)
        | fail)
      go_ret
      exact ⟨rfl, HX4.out.below⟩
    case pos =>
    by_cases hlt5 : k < 5
    case neg =>
      obtain rfl : k = 5 := by omega
      go_wp2_with (first
        | ((with_reducible refine (l_awake _ (HX3.out.tab HT.out)).mono ?_); rintro e w4 ⟨rfl, hb4⟩; have HX4 := Lib.hid (HX3.out.keep hb4); clear hb4)
        | fail)
      go_ret
      exact ⟨rfl, HX4.out.below⟩
    case pos =>
    have hkw : (Lit.int .i64 (k : Int)).wf = true := by
      simp [Lit.wf, IntKind.min, IntKind.max, IntKind.bits, IntKind.signed]; omega
    cases hb1 : insB C k i
    case false =>
      have HB1 := Lib.hid hb1
      clear hb1
      go_wp2_with (first
        | ((with_reducible refine (p_ins (HX3.out.code HC.out) k hkw i HI.out.ok (HX3.out.ints HI.out.ints)).mono ?_); rintro e w4 ⟨rfl, hb4⟩; rw [HB1.out]; have HX4 := Lib.hid (HX3.out.keep hb4); clear hb4)
        | fail)
      go_roundw
      case rel => exact ⟨k + 1, by omega, by omega, by go_num, HX4.out⟩
      case measure => simp [intOf]; omega
    case true =>
    have HB1 := Lib.hid hb1
    clear hb1
    go_wp2_with (first
      | ((with_reducible refine (p_ins (HX3.out.code HC.out) k hkw i HI.out.ok (HX3.out.ints HI.out.ints)).mono ?_); rintro e w4 ⟨rfl, hb4⟩; rw [HB1.out]; have HX4 := Lib.hid (HX3.out.keep hb4); clear hb4)
      | fail)
    clear hall3
    cases hb2 : insB C k j
    case' false =>
      have HB2 := Lib.hid hb2
      have HEQ : Hid True := True.intro
      clear hb2
      refine wp_region_det (fun wd => BoxS w wd C i j) (by kernel_rfl) (by kernel_rfl) HX4.out.drew ?_
      iterate 54 (
        refine det_step ?_ (fun wd hS M hM => ?_) ?_ ?_
        rotate_left
        · have HS := Lib.hid hS
          have HM := Lib.hid hM
          have hall := hS.cells
          clear hS hM
          first
            | (go_wp2_with (first
                | ((with_reducible refine (p_ins (HS.out.code HC.out) k hkw j HJ.out.ok (HS.out.ints HJ.out.ints)).mono ?_); rintro e w6 ⟨rfl, hb6⟩; rw [HB2.out])
                | ((with_reducible refine (p_show i HI.out.ok HI.out.op (HS.out.tab HT.out) (HS.out.ints HI.out.ints) HS.out.le (by omega) (by omega) HI.out.op8).mono ?_); rintro e w6 ⟨rfl, hb6⟩)
                | ((with_reducible refine (p_show j HJ.out.ok HJ.out.op (HS.out.tab HT.out) (HS.out.ints HJ.out.ints) HS.out.le (by omega) (by omega) HJ.out.op8).mono ?_); rintro e w6 ⟨rfl, hb6⟩)
                | ((with_reducible refine (l_same2 HEQ.out.2.2.2.2.2.2 HEQ.out.2.2.2.2.2.1.symm (HS.out.ints HI.out.ints) (HS.out.ints HJ.out.ints) HS.out.le HS.out.le).mono ?_); rintro e w6 ⟨rfl, hb6⟩)
                | fail)
               (first
                | exact HM.out _ HS.out
                | exact HM.out _ (HS.out.keep hb6))
               done)
            | (have heq := HEQ.out
               go_wp2_with fail
               exact HM.out _ HS.out)
        · rfl)
      intro wd hS
      have HX5 := Lib.hid hS
      have hall5 := hS.cells
      clear hS
    case' true =>
      have HB2 := Lib.hid hb2
      by_cases hsh : showB i = showB j
      case' neg =>
        have HEQ : Hid (¬ (showB i).toList = (showB j).toList) := toL_ne hsh
        clear hb2 hsh
        refine wp_region_det (fun wd => BoxS w wd C i j) (by kernel_rfl) (by kernel_rfl) HX4.out.drew ?_
        iterate 54 (
          refine det_step ?_ (fun wd hS M hM => ?_) ?_ ?_
          rotate_left
          · have HS := Lib.hid hS
            have HM := Lib.hid hM
            have hall := hS.cells
            clear hS hM
            first
              | (go_wp2_with (first
                  | ((with_reducible refine (p_ins (HS.out.code HC.out) k hkw j HJ.out.ok (HS.out.ints HJ.out.ints)).mono ?_); rintro e w6 ⟨rfl, hb6⟩; rw [HB2.out])
                  | ((with_reducible refine (p_show i HI.out.ok HI.out.op (HS.out.tab HT.out) (HS.out.ints HI.out.ints) HS.out.le (by omega) (by omega) HI.out.op8).mono ?_); rintro e w6 ⟨rfl, hb6⟩)
                  | ((with_reducible refine (p_show j HJ.out.ok HJ.out.op (HS.out.tab HT.out) (HS.out.ints HJ.out.ints) HS.out.le (by omega) (by omega) HJ.out.op8).mono ?_); rintro e w6 ⟨rfl, hb6⟩)
                  | ((with_reducible refine (l_same2 HEQ.out.2.2.2.2.2.2 HEQ.out.2.2.2.2.2.1.symm (HS.out.ints HI.out.ints) (HS.out.ints HJ.out.ints) HS.out.le HS.out.le).mono ?_); rintro e w6 ⟨rfl, hb6⟩)
                  | fail)
                 (first
                  | exact HM.out _ HS.out
                  | exact HM.out _ (HS.out.keep hb6))
                 done)
              | (have heq := HEQ.out
                 go_wp2_with fail
                 exact HM.out _ HS.out)
          · rfl)
        intro wd hS
        have HX5 := Lib.hid hS
        have hall5 := hS.cells
        clear hS
      case' pos =>
        obtain ⟨q0, hq0⟩ : ∃ q0, C.parts[k]? = some q0 := ⟨_, List.getElem?_eq_getElem (by rw [HC.out.plen]; exact hlt)⟩
        have hb1 := HB1.out
        rw [insB_in i hq0] at hb1
        rw [insB_in j hq0] at hb2
        obtain ⟨e0, e1, e2, e3, e4, e5⟩ := shown_same hb1 hb2 HI.out.ints.1 HJ.out.ints.1 hsh
        have HEN : j.n = i.n := by rw [← HI.out.ints.1, ← HJ.out.ints.1, e5]
        have HEQ : Hid ((showB i).toList = (showB j).toList) := by unfold Hid; rw [hsh]
        clear hb1 hb2 hsh hq0
        obtain ⟨jop, ja, jb, jc, js, jA, jn, jcap, jargs⟩ := j
        dsimp only at e0 e1 e2 e3 e4 e5 HEN hjs hjn
        subst e0 e1 e2 e3 e4 e5 HEN
        dsimp only
        have heq0 := HEQ.out
        refine wp_region_det (fun wd => BoxS w wd C i ⟨i.op, i.a, i.b, i.c, i.s, jA, i.n, jcap, i.args⟩) (by kernel_rfl) (by kernel_rfl) HX4.out.drew ?_
        iterate 54 (
          refine det_step ?_ (fun wd hS M hM => ?_) ?_ ?_
          rotate_left
          · have HS := Lib.hid hS
            have HM := Lib.hid hM
            have hall := hS.cells
            clear hS hM
            first
              | (go_wp2_with (first
                  | ((with_reducible refine (p_ins (HS.out.code HC.out) k hkw ⟨i.op, i.a, i.b, i.c, i.s, jA, i.n, jcap, i.args⟩ HJ.out.ok (HS.out.ints HJ.out.ints)).mono ?_); rintro e w6 ⟨rfl, hb6⟩; rw [HB2.out])
                  | ((with_reducible refine (p_show i HI.out.ok HI.out.op (HS.out.tab HT.out) (HS.out.ints HI.out.ints) HS.out.le (by omega) (by omega) HI.out.op8).mono ?_); rintro e w6 ⟨rfl, hb6⟩)
                  | ((with_reducible refine (p_show ⟨i.op, i.a, i.b, i.c, i.s, jA, i.n, jcap, i.args⟩ HJ.out.ok HJ.out.op (HS.out.tab HT.out) (HS.out.ints HJ.out.ints) HS.out.le (by omega) (by omega) HJ.out.op8).mono ?_); rintro e w6 ⟨rfl, hb6⟩)
                  | ((with_reducible refine (l_same2 rfl rfl (HS.out.ints HI.out.ints) (HS.out.ints HJ.out.ints) HS.out.le HS.out.le).mono ?_); rintro e w6 ⟨rfl, hb6⟩)
                  | fail)
                 (first
                  | exact HM.out _ HS.out
                  | exact HM.out _ (HS.out.keep hb6))
                 done)
              | (have heq := HEQ.out
                 go_wp2_with fail
                 exact HM.out _ HS.out)
          · rfl)
        intro wd hS
        have HX5 := Lib.hid hS
        have hall5 := hS.cells
        clear hS
    all_goals
      clear hall5
      have hallb := HX5.out.cells
      have HM : Hid (Blk (wd.alloc (.cells #[.slice C.A0 C.n0 C.c0, .slice C.A1 C.n1 C.c1, .slice C.A2 C.n2 C.c2, .slice C.A3 C.n3 C.c3, .slice C.A4 C.n4 C.c4, .slice C.A5 C.n5 C.c5, .slice C.A6 C.n6 C.c6] 28)) wd.heap.size 28 #[.slice C.A0 C.n0 C.c0, .slice C.A1 C.n1 C.c1, .slice C.A2 C.n2 C.c2, .slice C.A3 C.n3 C.c3, .slice C.A4 C.n4 C.c4, .slice C.A5 C.n5 C.c5, .slice C.A6 C.n6 C.c6]) := Blk.new _ _ _
      have HX6 := Lib.hid (HX5.out.keep ((Below.refl _ _).alloc (Nat.le_refl _) (.cells #[.slice C.A0 C.n0 C.c0, .slice C.A1 C.n1 C.c1, .slice C.A2 C.n2 C.c2, .slice C.A3 C.n3 C.c3, .slice C.A4 C.n4 C.c4, .slice C.A5 C.n5 C.c5, .slice C.A6 C.n6 C.c6] 28)))
      have hMlt : w.heap.size + 1 + 1 < wd.heap.size := HX5.out.lt
      go_upto_region 10 with (fail)
      generalize (wd.alloc (.cells #[.slice C.A0 C.n0 C.c0, .slice C.A1 C.n1 C.c1, .slice C.A2 C.n2 C.c2, .slice C.A3 C.n3 C.c3, .slice C.A4 C.n4 C.c4, .slice C.A5 C.n5 C.c5, .slice C.A6 C.n6 C.c6] 28)) = W6 at HM HX6 ⊢
      generalize wd.heap.size = M at HM hMlt ⊢
      clear hallb
      have hM6 := HM.out.lt
      have HMa : Hid (Blk (W6.alloc (.cells #[] 39)) M 28 #[.slice C.A0 C.n0 C.c0, .slice C.A1 C.n1 C.c1, .slice C.A2 C.n2 C.c2, .slice C.A3 C.n3 C.c3, .slice C.A4 C.n4 C.c4, .slice C.A5 C.n5 C.c5, .slice C.A6 C.n6 C.c6]) := below_blk HM.out ((Below.refl W6.heap.size W6).alloc (Nat.le_refl _) _) hM6
      have HX7 := Lib.hid (HX6.out.keep ((Below.refl _ _).alloc (Nat.le_refl _) (.cells #[] 39)))
      have HO7 := Lib.hid (World.ownsRow_lit (base := w.heap.size + 1 + 1 + 1) (e := 39) (size := 4) W6 #[] 0 (by omega) (Nat.zero_le _) rfl)
      have HS7 := Lib.hid ((parts_src HC.out (by omega)).keep HX7.out.below)
      have hall7 := HX7.out.cells
      have hz1 : 0 + C.n2 ≤ maxLen := by unfold maxLen; omega
      have hz2 : (0 + C.n2) * 64 ≤ 140737488355328 := by omega
      have hz3 : w.heap.size + 1 + 1 + 1 ≤ (W6.alloc (.cells #[] 39)).heap.size := by rw [World.size_alloc]; omega
      have hnb : ¬ some M = Value.ownBlock (.slice (some ⟨W6.heap.size, 0, none⟩) 0 0) := fun h => by have h2 : some M = some W6.heap.size := h; injection h2 with h2; omega
      have hml : M < (W6.alloc (.cells #[] 39)).heap.size := by rw [World.size_alloc]; omega
      go_upto_region 11 with (at_builtin; refine wp_appx rfl _ _ _ rfl 39 4 64 _ Tryd.underlying24 info_part rfl (by decide) (w.heap.size + 1 + 1 + 1) _ 0 [] rfl HO7.out _ _ _ _ rfl HS7.out hz1 hz2 hz3 ?_; intro A8 cap8 w8 how8 hgrow8 hat8; simp only [Nat.zero_add, List.nil_append] at how8 hat8 ⊢; obtain ⟨g, cur, rfl, hgb, hgh, hgc, hcap1, hcap2⟩ := own_open how8 (by omega); have hgM : M < g := by { rcases hat8 g rfl with h | h; · { have h2 : some W6.heap.size = some g := h; injection h2 with h2; omega }; · { rw [World.size_alloc] at h; omega } }; have HX8 := Lib.hid (HX7.out.keep3 (below_grown HO7.out hgrow8 hz3)); have HM8 : Hid (Blk w8 M 28 #[.slice C.A0 C.n0 C.c0, .slice C.A1 C.n1 C.c1, .slice C.A2 C.n2 C.c2, .slice C.A3 C.n3 C.c3, .slice C.A4 C.n4 C.c4, .slice C.A5 C.n5 C.c5, .slice C.A6 C.n6 C.c6]) := (hgrow8.block M hml hnb).trans HMa.out; have HG8 := Lib.hid hgh; have HC8 := Lib.hid hgc; have hmb := HM8.out.cell 2; have hmf := HM8.out.free 2; clear hgrow8 hat8 how8 hgh hgc)
      have HX9 := Lib.hid (HX8.out.set (m := M) (by omega) 2 (.slice (some ⟨g, 0, none⟩) C.n2 cap8))
      have HG9 := Lib.hid (set_other HG8.out (by omega : g ≠ M) 2 (.slice (some ⟨g, 0, none⟩) C.n2 cap8))
      have HM9 : Hid (Blk (w8.setCell ⟨M, 2, none⟩ (.slice (some ⟨g, 0, none⟩) C.n2 cap8)) M 28 #[.slice C.A0 C.n0 C.c0, .slice C.A1 C.n1 C.c1, .slice (some ⟨g, 0, none⟩) C.n2 cap8, .slice C.A3 C.n3 C.c3, .slice C.A4 C.n4 C.c4, .slice C.A5 C.n5 C.c5, .slice C.A6 C.n6 C.c6]) := by unfold Hid; have := HM8.out.set 2 (.slice (some ⟨g, 0, none⟩) C.n2 cap8); simpa using this
      clear hmb hmf
      generalize (w8.setCell ⟨M, 2, none⟩ (.slice (some ⟨g, 0, none⟩) C.n2 cap8)) = W9 at HX9 HG9 HM9 ⊢
      clear hall7
      obtain ⟨pb, po, q, hpA, hpb, hq, -, -, -, -, hpc⟩ := HC.out.part hlt
      have HQ := Lib.hid hq
      have HPA := Lib.hid hpA
      have HPC := Lib.hid hpc
      have hgk : cur[k * 4]? = some (.int .i64 q.regs) := (HC8.out (k * 4) (by omega)).trans (flatP_get _ k 0 q hq (by omega))
      have hmb := HM9.out.cell 2
      have hgb0 := (HG9.out.cell (k * 4)).trans hgk
      have hgf0 := HG9.out.free (k * 4)
      have hrw := i64_bd ((HC.out.each q (List.mem_of_getElem? hq)).2.1)
      obtain ⟨hqn, news, hnews⟩ := HP.out q (List.mem_of_getElem? hq)
      have HN := Lib.hid hnews
      clear hq hgk hpA hpc hnews
      by_cases hr30 : q.regs < 1073741824
      case' pos =>
        go_upto_region 13 with (fail)
        have HK10 : Hid (∃ cur1 r, K13 w (W9.setCell ⟨g, k * 4, none⟩ (.int .i64 (q.regs + 1))) C i _ M g cap8 cur1 ∧ q.regs ≤ r ∧ (Lit.int .i64 r).wf = true ∧ (cur1 = cur.setIfInBounds (k * 4) (.int .i64 r) ∨ (cur1 = cur ∧ r = q.regs))) :=
          ⟨_, q.regs + 1, ⟨HX9.out.set (m := g) (by omega) (k * 4) (.int .i64 (q.regs + 1)), set_other HM9.out (by omega : M ≠ g) (k * 4) (.int .i64 (q.regs + 1)), HG9.out.set (k * 4) (.int .i64 (q.regs + 1))⟩, by omega, by simp [Lit.wf, IntKind.min, IntKind.max, IntKind.bits, IntKind.signed]; omega, .inl rfl⟩
        generalize (W9.setCell ⟨g, k * 4, none⟩ (.int .i64 (q.regs + 1))) = W10 at HK10 ⊢
      case' neg =>
        go_upto_region 13 with (fail)
        have HK10 : Hid (∃ cur1 r, K13 w W9 C i _ M g cap8 cur1 ∧ q.regs ≤ r ∧ (Lit.int .i64 r).wf = true ∧ (cur1 = cur.setIfInBounds (k * 4) (.int .i64 r) ∨ (cur1 = cur ∧ r = q.regs))) :=
          ⟨_, q.regs, ⟨HX9.out, HM9.out, HG9.out⟩, Int.le_refl _, (HC.out.each q (List.mem_of_getElem? HQ.out)).2.1, .inr ⟨rfl, rfl⟩⟩
        generalize W9 = W10 at HK10 ⊢
      all_goals
        clear hmb hgb0 hgf0 hrw hr30
        obtain ⟨cur1, r, hk13, hr1, hr2, hr3⟩ := HK10.out
        have HK13 := Lib.hid hk13
        have HR3 := Lib.hid hr3
        have HR1 := Lib.hid hr1
        clear hr3 hr1 hk13
        have hgl := HK13.out.gb.lt
        have hml2 := HK13.out.mb.lt
        have hb3 : w.heap.size + 1 + 1 + 1 ≤ W10.heap.size := by have := HK13.out.bx.lt; omega
        have HK0 := Lib.hid (HK13.out.keep (Below.refl _ _).drew)
        have HKe := Lib.hid (HK0.out.alloc (.cells #[] 31))
        have HKi := Lib.hid (HK0.out.alloc (.cells #[.int .u8 36, .int .i64 0, .int .i64 0, .int .i64 0, .string ⟨#[]⟩, .slice none 0 0] 31))
        have HKei := Lib.hid (HKe.out.alloc (.cells #[.int .u8 36, .int .i64 0, .int .i64 0, .int .i64 0, .string ⟨#[]⟩, .slice none 0 0] 31))
        have HKie := Lib.hid (HKi.out.alloc (.cells #[] 31))
        have hS0 := HK0.out.cells HPA.out hpb HPC.out
        have hSe := HKe.out.cells HPA.out hpb HPC.out
        have hSi := HKi.out.cells HPA.out hpb HPC.out
        have hSei := HKei.out.cells HPA.out hpb HPC.out
        have hSie := HKie.out.cells HPA.out hpb HPC.out
        have HOe : Hid ((W10.drew.alloc (.cells #[] 31)).ownsRow W10.heap.size 31 6 (.slice (some ⟨W10.heap.size, 0, none⟩) 0 0) 0 []) := World.ownsRow_lit (e := 31) (size := 6) W10.drew #[] 0 (Nat.le_refl _) (Nat.zero_le _) rfl
        have HOei : Hid (((W10.drew.alloc (.cells #[] 31)).alloc (.cells #[.int .u8 36, .int .i64 0, .int .i64 0, .int .i64 0, .string ⟨#[]⟩, .slice none 0 0] 31)).ownsRow W10.heap.size 31 6 (.slice (some ⟨W10.heap.size, 0, none⟩) 0 0) 0 []) := HOe.out.alloc _
        have HOie : Hid (((W10.drew.alloc (.cells #[.int .u8 36, .int .i64 0, .int .i64 0, .int .i64 0, .string ⟨#[]⟩, .slice none 0 0] 31)).alloc (.cells #[] 31)).ownsRow W10.heap.size 31 6 (.slice (some ⟨W10.heap.size + 1, 0, none⟩) 0 0) 0 []) := by
          have := World.ownsRow_lit (base := W10.heap.size) (e := 31) (size := 6) (W10.drew.alloc (.cells #[.int .u8 36, .int .i64 0, .int .i64 0, .int .i64 0, .string ⟨#[]⟩, .slice none 0 0] 31)) #[] 0 (by rw [World.size_alloc]; exact Nat.le_succ _) (Nat.zero_le _) rfl
          rw [World.size_alloc] at this
          exact this
        have HNe := Lib.hid (HN.out.keep HKe.out.bx.below)
        have HNei := Lib.hid (HN.out.keep HKei.out.bx.below)
        have HNie := Lib.hid (HN.out.keep HKie.out.bx.below)
        have HIei : Hid (Src ((W10.drew.alloc (.cells #[] 31)).alloc (.cells #[.int .u8 36, .int .i64 0, .int .i64 0, .int .i64 0, .string ⟨#[]⟩, .slice none 0 0] 31)) (some ⟨W10.heap.size + 1, 0, none⟩) 1 1 6 [.int .u8 36, .int .i64 0, .int .i64 0, .int .i64 0, .string ⟨#[]⟩, .slice none 0 0]) := by
          have := ins_src (W10.drew.alloc (.cells #[] 31))
          rw [World.size_alloc] at this
          exact this
        have HIie : Hid (Src ((W10.drew.alloc (.cells #[.int .u8 36, .int .i64 0, .int .i64 0, .int .i64 0, .string ⟨#[]⟩, .slice none 0 0] 31)).alloc (.cells #[] 31)) (some ⟨W10.heap.size, 0, none⟩) 1 1 6 [.int .u8 36, .int .i64 0, .int .i64 0, .int .i64 0, .string ⟨#[]⟩, .slice none 0 0]) := (ins_src W10.drew).keep ((Below.refl _ _).alloc (Nat.le_refl _) _)
        have hsz1 : (W10.drew.alloc (.cells #[] 31)).heap.size = W10.heap.size + 1 := World.size_alloc _ _
        have hsz2 : ((W10.drew.alloc (.cells #[] 31)).alloc (.cells #[.int .u8 36, .int .i64 0, .int .i64 0, .int .i64 0, .string ⟨#[]⟩, .slice none 0 0] 31)).heap.size = W10.heap.size + 1 + 1 := by rw [World.size_alloc, hsz1]
        have hsz3 : ((W10.drew.alloc (.cells #[.int .u8 36, .int .i64 0, .int .i64 0, .int .i64 0, .string ⟨#[]⟩, .slice none 0 0] 31)).alloc (.cells #[] 31)).heap.size = W10.heap.size + 1 + 1 := by rw [World.size_alloc, World.size_alloc]; rfl
        have hbe : W10.heap.size ≤ (W10.drew.alloc (.cells #[] 31)).heap.size := by rw [hsz1]; omega
        have hbei : W10.heap.size ≤ ((W10.drew.alloc (.cells #[] 31)).alloc (.cells #[.int .u8 36, .int .i64 0, .int .i64 0, .int .i64 0, .string ⟨#[]⟩, .slice none 0 0] 31)).heap.size := by rw [hsz2]; omega
        have hbie : W10.heap.size ≤ ((W10.drew.alloc (.cells #[.int .u8 36, .int .i64 0, .int .i64 0, .int .i64 0, .string ⟨#[]⟩, .slice none 0 0] 31)).alloc (.cells #[] 31)).heap.size := by rw [hsz3]; omega
        have hlt2 : W10.heap.size + 1 < ((W10.drew.alloc (.cells #[] 31)).alloc (.cells #[.int .u8 36, .int .i64 0, .int .i64 0, .int .i64 0, .string ⟨#[]⟩, .slice none 0 0] 31)).heap.size := by rw [hsz2]; omega
        have hlt3 : W10.heap.size < ((W10.drew.alloc (.cells #[.int .u8 36, .int .i64 0, .int .i64 0, .int .i64 0, .string ⟨#[]⟩, .slice none 0 0] 31)).alloc (.cells #[] 31)).heap.size := by rw [hsz3]; omega
        clear hsz1 hsz2 hsz3
        have hy1 : q.n' ≤ maxLen := by unfold maxLen; omega
        have hy2 : q.n' * 72 ≤ 140737488355328 := by omega
        have hy3 : q.n' + 1 ≤ maxLen := by unfold maxLen; omega
        have hy4 : (q.n' + 1) * 72 ≤ 140737488355328 := by omega
        have hc3 := cur_three HQ.out hlt HC8.out HR3.out
        have hpA := HPA.out
        have hlt' : (k : Int) < (C.n2 : Int) := by omega
        go_region_held3 (fun w' => w'.cell? ⟨w.heap.size, 2, none⟩ = some (.slice (some ⟨pb, po, none⟩) C.n2 C.c2) ∧ w'.cell? ⟨M, 2, none⟩ = some (.slice (some ⟨g, 0, none⟩) C.n2 cap8) ∧ w'.cell? ⟨pb, po + k * 4 + 3, none⟩ = some (.slice q.A' q.n' q.c')) (first | exact hS0 | exact hSe | exact hSi | exact hSei | exact hSie | exact hS13 | exact (HK13b.out.alloc _).cells HPA.out hpb HPC.out | exact hS14 | exact (HK14.out.set (by omega) (by omega) _ _).cells HPA.out hpb HPC.out | go_keep) (first
          | (refine step_appx0 rfl _ _ _ rfl 31 6 72 _ Tryd.underlying37 info_ins rfl (by decide) W10.heap.size _ rfl HOe.out _ _ _ _ rfl HNe.out hy1 hy2 hbe ?_; intro A13 cap13 w13 how13 hgrow13 hat13; have HK13b := Lib.hid (HKe.out.keepN (by omega) (by omega) hb3 (below_grown HOe.out hgrow13 hbe)); have hS13 := HK13b.out.cells HPA.out hpb HPC.out; have hW13 : W10.heap.size ≤ w13.heap.size := Nat.le_trans hbe hgrow13.size; have HO13 := Lib.hid (how13.alloc (.cells #[.int .u8 36, .int .i64 0, .int .i64 0, .int .i64 0, .string ⟨#[]⟩, .slice none 0 0] 31)); have HI13 := Lib.hid (ins_src w13); have HK13c := Lib.hid (HK13b.out.alloc (.cells #[.int .u8 36, .int .i64 0, .int .i64 0, .int .i64 0, .string ⟨#[]⟩, .slice none 0 0] 31)); have hw13 : W10.heap.size ≤ (w13.alloc (.cells #[.int .u8 36, .int .i64 0, .int .i64 0, .int .i64 0, .string ⟨#[]⟩, .slice none 0 0] 31)).heap.size := (by rw [World.size_alloc]; omega); clear how13 hgrow13 hat13)
          | (refine step_appx0 rfl _ _ _ rfl 31 6 72 _ Tryd.underlying37 info_ins rfl (by decide) W10.heap.size _ rfl HOei.out _ _ _ _ rfl HNei.out hy1 hy2 hbei ?_; intro A13 cap13 w13 how13 hgrow13 hat13; have HK13b := Lib.hid (HKei.out.keepN (by omega) (by omega) hb3 (below_grown HOei.out hgrow13 hbei)); have hS13 := HK13b.out.cells HPA.out hpb HPC.out; have hW13 : W10.heap.size ≤ w13.heap.size := Nat.le_trans hbei hgrow13.size; have HO13 := Lib.hid how13; have HI13 := Lib.hid (HIei.out.block (hgrow13.block _ hlt2 (fun h => by have h2 : some (W10.heap.size + 1) = some W10.heap.size := h; injection h2 with h2; omega))); have HK13c := HK13b; have hw13 : W10.heap.size ≤ w13.heap.size := hW13; clear how13 hgrow13 hat13)
          | (refine step_appx0 rfl _ _ _ rfl 31 6 72 _ Tryd.underlying37 info_ins rfl (by decide) W10.heap.size _ rfl HOie.out _ _ _ _ rfl HNie.out hy1 hy2 hbie ?_; intro A13 cap13 w13 how13 hgrow13 hat13; have HK13b := Lib.hid (HKie.out.keepN (by omega) (by omega) hb3 (below_grown HOie.out hgrow13 hbie)); have hS13 := HK13b.out.cells HPA.out hpb HPC.out; have hW13 : W10.heap.size ≤ w13.heap.size := Nat.le_trans hbie hgrow13.size; have HO13 := Lib.hid how13; have HI13 := Lib.hid (HIie.out.block (hgrow13.block _ hlt3 (fun h => by have h2 : some W10.heap.size = some (W10.heap.size + 1) := h; injection h2 with h2; omega))); have HK13c := HK13b; have hw13 : W10.heap.size ≤ w13.heap.size := hW13; clear how13 hgrow13 hat13)
          | (refine step_appx rfl _ _ _ rfl 31 6 72 _ Tryd.underlying37 info_ins rfl (by decide) W10.heap.size _ q.n' _ rfl HO13.out _ _ _ _ rfl HI13.out hy3 hy4 hw13 ?_; intro A14 cap14 w14 how14 hgrow14 hat14; have HK14 := Lib.hid (HK13c.out.keepN (by omega) (by omega) hb3 (below_grown HO13.out hgrow14 hw13)); have hS14 := HK14.out.cells HPA.out hpb HPC.out; have hg14b := (HK14.out.gb.cell (k * 4 + 3)).trans hc3; have hg14f := HK14.out.gb.free (k * 4 + 3); clear how14 hgrow14 hat14)
          | fail)
        all_goals
          clear hS0 hSe hSi hSei hSie hS13 hS14 hg14b hg14f
          rw [← hpA]
          clear hpA
          have HKf := Lib.hid (HK14.out.set (by omega) (by omega) (k * 4 + 3) (.slice A14 (q.n' + 1) cap14))
          have HCf := Lib.hid (HC.out.more HKf.out.bx.below HQ.out hr2 (A := A14) (n := q.n' + 1) (c := cap14) (cap := cap8) (by omega) HKf.out.gb (cur_fin HC.out HQ.out HC8.out HR3.out _ _ _))
          generalize (w14.setCell ⟨g, k * 4 + 3, none⟩ (.slice A14 (q.n' + 1) cap14)) = W15 at HKf HCf ⊢
          have hall15 := HKf.out.bx.cells
          have hm15 := HKf.out.mcells
          go_wp2_with (first
            | ((with_reducible refine (p_more HCf.out hkw i HI.out.ok ((HKf.out.bx.ints HI.out.ints).up HKf.out.bx.le) HQ.out HB1.out HR1.out (Nat.le_succ _)).mono ?_); rintro e w16 ⟨rfl, hb16⟩; have HX16 := Lib.hid (HKf.out.bx.keep hb16); clear hb16)
            | fail)
          go_roundw
          case rel => exact ⟨k + 1, by omega, by omega, by go_num, HX16.out⟩
          case measure => simp [intOf]; omega
end Go.Proofs.YtankpckkiikmaaaDoor
namespace Go.Proofs.YtankpckkiikmaaaDoor
open Go.RowKit Go.ChangeShapes Go.WideShapes Go.Deep Cod
set_option maxRecDepth 100000
theorem bulk_one {H : Type} (d : DataW H) : 1 ≤ Rows.uptoBulk d := by
  cases d with
  | lit l => cases l <;> simp [Rows.uptoBulk]
  | nil => simp [Rows.uptoBulk]
  | ptr d => simp [Rows.uptoBulk]
  | slice elems spare => simp [Rows.uptoBulk]
  | agg parts => simp [Rows.uptoBulk]
  | iface t d => simp [Rows.uptoBulk]
  | map entries => simp [Rows.uptoBulk]
  | held h => simp [Rows.uptoBulk]
theorem bulk_part {H : Type} {d : DataW H} {l : List (DataW H)} (h : d ∈ l) : Rows.uptoBulk d ≤ Rows.uptoBulkAll l := by
  induction l with
  | nil => cases h
  | cons x r ih =>
    simp only [Rows.uptoBulkAll]
    cases List.mem_cons.1 h with
    | inl e => subst e; omega
    | inr e => have := ih e; omega
theorem bulk_len {H : Type} (l : List (DataW H)) : l.length ≤ Rows.uptoBulkAll l := by
  induction l with
  | nil => simp [Rows.uptoBulkAll]
  | cons x r ih => have := bulk_one x; simp only [Rows.uptoBulkAll, List.length_cons]; omega
theorem bulk_slice {H : Type} (l r : List (DataW H)) : Rows.uptoBulkAll l ≤ Rows.uptoBulk (.slice l r) := by
  simp only [Rows.uptoBulk]; omega
theorem bulk_agg {H : Type} (l : List (DataW H)) : Rows.uptoBulkAll l ≤ Rows.uptoBulk (.agg l) := by
  simp only [Rows.uptoBulk]; omega
section
variable {H : Type} {enc : TypeId × Value → H} {w : World} {spare : Nat → Bool} {held : Bool} {fuel : Nat} {cs : List Value} {x : DataW H × List MemPlace}
theorem flat6 (f : Nat → List Value) (hf : ∀ t, (f t).length = 6) : ∀ (n t s : Nat), t < n → s < 6 → ((List.range n).flatMap f)[t * 6 + s]? = (f t)[s]?
  | 0, t, s, h, _ => by omega
  | n + 1, t, s, h, hs => by
    have hl : ∀ m : Nat, ((List.range m).flatMap f).length = m * 6 := by
      intro m
      induction m with
      | zero => rfl
      | succ m ih => rw [List.range_succ, List.flatMap_append, List.length_append, ih]; simp [hf]; omega
    rw [List.range_succ, List.flatMap_append]
    by_cases ht : t < n
    · rw [List.getElem?_append_left (by rw [hl]; omega)]
      exact flat6 f hf n t s ht hs
    · obtain rfl : t = n := by omega
      rw [List.getElem?_append_right (by rw [hl]; omega), hl, show t * 6 + s - t * 6 = s by omega]
      simp
theorem flat6_len (f : Nat → List Value) (hf : ∀ t, (f t).length = 6) (m : Nat) : ((List.range m).flatMap f).length = m * 6 := by
  induction m with
  | zero => rfl
  | succ m ih => rw [List.range_succ, List.flatMap_append, List.length_append, ih]; simp [hf]; omega
theorem ins_cells (h : DataW.trod enc Tryd.prog w 0 spare held fuel 31 cs = some x) : cs.length = 6 ∧ ∀ u ∈ cs, u.oneCell' = true := by
  obtain ⟨ys, n, hn, hy, hlen, hyl, hf⟩ := DataW.trod_struct Tryd.underlying31 h
  have hc5 : Tryd.prog.cellsOf 31 = 6 := by kernel_rfl
  rw [hc5] at hlen
  have k0 : Tryd.prog.cellsOf 29 = 1 := by kernel_rfl
  have k1 : Tryd.prog.cellsOf 3 = 1 := by kernel_rfl
  have k4 : Tryd.prog.cellsOf 9 = 1 := by kernel_rfl
  have k5 : Tryd.prog.cellsOf 25 = 1 := by kernel_rfl
  match cs, hlen, ys, hyl with
  | [v0, v1, v2, v3, v4, v5], _, [y0, y1, y2, y3, y4, y5], _ =>
    have e0 : DataW.trod enc Tryd.prog w 0 spare held n 29 (([v0, v1, v2, v3, v4, v5].drop 0).take (Tryd.prog.cellsOf 29)) = some y0 := hf 0 _ rfl
    have e1 : DataW.trod enc Tryd.prog w 0 spare held n 3 (([v0, v1, v2, v3, v4, v5].drop 1).take (Tryd.prog.cellsOf 3)) = some y1 := hf 1 _ rfl
    have e2 : DataW.trod enc Tryd.prog w 0 spare held n 3 (([v0, v1, v2, v3, v4, v5].drop 2).take (Tryd.prog.cellsOf 3)) = some y2 := hf 2 _ rfl
    have e3 : DataW.trod enc Tryd.prog w 0 spare held n 3 (([v0, v1, v2, v3, v4, v5].drop 3).take (Tryd.prog.cellsOf 3)) = some y3 := hf 3 _ rfl
    have e4 : DataW.trod enc Tryd.prog w 0 spare held n 9 (([v0, v1, v2, v3, v4, v5].drop 4).take (Tryd.prog.cellsOf 9)) = some y4 := hf 4 _ rfl
    have e5 : DataW.trod enc Tryd.prog w 0 spare held n 25 (([v0, v1, v2, v3, v4, v5].drop 5).take (Tryd.prog.cellsOf 25)) = some y5 := hf 5 _ rfl
    rw [k0] at e0
    rw [k1] at e1 e2 e3
    rw [k4] at e4
    rw [k5] at e5
    obtain ⟨m0, a0, -, -⟩ := DataW.trod_int Tryd.underlying29 e0
    obtain ⟨m1, a1, -, -⟩ := DataW.trod_int Tryd.underlying3 e1
    obtain ⟨m2, a2, -, -⟩ := DataW.trod_int Tryd.underlying3 e2
    obtain ⟨m3, a3, -, -⟩ := DataW.trod_int Tryd.underlying3 e3
    obtain ⟨m4, a4, -, -⟩ := DataW.trod_string Tryd.underlying9 e4
    obtain ⟨A5, n5, c5, a5, -, -⟩ := t_any Tryd.underlying25 e5
    simp at a0 a1 a2 a3 a4 a5
    subst a0 a1 a2 a3 a4 a5
    refine ⟨rfl, fun u hu => ?_⟩
    simp only [List.mem_cons, List.not_mem_nil, or_false] at hu
    rcases hu with rfl | rfl | rfl | rfl | rfl | rfl <;> rfl
theorem t_inss (h : DataW.trod enc Tryd.prog w 0 spare held fuel 37 cs = some x) : ∃ A n cap news, cs = [.slice A n cap] ∧ Src w A n cap 6 news ∧ n ≤ cap ∧ cap ≤ maxLen ∧ n ≤ Rows.uptoBulk x.1 := by
  have hc6 : Tryd.prog.cellsOf 31 = 6 := by kernel_rfl
  rcases open_slice Tryd.underlying37 h with ⟨hcs, _⟩ | ⟨a, len, cap, m, n, D, Pl, hcs, hb, hl, hm, hmm, hx, hi⟩
  · exact ⟨_, _, _, [], hcs, ⟨rfl, by simp, .inl ⟨rfl, rfl, rfl⟩⟩, Nat.le_refl _, Nat.zero_le _, Nat.zero_le _⟩
  · have hlen : len ≤ m := by rw [hmm]; split <;> omega
    rw [hc6] at hi
    have hE : ∀ i, ∃ l : List Value, l.length = 6 ∧ (∀ u ∈ l, u.oneCell' = true) ∧ (i < len → w.cells? 0 (a.add (i * 6)) 6 = some l) := fun i => by
      by_cases h : i < len
      · obtain ⟨cs', h1, h2⟩ := hi i (by omega)
        obtain ⟨h3, h4⟩ := ins_cells h2
        exact ⟨cs', h3, h4, fun _ => h1⟩
      · exact ⟨List.replicate 6 (.bool true), by simp, by intro u hu; rw [List.eq_of_mem_replicate hu]; rfl, fun h' => absurd h' h⟩
    refine ⟨_, _, _, (List.range len).flatMap (fun i => (hE i).choose), hcs, ⟨flat6_len _ (fun t => (hE t).choose_spec.1) _, fun u hu => ?_, .inr ⟨a, rfl, fun j u hj => ?_⟩⟩, hl, hm, ?_⟩
    · obtain ⟨i, -, hu⟩ := List.mem_flatMap.1 hu
      exact (hE i).choose_spec.2.1 u hu
    · have hjl : j < ((List.range len).flatMap (fun i => (hE i).choose)).length := (List.getElem?_eq_some_iff.1 hj).1
      rw [flat6_len _ (fun t => (hE t).choose_spec.1)] at hjl
      have ht : j / 6 < len := by omega
      have h1 := flat6 (fun i => (hE i).choose) (fun t => (hE t).choose_spec.1) len (j / 6) (j % 6) ht (Nat.mod_lt _ (by omega))
      rw [show j / 6 * 6 + j % 6 = j by omega, hj] at h1
      have h2 := (hE (j / 6)).choose_spec.2.2 ht
      have h3 := (World.cells?_some h2).2.2 (j % 6) (by have := (World.cells?_some h2).1; omega)
      have e : (a.add (j / 6 * 6)).add (j % 6) = a.add j := by
        rw [Addr.add_add, show j / 6 * 6 + j % 6 = j by omega]
      rw [e] at h3
      rw [h3]
      exact h1.symm
    · rw [hx]
      have h1 := bulk_len ((List.range len).map D)
      have h2 := bulk_slice ((List.range len).map D) ((List.range (m - len)).map fun j => D (len + j))
      simp only [List.length_map, List.length_range] at h1
      exact Nat.le_trans h1 h2
theorem t_lenb {t e : TypeId} (ht : Tryd.prog.underlying t = some (.slice e)) (h : DataW.trod enc Tryd.prog w 0 spare held fuel t cs = some x) {A : Option Addr} {n cap : Nat} (hcs : cs = [.slice A n cap]) : n ≤ Rows.uptoBulk x.1 := by
  rcases open_slice ht h with ⟨h0, _⟩ | ⟨a, len, cap', m, n', D, Pl, h0, hb, hl, hm, hmm, hx, hi⟩
  · rw [hcs] at h0
    simp at h0
    rw [h0.2.1]; exact Nat.zero_le _
  · rw [hcs] at h0
    simp at h0
    rw [h0.2.1, hx]
    have h1 := bulk_len ((List.range len).map D)
    have h2 := bulk_slice ((List.range len).map D) ((List.range (m - len)).map fun j => D (len + j))
    simp only [List.length_map, List.length_range] at h1
    exact Nat.le_trans h1 h2
theorem part_bulk (h : DataW.trod enc Tryd.prog w 0 spare held fuel 39 cs = some x) {v0 v1 v2 : Value} {A : Option Addr} {n cap : Nat} (hcs : cs = [v0, v1, v2, .slice A n cap]) : n ≤ Rows.uptoBulk x.1 ∧ ∃ news, Src w A n cap 6 news := by
  subst hcs
  obtain ⟨ys, m, hn, hy, hlen, hyl, hf⟩ := DataW.trod_struct Tryd.underlying39 h
  have k3 : Tryd.prog.cellsOf 37 = 1 := by kernel_rfl
  match ys, hyl with
  | [y0, y1, y2, y3], _ =>
    have e3 : DataW.trod enc Tryd.prog w 0 spare held m 37 (([v0, v1, v2, .slice A n cap].drop 3).take (Tryd.prog.cellsOf 37)) = some y3 := hf 3 _ rfl
    rw [k3] at e3
    have e4 : DataW.trod enc Tryd.prog w 0 spare held m 37 [.slice A n cap] = some y3 := e3
    obtain ⟨A', n', cap', news, h1, h2, -, -, h5⟩ := t_inss e4
    simp at h1
    obtain ⟨rfl, rfl, rfl⟩ := h1
    refine ⟨?_, news, h2⟩
    rw [hy]
    exact Nat.le_trans h5 (Nat.le_trans (bulk_part (by simp)) (bulk_agg _))
theorem code_bulk {C : CV} (hC : CodeAt w w.heap.size C) (h : DataW.trod enc Tryd.prog w 0 spare held fuel 28 (#[.slice C.A0 C.n0 C.c0, .slice C.A1 C.n1 C.c1, .slice C.A2 C.n2 C.c2, .slice C.A3 C.n3 C.c3, .slice C.A4 C.n4 C.c4, .slice C.A5 C.n5 C.c5, .slice C.A6 C.n6 C.c6] : Array Value).toList = some x) :
    C.n2 ≤ Rows.uptoBulk x.1 ∧ ∀ q ∈ C.parts, q.n' ≤ Rows.uptoBulk x.1 ∧ ∃ news, Src w q.A' q.n' q.c' 6 news := by
  obtain ⟨ys, m, hn, hy, hlen, hyl, hf⟩ := DataW.trod_struct Tryd.underlying28 h
  have k2 : Tryd.prog.cellsOf 24 = 1 := by kernel_rfl
  have hc4 : Tryd.prog.cellsOf 39 = 4 := by kernel_rfl
  match ys, hyl with
  | [y0, y1, y2, y3, y4, y5, y6], _ =>
    have e2 : DataW.trod enc Tryd.prog w 0 spare held m 24 (((#[.slice C.A0 C.n0 C.c0, .slice C.A1 C.n1 C.c1, .slice C.A2 C.n2 C.c2, .slice C.A3 C.n3 C.c3, .slice C.A4 C.n4 C.c4, .slice C.A5 C.n5 C.c5, .slice C.A6 C.n6 C.c6] : Array Value).toList.drop 2).take (Tryd.prog.cellsOf 24)) = some y2 := hf 2 _ rfl
    rw [k2] at e2
    have e3 : DataW.trod enc Tryd.prog w 0 spare held m 24 [.slice C.A2 C.n2 C.c2] = some y2 := e2
    have hyb : Rows.uptoBulk y2.1 ≤ Rows.uptoBulk x.1 := by rw [hy]; exact Nat.le_trans (bulk_part (by simp)) (bulk_agg _)
    refine ⟨Nat.le_trans (t_lenb Tryd.underlying24 e3 rfl) hyb, fun q hq => ?_⟩
    obtain ⟨t, ht, hqt⟩ := List.getElem_of_mem hq
    have htn : t < C.n2 := by rw [← hC.plen]; exact ht
    obtain ⟨b, o, hA, hB, hc⟩ := hC.parts (by omega)
    have hc3 := hc t ht
    rw [hqt] at hc3
    rcases open_slice Tryd.underlying24 e3 with ⟨h0, _⟩ | ⟨a, len, cap', m', n', D, Pl, h0, hb, hl, hm, hmm, hx, hi⟩
    · simp at h0
      omega
    · simp at h0
      obtain ⟨h01, h02, h03⟩ := h0
      have hlen' : len ≤ m' := by rw [hmm]; split <;> omega
      rw [hc4] at hi
      obtain ⟨cs', h1, h2⟩ := hi t (by omega)
      rw [hA] at h01
      obtain rfl : (⟨b, o, none⟩ : Addr) = a := Option.some.inj h01
      obtain ⟨-, hl4, hcell⟩ := World.cells?_some h1
      match cs', hl4 with
      | [u0, u1, u2, u3], _ =>
        have q3 := hcell 3 (by omega)
        simp only [add_offC] at q3
        have q4 : some (Value.slice q.A' q.n' q.c') = some u3 := hc3.2.2.2.symm.trans q3
        obtain rfl := Option.some.inj q4
        obtain ⟨h5, h6⟩ := part_bulk h2 rfl
        refine ⟨Nat.le_trans h5 (Nat.le_trans ?_ hyb), h6⟩
        rw [hx]
        exact Nat.le_trans (bulk_part (List.mem_map.2 ⟨t, List.mem_range.2 (by omega), rfl⟩)) (bulk_slice _ _)
theorem ins_bulk {i : IV} (h : DataW.trod enc Tryd.prog w 0 spare held fuel 31 (#[.int .u8 i.op, .int .i64 i.a, .int .i64 i.b, .int .i64 i.c, .string i.s, .slice i.A i.n i.cap] : Array Value).toList = some x) : i.s.size ≤ Rows.uptoBulk x.1 ∧ i.n ≤ Rows.uptoBulk x.1 := by
  obtain ⟨ys, m, hn, hy, hlen, hyl, hf⟩ := DataW.trod_struct Tryd.underlying31 h
  have k4 : Tryd.prog.cellsOf 9 = 1 := by kernel_rfl
  have k5 : Tryd.prog.cellsOf 25 = 1 := by kernel_rfl
  match ys, hyl with
  | [y0, y1, y2, y3, y4, y5], _ =>
    have e4 : DataW.trod enc Tryd.prog w 0 spare held m 9 (((#[.int .u8 i.op, .int .i64 i.a, .int .i64 i.b, .int .i64 i.c, .string i.s, .slice i.A i.n i.cap] : Array Value).toList.drop 4).take (Tryd.prog.cellsOf 9)) = some y4 := hf 4 _ rfl
    have e5 : DataW.trod enc Tryd.prog w 0 spare held m 25 (((#[.int .u8 i.op, .int .i64 i.a, .int .i64 i.b, .int .i64 i.c, .string i.s, .slice i.A i.n i.cap] : Array Value).toList.drop 5).take (Tryd.prog.cellsOf 25)) = some y5 := hf 5 _ rfl
    rw [k4] at e4
    rw [k5] at e5
    have f4 : DataW.trod enc Tryd.prog w 0 spare held m 9 [.string i.s] = some y4 := e4
    have f5 : DataW.trod enc Tryd.prog w 0 spare held m 25 [.slice i.A i.n i.cap] = some y5 := e5
    have b4 : Rows.uptoBulk y4.1 ≤ Rows.uptoBulk x.1 := by rw [hy]; exact Nat.le_trans (bulk_part (by simp)) (bulk_agg _)
    have b5 : Rows.uptoBulk y5.1 ≤ Rows.uptoBulk x.1 := by rw [hy]; exact Nat.le_trans (bulk_part (by simp)) (bulk_agg _)
    refine ⟨?_, Nat.le_trans (t_lenb Tryd.underlying25 f5 rfl) b5⟩
    obtain ⟨s, a4, hx4, h4⟩ := DataW.trod_string Tryd.underlying9 f4
    simp at a4
    subst a4
    rw [hx4] at b4
    simp only [Rows.uptoBulk] at b4
    have : i.s.data.toList.length = i.s.size := rfl
    omega
end
theorem l_cshown {H : Type} {enc : TypeId × Value → H} {d0 d1 d2 : DataW H} {p0 p1 p2 : List MemPlace} {s0 s1 s2 : Nat → Bool} {g0 g1 g2 : Bool} {r0 r1 r2 : Reach} {b0 b1 b2 : Nat} (v0 v1 v2 : Value) (w : World) (hsh : w.ShapedOpen Tryd.prog) (ht : Lib.TabBelow Tryd.prog w.heap.size w "internal/strconv.uint64pow10" .u64 Lib.pow10Tab) (hbk : Rows.uptoBulkAll [d0, d1, d2] ≤ 1048576)
    (hv0 : Value.okWide Tryd.prog w r0 b0 28 v0) (k0 : DataW.Trod enc Tryd.prog w 0 s0 g0 28 v0 d0 p0) (hv1 : Value.okWide Tryd.prog w r1 b1 31 v1) (k1 : DataW.Trod enc Tryd.prog w 0 s1 g1 31 v1 d1 p1) (hv2 : Value.okWide Tryd.prog w r2 b2 31 v2) (k2 : DataW.Trod enc Tryd.prog w 0 s2 g2 31 v2 d2 p2) :
    Calls Tryd.prog 3 #[v0, v1, v2] w fun e w' => e = .returned (.bool true) ∧ Below w.heap.size w w' := by
  obtain ⟨C, rfl, hC⟩ := code_open hv0 k0
  obtain ⟨i, rfl, hi, ho8, hsz, hl⟩ := ins_open hv1 k1
  obtain ⟨j, rfl, hj, hoj8, hszj, hlj⟩ := ins_open hv2 k2
  have hb0 : Rows.uptoBulk d0 ≤ 1048576 := Nat.le_trans (bulk_part (by simp)) hbk
  have hb1 : Rows.uptoBulk d1 ≤ 1048576 := Nat.le_trans (bulk_part (by simp)) hbk
  have hb2 : Rows.uptoBulk d2 ≤ 1048576 := Nat.le_trans (bulk_part (by simp)) hbk
  have up : ∀ n : Int, (Lit.int .u8 n).wf = true → (Lit.int .i64 n).wf = true := fun n h => by
    simp [Lit.wf, IntKind.min, IntKind.max, IntKind.bits, IntKind.signed] at h ⊢
    omega
  obtain ⟨f0, t0⟩ := k0
  obtain ⟨f1, t1⟩ := k1
  obtain ⟨f2, t2⟩ := k2
  obtain ⟨c1, c2⟩ := code_bulk hC t0
  obtain ⟨i1, i2⟩ := ins_bulk (i := i) t1
  obtain ⟨j1, j2⟩ := ins_bulk (i := j) t2
  dsimp only at c1 c2 i1 i2 j1 j2
  exact l_cshown0 hC ⟨hi, up _ ho8, ho8, hl, by omega, by omega⟩ ⟨hj, up _ hoj8, hoj8, hlj, by omega, by omega⟩ (fun q hq => ⟨Nat.le_trans (c2 q hq).1 hb0, (c2 q hq).2⟩) (by omega) ht
end Go.Proofs.YtankpckkiikmaaaDoor
