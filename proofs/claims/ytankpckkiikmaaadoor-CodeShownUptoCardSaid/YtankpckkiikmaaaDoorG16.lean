/- Code: the walk of Show, of words out of range; all. -/
import Derived.Test.YtankpckkiikmaaaDoorG12
set_option linter.unusedVariables false
set_option linter.unusedSimpArgs false
namespace Go.Proofs.YtankpckkiikmaaaDoor
open Go.RowKit Cod
theorem word_out {op : Int} (h : ¬ (1 ≤ op ∧ op ≤ 36)) : (⟨#[111, 112]⟩ : ByteArray) ++ itB op = wordB op := by
  unfold wordB
  rw [if_neg h]
  apply bytes_ext
  simp [opw, itB]
set_option maxRecDepth 100000 in
set_option maxHeartbeats 8000000 in
theorem p_show_loE {w : World} {B : Nat} (i : IV) (hi : IOk i) (hoi : (Lit.int .i64 i.op).wf = true) (ht : Lib.TabBelow Tryd.prog w.heap.size w "internal/strconv.uint64pow10" .u64 Lib.pow10Tab) (hl : Ints w B i.A i.n i.args) (hB : B ≤ w.heap.size) (hnb : i.n ≤ 1000) (hsb : i.s.size ≤ 1000) (ho0 : 0 ≤ i.op) (ho9 : i.op ≤ 255) (hop : i.op < 1) (he : empB i.s = true) :
    Calls Tryd.prog 8 #[.agg #[.int .u8 i.op, .int .i64 i.a, .int .i64 i.b, .int .i64 i.c, .string i.s, .slice i.A i.n i.cap]] w fun e w' => e = .returned (.string (showB i)) ∧ Below w.heap.size w w' := by
  have HI := Lib.hid hi
  have HT := Lib.hid ht
  have HL := Lib.hid (hl.keep hB (Below.refl _ _))
  have HB := Lib.hid hB
  have HOW := Lib.hid hoi
  have HNB := Lib.hid hnb
  have hinfo : (Tryd.prog.info? 59).map (·.size) = some 36 := by kernel_rfl
  have HIN := Lib.hid hinfo
  have hsz := itB_size hoi
  have HPL := Lib.hid (parts_size i hi hoi hsb)
  have HAL : Hid (∀ x ∈ i.args.map itB, x.size ≤ 1000) := fun x hx => by
    obtain ⟨n, hn, rfl⟩ := List.mem_map.1 hx
    exact Nat.le_trans (itB_size (hl.2.2.1 n hn)) (by decide)
  have HJ1 : Hid ((joinB (partsS i)).size ≤ 10010) := by
    have h1 := joinB_size 1000 (parts_size i hi hoi hsb)
    have h2 := parts_len i
    exact Nat.le_trans h1 (Nat.le_trans (Nat.mul_le_mul_right _ (show (partsS i).length ≤ 5 by omega)) (by decide))
  have HJ2 : Hid ((joinB (i.args.map itB)).size ≤ 1001000) := by
    have h1 := joinB_size 1000 HAL.out
    exact Nat.le_trans h1 (Nat.le_trans (Nat.mul_le_mul_right _ (show (i.args.map itB).length ≤ 1000 by rw [List.length_map, hl.1]; exact hnb)) (by decide))
  have hwd := word_out (op := i.op) (by omega)
  have HWD := Lib.hid hwd
  clear hwd
  clear ht hi hinfo hoi hl hB
  have hse := emp_iff he
  simp only [Bool.false_eq_true, iff_false, iff_true] at hse
  have HE := Lib.hid he
  clear he
  go_enter Tryd.func8, Tryd.ntmps8
  go_wp2_with (first | (refine wp_hide_val rfl 59 _ rfl (.agg namesA) (by kernel_rfl) ?_; intro nv hnv; have HNV := Lib.hid hnv; clear hnv) | (refine wp_store_new rfl _ _ _ rfl _ namesA _ (w.heap.size + 1) (by simp) rfl HNV.out rfl HIN.out (by kernel_rfl) ?_; intro w1 hb1 hr1; have hsh1 := Sh.made i HT.out hb1 hr1; clear hb1 hr1; have hall := hsh1.cells') | (((with_reducible refine (p_itoa i.op _ HOW.out (Sh.is (by assumption))).mono ?_); rintro e w2 ⟨rfl, hb2⟩; have hsh2 := Sh.keep (by assumption) hb2; clear hb2); have hall2 := hsh2.cells'))
  have hd2 := hsh2.drew
  clear hall hall2
  rw [HWD.out]
  have hall := hd2.cells'
  go_region_held3 (fun w' => w'.cell? ⟨w.heap.size, 0, none⟩ = some (.int .u8 i.op) ∧ w'.cell? ⟨w.heap.size, 1, none⟩ = some (.int .i64 i.a) ∧ w'.cell? ⟨w.heap.size, 2, none⟩ = some (.int .i64 i.b) ∧ w'.cell? ⟨w.heap.size, 3, none⟩ = some (.int .i64 i.c) ∧ w'.cell? ⟨w.heap.size, 4, none⟩ = some (.string i.s) ∧ w'.cell? ⟨w.heap.size, 5, none⟩ = some (.slice i.A i.n i.cap)) (first | exact hall | exact Sh.cells' (by assumption) | exact Sh.cells' (Sh.alloc (by assumption) _) | go_keep) (first | (go_at_call 24; with_reducible refine (p_itoa i.a _ HI.out.a (Sh.is (by assumption))).mono ?_; rintro e w3 ⟨rfl, hb3⟩; have hsh3 := Sh.keep (by assumption) hb3; clear hb3) | (go_at_call 24; with_reducible refine (p_itoa i.b _ HI.out.b (Sh.is (by assumption))).mono ?_; rintro e w3 ⟨rfl, hb3⟩; have hsh3 := Sh.keep (by assumption) hb3; clear hb3) | (go_at_call 24; with_reducible refine (p_itoa i.c _ HI.out.c (Sh.is (by assumption))).mono ?_; rintro e w3 ⟨rfl, hb3⟩; have hsh3 := Sh.keep (by assumption) hb3; clear hb3))
  all_goals
   have hsh4 := hsh3.alloc (.cells #[.string (wordB i.op), .string (itB i.a), .string (itB i.b), .string (itB i.c)] 9)
   have hown : (w3.alloc (.cells #[.string (wordB i.op), .string (itB i.a), .string (itB i.b), .string (itB i.c)] 9)).ownsRow (w.heap.size + 2) 9 1 (.slice (some ⟨w3.heap.size, 0, none⟩) 4 4) 4 (svals [wordB i.op, itB i.a, itB i.b, itB i.c]) := own_lit (l := [wordB i.op, itB i.a, itB i.b, itB i.c]) (by have := hsh3.lt; omega) (by show 4 ≤ 1000; omega)
   generalize w3.alloc (.cells #[.string (wordB i.op), .string (itB i.a), .string (itB i.b), .string (itB i.c)] 9) = W4 at hsh4 hown ⊢
   generalize w3.heap.size = g4 at hown ⊢
   clear hsh3 hall hd2 hsh2 hsh1
   have hall4 := hsh4.cells'
   have hs4 : w.heap.size + 2 ≤ W4.heap.size := by have := hsh4.lt; omega
   have hz1 : 4 + 1 ≤ maxLen := by unfold maxLen; omega
   have hz2 : (4 + 1) * 16 ≤ 140737488355328 := by omega
   have hownP : W4.ownsRow (w.heap.size + 2) 9 1 (.slice (some ⟨g4, 0, none⟩) 4 4) 4 (svals (partsS i)) := by
     rw [show partsS i = [wordB i.op, itB i.a, itB i.b, itB i.c] by unfold partsS; rw [HE.out]; rfl]; exact hown
   clear hown
   go_wp2_with fail
   obtain ⟨W5, vP, nP, hW5⟩ : ∃ (W5 : World) (vP : Value) (nP : Nat), W5 = W4 ∧ vP = .slice (some ⟨g4, 0, none⟩) 4 4 ∧ nP = 4 := ⟨_, _, _, rfl, rfl, rfl⟩
   obtain ⟨rfl, hvP, hnP⟩ := hW5
   rw [← hvP]
   rw [← hvP, ← hnP] at hownP
   clear hvP hnP hall4
   have hsh5 := hsh4
   clear hsh4
   have hs5 := hs4
   have HOWN := Lib.hid hownP
   have HSH := Lib.hid hsh5
   obtain ⟨AP, capP, hvP, hcP, -, hSP⟩ := strs_form' hownP
   have hall5 := hsh5.cells'
   clear hownP hsh5
   subst hvP
   have hnP : nP ≤ 1000 := by have := hSP.1; have := parts_len i; omega
   have HSP := Lib.hid hSP
   have hsz5 : w.heap.size ≤ W5.heap.size := by omega
   clear hSP
   go_wp2_with fail
   go_loopw [6, 52] (fun v i0 wr => ∃ k : Nat, k ≤ i.n ∧ i0 = .int .i64 k ∧ wr.ownsRow W5.heap.size 9 1 v k (svals ((i.args.take k).map itB)) ∧ Below W5.heap.size W5 wr) (fun v i0 wr => i.n - (intOf i0).toNat)
   case atStart => exact ⟨0, Nat.zero_le _, rfl, ⟨rfl, .inl ⟨rfl, rfl⟩⟩, Below.refl _ _⟩
   case round =>
    obtain ⟨k, hk, rfl, howk, hb⟩ := hrel
    have bW : Below w.heap.size w wr := HSH.out.below.trans (hb.mono hsz5)
    have HBW := Lib.hid bW
    have HBB := Lib.hid hb
    have HOK := Lib.hid howk
    by_cases hlt : k < i.n
    · obtain ⟨ab, ao, hiA, hab, x, hx, hwx, hcx⟩ := (HL.out.keep HB.out bW).at hlt
      have HTK : Hid ((i.args.take (k + 1)).map itB = (i.args.take k).map itB ++ [itB x]) := by
        unfold Hid
        rw [take_snoc' hx, List.map_append]; rfl
      have htab := HT.out wr bW
      have hz3 : k + 1 ≤ maxLen := by unfold maxLen; omega
      have hz4 : (k + 1) * 16 ≤ 140737488355328 := by omega
      clear hx howk bW hb hall5
      go_wp2_with (first | ((with_reducible refine (p_itoa x _ hwx htab).mono ?_); rintro e w6 ⟨rfl, hb6⟩; have how6 := own_of_block HOK.out (fun g hg => hb6.block g (own_ltx HOK.out hg)); have hb56 := HBB.out.trans (hb6.mono HBB.out.size); have hbs6 := hb56.size; clear hb6) | (at_builtin; refine wp_app1 rfl _ _ _ rfl 9 1 16 _ Tryd.underlying52 info_str rfl (by decide) W5.heap.size _ _ _ rfl how6 [_] rfl rfl one_str hz3 hz4 hbs6 ?_; intro v7 w7 how7 hgrow7 hne7; have hb57 := hb56.trans (below_grown how6 hgrow7 hbs6); clear hgrow7 hne7))
      have how8 : w7.ownsRow W5.heap.size 9 1 v7 (k + 1) (svals ((i.args.take (k + 1)).map itB)) := by
        rw [HTK.out]; simpa [svals] using how7
      clear how7 how6 hb56
      rw [← hiA]
      go_roundw
      case rel => exact ⟨k + 1, by omega, by go_num, how8, hb57⟩
      case measure => simp [intOf]; omega
    · obtain rfl : k = i.n := by omega
      have htk : (i.args.take i.n) = i.args := List.take_of_length_le (by rw [HL.out.1]; exact Nat.le_refl _)
      rw [htk] at howk
      have hal : (i.args.map itB).length = i.n := by rw [List.length_map, HL.out.1]
      obtain ⟨AQ, capQ, rfl, hcQ, -, hSQ⟩ := strs_form' howk
      have HSQ := Lib.hid hSQ
      have HSPr := Lib.hid (HSP.out.below hb)
      have hle1 := hb.size
      have hj1 := HJ1.out
      have hj2 := HJ2.out
      clear howk hSQ hb bW htk hall5
      by_cases hn0 : i.n = 0
      · have HA : Hid (showB i = joinB (partsS i)) := by
          unfold Hid showB
          rw [if_pos (List.length_eq_zero_iff.1 (by rw [HL.out.1]; exact hn0))]
        have hn1 : decide (0 < i.n) = false := by simp [hn0]
        have hn2 : ¬ 0 < i.n := by omega
        clear hn0 hal
        go_wp2_with (((with_reducible refine (p_join HSPr.out hle1 hcP hnP HPL.out).mono ?_); rintro e w8 ⟨rfl, hb8⟩))
        go_ret
        exact ⟨ret_str HA.out.symm, Gr.trans HBW.out hb8⟩
      · have HA : Hid (showB i = joinB (partsS i) ++ ((⟨#[32, 91]⟩ ++ joinB (i.args.map itB)) ++ ⟨#[93]⟩)) := by
          unfold Hid showB
          rw [if_neg (fun h => hn0 (by rw [← HL.out.1, h]; rfl))]
        have hn1 : 0 < i.n := by omega
        have hal' : (i.args.map itB).length ≤ 1000 := by omega
        clear hn0 hal
        go_wp2_with (first | ((with_reducible refine (p_join HSPr.out hle1 hcP hnP HPL.out).mono ?_); rintro e w8 ⟨rfl, hb8⟩; have HSQ8 := Lib.hid (HSQ.out.below hb8); have hle8 := hb8.size; have HB8 := Lib.hid (Gr.trans HBW.out hb8); clear hb8) | ((with_reducible refine (p_join HSQ8.out hle8 hcQ HNB.out HAL.out).mono ?_); rintro e w9 ⟨rfl, hb9⟩; have HB9 := Lib.hid (Gr.trans HB8.out hb9); clear hb9))
        go_ret
        exact ⟨ret_str HA.out.symm, HB9.out⟩
set_option maxRecDepth 100000 in
set_option maxHeartbeats 8000000 in
theorem p_show_hiE {w : World} {B : Nat} (i : IV) (hi : IOk i) (hoi : (Lit.int .i64 i.op).wf = true) (ht : Lib.TabBelow Tryd.prog w.heap.size w "internal/strconv.uint64pow10" .u64 Lib.pow10Tab) (hl : Ints w B i.A i.n i.args) (hB : B ≤ w.heap.size) (hnb : i.n ≤ 1000) (hsb : i.s.size ≤ 1000) (ho0 : 0 ≤ i.op) (ho9 : i.op ≤ 255) (hop : 36 < i.op) (he : empB i.s = true) :
    Calls Tryd.prog 8 #[.agg #[.int .u8 i.op, .int .i64 i.a, .int .i64 i.b, .int .i64 i.c, .string i.s, .slice i.A i.n i.cap]] w fun e w' => e = .returned (.string (showB i)) ∧ Below w.heap.size w w' := by
  have HI := Lib.hid hi
  have HT := Lib.hid ht
  have HL := Lib.hid (hl.keep hB (Below.refl _ _))
  have HB := Lib.hid hB
  have HOW := Lib.hid hoi
  have HNB := Lib.hid hnb
  have hinfo : (Tryd.prog.info? 59).map (·.size) = some 36 := by kernel_rfl
  have HIN := Lib.hid hinfo
  have hsz := itB_size hoi
  have HPL := Lib.hid (parts_size i hi hoi hsb)
  have HAL : Hid (∀ x ∈ i.args.map itB, x.size ≤ 1000) := fun x hx => by
    obtain ⟨n, hn, rfl⟩ := List.mem_map.1 hx
    exact Nat.le_trans (itB_size (hl.2.2.1 n hn)) (by decide)
  have HJ1 : Hid ((joinB (partsS i)).size ≤ 10010) := by
    have h1 := joinB_size 1000 (parts_size i hi hoi hsb)
    have h2 := parts_len i
    exact Nat.le_trans h1 (Nat.le_trans (Nat.mul_le_mul_right _ (show (partsS i).length ≤ 5 by omega)) (by decide))
  have HJ2 : Hid ((joinB (i.args.map itB)).size ≤ 1001000) := by
    have h1 := joinB_size 1000 HAL.out
    exact Nat.le_trans h1 (Nat.le_trans (Nat.mul_le_mul_right _ (show (i.args.map itB).length ≤ 1000 by rw [List.length_map, hl.1]; exact hnb)) (by decide))
  have hwd := word_out (op := i.op) (by omega)
  have op1 : 1 ≤ i.op := by omega
  have HWD := Lib.hid hwd
  clear hwd
  clear ht hi hinfo hoi hl hB
  have hse := emp_iff he
  simp only [Bool.false_eq_true, iff_false, iff_true] at hse
  have HE := Lib.hid he
  clear he
  go_enter Tryd.func8, Tryd.ntmps8
  go_wp2_with (first | (refine wp_hide_val rfl 59 _ rfl (.agg namesA) (by kernel_rfl) ?_; intro nv hnv; have HNV := Lib.hid hnv; clear hnv) | (refine wp_store_new rfl _ _ _ rfl _ namesA _ (w.heap.size + 1) (by simp) rfl HNV.out rfl HIN.out (by kernel_rfl) ?_; intro w1 hb1 hr1; have hsh1 := Sh.made i HT.out hb1 hr1; clear hb1 hr1; have hall := hsh1.cells') | (((with_reducible refine (p_itoa i.op _ HOW.out (Sh.is (by assumption))).mono ?_); rintro e w2 ⟨rfl, hb2⟩; have hsh2 := Sh.keep (by assumption) hb2; clear hb2); have hall2 := hsh2.cells'))
  have hd2 := hsh2.drew
  clear hall hall2
  rw [HWD.out]
  have hall := hd2.cells'
  go_region_held3 (fun w' => w'.cell? ⟨w.heap.size, 0, none⟩ = some (.int .u8 i.op) ∧ w'.cell? ⟨w.heap.size, 1, none⟩ = some (.int .i64 i.a) ∧ w'.cell? ⟨w.heap.size, 2, none⟩ = some (.int .i64 i.b) ∧ w'.cell? ⟨w.heap.size, 3, none⟩ = some (.int .i64 i.c) ∧ w'.cell? ⟨w.heap.size, 4, none⟩ = some (.string i.s) ∧ w'.cell? ⟨w.heap.size, 5, none⟩ = some (.slice i.A i.n i.cap)) (first | exact hall | exact Sh.cells' (by assumption) | exact Sh.cells' (Sh.alloc (by assumption) _) | go_keep) (first | (go_at_call 24; with_reducible refine (p_itoa i.a _ HI.out.a (Sh.is (by assumption))).mono ?_; rintro e w3 ⟨rfl, hb3⟩; have hsh3 := Sh.keep (by assumption) hb3; clear hb3) | (go_at_call 24; with_reducible refine (p_itoa i.b _ HI.out.b (Sh.is (by assumption))).mono ?_; rintro e w3 ⟨rfl, hb3⟩; have hsh3 := Sh.keep (by assumption) hb3; clear hb3) | (go_at_call 24; with_reducible refine (p_itoa i.c _ HI.out.c (Sh.is (by assumption))).mono ?_; rintro e w3 ⟨rfl, hb3⟩; have hsh3 := Sh.keep (by assumption) hb3; clear hb3))
  all_goals
   have hsh4 := hsh3.alloc (.cells #[.string (wordB i.op), .string (itB i.a), .string (itB i.b), .string (itB i.c)] 9)
   have hown : (w3.alloc (.cells #[.string (wordB i.op), .string (itB i.a), .string (itB i.b), .string (itB i.c)] 9)).ownsRow (w.heap.size + 2) 9 1 (.slice (some ⟨w3.heap.size, 0, none⟩) 4 4) 4 (svals [wordB i.op, itB i.a, itB i.b, itB i.c]) := own_lit (l := [wordB i.op, itB i.a, itB i.b, itB i.c]) (by have := hsh3.lt; omega) (by show 4 ≤ 1000; omega)
   generalize w3.alloc (.cells #[.string (wordB i.op), .string (itB i.a), .string (itB i.b), .string (itB i.c)] 9) = W4 at hsh4 hown ⊢
   generalize w3.heap.size = g4 at hown ⊢
   clear hsh3 hall hd2 hsh2 hsh1
   have hall4 := hsh4.cells'
   have hs4 : w.heap.size + 2 ≤ W4.heap.size := by have := hsh4.lt; omega
   have hz1 : 4 + 1 ≤ maxLen := by unfold maxLen; omega
   have hz2 : (4 + 1) * 16 ≤ 140737488355328 := by omega
   have hownP : W4.ownsRow (w.heap.size + 2) 9 1 (.slice (some ⟨g4, 0, none⟩) 4 4) 4 (svals (partsS i)) := by
     rw [show partsS i = [wordB i.op, itB i.a, itB i.b, itB i.c] by unfold partsS; rw [HE.out]; rfl]; exact hown
   clear hown
   go_wp2_with fail
   obtain ⟨W5, vP, nP, hW5⟩ : ∃ (W5 : World) (vP : Value) (nP : Nat), W5 = W4 ∧ vP = .slice (some ⟨g4, 0, none⟩) 4 4 ∧ nP = 4 := ⟨_, _, _, rfl, rfl, rfl⟩
   obtain ⟨rfl, hvP, hnP⟩ := hW5
   rw [← hvP]
   rw [← hvP, ← hnP] at hownP
   clear hvP hnP hall4
   have hsh5 := hsh4
   clear hsh4
   have hs5 := hs4
   have HOWN := Lib.hid hownP
   have HSH := Lib.hid hsh5
   obtain ⟨AP, capP, hvP, hcP, -, hSP⟩ := strs_form' hownP
   have hall5 := hsh5.cells'
   clear hownP hsh5
   subst hvP
   have hnP : nP ≤ 1000 := by have := hSP.1; have := parts_len i; omega
   have HSP := Lib.hid hSP
   have hsz5 : w.heap.size ≤ W5.heap.size := by omega
   clear hSP
   go_wp2_with fail
   go_loopw [6, 52] (fun v i0 wr => ∃ k : Nat, k ≤ i.n ∧ i0 = .int .i64 k ∧ wr.ownsRow W5.heap.size 9 1 v k (svals ((i.args.take k).map itB)) ∧ Below W5.heap.size W5 wr) (fun v i0 wr => i.n - (intOf i0).toNat)
   case atStart => exact ⟨0, Nat.zero_le _, rfl, ⟨rfl, .inl ⟨rfl, rfl⟩⟩, Below.refl _ _⟩
   case round =>
    obtain ⟨k, hk, rfl, howk, hb⟩ := hrel
    have bW : Below w.heap.size w wr := HSH.out.below.trans (hb.mono hsz5)
    have HBW := Lib.hid bW
    have HBB := Lib.hid hb
    have HOK := Lib.hid howk
    by_cases hlt : k < i.n
    · obtain ⟨ab, ao, hiA, hab, x, hx, hwx, hcx⟩ := (HL.out.keep HB.out bW).at hlt
      have HTK : Hid ((i.args.take (k + 1)).map itB = (i.args.take k).map itB ++ [itB x]) := by
        unfold Hid
        rw [take_snoc' hx, List.map_append]; rfl
      have htab := HT.out wr bW
      have hz3 : k + 1 ≤ maxLen := by unfold maxLen; omega
      have hz4 : (k + 1) * 16 ≤ 140737488355328 := by omega
      clear hx howk bW hb hall5
      go_wp2_with (first | ((with_reducible refine (p_itoa x _ hwx htab).mono ?_); rintro e w6 ⟨rfl, hb6⟩; have how6 := own_of_block HOK.out (fun g hg => hb6.block g (own_ltx HOK.out hg)); have hb56 := HBB.out.trans (hb6.mono HBB.out.size); have hbs6 := hb56.size; clear hb6) | (at_builtin; refine wp_app1 rfl _ _ _ rfl 9 1 16 _ Tryd.underlying52 info_str rfl (by decide) W5.heap.size _ _ _ rfl how6 [_] rfl rfl one_str hz3 hz4 hbs6 ?_; intro v7 w7 how7 hgrow7 hne7; have hb57 := hb56.trans (below_grown how6 hgrow7 hbs6); clear hgrow7 hne7))
      have how8 : w7.ownsRow W5.heap.size 9 1 v7 (k + 1) (svals ((i.args.take (k + 1)).map itB)) := by
        rw [HTK.out]; simpa [svals] using how7
      clear how7 how6 hb56
      rw [← hiA]
      go_roundw
      case rel => exact ⟨k + 1, by omega, by go_num, how8, hb57⟩
      case measure => simp [intOf]; omega
    · obtain rfl : k = i.n := by omega
      have htk : (i.args.take i.n) = i.args := List.take_of_length_le (by rw [HL.out.1]; exact Nat.le_refl _)
      rw [htk] at howk
      have hal : (i.args.map itB).length = i.n := by rw [List.length_map, HL.out.1]
      obtain ⟨AQ, capQ, rfl, hcQ, -, hSQ⟩ := strs_form' howk
      have HSQ := Lib.hid hSQ
      have HSPr := Lib.hid (HSP.out.below hb)
      have hle1 := hb.size
      have hj1 := HJ1.out
      have hj2 := HJ2.out
      clear howk hSQ hb bW htk hall5
      by_cases hn0 : i.n = 0
      · have HA : Hid (showB i = joinB (partsS i)) := by
          unfold Hid showB
          rw [if_pos (List.length_eq_zero_iff.1 (by rw [HL.out.1]; exact hn0))]
        have hn1 : decide (0 < i.n) = false := by simp [hn0]
        have hn2 : ¬ 0 < i.n := by omega
        clear hn0 hal
        go_wp2_with (((with_reducible refine (p_join HSPr.out hle1 hcP hnP HPL.out).mono ?_); rintro e w8 ⟨rfl, hb8⟩))
        go_ret
        exact ⟨ret_str HA.out.symm, Gr.trans HBW.out hb8⟩
      · have HA : Hid (showB i = joinB (partsS i) ++ ((⟨#[32, 91]⟩ ++ joinB (i.args.map itB)) ++ ⟨#[93]⟩)) := by
          unfold Hid showB
          rw [if_neg (fun h => hn0 (by rw [← HL.out.1, h]; rfl))]
        have hn1 : 0 < i.n := by omega
        have hal' : (i.args.map itB).length ≤ 1000 := by omega
        clear hn0 hal
        go_wp2_with (first | ((with_reducible refine (p_join HSPr.out hle1 hcP hnP HPL.out).mono ?_); rintro e w8 ⟨rfl, hb8⟩; have HSQ8 := Lib.hid (HSQ.out.below hb8); have hle8 := hb8.size; have HB8 := Lib.hid (Gr.trans HBW.out hb8); clear hb8) | ((with_reducible refine (p_join HSQ8.out hle8 hcQ HNB.out HAL.out).mono ?_); rintro e w9 ⟨rfl, hb9⟩; have HB9 := Lib.hid (Gr.trans HB8.out hb9); clear hb9))
        go_ret
        exact ⟨ret_str HA.out.symm, HB9.out⟩
set_option maxRecDepth 100000 in
set_option maxHeartbeats 8000000 in
theorem p_show_loS {w : World} {B : Nat} (i : IV) (hi : IOk i) (hoi : (Lit.int .i64 i.op).wf = true) (ht : Lib.TabBelow Tryd.prog w.heap.size w "internal/strconv.uint64pow10" .u64 Lib.pow10Tab) (hl : Ints w B i.A i.n i.args) (hB : B ≤ w.heap.size) (hnb : i.n ≤ 1000) (hsb : i.s.size ≤ 1000) (ho0 : 0 ≤ i.op) (ho9 : i.op ≤ 255) (hop : i.op < 1) (he : empB i.s = false) :
    Calls Tryd.prog 8 #[.agg #[.int .u8 i.op, .int .i64 i.a, .int .i64 i.b, .int .i64 i.c, .string i.s, .slice i.A i.n i.cap]] w fun e w' => e = .returned (.string (showB i)) ∧ Below w.heap.size w w' := by
  have HI := Lib.hid hi
  have HT := Lib.hid ht
  have HL := Lib.hid (hl.keep hB (Below.refl _ _))
  have HB := Lib.hid hB
  have HOW := Lib.hid hoi
  have HNB := Lib.hid hnb
  have hinfo : (Tryd.prog.info? 59).map (·.size) = some 36 := by kernel_rfl
  have HIN := Lib.hid hinfo
  have hsz := itB_size hoi
  have HPL := Lib.hid (parts_size i hi hoi hsb)
  have HAL : Hid (∀ x ∈ i.args.map itB, x.size ≤ 1000) := fun x hx => by
    obtain ⟨n, hn, rfl⟩ := List.mem_map.1 hx
    exact Nat.le_trans (itB_size (hl.2.2.1 n hn)) (by decide)
  have HJ1 : Hid ((joinB (partsS i)).size ≤ 10010) := by
    have h1 := joinB_size 1000 (parts_size i hi hoi hsb)
    have h2 := parts_len i
    exact Nat.le_trans h1 (Nat.le_trans (Nat.mul_le_mul_right _ (show (partsS i).length ≤ 5 by omega)) (by decide))
  have HJ2 : Hid ((joinB (i.args.map itB)).size ≤ 1001000) := by
    have h1 := joinB_size 1000 HAL.out
    exact Nat.le_trans h1 (Nat.le_trans (Nat.mul_le_mul_right _ (show (i.args.map itB).length ≤ 1000 by rw [List.length_map, hl.1]; exact hnb)) (by decide))
  have hwd := word_out (op := i.op) (by omega)
  have HWD := Lib.hid hwd
  clear hwd
  clear ht hi hinfo hoi hl hB
  have hse := emp_iff he
  simp only [Bool.false_eq_true, iff_false, iff_true] at hse
  have HE := Lib.hid he
  have hse2 : i.s.toList.isEmpty = false := by cases hq : i.s.toList.isEmpty with | false => rfl | true => exact absurd (List.isEmpty_iff.1 hq) hse
  have hse3 : (!i.s.toList.isEmpty) = true := by rw [hse2]; rfl
  clear he
  go_enter Tryd.func8, Tryd.ntmps8
  go_wp2_with (first | (refine wp_hide_val rfl 59 _ rfl (.agg namesA) (by kernel_rfl) ?_; intro nv hnv; have HNV := Lib.hid hnv; clear hnv) | (refine wp_store_new rfl _ _ _ rfl _ namesA _ (w.heap.size + 1) (by simp) rfl HNV.out rfl HIN.out (by kernel_rfl) ?_; intro w1 hb1 hr1; have hsh1 := Sh.made i HT.out hb1 hr1; clear hb1 hr1; have hall := hsh1.cells') | (((with_reducible refine (p_itoa i.op _ HOW.out (Sh.is (by assumption))).mono ?_); rintro e w2 ⟨rfl, hb2⟩; have hsh2 := Sh.keep (by assumption) hb2; clear hb2); have hall2 := hsh2.cells'))
  have hd2 := hsh2.drew
  clear hall hall2
  rw [HWD.out]
  have hall := hd2.cells'
  go_region_held3 (fun w' => w'.cell? ⟨w.heap.size, 0, none⟩ = some (.int .u8 i.op) ∧ w'.cell? ⟨w.heap.size, 1, none⟩ = some (.int .i64 i.a) ∧ w'.cell? ⟨w.heap.size, 2, none⟩ = some (.int .i64 i.b) ∧ w'.cell? ⟨w.heap.size, 3, none⟩ = some (.int .i64 i.c) ∧ w'.cell? ⟨w.heap.size, 4, none⟩ = some (.string i.s) ∧ w'.cell? ⟨w.heap.size, 5, none⟩ = some (.slice i.A i.n i.cap)) (first | exact hall | exact Sh.cells' (by assumption) | exact Sh.cells' (Sh.alloc (by assumption) _) | go_keep) (first | (go_at_call 24; with_reducible refine (p_itoa i.a _ HI.out.a (Sh.is (by assumption))).mono ?_; rintro e w3 ⟨rfl, hb3⟩; have hsh3 := Sh.keep (by assumption) hb3; clear hb3) | (go_at_call 24; with_reducible refine (p_itoa i.b _ HI.out.b (Sh.is (by assumption))).mono ?_; rintro e w3 ⟨rfl, hb3⟩; have hsh3 := Sh.keep (by assumption) hb3; clear hb3) | (go_at_call 24; with_reducible refine (p_itoa i.c _ HI.out.c (Sh.is (by assumption))).mono ?_; rintro e w3 ⟨rfl, hb3⟩; have hsh3 := Sh.keep (by assumption) hb3; clear hb3))
  all_goals
   have hsh4 := hsh3.alloc (.cells #[.string (wordB i.op), .string (itB i.a), .string (itB i.b), .string (itB i.c)] 9)
   have hown : (w3.alloc (.cells #[.string (wordB i.op), .string (itB i.a), .string (itB i.b), .string (itB i.c)] 9)).ownsRow (w.heap.size + 2) 9 1 (.slice (some ⟨w3.heap.size, 0, none⟩) 4 4) 4 (svals [wordB i.op, itB i.a, itB i.b, itB i.c]) := own_lit (l := [wordB i.op, itB i.a, itB i.b, itB i.c]) (by have := hsh3.lt; omega) (by show 4 ≤ 1000; omega)
   generalize w3.alloc (.cells #[.string (wordB i.op), .string (itB i.a), .string (itB i.b), .string (itB i.c)] 9) = W4 at hsh4 hown ⊢
   generalize w3.heap.size = g4 at hown ⊢
   clear hsh3 hall hd2 hsh2 hsh1
   have hall4 := hsh4.cells'
   have hs4 : w.heap.size + 2 ≤ W4.heap.size := by have := hsh4.lt; omega
   have hz1 : 4 + 1 ≤ maxLen := by unfold maxLen; omega
   have hz2 : (4 + 1) * 16 ≤ 140737488355328 := by omega
   go_wp2_with (at_builtin; refine wp_app1 rfl _ _ _ rfl 9 1 16 _ Tryd.underlying52 info_str rfl (by decide) (w.heap.size + 2) _ _ _ rfl hown [_] rfl rfl one_str hz1 hz2 hs4 ?_; intro vP W5 hownQ hgrow hne; have hsh5 := hsh4.keep2 (below_grown hown hgrow hs4); have hs5 : w.heap.size + 2 ≤ W5.heap.size := Nat.le_trans hs4 hgrow.size; have hall5 := hsh5.cells'; clear hgrow hne hall4)
   have hownP : W5.ownsRow (w.heap.size + 2) 9 1 vP 5 (svals (partsS i)) := by
     rw [show partsS i = [wordB i.op, itB i.a, itB i.b, itB i.c] ++ [i.s] by unfold partsS; rw [HE.out]; rfl]; exact hownQ
   obtain ⟨nP, hnP⟩ : ∃ nP : Nat, nP = 5 := ⟨_, rfl⟩
   rw [← hnP] at hownP
   clear hownQ hown hnP hall5 hsh4
   have HOWN := Lib.hid hownP
   have HSH := Lib.hid hsh5
   obtain ⟨AP, capP, hvP, hcP, -, hSP⟩ := strs_form' hownP
   have hall5 := hsh5.cells'
   clear hownP hsh5
   subst hvP
   have hnP : nP ≤ 1000 := by have := hSP.1; have := parts_len i; omega
   have HSP := Lib.hid hSP
   have hsz5 : w.heap.size ≤ W5.heap.size := by omega
   clear hSP
   go_wp2_with fail
   go_loopw [6, 52] (fun v i0 wr => ∃ k : Nat, k ≤ i.n ∧ i0 = .int .i64 k ∧ wr.ownsRow W5.heap.size 9 1 v k (svals ((i.args.take k).map itB)) ∧ Below W5.heap.size W5 wr) (fun v i0 wr => i.n - (intOf i0).toNat)
   case atStart => exact ⟨0, Nat.zero_le _, rfl, ⟨rfl, .inl ⟨rfl, rfl⟩⟩, Below.refl _ _⟩
   case round =>
    obtain ⟨k, hk, rfl, howk, hb⟩ := hrel
    have bW : Below w.heap.size w wr := HSH.out.below.trans (hb.mono hsz5)
    have HBW := Lib.hid bW
    have HBB := Lib.hid hb
    have HOK := Lib.hid howk
    by_cases hlt : k < i.n
    · obtain ⟨ab, ao, hiA, hab, x, hx, hwx, hcx⟩ := (HL.out.keep HB.out bW).at hlt
      have HTK : Hid ((i.args.take (k + 1)).map itB = (i.args.take k).map itB ++ [itB x]) := by
        unfold Hid
        rw [take_snoc' hx, List.map_append]; rfl
      have htab := HT.out wr bW
      have hz3 : k + 1 ≤ maxLen := by unfold maxLen; omega
      have hz4 : (k + 1) * 16 ≤ 140737488355328 := by omega
      clear hx howk bW hb hall5
      go_wp2_with (first | ((with_reducible refine (p_itoa x _ hwx htab).mono ?_); rintro e w6 ⟨rfl, hb6⟩; have how6 := own_of_block HOK.out (fun g hg => hb6.block g (own_ltx HOK.out hg)); have hb56 := HBB.out.trans (hb6.mono HBB.out.size); have hbs6 := hb56.size; clear hb6) | (at_builtin; refine wp_app1 rfl _ _ _ rfl 9 1 16 _ Tryd.underlying52 info_str rfl (by decide) W5.heap.size _ _ _ rfl how6 [_] rfl rfl one_str hz3 hz4 hbs6 ?_; intro v7 w7 how7 hgrow7 hne7; have hb57 := hb56.trans (below_grown how6 hgrow7 hbs6); clear hgrow7 hne7))
      have how8 : w7.ownsRow W5.heap.size 9 1 v7 (k + 1) (svals ((i.args.take (k + 1)).map itB)) := by
        rw [HTK.out]; simpa [svals] using how7
      clear how7 how6 hb56
      rw [← hiA]
      go_roundw
      case rel => exact ⟨k + 1, by omega, by go_num, how8, hb57⟩
      case measure => simp [intOf]; omega
    · obtain rfl : k = i.n := by omega
      have htk : (i.args.take i.n) = i.args := List.take_of_length_le (by rw [HL.out.1]; exact Nat.le_refl _)
      rw [htk] at howk
      have hal : (i.args.map itB).length = i.n := by rw [List.length_map, HL.out.1]
      obtain ⟨AQ, capQ, rfl, hcQ, -, hSQ⟩ := strs_form' howk
      have HSQ := Lib.hid hSQ
      have HSPr := Lib.hid (HSP.out.below hb)
      have hle1 := hb.size
      have hj1 := HJ1.out
      have hj2 := HJ2.out
      clear howk hSQ hb bW htk hall5
      by_cases hn0 : i.n = 0
      · have HA : Hid (showB i = joinB (partsS i)) := by
          unfold Hid showB
          rw [if_pos (List.length_eq_zero_iff.1 (by rw [HL.out.1]; exact hn0))]
        have hn1 : decide (0 < i.n) = false := by simp [hn0]
        have hn2 : ¬ 0 < i.n := by omega
        clear hn0 hal
        go_wp2_with (((with_reducible refine (p_join HSPr.out hle1 hcP hnP HPL.out).mono ?_); rintro e w8 ⟨rfl, hb8⟩))
        go_ret
        exact ⟨ret_str HA.out.symm, Gr.trans HBW.out hb8⟩
      · have HA : Hid (showB i = joinB (partsS i) ++ ((⟨#[32, 91]⟩ ++ joinB (i.args.map itB)) ++ ⟨#[93]⟩)) := by
          unfold Hid showB
          rw [if_neg (fun h => hn0 (by rw [← HL.out.1, h]; rfl))]
        have hn1 : 0 < i.n := by omega
        have hal' : (i.args.map itB).length ≤ 1000 := by omega
        clear hn0 hal
        go_wp2_with (first | ((with_reducible refine (p_join HSPr.out hle1 hcP hnP HPL.out).mono ?_); rintro e w8 ⟨rfl, hb8⟩; have HSQ8 := Lib.hid (HSQ.out.below hb8); have hle8 := hb8.size; have HB8 := Lib.hid (Gr.trans HBW.out hb8); clear hb8) | ((with_reducible refine (p_join HSQ8.out hle8 hcQ HNB.out HAL.out).mono ?_); rintro e w9 ⟨rfl, hb9⟩; have HB9 := Lib.hid (Gr.trans HB8.out hb9); clear hb9))
        go_ret
        exact ⟨ret_str HA.out.symm, HB9.out⟩
set_option maxRecDepth 100000 in
set_option maxHeartbeats 8000000 in
theorem p_show_hiS {w : World} {B : Nat} (i : IV) (hi : IOk i) (hoi : (Lit.int .i64 i.op).wf = true) (ht : Lib.TabBelow Tryd.prog w.heap.size w "internal/strconv.uint64pow10" .u64 Lib.pow10Tab) (hl : Ints w B i.A i.n i.args) (hB : B ≤ w.heap.size) (hnb : i.n ≤ 1000) (hsb : i.s.size ≤ 1000) (ho0 : 0 ≤ i.op) (ho9 : i.op ≤ 255) (hop : 36 < i.op) (he : empB i.s = false) :
    Calls Tryd.prog 8 #[.agg #[.int .u8 i.op, .int .i64 i.a, .int .i64 i.b, .int .i64 i.c, .string i.s, .slice i.A i.n i.cap]] w fun e w' => e = .returned (.string (showB i)) ∧ Below w.heap.size w w' := by
  have HI := Lib.hid hi
  have HT := Lib.hid ht
  have HL := Lib.hid (hl.keep hB (Below.refl _ _))
  have HB := Lib.hid hB
  have HOW := Lib.hid hoi
  have HNB := Lib.hid hnb
  have hinfo : (Tryd.prog.info? 59).map (·.size) = some 36 := by kernel_rfl
  have HIN := Lib.hid hinfo
  have hsz := itB_size hoi
  have HPL := Lib.hid (parts_size i hi hoi hsb)
  have HAL : Hid (∀ x ∈ i.args.map itB, x.size ≤ 1000) := fun x hx => by
    obtain ⟨n, hn, rfl⟩ := List.mem_map.1 hx
    exact Nat.le_trans (itB_size (hl.2.2.1 n hn)) (by decide)
  have HJ1 : Hid ((joinB (partsS i)).size ≤ 10010) := by
    have h1 := joinB_size 1000 (parts_size i hi hoi hsb)
    have h2 := parts_len i
    exact Nat.le_trans h1 (Nat.le_trans (Nat.mul_le_mul_right _ (show (partsS i).length ≤ 5 by omega)) (by decide))
  have HJ2 : Hid ((joinB (i.args.map itB)).size ≤ 1001000) := by
    have h1 := joinB_size 1000 HAL.out
    exact Nat.le_trans h1 (Nat.le_trans (Nat.mul_le_mul_right _ (show (i.args.map itB).length ≤ 1000 by rw [List.length_map, hl.1]; exact hnb)) (by decide))
  have hwd := word_out (op := i.op) (by omega)
  have op1 : 1 ≤ i.op := by omega
  have HWD := Lib.hid hwd
  clear hwd
  clear ht hi hinfo hoi hl hB
  have hse := emp_iff he
  simp only [Bool.false_eq_true, iff_false, iff_true] at hse
  have HE := Lib.hid he
  have hse2 : i.s.toList.isEmpty = false := by cases hq : i.s.toList.isEmpty with | false => rfl | true => exact absurd (List.isEmpty_iff.1 hq) hse
  have hse3 : (!i.s.toList.isEmpty) = true := by rw [hse2]; rfl
  clear he
  go_enter Tryd.func8, Tryd.ntmps8
  go_wp2_with (first | (refine wp_hide_val rfl 59 _ rfl (.agg namesA) (by kernel_rfl) ?_; intro nv hnv; have HNV := Lib.hid hnv; clear hnv) | (refine wp_store_new rfl _ _ _ rfl _ namesA _ (w.heap.size + 1) (by simp) rfl HNV.out rfl HIN.out (by kernel_rfl) ?_; intro w1 hb1 hr1; have hsh1 := Sh.made i HT.out hb1 hr1; clear hb1 hr1; have hall := hsh1.cells') | (((with_reducible refine (p_itoa i.op _ HOW.out (Sh.is (by assumption))).mono ?_); rintro e w2 ⟨rfl, hb2⟩; have hsh2 := Sh.keep (by assumption) hb2; clear hb2); have hall2 := hsh2.cells'))
  have hd2 := hsh2.drew
  clear hall hall2
  rw [HWD.out]
  have hall := hd2.cells'
  go_region_held3 (fun w' => w'.cell? ⟨w.heap.size, 0, none⟩ = some (.int .u8 i.op) ∧ w'.cell? ⟨w.heap.size, 1, none⟩ = some (.int .i64 i.a) ∧ w'.cell? ⟨w.heap.size, 2, none⟩ = some (.int .i64 i.b) ∧ w'.cell? ⟨w.heap.size, 3, none⟩ = some (.int .i64 i.c) ∧ w'.cell? ⟨w.heap.size, 4, none⟩ = some (.string i.s) ∧ w'.cell? ⟨w.heap.size, 5, none⟩ = some (.slice i.A i.n i.cap)) (first | exact hall | exact Sh.cells' (by assumption) | exact Sh.cells' (Sh.alloc (by assumption) _) | go_keep) (first | (go_at_call 24; with_reducible refine (p_itoa i.a _ HI.out.a (Sh.is (by assumption))).mono ?_; rintro e w3 ⟨rfl, hb3⟩; have hsh3 := Sh.keep (by assumption) hb3; clear hb3) | (go_at_call 24; with_reducible refine (p_itoa i.b _ HI.out.b (Sh.is (by assumption))).mono ?_; rintro e w3 ⟨rfl, hb3⟩; have hsh3 := Sh.keep (by assumption) hb3; clear hb3) | (go_at_call 24; with_reducible refine (p_itoa i.c _ HI.out.c (Sh.is (by assumption))).mono ?_; rintro e w3 ⟨rfl, hb3⟩; have hsh3 := Sh.keep (by assumption) hb3; clear hb3))
  all_goals
   have hsh4 := hsh3.alloc (.cells #[.string (wordB i.op), .string (itB i.a), .string (itB i.b), .string (itB i.c)] 9)
   have hown : (w3.alloc (.cells #[.string (wordB i.op), .string (itB i.a), .string (itB i.b), .string (itB i.c)] 9)).ownsRow (w.heap.size + 2) 9 1 (.slice (some ⟨w3.heap.size, 0, none⟩) 4 4) 4 (svals [wordB i.op, itB i.a, itB i.b, itB i.c]) := own_lit (l := [wordB i.op, itB i.a, itB i.b, itB i.c]) (by have := hsh3.lt; omega) (by show 4 ≤ 1000; omega)
   generalize w3.alloc (.cells #[.string (wordB i.op), .string (itB i.a), .string (itB i.b), .string (itB i.c)] 9) = W4 at hsh4 hown ⊢
   generalize w3.heap.size = g4 at hown ⊢
   clear hsh3 hall hd2 hsh2 hsh1
   have hall4 := hsh4.cells'
   have hs4 : w.heap.size + 2 ≤ W4.heap.size := by have := hsh4.lt; omega
   have hz1 : 4 + 1 ≤ maxLen := by unfold maxLen; omega
   have hz2 : (4 + 1) * 16 ≤ 140737488355328 := by omega
   go_wp2_with (at_builtin; refine wp_app1 rfl _ _ _ rfl 9 1 16 _ Tryd.underlying52 info_str rfl (by decide) (w.heap.size + 2) _ _ _ rfl hown [_] rfl rfl one_str hz1 hz2 hs4 ?_; intro vP W5 hownQ hgrow hne; have hsh5 := hsh4.keep2 (below_grown hown hgrow hs4); have hs5 : w.heap.size + 2 ≤ W5.heap.size := Nat.le_trans hs4 hgrow.size; have hall5 := hsh5.cells'; clear hgrow hne hall4)
   have hownP : W5.ownsRow (w.heap.size + 2) 9 1 vP 5 (svals (partsS i)) := by
     rw [show partsS i = [wordB i.op, itB i.a, itB i.b, itB i.c] ++ [i.s] by unfold partsS; rw [HE.out]; rfl]; exact hownQ
   obtain ⟨nP, hnP⟩ : ∃ nP : Nat, nP = 5 := ⟨_, rfl⟩
   rw [← hnP] at hownP
   clear hownQ hown hnP hall5 hsh4
   have HOWN := Lib.hid hownP
   have HSH := Lib.hid hsh5
   obtain ⟨AP, capP, hvP, hcP, -, hSP⟩ := strs_form' hownP
   have hall5 := hsh5.cells'
   clear hownP hsh5
   subst hvP
   have hnP : nP ≤ 1000 := by have := hSP.1; have := parts_len i; omega
   have HSP := Lib.hid hSP
   have hsz5 : w.heap.size ≤ W5.heap.size := by omega
   clear hSP
   go_wp2_with fail
   go_loopw [6, 52] (fun v i0 wr => ∃ k : Nat, k ≤ i.n ∧ i0 = .int .i64 k ∧ wr.ownsRow W5.heap.size 9 1 v k (svals ((i.args.take k).map itB)) ∧ Below W5.heap.size W5 wr) (fun v i0 wr => i.n - (intOf i0).toNat)
   case atStart => exact ⟨0, Nat.zero_le _, rfl, ⟨rfl, .inl ⟨rfl, rfl⟩⟩, Below.refl _ _⟩
   case round =>
    obtain ⟨k, hk, rfl, howk, hb⟩ := hrel
    have bW : Below w.heap.size w wr := HSH.out.below.trans (hb.mono hsz5)
    have HBW := Lib.hid bW
    have HBB := Lib.hid hb
    have HOK := Lib.hid howk
    by_cases hlt : k < i.n
    · obtain ⟨ab, ao, hiA, hab, x, hx, hwx, hcx⟩ := (HL.out.keep HB.out bW).at hlt
      have HTK : Hid ((i.args.take (k + 1)).map itB = (i.args.take k).map itB ++ [itB x]) := by
        unfold Hid
        rw [take_snoc' hx, List.map_append]; rfl
      have htab := HT.out wr bW
      have hz3 : k + 1 ≤ maxLen := by unfold maxLen; omega
      have hz4 : (k + 1) * 16 ≤ 140737488355328 := by omega
      clear hx howk bW hb hall5
      go_wp2_with (first | ((with_reducible refine (p_itoa x _ hwx htab).mono ?_); rintro e w6 ⟨rfl, hb6⟩; have how6 := own_of_block HOK.out (fun g hg => hb6.block g (own_ltx HOK.out hg)); have hb56 := HBB.out.trans (hb6.mono HBB.out.size); have hbs6 := hb56.size; clear hb6) | (at_builtin; refine wp_app1 rfl _ _ _ rfl 9 1 16 _ Tryd.underlying52 info_str rfl (by decide) W5.heap.size _ _ _ rfl how6 [_] rfl rfl one_str hz3 hz4 hbs6 ?_; intro v7 w7 how7 hgrow7 hne7; have hb57 := hb56.trans (below_grown how6 hgrow7 hbs6); clear hgrow7 hne7))
      have how8 : w7.ownsRow W5.heap.size 9 1 v7 (k + 1) (svals ((i.args.take (k + 1)).map itB)) := by
        rw [HTK.out]; simpa [svals] using how7
      clear how7 how6 hb56
      rw [← hiA]
      go_roundw
      case rel => exact ⟨k + 1, by omega, by go_num, how8, hb57⟩
      case measure => simp [intOf]; omega
    · obtain rfl : k = i.n := by omega
      have htk : (i.args.take i.n) = i.args := List.take_of_length_le (by rw [HL.out.1]; exact Nat.le_refl _)
      rw [htk] at howk
      have hal : (i.args.map itB).length = i.n := by rw [List.length_map, HL.out.1]
      obtain ⟨AQ, capQ, rfl, hcQ, -, hSQ⟩ := strs_form' howk
      have HSQ := Lib.hid hSQ
      have HSPr := Lib.hid (HSP.out.below hb)
      have hle1 := hb.size
      have hj1 := HJ1.out
      have hj2 := HJ2.out
      clear howk hSQ hb bW htk hall5
      by_cases hn0 : i.n = 0
      · have HA : Hid (showB i = joinB (partsS i)) := by
          unfold Hid showB
          rw [if_pos (List.length_eq_zero_iff.1 (by rw [HL.out.1]; exact hn0))]
        have hn1 : decide (0 < i.n) = false := by simp [hn0]
        have hn2 : ¬ 0 < i.n := by omega
        clear hn0 hal
        go_wp2_with (((with_reducible refine (p_join HSPr.out hle1 hcP hnP HPL.out).mono ?_); rintro e w8 ⟨rfl, hb8⟩))
        go_ret
        exact ⟨ret_str HA.out.symm, Gr.trans HBW.out hb8⟩
      · have HA : Hid (showB i = joinB (partsS i) ++ ((⟨#[32, 91]⟩ ++ joinB (i.args.map itB)) ++ ⟨#[93]⟩)) := by
          unfold Hid showB
          rw [if_neg (fun h => hn0 (by rw [← HL.out.1, h]; rfl))]
        have hn1 : 0 < i.n := by omega
        have hal' : (i.args.map itB).length ≤ 1000 := by omega
        clear hn0 hal
        go_wp2_with (first | ((with_reducible refine (p_join HSPr.out hle1 hcP hnP HPL.out).mono ?_); rintro e w8 ⟨rfl, hb8⟩; have HSQ8 := Lib.hid (HSQ.out.below hb8); have hle8 := hb8.size; have HB8 := Lib.hid (Gr.trans HBW.out hb8); clear hb8) | ((with_reducible refine (p_join HSQ8.out hle8 hcQ HNB.out HAL.out).mono ?_); rintro e w9 ⟨rfl, hb9⟩; have HB9 := Lib.hid (Gr.trans HB8.out hb9); clear hb9))
        go_ret
        exact ⟨ret_str HA.out.symm, HB9.out⟩
theorem p_show {w : World} {B : Nat} (i : IV) (hi : IOk i) (hoi : (Lit.int .i64 i.op).wf = true) (ht : Lib.TabBelow Tryd.prog w.heap.size w "internal/strconv.uint64pow10" .u64 Lib.pow10Tab) (hl : Ints w B i.A i.n i.args) (hB : B ≤ w.heap.size) (hnb : i.n ≤ 1000) (hsb : i.s.size ≤ 1000) (ho8 : (Lit.int .u8 i.op).wf = true) :
    Calls Tryd.prog 8 #[.agg #[.int .u8 i.op, .int .i64 i.a, .int .i64 i.b, .int .i64 i.c, .string i.s, .slice i.A i.n i.cap]] w fun e w' => e = .returned (.string (showB i)) ∧ Below w.heap.size w w' := by
  obtain ⟨ho0, ho9⟩ : 0 ≤ i.op ∧ i.op ≤ 255 := by
    simp [Lit.wf, IntKind.min, IntKind.max, IntKind.bits, IntKind.signed] at ho8
    omega
  by_cases h : i.op < 1
  · cases he : empB i.s
    · exact p_show_loS i hi hoi ht hl hB hnb hsb ho0 ho9 h he
    · exact p_show_loE i hi hoi ht hl hB hnb hsb ho0 ho9 h he
  · by_cases h2 : 36 < i.op
    · cases he : empB i.s
      · exact p_show_hiS i hi hoi ht hl hB hnb hsb ho0 ho9 h2 he
      · exact p_show_hiE i hi hoi ht hl hB hnb hsb ho0 ho9 h2 he
    · cases he : empB i.s
      · exact p_show_inS i hi hoi ht hl hB hnb hsb ⟨by omega, by omega⟩ he
      · exact p_show_inE i hi hoi ht hl hB hnb hsb ⟨by omega, by omega⟩ he
end Go.Proofs.YtankpckkiikmaaaDoor
