/- Code: the walk of the document's Show. -/
import Derived.Test.YtankpckkiikmaaaDoorG15
import Derived.Test.YtankpckkiikmaaaDoorG16
set_option linter.unusedVariables false
set_option linter.unusedSimpArgs false
namespace Go.Proofs.YtankpckkiikmaaaDoor
open Go.RowKit Cod
theorem joinD_snoc (xs : List ByteArray) (y sep : ByteArray) (h : xs ≠ []) : joinD (xs ++ [y]) sep = joinD xs sep ++ sep.data.toList ++ y.data.toList := by
  cases xs with
  | nil => exact absurd rfl h
  | cons x r =>
    simp only [joinD, datas, List.map_append, List.map_cons, List.cons_append, List.map_nil]
    rw [Lib.join_cons, Lib.join_cons]
    simp [Lib.joinTail, List.append_assoc]
theorem joinD_one (y sep : ByteArray) : joinD ([] ++ [y]) sep = y.data.toList := Lib.join_one _ _

structure ShR (w0 w : World) (i : IV) : Prop where
  below : Below w0.heap.size w0 w
  il : w.heap[w0.heap.size]? = some (.cells #[.int .u8 i.op, .int .i64 i.a, .int .i64 i.b, .int .i64 i.c, .string i.s, .slice i.A i.n i.cap] 31 (0, 0))
  nm : w.heap[w0.heap.size + 1]? = some (.cells namesA 9 (0, 0))
theorem ShR.keep {w0 w w' : World} {i : IV} (h : ShR w0 w i) (hb : Below w.heap.size w w') : ShR w0 w' i :=
  ⟨Gr.trans h.below hb, (hb.block _ (Array.getElem?_eq_some_iff.1 h.il).1).trans h.il, (hb.block _ (Array.getElem?_eq_some_iff.1 h.nm).1).trans h.nm⟩
theorem ShR.drew {w0 w : World} {i : IV} (h : ShR w0 w i) : ShR w0 w.drew i := h.keep (Below.refl _ _).drew
theorem ShR.cells {w w' : World} {i : IV} (h : ShR w w' i) : w'.cell? ⟨w.heap.size, 0, none⟩ = some (.int .u8 i.op) ∧ w'.cell? ⟨w.heap.size, 1, none⟩ = some (.int .i64 i.a) ∧ w'.cell? ⟨w.heap.size, 2, none⟩ = some (.int .i64 i.b) ∧ w'.cell? ⟨w.heap.size, 3, none⟩ = some (.int .i64 i.c) ∧ w'.cell? ⟨w.heap.size, 4, none⟩ = some (.string i.s) ∧ w'.cell? ⟨w.heap.size, 5, none⟩ = some (.slice i.A i.n i.cap) := icells h.il
theorem ShR.made {w0 w1 : World} (i : IV) (hb : Below (w0.alloc (.cells #[.int .u8 i.op, .int .i64 i.a, .int .i64 i.b, .int .i64 i.c, .string i.s, .slice i.A i.n i.cap] 31)).heap.size (w0.alloc (.cells #[.int .u8 i.op, .int .i64 i.a, .int .i64 i.b, .int .i64 i.c, .string i.s, .slice i.A i.n i.cap] 31)) w1) (hr : w1.heap[(w0.alloc (.cells #[.int .u8 i.op, .int .i64 i.a, .int .i64 i.b, .int .i64 i.c, .string i.s, .slice i.A i.n i.cap] 31)).heap.size]? = some (.cells namesA 9)) : ShR w0 w1 i :=
  ⟨Gr.trans ((Below.refl _ _).alloc (Nat.le_refl _) _) hb, (hb.block _ (by simp)).trans (MapKept.heap_alloc w0 _).1, by rwa [World.size_alloc] at hr⟩
theorem ShR.name {w0 w : World} {i : IV} (h : ShR w0 w i) (op : Int) (h1 : 1 ≤ op) (h2 : op ≤ 36) : w.cell? ⟨w0.heap.size + 1, op.toNat - 1, none⟩ = some (.string (wordB op)) := by
  have hl : op.toNat - 1 < namesS.length := by show _ < 36; omega
  have e : wordB op = namesS[op.toNat - 1] := by
    unfold wordB
    rw [if_pos ⟨h1, h2⟩, show (op - 1).toNat = op.toNat - 1 by omega, List.getD_eq_getElem?_getD, List.getElem?_eq_getElem hl]
    rfl
  rw [e]
  simp only [World.cell?, h.nm]
  unfold namesA
  simp [svals, List.getElem?_eq_getElem hl]
def Cod.sp : ByteArray := ⟨#[32]⟩
/-- The head of the text. -/
def Cod.headR (i : IV) : ByteArray := ((((((wordB i.op ++ ⟨#[32]⟩) ++ itB i.a) ++ ⟨#[32]⟩) ++ itB i.b) ++ ⟨#[32]⟩) ++ itB i.c)
def Cod.baseR (i : IV) : ByteArray := if empB i.s then headR i else (headR i ++ ⟨#[32]⟩) ++ i.s
theorem base_is (i : IV) : baseR i = joinB (partsS i) := by
  unfold baseR partsS
  apply bytes_ext
  cases empB i.s
  · simp [headR, joinB, joinD, datas, Lib.join, List.intercalate, List.intersperse]
  · simp [headR, joinB, joinD, datas, Lib.join, List.intercalate, List.intersperse]
theorem head_size (i : IV) (hi : IOk i) (ho : (Lit.int .i64 i.op).wf = true) : (headR i).size ≤ 1100 := by
  have h1 := word_size i.op ho
  have h2 := itB_size hi.a
  have h3 := itB_size hi.b
  have h4 := itB_size hi.c
  simp [headR, ByteArray.size_append]
  have e : (⟨#[32]⟩ : ByteArray).size = 1 := rfl
  simp only [e]
  omega
/-- Some arguments have been told. -/
def Cod.toldR (i : IV) (k : Nat) : ByteArray := (baseR i ++ ⟨#[32, 91]⟩) ++ joinB ((i.args.take k).map itB)
theorem told_zero (i : IV) : baseR i ++ ⟨#[32, 91]⟩ = toldR i 0 := by
  unfold toldR
  apply bytes_ext
  simp [joinB, joinD, datas, Lib.join_nil]
theorem told_first {i : IV} {x : Int} (h : i.args[0]? = some x) : toldR i 0 ++ itB x = toldR i 1 := by
  unfold toldR
  rw [take_snoc' h]
  apply bytes_ext
  simp [joinB, joinD, datas, Lib.join_nil, Lib.join_one]
theorem told_more {i : IV} {k : Nat} {x : Int} (hk : 0 < k) (h : i.args[k]? = some x) : (toldR i k ++ ⟨#[32]⟩) ++ itB x = toldR i (k + 1) := by
  unfold toldR
  have hlt := (List.getElem?_eq_some_iff.1 h).1
  rw [take_snoc' h, List.map_append]
  apply bytes_ext
  have := joinD_snoc ((i.args.take k).map itB) (itB x) ⟨#[32]⟩ (by
    intro e
    have := congrArg List.length e
    rw [List.length_map, List.length_take] at this
    simp only [List.length_nil] at this
    omega)
  simp only [joinB, List.map_cons, List.map_nil, this]
  simp
set_option maxRecDepth 100000 in
set_option maxHeartbeats 8000000 in
theorem q_show_inE {w : World} {B : Nat} (i : IV) (hi : IOk i) (hoi : (Lit.int .i64 i.op).wf = true) (hl : Ints w B i.A i.n i.args) (hB : B ≤ w.heap.size) (hnb : i.n ≤ 1000) (hsb : i.s.size ≤ 1000) (hop : 1 ≤ i.op ∧ i.op ≤ 36) (he : empB i.s = true) :
    Calls Tryd.prog 14 #[.agg #[.int .u8 i.op, .int .i64 i.a, .int .i64 i.b, .int .i64 i.c, .string i.s, .slice i.A i.n i.cap]] w fun e w' => e = .returned (.string (showB i)) ∧ Below w.heap.size w w' := by
  have HI := Lib.hid hi
  have HL := Lib.hid hl
  have HB := Lib.hid hB
  have HOW := Lib.hid hoi
  have hsz := itB_size hoi
  have hsa := itB_size hi.a
  have hsbb := itB_size hi.b
  have hsc := itB_size hi.c
  have hsw := word_size i.op hoi
  have hhd := head_size i hi hoi
  have HBASE : Hid (baseR i = headR i) := by unfold Hid baseR; rw [he]; rfl
  have HHD : Hid (((((((wordB i.op ++ ⟨#[32]⟩) ++ itB i.a) ++ ⟨#[32]⟩) ++ itB i.b) ++ ⟨#[32]⟩) ++ itB i.c) = headR i) := rfl
  have HTS : Hid (∀ k, (toldR i k).size ≤ 2200000) := fun k => by
    have h1 := joinB_size (xs := (i.args.take k).map itB) 1000 (fun x hx => by
      obtain ⟨n, hn, rfl⟩ := List.mem_map.1 hx
      exact Nat.le_trans (itB_size (hl.2.2.1 n (List.mem_of_mem_take hn))) (by decide))
    have h2 : ((i.args.take k).map itB).length ≤ 1000 := by rw [List.length_map, List.length_take, hl.1]; omega
    have h3 : (joinB ((i.args.take k).map itB)).size ≤ 1000 * 1001 := Nat.le_trans h1 (Nat.mul_le_mul_right _ h2)
    have h4 : (baseR i).size ≤ 2101 := by
      rw [HBASE.out]; omega
    unfold toldR
    simp only [ByteArray.size_append]
    have e : (⟨#[32, 91]⟩ : ByteArray).size = 2 := rfl
    simp only [e]
    omega
  obtain ⟨op1, op2⟩ := hop
  have hz1 : 0 ≤ i.op - 1 := by omega
  have hz2 : i.op - 1 < 36 := by omega
  have HNM : Hid (∀ w2, ShR w w2 i → w2.cell? ⟨w.heap.size + 1, i.op.toNat - 1, none⟩ = some (.string (wordB i.op))) := fun w2 h => h.name _ op1 op2
  have z0 : (wordB i.op).size + 1 ≤ 9223372036854775807 := by omega
  have y0 : ¬ 9223372036854775807 < (wordB i.op).size + 1 := by omega
  have z1 : (wordB i.op).size + 1 + (itB i.a).size ≤ 9223372036854775807 := by omega
  have y1 : ¬ 9223372036854775807 < (wordB i.op).size + 1 + (itB i.a).size := by omega
  have z2 : (wordB i.op).size + 1 + (itB i.a).size + 1 ≤ 9223372036854775807 := by omega
  have y2 : ¬ 9223372036854775807 < (wordB i.op).size + 1 + (itB i.a).size + 1 := by omega
  have z3 : (wordB i.op).size + 1 + (itB i.a).size + 1 + (itB i.b).size ≤ 9223372036854775807 := by omega
  have y3 : ¬ 9223372036854775807 < (wordB i.op).size + 1 + (itB i.a).size + 1 + (itB i.b).size := by omega
  have z4 : (wordB i.op).size + 1 + (itB i.a).size + 1 + (itB i.b).size + 1 ≤ 9223372036854775807 := by omega
  have y4 : ¬ 9223372036854775807 < (wordB i.op).size + 1 + (itB i.a).size + 1 + (itB i.b).size + 1 := by omega
  have z5 : (wordB i.op).size + 1 + (itB i.a).size + 1 + (itB i.b).size + 1 + (itB i.c).size ≤ 9223372036854775807 := by omega
  have y5 : ¬ 9223372036854775807 < (wordB i.op).size + 1 + (itB i.a).size + 1 + (itB i.b).size + 1 + (itB i.c).size := by omega
  have z9 : (headR i).size + 1 ≤ 9223372036854775807 := by omega
  have y9 : ¬ 9223372036854775807 < (headR i).size + 1 := by omega
  clear hi hoi hl hB
  have hse := emp_iff he
  simp only [Bool.false_eq_true, iff_false, iff_true] at hse
  clear he
  go_enter Tryd.func14, Tryd.ntmps14
  go_wp2_with (first | (refine wp_hide_alloc rfl 52 _ _ rfl (.slice (some ⟨(w.alloc (.cells #[.int .u8 i.op, .int .i64 i.a, .int .i64 i.b, .int .i64 i.c, .string i.s, .slice i.A i.n i.cap] 31)).heap.size, 0, none⟩) 36 36) (.cells namesA 9) (by kernel_rfl) ?_; intro w1 hs1 hb1 hr1; have hsh1 := ShR.made i hb1 hr1; simp only [World.size_alloc]; have hall := hsh1.cells; clear hs1 hb1 hr1) | ((with_reducible refine (q_dec i.op HOW.out _).mono ?_); rintro e w2 ⟨rfl, hb2⟩; have hsh2 := hsh1.keep hb2; clear hb2; have hnm := HNM.out _ hsh2; have hall2 := hsh2.cells))
  have hd2 := hsh2.drew
  clear hall hall2
  clear hnm
  have hall := hd2.cells
  go_region_held3 (fun w' => w'.cell? ⟨w.heap.size, 0, none⟩ = some (.int .u8 i.op) ∧ w'.cell? ⟨w.heap.size, 1, none⟩ = some (.int .i64 i.a) ∧ w'.cell? ⟨w.heap.size, 2, none⟩ = some (.int .i64 i.b) ∧ w'.cell? ⟨w.heap.size, 3, none⟩ = some (.int .i64 i.c) ∧ w'.cell? ⟨w.heap.size, 4, none⟩ = some (.string i.s) ∧ w'.cell? ⟨w.heap.size, 5, none⟩ = some (.slice i.A i.n i.cap)) (first | exact hall | exact ShR.cells (by assumption) | go_keep) (first | (go_at_call 36; with_reducible refine (q_dec i.a HI.out.a _).mono ?_; rintro e w3 ⟨rfl, hb3⟩; have hsh3 := ShR.keep (by assumption) hb3; clear hb3) | (go_at_call 36; with_reducible refine (q_dec i.b HI.out.b _).mono ?_; rintro e w3 ⟨rfl, hb3⟩; have hsh3 := ShR.keep (by assumption) hb3; clear hb3) | (go_at_call 36; with_reducible refine (q_dec i.c HI.out.c _).mono ?_; rintro e w3 ⟨rfl, hb3⟩; have hsh3 := ShR.keep (by assumption) hb3; clear hb3))
  all_goals
   rw [HHD.out]
   have hall3 := hsh3.cells
   have HSH := Lib.hid hsh3
   clear hall hd2 hsh2 hsh1 hsh3
   by_cases hn0 : i.n = 0
   · have hn1 : ((i.n : Int) == 0) = true := by simp [hn0]
     have hn2 : decide ((i.n : Int) = 0) = true := by simp [hn0]
     have HA : Hid (baseR i = showB i) := by
       unfold Hid showB
       rw [if_pos (List.length_eq_zero_iff.1 (by rw [HL.out.1]; exact hn0)), base_is]
     rw [HBASE.out] at HA
     clear hn0
     go_wp2_with fail
     go_ret
     exact ⟨ret_str HA.out, HSH.out.below⟩
   · have hn1 : ((i.n : Int) == 0) = false := by simp; omega
     have hn2 : decide ((i.n : Int) = 0) = false := by simp; omega
     have HA : Hid (toldR i i.n ++ ⟨#[93]⟩ = showB i) := by
       unfold Hid showB toldR
       rw [if_neg (fun h => hn0 (by rw [← HL.out.1, h]; rfl)), base_is, List.take_of_length_le (by rw [HL.out.1]; exact Nat.le_refl _)]
       apply bytes_ext
       simp
     have HT0 := Lib.hid (told_zero i)
     rw [HBASE.out] at HT0
     clear hn0
     go_wp2_with fail
     rw [HT0.out]
     go_loopw [4, 5] (fun s i0 wr => ∃ k : Nat, k ≤ i.n ∧ i0 = .int .i64 k ∧ s = .string (toldR i k) ∧ ShR w wr i) (fun s i0 wr => i.n - (intOf i0).toNat)
     case atStart => exact ⟨0, Nat.zero_le _, rfl, rfl, HSH.out⟩
     case round =>
       obtain ⟨k, hk, rfl, rfl, hsh4⟩ := hrel
       have hall4 := hsh4.cells
       have HSH4 := Lib.hid hsh4
       have hts := HTS.out k
       clear hall3
       by_cases hlt : k < i.n
       · obtain ⟨ab, ao, hiA, hab, x, hx, hwx, hcx⟩ := (HL.out.keep HB.out hsh4.below).at hlt
         have hxs := itB_size hwx
         have HX := Lib.hid hx
         have habl : ab < w.heap.size := Nat.lt_of_lt_of_le hab HB.out
         clear hx hsh4
         by_cases hk0 : k = 0
         · have HTX : Hid (toldR i k ++ itB x = toldR i (k + 1)) := by
             unfold Hid
             rw [hk0]
             exact told_first (by rw [← hk0]; exact HX.out)
           have hk1 : ¬ 0 < k := by omega
           have hk2 : decide (0 < k) = false := by simp [hk0]
           clear hk0
           go_wp2_with (((with_reducible refine (q_dec x hwx _).mono ?_); rintro e w5 ⟨rfl, hb5⟩; have hsh5 := HSH4.out.keep hb5; clear hb5))
           rw [HTX.out, ← hiA]
           go_roundw
           case rel => exact ⟨k + 1, by omega, by go_num, rfl, hsh5⟩
           case measure => simp [intOf]; omega
         · have HTX : Hid ((toldR i k ++ ⟨#[32]⟩) ++ itB x = toldR i (k + 1)) := told_more (by omega) HX.out
           have hk1 : 0 < k := by omega
           have hk2 : decide (0 < k) = true := by simp; omega
           clear hk0
           go_wp2_with (((with_reducible refine (q_dec x hwx _).mono ?_); rintro e w5 ⟨rfl, hb5⟩; have hsh5 := HSH4.out.keep hb5; clear hb5))
           rw [HTX.out, ← hiA]
           go_roundw
           case rel => exact ⟨k + 1, by omega, by go_num, rfl, hsh5⟩
           case measure => simp [intOf]; omega
       · obtain rfl : k = i.n := by omega
         clear hsh4
         go_wp2_with fail
         go_ret
         exact ⟨ret_str HA.out, HSH4.out.below⟩
set_option maxRecDepth 100000 in
set_option maxHeartbeats 8000000 in
theorem q_show_inS {w : World} {B : Nat} (i : IV) (hi : IOk i) (hoi : (Lit.int .i64 i.op).wf = true) (hl : Ints w B i.A i.n i.args) (hB : B ≤ w.heap.size) (hnb : i.n ≤ 1000) (hsb : i.s.size ≤ 1000) (hop : 1 ≤ i.op ∧ i.op ≤ 36) (he : empB i.s = false) :
    Calls Tryd.prog 14 #[.agg #[.int .u8 i.op, .int .i64 i.a, .int .i64 i.b, .int .i64 i.c, .string i.s, .slice i.A i.n i.cap]] w fun e w' => e = .returned (.string (showB i)) ∧ Below w.heap.size w w' := by
  have HI := Lib.hid hi
  have HL := Lib.hid hl
  have HB := Lib.hid hB
  have HOW := Lib.hid hoi
  have hsz := itB_size hoi
  have hsa := itB_size hi.a
  have hsbb := itB_size hi.b
  have hsc := itB_size hi.c
  have hsw := word_size i.op hoi
  have hhd := head_size i hi hoi
  have HBASE : Hid (baseR i = (headR i ++ ⟨#[32]⟩) ++ i.s) := by unfold Hid baseR; rw [he]; rfl
  have HHD : Hid (((((((wordB i.op ++ ⟨#[32]⟩) ++ itB i.a) ++ ⟨#[32]⟩) ++ itB i.b) ++ ⟨#[32]⟩) ++ itB i.c) = headR i) := rfl
  have HTS : Hid (∀ k, (toldR i k).size ≤ 2200000) := fun k => by
    have h1 := joinB_size (xs := (i.args.take k).map itB) 1000 (fun x hx => by
      obtain ⟨n, hn, rfl⟩ := List.mem_map.1 hx
      exact Nat.le_trans (itB_size (hl.2.2.1 n (List.mem_of_mem_take hn))) (by decide))
    have h2 : ((i.args.take k).map itB).length ≤ 1000 := by rw [List.length_map, List.length_take, hl.1]; omega
    have h3 : (joinB ((i.args.take k).map itB)).size ≤ 1000 * 1001 := Nat.le_trans h1 (Nat.mul_le_mul_right _ h2)
    have h4 : (baseR i).size ≤ 2101 := by
      rw [HBASE.out]; simp only [ByteArray.size_append]; have e : (⟨#[32]⟩ : ByteArray).size = 1 := rfl; simp only [e]; omega
    unfold toldR
    simp only [ByteArray.size_append]
    have e : (⟨#[32, 91]⟩ : ByteArray).size = 2 := rfl
    simp only [e]
    omega
  obtain ⟨op1, op2⟩ := hop
  have hz1 : 0 ≤ i.op - 1 := by omega
  have hz2 : i.op - 1 < 36 := by omega
  have HNM : Hid (∀ w2, ShR w w2 i → w2.cell? ⟨w.heap.size + 1, i.op.toNat - 1, none⟩ = some (.string (wordB i.op))) := fun w2 h => h.name _ op1 op2
  have z0 : (wordB i.op).size + 1 ≤ 9223372036854775807 := by omega
  have y0 : ¬ 9223372036854775807 < (wordB i.op).size + 1 := by omega
  have z1 : (wordB i.op).size + 1 + (itB i.a).size ≤ 9223372036854775807 := by omega
  have y1 : ¬ 9223372036854775807 < (wordB i.op).size + 1 + (itB i.a).size := by omega
  have z2 : (wordB i.op).size + 1 + (itB i.a).size + 1 ≤ 9223372036854775807 := by omega
  have y2 : ¬ 9223372036854775807 < (wordB i.op).size + 1 + (itB i.a).size + 1 := by omega
  have z3 : (wordB i.op).size + 1 + (itB i.a).size + 1 + (itB i.b).size ≤ 9223372036854775807 := by omega
  have y3 : ¬ 9223372036854775807 < (wordB i.op).size + 1 + (itB i.a).size + 1 + (itB i.b).size := by omega
  have z4 : (wordB i.op).size + 1 + (itB i.a).size + 1 + (itB i.b).size + 1 ≤ 9223372036854775807 := by omega
  have y4 : ¬ 9223372036854775807 < (wordB i.op).size + 1 + (itB i.a).size + 1 + (itB i.b).size + 1 := by omega
  have z5 : (wordB i.op).size + 1 + (itB i.a).size + 1 + (itB i.b).size + 1 + (itB i.c).size ≤ 9223372036854775807 := by omega
  have y5 : ¬ 9223372036854775807 < (wordB i.op).size + 1 + (itB i.a).size + 1 + (itB i.b).size + 1 + (itB i.c).size := by omega
  have z9 : (headR i).size + 1 ≤ 9223372036854775807 := by omega
  have y9 : ¬ 9223372036854775807 < (headR i).size + 1 := by omega
  clear hi hoi hl hB
  have hse := emp_iff he
  simp only [Bool.false_eq_true, iff_false, iff_true] at hse
  have hse2 : i.s.toList.isEmpty = false := by cases hq : i.s.toList.isEmpty with | false => rfl | true => exact absurd (List.isEmpty_iff.1 hq) hse
  have hse3 : (!i.s.toList.isEmpty) = true := by rw [hse2]; rfl
  clear he
  go_enter Tryd.func14, Tryd.ntmps14
  go_wp2_with (first | (refine wp_hide_alloc rfl 52 _ _ rfl (.slice (some ⟨(w.alloc (.cells #[.int .u8 i.op, .int .i64 i.a, .int .i64 i.b, .int .i64 i.c, .string i.s, .slice i.A i.n i.cap] 31)).heap.size, 0, none⟩) 36 36) (.cells namesA 9) (by kernel_rfl) ?_; intro w1 hs1 hb1 hr1; have hsh1 := ShR.made i hb1 hr1; simp only [World.size_alloc]; have hall := hsh1.cells; clear hs1 hb1 hr1) | ((with_reducible refine (q_dec i.op HOW.out _).mono ?_); rintro e w2 ⟨rfl, hb2⟩; have hsh2 := hsh1.keep hb2; clear hb2; have hnm := HNM.out _ hsh2; have hall2 := hsh2.cells))
  have hd2 := hsh2.drew
  clear hall hall2
  clear hnm
  have hall := hd2.cells
  go_region_held3 (fun w' => w'.cell? ⟨w.heap.size, 0, none⟩ = some (.int .u8 i.op) ∧ w'.cell? ⟨w.heap.size, 1, none⟩ = some (.int .i64 i.a) ∧ w'.cell? ⟨w.heap.size, 2, none⟩ = some (.int .i64 i.b) ∧ w'.cell? ⟨w.heap.size, 3, none⟩ = some (.int .i64 i.c) ∧ w'.cell? ⟨w.heap.size, 4, none⟩ = some (.string i.s) ∧ w'.cell? ⟨w.heap.size, 5, none⟩ = some (.slice i.A i.n i.cap)) (first | exact hall | exact ShR.cells (by assumption) | go_keep) (first | (go_at_call 36; with_reducible refine (q_dec i.a HI.out.a _).mono ?_; rintro e w3 ⟨rfl, hb3⟩; have hsh3 := ShR.keep (by assumption) hb3; clear hb3) | (go_at_call 36; with_reducible refine (q_dec i.b HI.out.b _).mono ?_; rintro e w3 ⟨rfl, hb3⟩; have hsh3 := ShR.keep (by assumption) hb3; clear hb3) | (go_at_call 36; with_reducible refine (q_dec i.c HI.out.c _).mono ?_; rintro e w3 ⟨rfl, hb3⟩; have hsh3 := ShR.keep (by assumption) hb3; clear hb3))
  all_goals
   rw [HHD.out]
   have hall3 := hsh3.cells
   have HSH := Lib.hid hsh3
   clear hall hd2 hsh2 hsh1 hsh3
   by_cases hn0 : i.n = 0
   · have hn1 : ((i.n : Int) == 0) = true := by simp [hn0]
     have hn2 : decide ((i.n : Int) = 0) = true := by simp [hn0]
     have HA : Hid (baseR i = showB i) := by
       unfold Hid showB
       rw [if_pos (List.length_eq_zero_iff.1 (by rw [HL.out.1]; exact hn0)), base_is]
     rw [HBASE.out] at HA
     clear hn0
     go_wp2_with fail
     go_ret
     exact ⟨ret_str HA.out, HSH.out.below⟩
   · have hn1 : ((i.n : Int) == 0) = false := by simp; omega
     have hn2 : decide ((i.n : Int) = 0) = false := by simp; omega
     have HA : Hid (toldR i i.n ++ ⟨#[93]⟩ = showB i) := by
       unfold Hid showB toldR
       rw [if_neg (fun h => hn0 (by rw [← HL.out.1, h]; rfl)), base_is, List.take_of_length_le (by rw [HL.out.1]; exact Nat.le_refl _)]
       apply bytes_ext
       simp
     have HT0 := Lib.hid (told_zero i)
     rw [HBASE.out] at HT0
     clear hn0
     go_wp2_with fail
     rw [HT0.out]
     go_loopw [4, 5] (fun s i0 wr => ∃ k : Nat, k ≤ i.n ∧ i0 = .int .i64 k ∧ s = .string (toldR i k) ∧ ShR w wr i) (fun s i0 wr => i.n - (intOf i0).toNat)
     case atStart => exact ⟨0, Nat.zero_le _, rfl, rfl, HSH.out⟩
     case round =>
       obtain ⟨k, hk, rfl, rfl, hsh4⟩ := hrel
       have hall4 := hsh4.cells
       have HSH4 := Lib.hid hsh4
       have hts := HTS.out k
       clear hall3
       by_cases hlt : k < i.n
       · obtain ⟨ab, ao, hiA, hab, x, hx, hwx, hcx⟩ := (HL.out.keep HB.out hsh4.below).at hlt
         have hxs := itB_size hwx
         have HX := Lib.hid hx
         have habl : ab < w.heap.size := Nat.lt_of_lt_of_le hab HB.out
         clear hx hsh4
         by_cases hk0 : k = 0
         · have HTX : Hid (toldR i k ++ itB x = toldR i (k + 1)) := by
             unfold Hid
             rw [hk0]
             exact told_first (by rw [← hk0]; exact HX.out)
           have hk1 : ¬ 0 < k := by omega
           have hk2 : decide (0 < k) = false := by simp [hk0]
           clear hk0
           go_wp2_with (((with_reducible refine (q_dec x hwx _).mono ?_); rintro e w5 ⟨rfl, hb5⟩; have hsh5 := HSH4.out.keep hb5; clear hb5))
           rw [HTX.out, ← hiA]
           go_roundw
           case rel => exact ⟨k + 1, by omega, by go_num, rfl, hsh5⟩
           case measure => simp [intOf]; omega
         · have HTX : Hid ((toldR i k ++ ⟨#[32]⟩) ++ itB x = toldR i (k + 1)) := told_more (by omega) HX.out
           have hk1 : 0 < k := by omega
           have hk2 : decide (0 < k) = true := by simp; omega
           clear hk0
           go_wp2_with (((with_reducible refine (q_dec x hwx _).mono ?_); rintro e w5 ⟨rfl, hb5⟩; have hsh5 := HSH4.out.keep hb5; clear hb5))
           rw [HTX.out, ← hiA]
           go_roundw
           case rel => exact ⟨k + 1, by omega, by go_num, rfl, hsh5⟩
           case measure => simp [intOf]; omega
       · obtain rfl : k = i.n := by omega
         clear hsh4
         go_wp2_with fail
         go_ret
         exact ⟨ret_str HA.out, HSH4.out.below⟩
end Go.Proofs.YtankpckkiikmaaaDoor
namespace Go.Proofs.YtankpckkiikmaaaDoor
open Go.RowKit Cod
set_option maxRecDepth 100000 in
set_option maxHeartbeats 8000000 in
theorem q_show_loE {w : World} {B : Nat} (i : IV) (hi : IOk i) (hoi : (Lit.int .i64 i.op).wf = true) (hl : Ints w B i.A i.n i.args) (hB : B ≤ w.heap.size) (hnb : i.n ≤ 1000) (hsb : i.s.size ≤ 1000) (ho0 : 0 ≤ i.op) (ho9 : i.op ≤ 255) (hop : i.op < 1) (he : empB i.s = true) :
    Calls Tryd.prog 14 #[.agg #[.int .u8 i.op, .int .i64 i.a, .int .i64 i.b, .int .i64 i.c, .string i.s, .slice i.A i.n i.cap]] w fun e w' => e = .returned (.string (showB i)) ∧ Below w.heap.size w w' := by
  have HI := Lib.hid hi
  have HL := Lib.hid hl
  have HB := Lib.hid hB
  have HOW := Lib.hid hoi
  have hsz := itB_size hoi
  have hsa := itB_size hi.a
  have hsbb := itB_size hi.b
  have hsc := itB_size hi.c
  have hsw := word_size i.op hoi
  have hhd := head_size i hi hoi
  have HBASE : Hid (baseR i = headR i) := by unfold Hid baseR; rw [he]; rfl
  have HHD : Hid (((((((wordB i.op ++ ⟨#[32]⟩) ++ itB i.a) ++ ⟨#[32]⟩) ++ itB i.b) ++ ⟨#[32]⟩) ++ itB i.c) = headR i) := rfl
  have HTS : Hid (∀ k, (toldR i k).size ≤ 2200000) := fun k => by
    have h1 := joinB_size (xs := (i.args.take k).map itB) 1000 (fun x hx => by
      obtain ⟨n, hn, rfl⟩ := List.mem_map.1 hx
      exact Nat.le_trans (itB_size (hl.2.2.1 n (List.mem_of_mem_take hn))) (by decide))
    have h2 : ((i.args.take k).map itB).length ≤ 1000 := by rw [List.length_map, List.length_take, hl.1]; omega
    have h3 : (joinB ((i.args.take k).map itB)).size ≤ 1000 * 1001 := Nat.le_trans h1 (Nat.mul_le_mul_right _ h2)
    have h4 : (baseR i).size ≤ 2101 := by
      rw [HBASE.out]; omega
    unfold toldR
    simp only [ByteArray.size_append]
    have e : (⟨#[32, 91]⟩ : ByteArray).size = 2 := rfl
    simp only [e]
    omega
  have HWD := Lib.hid (word_out (op := i.op) (by omega))
  have z0 : (wordB i.op).size + 1 ≤ 9223372036854775807 := by omega
  have y0 : ¬ 9223372036854775807 < (wordB i.op).size + 1 := by omega
  have z1 : (wordB i.op).size + 1 + (itB i.a).size ≤ 9223372036854775807 := by omega
  have y1 : ¬ 9223372036854775807 < (wordB i.op).size + 1 + (itB i.a).size := by omega
  have z2 : (wordB i.op).size + 1 + (itB i.a).size + 1 ≤ 9223372036854775807 := by omega
  have y2 : ¬ 9223372036854775807 < (wordB i.op).size + 1 + (itB i.a).size + 1 := by omega
  have z3 : (wordB i.op).size + 1 + (itB i.a).size + 1 + (itB i.b).size ≤ 9223372036854775807 := by omega
  have y3 : ¬ 9223372036854775807 < (wordB i.op).size + 1 + (itB i.a).size + 1 + (itB i.b).size := by omega
  have z4 : (wordB i.op).size + 1 + (itB i.a).size + 1 + (itB i.b).size + 1 ≤ 9223372036854775807 := by omega
  have y4 : ¬ 9223372036854775807 < (wordB i.op).size + 1 + (itB i.a).size + 1 + (itB i.b).size + 1 := by omega
  have z5 : (wordB i.op).size + 1 + (itB i.a).size + 1 + (itB i.b).size + 1 + (itB i.c).size ≤ 9223372036854775807 := by omega
  have y5 : ¬ 9223372036854775807 < (wordB i.op).size + 1 + (itB i.a).size + 1 + (itB i.b).size + 1 + (itB i.c).size := by omega
  have z9 : (headR i).size + 1 ≤ 9223372036854775807 := by omega
  have y9 : ¬ 9223372036854775807 < (headR i).size + 1 := by omega
  clear hi hoi hl hB
  have hse := emp_iff he
  simp only [Bool.false_eq_true, iff_false, iff_true] at hse
  clear he
  go_enter Tryd.func14, Tryd.ntmps14
  go_wp2_with (first | (refine wp_hide_alloc rfl 52 _ _ rfl (.slice (some ⟨(w.alloc (.cells #[.int .u8 i.op, .int .i64 i.a, .int .i64 i.b, .int .i64 i.c, .string i.s, .slice i.A i.n i.cap] 31)).heap.size, 0, none⟩) 36 36) (.cells namesA 9) (by kernel_rfl) ?_; intro w1 hs1 hb1 hr1; have hsh1 := ShR.made i hb1 hr1; simp only [World.size_alloc]; have hall := hsh1.cells; clear hs1 hb1 hr1) | ((with_reducible refine (q_dec i.op HOW.out _).mono ?_); rintro e w2 ⟨rfl, hb2⟩; have hsh2 := hsh1.keep hb2; clear hb2; have hall2 := hsh2.cells))
  have hd2 := hsh2.drew
  clear hall hall2
  rw [HWD.out]
  have hall := hd2.cells
  go_region_held3 (fun w' => w'.cell? ⟨w.heap.size, 0, none⟩ = some (.int .u8 i.op) ∧ w'.cell? ⟨w.heap.size, 1, none⟩ = some (.int .i64 i.a) ∧ w'.cell? ⟨w.heap.size, 2, none⟩ = some (.int .i64 i.b) ∧ w'.cell? ⟨w.heap.size, 3, none⟩ = some (.int .i64 i.c) ∧ w'.cell? ⟨w.heap.size, 4, none⟩ = some (.string i.s) ∧ w'.cell? ⟨w.heap.size, 5, none⟩ = some (.slice i.A i.n i.cap)) (first | exact hall | exact ShR.cells (by assumption) | go_keep) (first | (go_at_call 36; with_reducible refine (q_dec i.a HI.out.a _).mono ?_; rintro e w3 ⟨rfl, hb3⟩; have hsh3 := ShR.keep (by assumption) hb3; clear hb3) | (go_at_call 36; with_reducible refine (q_dec i.b HI.out.b _).mono ?_; rintro e w3 ⟨rfl, hb3⟩; have hsh3 := ShR.keep (by assumption) hb3; clear hb3) | (go_at_call 36; with_reducible refine (q_dec i.c HI.out.c _).mono ?_; rintro e w3 ⟨rfl, hb3⟩; have hsh3 := ShR.keep (by assumption) hb3; clear hb3))
  all_goals
   rw [HHD.out]
   have hall3 := hsh3.cells
   have HSH := Lib.hid hsh3
   clear hall hd2 hsh2 hsh1 hsh3
   by_cases hn0 : i.n = 0
   · have hn1 : ((i.n : Int) == 0) = true := by simp [hn0]
     have hn2 : decide ((i.n : Int) = 0) = true := by simp [hn0]
     have HA : Hid (baseR i = showB i) := by
       unfold Hid showB
       rw [if_pos (List.length_eq_zero_iff.1 (by rw [HL.out.1]; exact hn0)), base_is]
     rw [HBASE.out] at HA
     clear hn0
     go_wp2_with fail
     go_ret
     exact ⟨ret_str HA.out, HSH.out.below⟩
   · have hn1 : ((i.n : Int) == 0) = false := by simp; omega
     have hn2 : decide ((i.n : Int) = 0) = false := by simp; omega
     have HA : Hid (toldR i i.n ++ ⟨#[93]⟩ = showB i) := by
       unfold Hid showB toldR
       rw [if_neg (fun h => hn0 (by rw [← HL.out.1, h]; rfl)), base_is, List.take_of_length_le (by rw [HL.out.1]; exact Nat.le_refl _)]
       apply bytes_ext
       simp
     have HT0 := Lib.hid (told_zero i)
     rw [HBASE.out] at HT0
     clear hn0
     go_wp2_with fail
     rw [HT0.out]
     go_loopw [4, 5] (fun s i0 wr => ∃ k : Nat, k ≤ i.n ∧ i0 = .int .i64 k ∧ s = .string (toldR i k) ∧ ShR w wr i) (fun s i0 wr => i.n - (intOf i0).toNat)
     case atStart => exact ⟨0, Nat.zero_le _, rfl, rfl, HSH.out⟩
     case round =>
       obtain ⟨k, hk, rfl, rfl, hsh4⟩ := hrel
       have hall4 := hsh4.cells
       have HSH4 := Lib.hid hsh4
       have hts := HTS.out k
       clear hall3
       by_cases hlt : k < i.n
       · obtain ⟨ab, ao, hiA, hab, x, hx, hwx, hcx⟩ := (HL.out.keep HB.out hsh4.below).at hlt
         have hxs := itB_size hwx
         have HX := Lib.hid hx
         have habl : ab < w.heap.size := Nat.lt_of_lt_of_le hab HB.out
         clear hx hsh4
         by_cases hk0 : k = 0
         · have HTX : Hid (toldR i k ++ itB x = toldR i (k + 1)) := by
             unfold Hid
             rw [hk0]
             exact told_first (by rw [← hk0]; exact HX.out)
           have hk1 : ¬ 0 < k := by omega
           have hk2 : decide (0 < k) = false := by simp [hk0]
           clear hk0
           go_wp2_with (((with_reducible refine (q_dec x hwx _).mono ?_); rintro e w5 ⟨rfl, hb5⟩; have hsh5 := HSH4.out.keep hb5; clear hb5))
           rw [HTX.out, ← hiA]
           go_roundw
           case rel => exact ⟨k + 1, by omega, by go_num, rfl, hsh5⟩
           case measure => simp [intOf]; omega
         · have HTX : Hid ((toldR i k ++ ⟨#[32]⟩) ++ itB x = toldR i (k + 1)) := told_more (by omega) HX.out
           have hk1 : 0 < k := by omega
           have hk2 : decide (0 < k) = true := by simp; omega
           clear hk0
           go_wp2_with (((with_reducible refine (q_dec x hwx _).mono ?_); rintro e w5 ⟨rfl, hb5⟩; have hsh5 := HSH4.out.keep hb5; clear hb5))
           rw [HTX.out, ← hiA]
           go_roundw
           case rel => exact ⟨k + 1, by omega, by go_num, rfl, hsh5⟩
           case measure => simp [intOf]; omega
       · obtain rfl : k = i.n := by omega
         clear hsh4
         go_wp2_with fail
         go_ret
         exact ⟨ret_str HA.out, HSH4.out.below⟩
set_option maxRecDepth 100000 in
set_option maxHeartbeats 8000000 in
theorem q_show_hiE {w : World} {B : Nat} (i : IV) (hi : IOk i) (hoi : (Lit.int .i64 i.op).wf = true) (hl : Ints w B i.A i.n i.args) (hB : B ≤ w.heap.size) (hnb : i.n ≤ 1000) (hsb : i.s.size ≤ 1000) (ho0 : 0 ≤ i.op) (ho9 : i.op ≤ 255) (hop : 36 < i.op) (he : empB i.s = true) :
    Calls Tryd.prog 14 #[.agg #[.int .u8 i.op, .int .i64 i.a, .int .i64 i.b, .int .i64 i.c, .string i.s, .slice i.A i.n i.cap]] w fun e w' => e = .returned (.string (showB i)) ∧ Below w.heap.size w w' := by
  have HI := Lib.hid hi
  have HL := Lib.hid hl
  have HB := Lib.hid hB
  have HOW := Lib.hid hoi
  have hsz := itB_size hoi
  have hsa := itB_size hi.a
  have hsbb := itB_size hi.b
  have hsc := itB_size hi.c
  have hsw := word_size i.op hoi
  have hhd := head_size i hi hoi
  have HBASE : Hid (baseR i = headR i) := by unfold Hid baseR; rw [he]; rfl
  have HHD : Hid (((((((wordB i.op ++ ⟨#[32]⟩) ++ itB i.a) ++ ⟨#[32]⟩) ++ itB i.b) ++ ⟨#[32]⟩) ++ itB i.c) = headR i) := rfl
  have HTS : Hid (∀ k, (toldR i k).size ≤ 2200000) := fun k => by
    have h1 := joinB_size (xs := (i.args.take k).map itB) 1000 (fun x hx => by
      obtain ⟨n, hn, rfl⟩ := List.mem_map.1 hx
      exact Nat.le_trans (itB_size (hl.2.2.1 n (List.mem_of_mem_take hn))) (by decide))
    have h2 : ((i.args.take k).map itB).length ≤ 1000 := by rw [List.length_map, List.length_take, hl.1]; omega
    have h3 : (joinB ((i.args.take k).map itB)).size ≤ 1000 * 1001 := Nat.le_trans h1 (Nat.mul_le_mul_right _ h2)
    have h4 : (baseR i).size ≤ 2101 := by
      rw [HBASE.out]; omega
    unfold toldR
    simp only [ByteArray.size_append]
    have e : (⟨#[32, 91]⟩ : ByteArray).size = 2 := rfl
    simp only [e]
    omega
  have HWD := Lib.hid (word_out (op := i.op) (by omega))
  have op1 : 1 ≤ i.op := by omega
  have z0 : (wordB i.op).size + 1 ≤ 9223372036854775807 := by omega
  have y0 : ¬ 9223372036854775807 < (wordB i.op).size + 1 := by omega
  have z1 : (wordB i.op).size + 1 + (itB i.a).size ≤ 9223372036854775807 := by omega
  have y1 : ¬ 9223372036854775807 < (wordB i.op).size + 1 + (itB i.a).size := by omega
  have z2 : (wordB i.op).size + 1 + (itB i.a).size + 1 ≤ 9223372036854775807 := by omega
  have y2 : ¬ 9223372036854775807 < (wordB i.op).size + 1 + (itB i.a).size + 1 := by omega
  have z3 : (wordB i.op).size + 1 + (itB i.a).size + 1 + (itB i.b).size ≤ 9223372036854775807 := by omega
  have y3 : ¬ 9223372036854775807 < (wordB i.op).size + 1 + (itB i.a).size + 1 + (itB i.b).size := by omega
  have z4 : (wordB i.op).size + 1 + (itB i.a).size + 1 + (itB i.b).size + 1 ≤ 9223372036854775807 := by omega
  have y4 : ¬ 9223372036854775807 < (wordB i.op).size + 1 + (itB i.a).size + 1 + (itB i.b).size + 1 := by omega
  have z5 : (wordB i.op).size + 1 + (itB i.a).size + 1 + (itB i.b).size + 1 + (itB i.c).size ≤ 9223372036854775807 := by omega
  have y5 : ¬ 9223372036854775807 < (wordB i.op).size + 1 + (itB i.a).size + 1 + (itB i.b).size + 1 + (itB i.c).size := by omega
  have z9 : (headR i).size + 1 ≤ 9223372036854775807 := by omega
  have y9 : ¬ 9223372036854775807 < (headR i).size + 1 := by omega
  clear hi hoi hl hB
  have hse := emp_iff he
  simp only [Bool.false_eq_true, iff_false, iff_true] at hse
  clear he
  go_enter Tryd.func14, Tryd.ntmps14
  go_wp2_with (first | (refine wp_hide_alloc rfl 52 _ _ rfl (.slice (some ⟨(w.alloc (.cells #[.int .u8 i.op, .int .i64 i.a, .int .i64 i.b, .int .i64 i.c, .string i.s, .slice i.A i.n i.cap] 31)).heap.size, 0, none⟩) 36 36) (.cells namesA 9) (by kernel_rfl) ?_; intro w1 hs1 hb1 hr1; have hsh1 := ShR.made i hb1 hr1; simp only [World.size_alloc]; have hall := hsh1.cells; clear hs1 hb1 hr1) | ((with_reducible refine (q_dec i.op HOW.out _).mono ?_); rintro e w2 ⟨rfl, hb2⟩; have hsh2 := hsh1.keep hb2; clear hb2; have hall2 := hsh2.cells))
  have hd2 := hsh2.drew
  clear hall hall2
  rw [HWD.out]
  have hall := hd2.cells
  go_region_held3 (fun w' => w'.cell? ⟨w.heap.size, 0, none⟩ = some (.int .u8 i.op) ∧ w'.cell? ⟨w.heap.size, 1, none⟩ = some (.int .i64 i.a) ∧ w'.cell? ⟨w.heap.size, 2, none⟩ = some (.int .i64 i.b) ∧ w'.cell? ⟨w.heap.size, 3, none⟩ = some (.int .i64 i.c) ∧ w'.cell? ⟨w.heap.size, 4, none⟩ = some (.string i.s) ∧ w'.cell? ⟨w.heap.size, 5, none⟩ = some (.slice i.A i.n i.cap)) (first | exact hall | exact ShR.cells (by assumption) | go_keep) (first | (go_at_call 36; with_reducible refine (q_dec i.a HI.out.a _).mono ?_; rintro e w3 ⟨rfl, hb3⟩; have hsh3 := ShR.keep (by assumption) hb3; clear hb3) | (go_at_call 36; with_reducible refine (q_dec i.b HI.out.b _).mono ?_; rintro e w3 ⟨rfl, hb3⟩; have hsh3 := ShR.keep (by assumption) hb3; clear hb3) | (go_at_call 36; with_reducible refine (q_dec i.c HI.out.c _).mono ?_; rintro e w3 ⟨rfl, hb3⟩; have hsh3 := ShR.keep (by assumption) hb3; clear hb3))
  all_goals
   rw [HHD.out]
   have hall3 := hsh3.cells
   have HSH := Lib.hid hsh3
   clear hall hd2 hsh2 hsh1 hsh3
   by_cases hn0 : i.n = 0
   · have hn1 : ((i.n : Int) == 0) = true := by simp [hn0]
     have hn2 : decide ((i.n : Int) = 0) = true := by simp [hn0]
     have HA : Hid (baseR i = showB i) := by
       unfold Hid showB
       rw [if_pos (List.length_eq_zero_iff.1 (by rw [HL.out.1]; exact hn0)), base_is]
     rw [HBASE.out] at HA
     clear hn0
     go_wp2_with fail
     go_ret
     exact ⟨ret_str HA.out, HSH.out.below⟩
   · have hn1 : ((i.n : Int) == 0) = false := by simp; omega
     have hn2 : decide ((i.n : Int) = 0) = false := by simp; omega
     have HA : Hid (toldR i i.n ++ ⟨#[93]⟩ = showB i) := by
       unfold Hid showB toldR
       rw [if_neg (fun h => hn0 (by rw [← HL.out.1, h]; rfl)), base_is, List.take_of_length_le (by rw [HL.out.1]; exact Nat.le_refl _)]
       apply bytes_ext
       simp
     have HT0 := Lib.hid (told_zero i)
     rw [HBASE.out] at HT0
     clear hn0
     go_wp2_with fail
     rw [HT0.out]
     go_loopw [4, 5] (fun s i0 wr => ∃ k : Nat, k ≤ i.n ∧ i0 = .int .i64 k ∧ s = .string (toldR i k) ∧ ShR w wr i) (fun s i0 wr => i.n - (intOf i0).toNat)
     case atStart => exact ⟨0, Nat.zero_le _, rfl, rfl, HSH.out⟩
     case round =>
       obtain ⟨k, hk, rfl, rfl, hsh4⟩ := hrel
       have hall4 := hsh4.cells
       have HSH4 := Lib.hid hsh4
       have hts := HTS.out k
       clear hall3
       by_cases hlt : k < i.n
       · obtain ⟨ab, ao, hiA, hab, x, hx, hwx, hcx⟩ := (HL.out.keep HB.out hsh4.below).at hlt
         have hxs := itB_size hwx
         have HX := Lib.hid hx
         have habl : ab < w.heap.size := Nat.lt_of_lt_of_le hab HB.out
         clear hx hsh4
         by_cases hk0 : k = 0
         · have HTX : Hid (toldR i k ++ itB x = toldR i (k + 1)) := by
             unfold Hid
             rw [hk0]
             exact told_first (by rw [← hk0]; exact HX.out)
           have hk1 : ¬ 0 < k := by omega
           have hk2 : decide (0 < k) = false := by simp [hk0]
           clear hk0
           go_wp2_with (((with_reducible refine (q_dec x hwx _).mono ?_); rintro e w5 ⟨rfl, hb5⟩; have hsh5 := HSH4.out.keep hb5; clear hb5))
           rw [HTX.out, ← hiA]
           go_roundw
           case rel => exact ⟨k + 1, by omega, by go_num, rfl, hsh5⟩
           case measure => simp [intOf]; omega
         · have HTX : Hid ((toldR i k ++ ⟨#[32]⟩) ++ itB x = toldR i (k + 1)) := told_more (by omega) HX.out
           have hk1 : 0 < k := by omega
           have hk2 : decide (0 < k) = true := by simp; omega
           clear hk0
           go_wp2_with (((with_reducible refine (q_dec x hwx _).mono ?_); rintro e w5 ⟨rfl, hb5⟩; have hsh5 := HSH4.out.keep hb5; clear hb5))
           rw [HTX.out, ← hiA]
           go_roundw
           case rel => exact ⟨k + 1, by omega, by go_num, rfl, hsh5⟩
           case measure => simp [intOf]; omega
       · obtain rfl : k = i.n := by omega
         clear hsh4
         go_wp2_with fail
         go_ret
         exact ⟨ret_str HA.out, HSH4.out.below⟩
set_option maxRecDepth 100000 in
set_option maxHeartbeats 8000000 in
theorem q_show_loS {w : World} {B : Nat} (i : IV) (hi : IOk i) (hoi : (Lit.int .i64 i.op).wf = true) (hl : Ints w B i.A i.n i.args) (hB : B ≤ w.heap.size) (hnb : i.n ≤ 1000) (hsb : i.s.size ≤ 1000) (ho0 : 0 ≤ i.op) (ho9 : i.op ≤ 255) (hop : i.op < 1) (he : empB i.s = false) :
    Calls Tryd.prog 14 #[.agg #[.int .u8 i.op, .int .i64 i.a, .int .i64 i.b, .int .i64 i.c, .string i.s, .slice i.A i.n i.cap]] w fun e w' => e = .returned (.string (showB i)) ∧ Below w.heap.size w w' := by
  have HI := Lib.hid hi
  have HL := Lib.hid hl
  have HB := Lib.hid hB
  have HOW := Lib.hid hoi
  have hsz := itB_size hoi
  have hsa := itB_size hi.a
  have hsbb := itB_size hi.b
  have hsc := itB_size hi.c
  have hsw := word_size i.op hoi
  have hhd := head_size i hi hoi
  have HBASE : Hid (baseR i = (headR i ++ ⟨#[32]⟩) ++ i.s) := by unfold Hid baseR; rw [he]; rfl
  have HHD : Hid (((((((wordB i.op ++ ⟨#[32]⟩) ++ itB i.a) ++ ⟨#[32]⟩) ++ itB i.b) ++ ⟨#[32]⟩) ++ itB i.c) = headR i) := rfl
  have HTS : Hid (∀ k, (toldR i k).size ≤ 2200000) := fun k => by
    have h1 := joinB_size (xs := (i.args.take k).map itB) 1000 (fun x hx => by
      obtain ⟨n, hn, rfl⟩ := List.mem_map.1 hx
      exact Nat.le_trans (itB_size (hl.2.2.1 n (List.mem_of_mem_take hn))) (by decide))
    have h2 : ((i.args.take k).map itB).length ≤ 1000 := by rw [List.length_map, List.length_take, hl.1]; omega
    have h3 : (joinB ((i.args.take k).map itB)).size ≤ 1000 * 1001 := Nat.le_trans h1 (Nat.mul_le_mul_right _ h2)
    have h4 : (baseR i).size ≤ 2101 := by
      rw [HBASE.out]; simp only [ByteArray.size_append]; have e : (⟨#[32]⟩ : ByteArray).size = 1 := rfl; simp only [e]; omega
    unfold toldR
    simp only [ByteArray.size_append]
    have e : (⟨#[32, 91]⟩ : ByteArray).size = 2 := rfl
    simp only [e]
    omega
  have HWD := Lib.hid (word_out (op := i.op) (by omega))
  have z0 : (wordB i.op).size + 1 ≤ 9223372036854775807 := by omega
  have y0 : ¬ 9223372036854775807 < (wordB i.op).size + 1 := by omega
  have z1 : (wordB i.op).size + 1 + (itB i.a).size ≤ 9223372036854775807 := by omega
  have y1 : ¬ 9223372036854775807 < (wordB i.op).size + 1 + (itB i.a).size := by omega
  have z2 : (wordB i.op).size + 1 + (itB i.a).size + 1 ≤ 9223372036854775807 := by omega
  have y2 : ¬ 9223372036854775807 < (wordB i.op).size + 1 + (itB i.a).size + 1 := by omega
  have z3 : (wordB i.op).size + 1 + (itB i.a).size + 1 + (itB i.b).size ≤ 9223372036854775807 := by omega
  have y3 : ¬ 9223372036854775807 < (wordB i.op).size + 1 + (itB i.a).size + 1 + (itB i.b).size := by omega
  have z4 : (wordB i.op).size + 1 + (itB i.a).size + 1 + (itB i.b).size + 1 ≤ 9223372036854775807 := by omega
  have y4 : ¬ 9223372036854775807 < (wordB i.op).size + 1 + (itB i.a).size + 1 + (itB i.b).size + 1 := by omega
  have z5 : (wordB i.op).size + 1 + (itB i.a).size + 1 + (itB i.b).size + 1 + (itB i.c).size ≤ 9223372036854775807 := by omega
  have y5 : ¬ 9223372036854775807 < (wordB i.op).size + 1 + (itB i.a).size + 1 + (itB i.b).size + 1 + (itB i.c).size := by omega
  have z9 : (headR i).size + 1 ≤ 9223372036854775807 := by omega
  have y9 : ¬ 9223372036854775807 < (headR i).size + 1 := by omega
  clear hi hoi hl hB
  have hse := emp_iff he
  simp only [Bool.false_eq_true, iff_false, iff_true] at hse
  have hse2 : i.s.toList.isEmpty = false := by cases hq : i.s.toList.isEmpty with | false => rfl | true => exact absurd (List.isEmpty_iff.1 hq) hse
  have hse3 : (!i.s.toList.isEmpty) = true := by rw [hse2]; rfl
  clear he
  go_enter Tryd.func14, Tryd.ntmps14
  go_wp2_with (first | (refine wp_hide_alloc rfl 52 _ _ rfl (.slice (some ⟨(w.alloc (.cells #[.int .u8 i.op, .int .i64 i.a, .int .i64 i.b, .int .i64 i.c, .string i.s, .slice i.A i.n i.cap] 31)).heap.size, 0, none⟩) 36 36) (.cells namesA 9) (by kernel_rfl) ?_; intro w1 hs1 hb1 hr1; have hsh1 := ShR.made i hb1 hr1; simp only [World.size_alloc]; have hall := hsh1.cells; clear hs1 hb1 hr1) | ((with_reducible refine (q_dec i.op HOW.out _).mono ?_); rintro e w2 ⟨rfl, hb2⟩; have hsh2 := hsh1.keep hb2; clear hb2; have hall2 := hsh2.cells))
  have hd2 := hsh2.drew
  clear hall hall2
  rw [HWD.out]
  have hall := hd2.cells
  go_region_held3 (fun w' => w'.cell? ⟨w.heap.size, 0, none⟩ = some (.int .u8 i.op) ∧ w'.cell? ⟨w.heap.size, 1, none⟩ = some (.int .i64 i.a) ∧ w'.cell? ⟨w.heap.size, 2, none⟩ = some (.int .i64 i.b) ∧ w'.cell? ⟨w.heap.size, 3, none⟩ = some (.int .i64 i.c) ∧ w'.cell? ⟨w.heap.size, 4, none⟩ = some (.string i.s) ∧ w'.cell? ⟨w.heap.size, 5, none⟩ = some (.slice i.A i.n i.cap)) (first | exact hall | exact ShR.cells (by assumption) | go_keep) (first | (go_at_call 36; with_reducible refine (q_dec i.a HI.out.a _).mono ?_; rintro e w3 ⟨rfl, hb3⟩; have hsh3 := ShR.keep (by assumption) hb3; clear hb3) | (go_at_call 36; with_reducible refine (q_dec i.b HI.out.b _).mono ?_; rintro e w3 ⟨rfl, hb3⟩; have hsh3 := ShR.keep (by assumption) hb3; clear hb3) | (go_at_call 36; with_reducible refine (q_dec i.c HI.out.c _).mono ?_; rintro e w3 ⟨rfl, hb3⟩; have hsh3 := ShR.keep (by assumption) hb3; clear hb3))
  all_goals
   rw [HHD.out]
   have hall3 := hsh3.cells
   have HSH := Lib.hid hsh3
   clear hall hd2 hsh2 hsh1 hsh3
   by_cases hn0 : i.n = 0
   · have hn1 : ((i.n : Int) == 0) = true := by simp [hn0]
     have hn2 : decide ((i.n : Int) = 0) = true := by simp [hn0]
     have HA : Hid (baseR i = showB i) := by
       unfold Hid showB
       rw [if_pos (List.length_eq_zero_iff.1 (by rw [HL.out.1]; exact hn0)), base_is]
     rw [HBASE.out] at HA
     clear hn0
     go_wp2_with fail
     go_ret
     exact ⟨ret_str HA.out, HSH.out.below⟩
   · have hn1 : ((i.n : Int) == 0) = false := by simp; omega
     have hn2 : decide ((i.n : Int) = 0) = false := by simp; omega
     have HA : Hid (toldR i i.n ++ ⟨#[93]⟩ = showB i) := by
       unfold Hid showB toldR
       rw [if_neg (fun h => hn0 (by rw [← HL.out.1, h]; rfl)), base_is, List.take_of_length_le (by rw [HL.out.1]; exact Nat.le_refl _)]
       apply bytes_ext
       simp
     have HT0 := Lib.hid (told_zero i)
     rw [HBASE.out] at HT0
     clear hn0
     go_wp2_with fail
     rw [HT0.out]
     go_loopw [4, 5] (fun s i0 wr => ∃ k : Nat, k ≤ i.n ∧ i0 = .int .i64 k ∧ s = .string (toldR i k) ∧ ShR w wr i) (fun s i0 wr => i.n - (intOf i0).toNat)
     case atStart => exact ⟨0, Nat.zero_le _, rfl, rfl, HSH.out⟩
     case round =>
       obtain ⟨k, hk, rfl, rfl, hsh4⟩ := hrel
       have hall4 := hsh4.cells
       have HSH4 := Lib.hid hsh4
       have hts := HTS.out k
       clear hall3
       by_cases hlt : k < i.n
       · obtain ⟨ab, ao, hiA, hab, x, hx, hwx, hcx⟩ := (HL.out.keep HB.out hsh4.below).at hlt
         have hxs := itB_size hwx
         have HX := Lib.hid hx
         have habl : ab < w.heap.size := Nat.lt_of_lt_of_le hab HB.out
         clear hx hsh4
         by_cases hk0 : k = 0
         · have HTX : Hid (toldR i k ++ itB x = toldR i (k + 1)) := by
             unfold Hid
             rw [hk0]
             exact told_first (by rw [← hk0]; exact HX.out)
           have hk1 : ¬ 0 < k := by omega
           have hk2 : decide (0 < k) = false := by simp [hk0]
           clear hk0
           go_wp2_with (((with_reducible refine (q_dec x hwx _).mono ?_); rintro e w5 ⟨rfl, hb5⟩; have hsh5 := HSH4.out.keep hb5; clear hb5))
           rw [HTX.out, ← hiA]
           go_roundw
           case rel => exact ⟨k + 1, by omega, by go_num, rfl, hsh5⟩
           case measure => simp [intOf]; omega
         · have HTX : Hid ((toldR i k ++ ⟨#[32]⟩) ++ itB x = toldR i (k + 1)) := told_more (by omega) HX.out
           have hk1 : 0 < k := by omega
           have hk2 : decide (0 < k) = true := by simp; omega
           clear hk0
           go_wp2_with (((with_reducible refine (q_dec x hwx _).mono ?_); rintro e w5 ⟨rfl, hb5⟩; have hsh5 := HSH4.out.keep hb5; clear hb5))
           rw [HTX.out, ← hiA]
           go_roundw
           case rel => exact ⟨k + 1, by omega, by go_num, rfl, hsh5⟩
           case measure => simp [intOf]; omega
       · obtain rfl : k = i.n := by omega
         clear hsh4
         go_wp2_with fail
         go_ret
         exact ⟨ret_str HA.out, HSH4.out.below⟩
set_option maxRecDepth 100000 in
set_option maxHeartbeats 8000000 in
theorem q_show_hiS {w : World} {B : Nat} (i : IV) (hi : IOk i) (hoi : (Lit.int .i64 i.op).wf = true) (hl : Ints w B i.A i.n i.args) (hB : B ≤ w.heap.size) (hnb : i.n ≤ 1000) (hsb : i.s.size ≤ 1000) (ho0 : 0 ≤ i.op) (ho9 : i.op ≤ 255) (hop : 36 < i.op) (he : empB i.s = false) :
    Calls Tryd.prog 14 #[.agg #[.int .u8 i.op, .int .i64 i.a, .int .i64 i.b, .int .i64 i.c, .string i.s, .slice i.A i.n i.cap]] w fun e w' => e = .returned (.string (showB i)) ∧ Below w.heap.size w w' := by
  have HI := Lib.hid hi
  have HL := Lib.hid hl
  have HB := Lib.hid hB
  have HOW := Lib.hid hoi
  have hsz := itB_size hoi
  have hsa := itB_size hi.a
  have hsbb := itB_size hi.b
  have hsc := itB_size hi.c
  have hsw := word_size i.op hoi
  have hhd := head_size i hi hoi
  have HBASE : Hid (baseR i = (headR i ++ ⟨#[32]⟩) ++ i.s) := by unfold Hid baseR; rw [he]; rfl
  have HHD : Hid (((((((wordB i.op ++ ⟨#[32]⟩) ++ itB i.a) ++ ⟨#[32]⟩) ++ itB i.b) ++ ⟨#[32]⟩) ++ itB i.c) = headR i) := rfl
  have HTS : Hid (∀ k, (toldR i k).size ≤ 2200000) := fun k => by
    have h1 := joinB_size (xs := (i.args.take k).map itB) 1000 (fun x hx => by
      obtain ⟨n, hn, rfl⟩ := List.mem_map.1 hx
      exact Nat.le_trans (itB_size (hl.2.2.1 n (List.mem_of_mem_take hn))) (by decide))
    have h2 : ((i.args.take k).map itB).length ≤ 1000 := by rw [List.length_map, List.length_take, hl.1]; omega
    have h3 : (joinB ((i.args.take k).map itB)).size ≤ 1000 * 1001 := Nat.le_trans h1 (Nat.mul_le_mul_right _ h2)
    have h4 : (baseR i).size ≤ 2101 := by
      rw [HBASE.out]; simp only [ByteArray.size_append]; have e : (⟨#[32]⟩ : ByteArray).size = 1 := rfl; simp only [e]; omega
    unfold toldR
    simp only [ByteArray.size_append]
    have e : (⟨#[32, 91]⟩ : ByteArray).size = 2 := rfl
    simp only [e]
    omega
  have HWD := Lib.hid (word_out (op := i.op) (by omega))
  have op1 : 1 ≤ i.op := by omega
  have z0 : (wordB i.op).size + 1 ≤ 9223372036854775807 := by omega
  have y0 : ¬ 9223372036854775807 < (wordB i.op).size + 1 := by omega
  have z1 : (wordB i.op).size + 1 + (itB i.a).size ≤ 9223372036854775807 := by omega
  have y1 : ¬ 9223372036854775807 < (wordB i.op).size + 1 + (itB i.a).size := by omega
  have z2 : (wordB i.op).size + 1 + (itB i.a).size + 1 ≤ 9223372036854775807 := by omega
  have y2 : ¬ 9223372036854775807 < (wordB i.op).size + 1 + (itB i.a).size + 1 := by omega
  have z3 : (wordB i.op).size + 1 + (itB i.a).size + 1 + (itB i.b).size ≤ 9223372036854775807 := by omega
  have y3 : ¬ 9223372036854775807 < (wordB i.op).size + 1 + (itB i.a).size + 1 + (itB i.b).size := by omega
  have z4 : (wordB i.op).size + 1 + (itB i.a).size + 1 + (itB i.b).size + 1 ≤ 9223372036854775807 := by omega
  have y4 : ¬ 9223372036854775807 < (wordB i.op).size + 1 + (itB i.a).size + 1 + (itB i.b).size + 1 := by omega
  have z5 : (wordB i.op).size + 1 + (itB i.a).size + 1 + (itB i.b).size + 1 + (itB i.c).size ≤ 9223372036854775807 := by omega
  have y5 : ¬ 9223372036854775807 < (wordB i.op).size + 1 + (itB i.a).size + 1 + (itB i.b).size + 1 + (itB i.c).size := by omega
  have z9 : (headR i).size + 1 ≤ 9223372036854775807 := by omega
  have y9 : ¬ 9223372036854775807 < (headR i).size + 1 := by omega
  clear hi hoi hl hB
  have hse := emp_iff he
  simp only [Bool.false_eq_true, iff_false, iff_true] at hse
  have hse2 : i.s.toList.isEmpty = false := by cases hq : i.s.toList.isEmpty with | false => rfl | true => exact absurd (List.isEmpty_iff.1 hq) hse
  have hse3 : (!i.s.toList.isEmpty) = true := by rw [hse2]; rfl
  clear he
  go_enter Tryd.func14, Tryd.ntmps14
  go_wp2_with (first | (refine wp_hide_alloc rfl 52 _ _ rfl (.slice (some ⟨(w.alloc (.cells #[.int .u8 i.op, .int .i64 i.a, .int .i64 i.b, .int .i64 i.c, .string i.s, .slice i.A i.n i.cap] 31)).heap.size, 0, none⟩) 36 36) (.cells namesA 9) (by kernel_rfl) ?_; intro w1 hs1 hb1 hr1; have hsh1 := ShR.made i hb1 hr1; simp only [World.size_alloc]; have hall := hsh1.cells; clear hs1 hb1 hr1) | ((with_reducible refine (q_dec i.op HOW.out _).mono ?_); rintro e w2 ⟨rfl, hb2⟩; have hsh2 := hsh1.keep hb2; clear hb2; have hall2 := hsh2.cells))
  have hd2 := hsh2.drew
  clear hall hall2
  rw [HWD.out]
  have hall := hd2.cells
  go_region_held3 (fun w' => w'.cell? ⟨w.heap.size, 0, none⟩ = some (.int .u8 i.op) ∧ w'.cell? ⟨w.heap.size, 1, none⟩ = some (.int .i64 i.a) ∧ w'.cell? ⟨w.heap.size, 2, none⟩ = some (.int .i64 i.b) ∧ w'.cell? ⟨w.heap.size, 3, none⟩ = some (.int .i64 i.c) ∧ w'.cell? ⟨w.heap.size, 4, none⟩ = some (.string i.s) ∧ w'.cell? ⟨w.heap.size, 5, none⟩ = some (.slice i.A i.n i.cap)) (first | exact hall | exact ShR.cells (by assumption) | go_keep) (first | (go_at_call 36; with_reducible refine (q_dec i.a HI.out.a _).mono ?_; rintro e w3 ⟨rfl, hb3⟩; have hsh3 := ShR.keep (by assumption) hb3; clear hb3) | (go_at_call 36; with_reducible refine (q_dec i.b HI.out.b _).mono ?_; rintro e w3 ⟨rfl, hb3⟩; have hsh3 := ShR.keep (by assumption) hb3; clear hb3) | (go_at_call 36; with_reducible refine (q_dec i.c HI.out.c _).mono ?_; rintro e w3 ⟨rfl, hb3⟩; have hsh3 := ShR.keep (by assumption) hb3; clear hb3))
  all_goals
   rw [HHD.out]
   have hall3 := hsh3.cells
   have HSH := Lib.hid hsh3
   clear hall hd2 hsh2 hsh1 hsh3
   by_cases hn0 : i.n = 0
   · have hn1 : ((i.n : Int) == 0) = true := by simp [hn0]
     have hn2 : decide ((i.n : Int) = 0) = true := by simp [hn0]
     have HA : Hid (baseR i = showB i) := by
       unfold Hid showB
       rw [if_pos (List.length_eq_zero_iff.1 (by rw [HL.out.1]; exact hn0)), base_is]
     rw [HBASE.out] at HA
     clear hn0
     go_wp2_with fail
     go_ret
     exact ⟨ret_str HA.out, HSH.out.below⟩
   · have hn1 : ((i.n : Int) == 0) = false := by simp; omega
     have hn2 : decide ((i.n : Int) = 0) = false := by simp; omega
     have HA : Hid (toldR i i.n ++ ⟨#[93]⟩ = showB i) := by
       unfold Hid showB toldR
       rw [if_neg (fun h => hn0 (by rw [← HL.out.1, h]; rfl)), base_is, List.take_of_length_le (by rw [HL.out.1]; exact Nat.le_refl _)]
       apply bytes_ext
       simp
     have HT0 := Lib.hid (told_zero i)
     rw [HBASE.out] at HT0
     clear hn0
     go_wp2_with fail
     rw [HT0.out]
     go_loopw [4, 5] (fun s i0 wr => ∃ k : Nat, k ≤ i.n ∧ i0 = .int .i64 k ∧ s = .string (toldR i k) ∧ ShR w wr i) (fun s i0 wr => i.n - (intOf i0).toNat)
     case atStart => exact ⟨0, Nat.zero_le _, rfl, rfl, HSH.out⟩
     case round =>
       obtain ⟨k, hk, rfl, rfl, hsh4⟩ := hrel
       have hall4 := hsh4.cells
       have HSH4 := Lib.hid hsh4
       have hts := HTS.out k
       clear hall3
       by_cases hlt : k < i.n
       · obtain ⟨ab, ao, hiA, hab, x, hx, hwx, hcx⟩ := (HL.out.keep HB.out hsh4.below).at hlt
         have hxs := itB_size hwx
         have HX := Lib.hid hx
         have habl : ab < w.heap.size := Nat.lt_of_lt_of_le hab HB.out
         clear hx hsh4
         by_cases hk0 : k = 0
         · have HTX : Hid (toldR i k ++ itB x = toldR i (k + 1)) := by
             unfold Hid
             rw [hk0]
             exact told_first (by rw [← hk0]; exact HX.out)
           have hk1 : ¬ 0 < k := by omega
           have hk2 : decide (0 < k) = false := by simp [hk0]
           clear hk0
           go_wp2_with (((with_reducible refine (q_dec x hwx _).mono ?_); rintro e w5 ⟨rfl, hb5⟩; have hsh5 := HSH4.out.keep hb5; clear hb5))
           rw [HTX.out, ← hiA]
           go_roundw
           case rel => exact ⟨k + 1, by omega, by go_num, rfl, hsh5⟩
           case measure => simp [intOf]; omega
         · have HTX : Hid ((toldR i k ++ ⟨#[32]⟩) ++ itB x = toldR i (k + 1)) := told_more (by omega) HX.out
           have hk1 : 0 < k := by omega
           have hk2 : decide (0 < k) = true := by simp; omega
           clear hk0
           go_wp2_with (((with_reducible refine (q_dec x hwx _).mono ?_); rintro e w5 ⟨rfl, hb5⟩; have hsh5 := HSH4.out.keep hb5; clear hb5))
           rw [HTX.out, ← hiA]
           go_roundw
           case rel => exact ⟨k + 1, by omega, by go_num, rfl, hsh5⟩
           case measure => simp [intOf]; omega
       · obtain rfl : k = i.n := by omega
         clear hsh4
         go_wp2_with fail
         go_ret
         exact ⟨ret_str HA.out, HSH4.out.below⟩
theorem q_show {w : World} {B : Nat} (i : IV) (hi : IOk i) (hoi : (Lit.int .i64 i.op).wf = true) (hl : Ints w B i.A i.n i.args) (hB : B ≤ w.heap.size) (hnb : i.n ≤ 1000) (hsb : i.s.size ≤ 1000) (ho8 : (Lit.int .u8 i.op).wf = true) :
    Calls Tryd.prog 14 #[.agg #[.int .u8 i.op, .int .i64 i.a, .int .i64 i.b, .int .i64 i.c, .string i.s, .slice i.A i.n i.cap]] w fun e w' => e = .returned (.string (showB i)) ∧ Below w.heap.size w w' := by
  obtain ⟨ho0, ho9⟩ : 0 ≤ i.op ∧ i.op ≤ 255 := by
    simp [Lit.wf, IntKind.min, IntKind.max, IntKind.bits, IntKind.signed] at ho8
    omega
  by_cases h : i.op < 1
  · cases he : empB i.s
    · exact q_show_loS i hi hoi hl hB hnb hsb ho0 ho9 h he
    · exact q_show_loE i hi hoi hl hB hnb hsb ho0 ho9 h he
  · by_cases h2 : 36 < i.op
    · cases he : empB i.s
      · exact q_show_hiS i hi hoi hl hB hnb hsb ho0 ho9 h2 he
      · exact q_show_hiE i hi hoi hl hB hnb hsb ho0 ho9 h2 he
    · cases he : empB i.s
      · exact q_show_inS i hi hoi hl hB hnb hsb ⟨by omega, by omega⟩ he
      · exact q_show_inE i hi hoi hl hB hnb hsb ⟨by omega, by omega⟩ he
end Go.Proofs.YtankpckkiikmaaaDoor
