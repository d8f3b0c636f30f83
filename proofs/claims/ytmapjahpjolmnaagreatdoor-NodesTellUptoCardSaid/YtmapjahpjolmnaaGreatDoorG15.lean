/- The token that a text begins with. -/
import Derived.Test.YtmapjahpjolmnaaGreatDoorG5
import Derived.Test.YtmapjahpjolmnaaGreatDoorG6
import Derived.Test.YtmapjahpjolmnaaGreatDoorG14
import Derived.Deep.RegionHeld3
import Derived.Laws.CopyOwn
set_option linter.unusedVariables false
set_option linter.unusedSimpArgs false
namespace Go.Proofs.YtmapjahpjolmnaaGreatDoor.Lex
set_option maxRecDepth 20000
open Go

def oneName (l : List UInt8) : Int × ByteArray × Nat :=
  (if Lib.containsS wordsB (bsA (l.take (runL word l))) then 6 else if byteN l (runL word l) = 40 then 5 else 4, bsA (l.take (runL word l)), runL word l)
def oneSign (l : List UInt8) : Int × ByteArray × Nat := match signsB.find? (fun x => Lib.hasPrefix l x.data.toList) with
  | some x => (7, x, x.size)
  | none => (0, ⟨#[]⟩, 0)
def oneRest (l : List UInt8) (re : Bool) : Int × ByteArray × Nat :=
  if byteN l 0 = 10 then (8, ⟨#[]⟩, 1)
  else if byteN l 0 = 34 then (2, (quotV (quoted l)).1, (quotV (quoted l)).2)
  else if byteN l 0 = 47 ∧ re = true then (3, (quotV (quoted l)).1, (quotV (quoted l)).2)
  else oneSign l
def oneL : One := fun l re => if let_ (byteN l 0) then oneName l else if 0 < numL l then (1, bsA (l.take (numL l)), numL l) else oneRest l re
theorem signs_size9 : ∀ k : Fin signsB.length, (signsB[k]).size ≤ 2 := by decide +kernel
theorem signs_size : ∀ k, (h : k < signsB.length) → (signsB[k]).size ≤ 2 := fun k h => signs_size9 ⟨k, h⟩
end Go.Proofs.YtmapjahpjolmnaaGreatDoor.Lex
namespace Go.Proofs.YtmapjahpjolmnaaGreatDoor
open Go.RowKit
theorem take_ext (s : ByteArray) (n : Nat) : s.extract 0 n = bsA (s.data.toList.take n) := bytes_ext (ext_take s n)
theorem find_first (S : List ByteArray) (p : ByteArray → Bool) (k : Nat) (hk : k < S.length) (h : p S[k] = true) (h2 : ∀ j, (hj : j < S.length) → j < k → p (S[j]) = false) : S.find? p = some S[k] := by
  rw [List.find?_eq_some_iff_getElem]
  exact ⟨h, k, hk, rfl, fun j hj => by simp [h2 j (by omega) hj]⟩
theorem find_none (S : List ByteArray) (p : ByteArray → Bool) (h : ∀ j, (hj : j < S.length) → p (S[j]) = false) : S.find? p = none := by
  rw [List.find?_eq_none]
  intro x hx
  obtain ⟨j, hj, rfl⟩ := List.mem_iff_getElem.1 hx
  simp [h j hj]
def tokV (o : Int × ByteArray × Nat) : Value := .tuple #[.agg #[.int .u8 o.1, .string o.2.1, .int .i64 0, .int .i64 0, .int .i64 0], .int .i64 (o.2.2 : Nat)]
theorem tok5 (w : World) (a b c d e : Value) : Blk (w.alloc (.cells #[a, b, c, d, e] 91)) w.heap.size 91 #[a, b, c, d, e] ∧ Below w.heap.size w (w.alloc (.cells #[a, b, c, d, e] 91)) :=
  ⟨Blk.new w _ _, (Below.refl _ _).alloc (Nat.le_refl _) _⟩
set_option maxHeartbeats 4000000 in
theorem x_one_num (s : ByteArray) (re : Bool) (w : World) (hs : s.size ≤ 4294967) (h0 : 0 < s.size) (hlet : Lex.let_ (Lex.byteN s.data.toList 0) = false) (hnum : 0 < Lex.numL s.data.toList) :
    Calls Tryz.prog 68 #[.string s, .bool re] w fun e w' => e = .returned (tokV (1, bsA (s.data.toList.take (Lex.numL s.data.toList)), Lex.numL s.data.toList)) ∧ Below w.heap.size w w' := by
  have hc : ((s[0]'h0).toNat : Int) = Lex.byteN s.data.toList 0 := by rw [Lex.byteN_in (by exact h0)]; rfl
  have HLET := Lib.hid hlet
  have hle := Lex.numL_le s.data.toList
  have hle2 : Lex.numL s.data.toList ≤ s.size := hle
  clear hlet hle
  generalize Lex.byteN s.data.toList 0 = c at *
  obtain ⟨n, hn⟩ : ∃ n, n = Lex.numL s.data.toList := ⟨_, rfl⟩
  rw [← hn] at hnum hle2 ⊢
  have HN := Lib.hid hn
  clear hn
  go_enter Tryz.func68, Tryz.ntmps68
  go_wp2_with fail
  refine (x_letter _ _).mono ?_
  rintro e w2 ⟨rfl, rfl⟩
  rw [HLET.out]
  go_wp2_with fail
  refine (x_num s _ (by omega)).mono ?_
  rintro e w2 ⟨rfl, rfl⟩
  rw [← HN.out]
  have htx := take_ext s n
  have HTX := Lib.hid htx
  clear htx
  go_wp2_with fail
  obtain ⟨hR, hB⟩ := tok5 w (.int .u8 1) (.string (s.extract 0 n)) (.int .i64 0) (.int .i64 0) (.int .i64 0)
  obtain ⟨⟨c0, c1, c2, c3, c4⟩, -⟩ := hR.five
  refine bodyPost_ret (v := tokV (1, s.extract 0 n, n)) (by simp [results, Tryz.results68, go_sem, c0, c1, c2, c3, c4, tokV]) rfl ⟨by rw [HTX.out], hB⟩
set_option maxHeartbeats 4000000 in
theorem x_one_name (s : ByteArray) (re : Bool) (w : World) (hs : s.size ≤ 4294967) (h0 : 0 < s.size) (hlet : Lex.let_ (Lex.byteN s.data.toList 0) = true) :
    Calls Tryz.prog 68 #[.string s, .bool re] w fun e w' => e = .returned (tokV (Lex.oneName s.data.toList)) ∧ Below w.heap.size w w' := by
  have hc : ((s[0]'h0).toNat : Int) = Lex.byteN s.data.toList 0 := by rw [Lex.byteN_in (by exact h0)]; rfl
  have HLET := Lib.hid hlet
  clear hlet
  generalize Lex.byteN s.data.toList 0 = c at *
  obtain ⟨l, hL⟩ : ∃ l, l = s.data.toList := ⟨_, rfl⟩
  have HLL := Lib.hid hL
  have hle := Lex.runL_le Lex.word l
  rw [show l.length = s.size by rw [hL]; rfl] at hle
  obtain ⟨o, ho⟩ : ∃ o, o = Lex.oneName l := ⟨_, rfl⟩
  rw [← hL, ← ho]
  obtain ⟨n, hn⟩ : ∃ n, n = Lex.runL Lex.word l := ⟨_, rfl⟩
  rw [← hn] at hle
  unfold Lex.oneName at ho
  rw [← hn] at ho
  have HN := Lib.hid hn
  have HO := Lib.hid ho
  have hx := take_ext s n
  rw [← hL] at hx
  have HX := Lib.hid hx
  have hdr : (s.extract n s.size).data.toList = l.drop n := by rw [ext_drop, hL]
  have HDR := Lib.hid hdr
  have hbn : Lib.hasPrefix (l.drop n) [40] = decide (Lex.byteN l n = 40) := by
    rw [Bool.eq_iff_iff, pre1, decide_eq_true_eq]
    constructor
    · rintro ⟨r, hr⟩; rw [Lex.byteN_of hr]; rfl
    · intro h
      obtain ⟨-, d, hd, hd2⟩ := Lex.byteN_cons (l := l) (k := n) (by rw [h]; decide)
      exact ⟨_, by rw [hd2, show d = 40 from UInt8.toNat_inj.1 (by rw [h] at hd; show d.toNat = 40; omega)]⟩
  have HBN := Lib.hid hbn
  clear hL hn ho hx hdr hbn
  go_enter Tryz.func68, Tryz.ntmps68
  go_wp2_with fail
  refine (x_letter _ _).mono ?_
  rintro e w2 ⟨rfl, rfl⟩
  rw [HLET.out]
  obtain ⟨hR1, hB1⟩ := tok5 w (.int .u8 0) (.string ⟨#[]⟩) (.int .i64 0) (.int .i64 0) (.int .i64 0)
  go_wp2_with fail
  generalize w.alloc (.cells #[.int .u8 0, .string ⟨#[]⟩, .int .i64 0, .int .i64 0, .int .i64 0] 91) = w1 at *
  obtain ⟨R, hRe⟩ : ∃ R, R = w.heap.size := ⟨_, rfl⟩
  have HRE := Lib.hid hRe
  rw [← hRe] at hR1 hB1 ⊢
  clear hRe
  refine (x_run s Lex.word 80 enters_word x_word _ (by omega)).mono ?_
  rintro e w2 ⟨rfl, rfl⟩
  rw [← HLL.out, ← HN.out]
  go_wp2_with fail
  refine (x_words _).mono ?_
  rintro e w3 ⟨rfl, hb3⟩
  have hR3 := below_blk hR1 hb3 hR1.lt
  have hB3 := hB1.trans (hb3.mono (by rw [HRE.out]; exact HRE.out ▸ hB1.size))
  clear hR1 hB1 hb3
  go_wp2_with fail
  rw [run_storeCells_from w3.heap.size 121 (svals Lex.wordsB) 0 _ _ (heap_alloc_new _ _) (by rfl) svals_one]
  have hrow := setRow_heap (w3.alloc (.cells (List.replicate 33 (Value.string ⟨#[]⟩)).toArray 121)) w3.heap.size _ (svals Lex.wordsB).toArray 121 (0, 0) (heap_alloc_new _ _)
  simp only [Result.andThen]
  go_wp2_with fail
  generalize hw4 : World.setRow _ _ _ = w4
  have hrow4 : Blk w4 w3.heap.size 121 (svals Lex.wordsB).toArray := by rw [← hw4]; exact hrow
  have hb4 : Below w3.heap.size w3 w4 := by rw [← hw4]; exact below_setRow ((Below.refl _ _).alloc (Nat.le_refl _) _) (Nat.le_refl _) _
  have hR4 := below_blk hR3 hb4 hR3.lt
  have hB4 := hB3.trans (hb4.mono (by rw [HRE.out]; exact hB3.size))
  have hcell : ∀ j, j < Lex.wordsB.length → w4.drew.cell? ⟨w3.heap.size, 0 + j, none⟩ = some (.string (Lex.wordsB.getD j ByteArray.empty)) := fun j hj => by
    have h1 := hrow4.cell j
    have h2 : w4.drew.cell? ⟨w3.heap.size, 0 + j, none⟩ = w4.cell? ⟨w3.heap.size, j, none⟩ := by rw [Nat.zero_add]; rfl
    rw [h2, h1]
    simp [svals, List.getD, hj]
  have HCELL := Lib.hid hcell
  have HR4 := Lib.hid (show Blk w4.drew R 91 #[.int .u8 0, .string ⟨#[]⟩, .int .i64 0, .int .i64 0, .int .i64 0] from hR4)
  have HB4 := Lib.hid hB4.drew
  clear hw4 hrow hrow4 hb4 hR3 hB3 hcell hR4 hB4
  generalize w3.heap.size = R7 at *
  go_region_held3 (fun _ => True) (trivial) (first | (go_at_call 44; refine (Tryz.slices_Contains_string R7 0 33 33 Lex.wordsB (s.extract 0 n) _ (by decide) (by decide) HCELL.out).mono ?_; rintro e w5 ⟨rfl, rfl⟩))
  generalize w4.drew = w4' at *
  rw [show Lex.wordsB.take 33 = Lex.wordsB from rfl, HX.out]
  cases hcs : Lib.containsS Lex.wordsB (bsA (l.take n))
  · have hO := HO.out
    rw [hcs] at hO
    have HO1 := Lib.hid hO
    clear hcs hO
    go_wp2_with fail
    refine (Tryz.strings_HasPrefix (s.extract n s.size) ⟨#[40]⟩ _).mono ?_
    rintro e w5 ⟨rfl, rfl⟩
    rw [HDR.out, show (⟨#[40]⟩ : ByteArray).data.toList = [40] from rfl, HBN.out]
    by_cases h40 : Lex.byteN l n = 40
    · have hO := HO1.out
      rw [if_neg (by simp), if_pos h40] at hO
      have HO2 := Lib.hid hO
      rw [decide_eq_true h40]
      clear h40 hO HO1
      obtain ⟨⟨c0, c1, c2, c3, c4⟩, f0, f1, f2, f3, f4⟩ := HR4.out.five
      go_wp2_with fail
      have hR9 := HR4.out.set5 (.int .u8 5) (.string (s.extract 0 n)) (.int .i64 0) (.int .i64 0) (.int .i64 0)
      have hB9 := HB4.out.trans (below_set5 (g := R) (by rw [HRE.out]; exact Nat.le_refl _) (by have := HR4.out.lt; have := HRE.out; omega) (.int .u8 5) (.string (s.extract 0 n)) (.int .i64 0) (.int .i64 0) (.int .i64 0))
      obtain ⟨⟨s0, s1, s2, s3, s4⟩, -⟩ := hR9.five
      clear c0 c1 c2 c3 c4 f0 f1 f2 f3 f4 hR9
      refine bodyPost_ret (v := tokV (5, (s.extract 0 n), n)) (by simp [results, Tryz.results68, go_sem, s0, s1, s2, s3, s4, tokV]) rfl ⟨by rw [HO2.out, HX.out], by rw [← HRE.out]; exact hB9⟩
    · have hO := HO1.out
      rw [if_neg (by simp), if_neg h40] at hO
      have HO2 := Lib.hid hO
      rw [decide_eq_false h40]
      clear h40 hO HO1
      obtain ⟨⟨c0, c1, c2, c3, c4⟩, f0, f1, f2, f3, f4⟩ := HR4.out.five
      go_wp2_with fail
      have hR9 := HR4.out.set5 (.int .u8 4) (.string (s.extract 0 n)) (.int .i64 0) (.int .i64 0) (.int .i64 0)
      have hB9 := HB4.out.trans (below_set5 (g := R) (by rw [HRE.out]; exact Nat.le_refl _) (by have := HR4.out.lt; have := HRE.out; omega) (.int .u8 4) (.string (s.extract 0 n)) (.int .i64 0) (.int .i64 0) (.int .i64 0))
      obtain ⟨⟨s0, s1, s2, s3, s4⟩, -⟩ := hR9.five
      clear c0 c1 c2 c3 c4 f0 f1 f2 f3 f4 hR9
      refine bodyPost_ret (v := tokV (4, (s.extract 0 n), n)) (by simp [results, Tryz.results68, go_sem, s0, s1, s2, s3, s4, tokV]) rfl ⟨by rw [HO2.out, HX.out], by rw [← HRE.out]; exact hB9⟩
  · have hO := HO.out
    rw [hcs, if_pos rfl] at hO
    have HO2 := Lib.hid hO
    clear hcs hO
    obtain ⟨⟨c0, c1, c2, c3, c4⟩, f0, f1, f2, f3, f4⟩ := HR4.out.five
    go_wp2_with fail
    have hR9 := HR4.out.set5 (.int .u8 6) (.string (s.extract 0 n)) (.int .i64 0) (.int .i64 0) (.int .i64 0)
    have hB9 := HB4.out.trans (below_set5 (g := R) (by rw [HRE.out]; exact Nat.le_refl _) (by have := HR4.out.lt; have := HRE.out; omega) (.int .u8 6) (.string (s.extract 0 n)) (.int .i64 0) (.int .i64 0) (.int .i64 0))
    obtain ⟨⟨s0, s1, s2, s3, s4⟩, -⟩ := hR9.five
    clear c0 c1 c2 c3 c4 f0 f1 f2 f3 f4 hR9
    refine bodyPost_ret (v := tokV (6, (s.extract 0 n), n)) (by simp [results, Tryz.results68, go_sem, s0, s1, s2, s3, s4, tokV]) rfl ⟨by rw [HO2.out, HX.out], by rw [← HRE.out]; exact hB9⟩
set_option maxHeartbeats 4000000 in
theorem x_one_rest (s : ByteArray) (re : Bool) (w : World) (hs : s.size ≤ 4294967) (h0 : 0 < s.size) (hlet : Lex.let_ (Lex.byteN s.data.toList 0) = false) (hnum : Lex.numL s.data.toList = 0) :
    Calls Tryz.prog 68 #[.string s, .bool re] w fun e w' => e = .returned (tokV (Lex.oneRest s.data.toList re)) ∧ Below w.heap.size w w' := by
  have hc : ((s[0]'h0).toNat : Int) = Lex.byteN s.data.toList 0 := by rw [Lex.byteN_in (by exact h0)]; rfl
  have HLET := Lib.hid hlet
  have HNUM := Lib.hid hnum
  clear hlet hnum
  obtain ⟨o, ho⟩ : ∃ o, o = Lex.oneRest s.data.toList re := ⟨_, rfl⟩
  rw [← ho]
  unfold Lex.oneRest at ho
  have HQQ := Lib.hid (fun (q : UInt8) (hq : s[0]'h0 = q) (hq2 : q.toNat = 34 ∨ q.toNat = 47) (w : World) => x_quoted s q w hs h0 hq hq2)
  have h256 := Lex.byteN_range s.data.toList 0
  have HSB : Hid (s[0]'h0 = s[0]'h0) := rfl
  generalize hcc : Lex.byteN s.data.toList 0 = c at *
  clear hcc
  have HO := Lib.hid ho
  have HC := Lib.hid hc
  clear ho
  go_enter Tryz.func68, Tryz.ntmps68
  go_wp2_with fail
  refine (x_letter _ _).mono ?_
  rintro e w2 ⟨rfl, rfl⟩
  rw [HLET.out]
  obtain ⟨hR1, hB1⟩ := tok5 w (.int .u8 0) (.string ⟨#[]⟩) (.int .i64 0) (.int .i64 0) (.int .i64 0)
  go_wp2_with fail
  generalize w.alloc (.cells #[.int .u8 0, .string ⟨#[]⟩, .int .i64 0, .int .i64 0, .int .i64 0] 91) = w1 at *
  obtain ⟨R, hRe⟩ : ∃ R, R = w.heap.size := ⟨_, rfl⟩
  have HRE := Lib.hid hRe
  rw [← hRe] at hR1 hB1 ⊢
  clear hRe
  refine (x_num s _ (by omega)).mono ?_
  rintro e w2 ⟨rfl, rfl⟩
  rw [HNUM.out]
  by_cases h10 : c = 10
  · have hO := HO.out
    rw [if_pos h10] at hO
    have HO2 := Lib.hid hO
    have HR4 := Lib.hid hR1
    have HB4 := Lib.hid hB1
    subst h10
    clear hO hR1 hB1
    obtain ⟨⟨c0, c1, c2, c3, c4⟩, f0, f1, f2, f3, f4⟩ := HR4.out.five
    go_wp2_with fail
    have hR9 := HR4.out.set5 (.int .u8 8) (.string ⟨#[]⟩) (.int .i64 0) (.int .i64 0) (.int .i64 0)
    have hB9 := HB4.out.trans (below_set5 (g := R) (by rw [HRE.out]; exact Nat.le_refl _) (by have := HR4.out.lt; have := HRE.out; omega) (.int .u8 8) (.string ⟨#[]⟩) (.int .i64 0) (.int .i64 0) (.int .i64 0))
    obtain ⟨⟨s0, s1, s2, s3, s4⟩, -⟩ := hR9.five
    clear c0 c1 c2 c3 c4 f0 f1 f2 f3 f4 hR9
    refine bodyPost_ret (v := tokV (8, ⟨#[]⟩, 1)) (by simp [results, Tryz.results68, go_sem, s0, s1, s2, s3, s4, tokV]) rfl ⟨by rw [HO2.out], by rw [← HRE.out]; exact hB9⟩
  · have hc10 : (c == 10) = false := by simp [h10]
    by_cases h34 : c = 34
    · have hO := HO.out
      rw [if_neg h10, if_pos h34] at hO
      have HO1 := Lib.hid hO
      have hq : s[0]'h0 = 34 := UInt8.toNat_inj.1 (by have := HC.out; show (s[0]'h0).toNat = 34; omega)
      have HQ3 := Lib.hid (HQQ.out 34 hq (.inl rfl))
      subst h34
      clear hO hq h10
      go_wp2_with fail
      refine (HQ3.out _).mono ?_
      rintro e w5 ⟨rfl, hb5⟩
      have HR4 := Lib.hid (below_blk hR1 hb5 hR1.lt)
      have HB4 := Lib.hid (hB1.trans (hb5.mono (by rw [HRE.out]; exact hB1.size)))
      have HO2 := Lib.hid HO1.out
      clear hR1 hB1 hb5 HO1
      generalize (quotV (Lex.quoted s.data.toList)).1 = qs at *
      generalize (quotV (Lex.quoted s.data.toList)).2 = qn at *
      obtain ⟨⟨c0, c1, c2, c3, c4⟩, f0, f1, f2, f3, f4⟩ := HR4.out.five
      go_wp2_with fail
      have hR9 := HR4.out.set5 (.int .u8 2) (.string qs) (.int .i64 0) (.int .i64 0) (.int .i64 0)
      have hB9 := HB4.out.trans (below_set5 (g := R) (by rw [HRE.out]; exact Nat.le_refl _) (by have := HR4.out.lt; have := HRE.out; omega) (.int .u8 2) (.string qs) (.int .i64 0) (.int .i64 0) (.int .i64 0))
      obtain ⟨⟨s0, s1, s2, s3, s4⟩, -⟩ := hR9.five
      clear c0 c1 c2 c3 c4 f0 f1 f2 f3 f4 hR9
      refine bodyPost_ret (v := tokV (2, qs, qn)) (by simp [results, Tryz.results68, go_sem, s0, s1, s2, s3, s4, tokV]) rfl ⟨by rw [HO2.out], by rw [← HRE.out]; exact hB9⟩
    · have hc34 : (c == 34) = false := by simp [h34]
      by_cases h47 : c = 47 ∧ re = true
      · have hO := HO.out
        rw [if_neg h10, if_neg h34, if_pos h47] at hO
        have HO1 := Lib.hid hO
        obtain ⟨h47, hre⟩ := h47
        have hq : s[0]'h0 = 47 := UInt8.toNat_inj.1 (by have := HC.out; show (s[0]'h0).toNat = 47; omega)
        have HQ3 := Lib.hid (HQQ.out 47 hq (.inr rfl))
        subst h47
        subst hre
        clear hO hq h10 h34
        go_wp2_with fail
        refine (HQ3.out _).mono ?_
        rintro e w5 ⟨rfl, hb5⟩
        have HR4 := Lib.hid (below_blk hR1 hb5 hR1.lt)
        have HB4 := Lib.hid (hB1.trans (hb5.mono (by rw [HRE.out]; exact hB1.size)))
        have HO2 := Lib.hid HO1.out
        clear hR1 hB1 hb5 HO1
        generalize (quotV (Lex.quoted s.data.toList)).1 = qs at *
        generalize (quotV (Lex.quoted s.data.toList)).2 = qn at *
        obtain ⟨⟨c0, c1, c2, c3, c4⟩, f0, f1, f2, f3, f4⟩ := HR4.out.five
        go_wp2_with fail
        have hR9 := HR4.out.set5 (.int .u8 3) (.string qs) (.int .i64 0) (.int .i64 0) (.int .i64 0)
        have hB9 := HB4.out.trans (below_set5 (g := R) (by rw [HRE.out]; exact Nat.le_refl _) (by have := HR4.out.lt; have := HRE.out; omega) (.int .u8 3) (.string qs) (.int .i64 0) (.int .i64 0) (.int .i64 0))
        obtain ⟨⟨s0, s1, s2, s3, s4⟩, -⟩ := hR9.five
        clear c0 c1 c2 c3 c4 f0 f1 f2 f3 f4 hR9
        refine bodyPost_ret (v := tokV (3, qs, qn)) (by simp [results, Tryz.results68, go_sem, s0, s1, s2, s3, s4, tokV]) rfl ⟨by rw [HO2.out], by rw [← HRE.out]; exact hB9⟩
      · have hO := HO.out
        rw [if_neg h10, if_neg h34, if_neg h47] at hO
        have HO1 := Lib.hid hO
        have hcs : ((c == 47) && re) = false := by
          by_cases h : c = 47
          · have : re = false := by simpa [h] using h47
            simp [this]
          · simp [h]
        have hcs2 : (c == 47) = false ∨ ((c == 47) = true ∧ re = false) := by
          by_cases h : c = 47
          · right; exact ⟨by simp [h], by simpa [h] using h47⟩
          · left; simp [h]
        clear hO h47 h10 h34 hcs
        rcases hcs2 with h47 | ⟨h47, hre⟩
        · go_wp2_with fail
          refine (x_signs _).mono ?_
          rintro e w5 ⟨rfl, hb5⟩
          have HR4 := Lib.hid (below_blk hR1 hb5 hR1.lt)
          have HB4 := Lib.hid (hB1.trans (hb5.mono (by rw [HRE.out]; exact hB1.size)))
          clear hR1 hB1 hb5
          obtain ⟨l, hL⟩ : ∃ l, l = s.data.toList := ⟨_, rfl⟩
          have HLL := Lib.hid hL
          rw [← hL] at HO1
          clear hL
          have HO3 : Hid (o = match Lex.signsB.find? (fun x => Lib.hasPrefix l x.data.toList) with | some x => (7, x, x.size) | none => (0, ⟨#[]⟩, 0)) := HO1.out
          obtain ⟨S, hS⟩ : ∃ S, S = Lex.signsB := ⟨_, rfl⟩
          have hS39 : S.length = 39 := by rw [hS]; rfl
          have hsz2 : ∀ k, (h : k < S.length) → (S[k]).size ≤ 2 := by
            rw [hS]
            exact Lex.signs_size
          have HSZ2 := Lib.hid hsz2
          rw [← hS] at HO3 ⊢
          clear hS HO1 hsz2
          go_wp2_with fail
          go_loop [89] (fun i => ∃ k : Nat, k ≤ 39 ∧ i = .int .i64 k ∧ ∀ j, (hj : j < S.length) → j < k → Lib.hasPrefix l (S[j]).data.toList = false) (fun i => 39 - (intOf i).toNat)
          case atStart => exact ⟨0, by omega, rfl, fun j _ h => by omega⟩
          case round =>
            obtain ⟨k, hk, rfl, hno⟩ := hrel
            have HNO := Lib.hid hno
            clear hno
            by_cases hlt : k < 39
            · have hkS : k < S.length := by omega
              have hix := run_sign S k hS39 hlt
              have hx2 := HSZ2.out k hkS
              have HFS := Lib.hid (fun hp => find_first S (fun x => Lib.hasPrefix l x.data.toList) k hkS hp HNO.out)
              obtain ⟨x, hx⟩ : ∃ x, x = S[k] := ⟨_, rfl⟩
              rw [← hx] at hix hx2 HFS
              have HX := Lib.hid hx
              clear hx
              go_wp2_with fail
              refine (Tryz.strings_HasPrefix s x _).mono ?_
              rintro e w6 ⟨rfl, rfl⟩
              rw [← HLL.out]
              cases hp : Lib.hasPrefix l x.data.toList
              · have HPF := Lib.hid hp
                clear hp
                go_wp2_with fail
                go_round
                case rel => exact ⟨k + 1, by omega, by go_num, fun j hj h => by
                  rcases Nat.lt_or_ge j k with h | h
                  · exact HNO.out j hj h
                  · obtain rfl : j = k := by omega
                    rw [← HX.out]; exact HPF.out⟩
                case measure => simp [intOf]; omega
              · have hO := HO3.out
                rw [HFS.out hp] at hO
                have HO2 := Lib.hid hO
                clear hO hp HFS HNO
                obtain ⟨⟨c0, c1, c2, c3, c4⟩, f0, f1, f2, f3, f4⟩ := HR4.out.five
                go_wp2_with fail
                have hR9 := HR4.out.set5 (.int .u8 7) (.string x) (.int .i64 0) (.int .i64 0) (.int .i64 0)
                have hB9 := HB4.out.trans (below_set5 (g := R) (by rw [HRE.out]; exact Nat.le_refl _) (by have := HR4.out.lt; have := HRE.out; omega) (.int .u8 7) (.string x) (.int .i64 0) (.int .i64 0) (.int .i64 0))
                obtain ⟨⟨s0, s1, s2, s3, s4⟩, -⟩ := hR9.five
                clear c0 c1 c2 c3 c4 f0 f1 f2 f3 f4 hR9
                refine bodyPost_ret (v := tokV (7, x, x.size)) (by simp [results, Tryz.results68, go_sem, s0, s1, s2, s3, s4, tokV]) rfl ⟨by rw [HO2.out], by rw [← HRE.out]; exact hB9⟩
            · have hO := HO3.out
              rw [find_none S (fun x => Lib.hasPrefix l x.data.toList) (fun j hj => HNO.out j hj (by omega))] at hO
              have HO2 := Lib.hid hO
              clear hO HNO
              obtain ⟨⟨c0, c1, c2, c3, c4⟩, f0, f1, f2, f3, f4⟩ := HR4.out.five
              go_wp2_with fail
              have hR9 := HR4.out.set5 (.int .u8 0) (.string ⟨#[]⟩) (.int .i64 0) (.int .i64 0) (.int .i64 0)
              have hB9 := HB4.out.trans (below_set5 (g := R) (by rw [HRE.out]; exact Nat.le_refl _) (by have := HR4.out.lt; have := HRE.out; omega) (.int .u8 0) (.string ⟨#[]⟩) (.int .i64 0) (.int .i64 0) (.int .i64 0))
              obtain ⟨⟨s0, s1, s2, s3, s4⟩, -⟩ := hR9.five
              clear c0 c1 c2 c3 c4 f0 f1 f2 f3 f4 hR9
              refine bodyPost_ret (v := tokV (0, ⟨#[]⟩, 0)) (by simp [results, Tryz.results68, go_sem, s0, s1, s2, s3, s4, tokV]) rfl ⟨by rw [HO2.out], by rw [← HRE.out]; exact hB9⟩
        · go_wp2_with fail
          refine (x_signs _).mono ?_
          rintro e w5 ⟨rfl, hb5⟩
          have HR4 := Lib.hid (below_blk hR1 hb5 hR1.lt)
          have HB4 := Lib.hid (hB1.trans (hb5.mono (by rw [HRE.out]; exact hB1.size)))
          clear hR1 hB1 hb5
          obtain ⟨l, hL⟩ : ∃ l, l = s.data.toList := ⟨_, rfl⟩
          have HLL := Lib.hid hL
          rw [← hL] at HO1
          clear hL
          have HO3 : Hid (o = match Lex.signsB.find? (fun x => Lib.hasPrefix l x.data.toList) with | some x => (7, x, x.size) | none => (0, ⟨#[]⟩, 0)) := HO1.out
          obtain ⟨S, hS⟩ : ∃ S, S = Lex.signsB := ⟨_, rfl⟩
          have hS39 : S.length = 39 := by rw [hS]; rfl
          have hsz2 : ∀ k, (h : k < S.length) → (S[k]).size ≤ 2 := by
            rw [hS]
            exact Lex.signs_size
          have HSZ2 := Lib.hid hsz2
          rw [← hS] at HO3 ⊢
          clear hS HO1 hsz2
          go_wp2_with fail
          go_loop [89] (fun i => ∃ k : Nat, k ≤ 39 ∧ i = .int .i64 k ∧ ∀ j, (hj : j < S.length) → j < k → Lib.hasPrefix l (S[j]).data.toList = false) (fun i => 39 - (intOf i).toNat)
          case atStart => exact ⟨0, by omega, rfl, fun j _ h => by omega⟩
          case round =>
            obtain ⟨k, hk, rfl, hno⟩ := hrel
            have HNO := Lib.hid hno
            clear hno
            by_cases hlt : k < 39
            · have hkS : k < S.length := by omega
              have hix := run_sign S k hS39 hlt
              have hx2 := HSZ2.out k hkS
              have HFS := Lib.hid (fun hp => find_first S (fun x => Lib.hasPrefix l x.data.toList) k hkS hp HNO.out)
              obtain ⟨x, hx⟩ : ∃ x, x = S[k] := ⟨_, rfl⟩
              rw [← hx] at hix hx2 HFS
              have HX := Lib.hid hx
              clear hx
              go_wp2_with fail
              refine (Tryz.strings_HasPrefix s x _).mono ?_
              rintro e w6 ⟨rfl, rfl⟩
              rw [← HLL.out]
              cases hp : Lib.hasPrefix l x.data.toList
              · have HPF := Lib.hid hp
                clear hp
                go_wp2_with fail
                go_round
                case rel => exact ⟨k + 1, by omega, by go_num, fun j hj h => by
                  rcases Nat.lt_or_ge j k with h | h
                  · exact HNO.out j hj h
                  · obtain rfl : j = k := by omega
                    rw [← HX.out]; exact HPF.out⟩
                case measure => simp [intOf]; omega
              · have hO := HO3.out
                rw [HFS.out hp] at hO
                have HO2 := Lib.hid hO
                clear hO hp HFS HNO
                obtain ⟨⟨c0, c1, c2, c3, c4⟩, f0, f1, f2, f3, f4⟩ := HR4.out.five
                go_wp2_with fail
                have hR9 := HR4.out.set5 (.int .u8 7) (.string x) (.int .i64 0) (.int .i64 0) (.int .i64 0)
                have hB9 := HB4.out.trans (below_set5 (g := R) (by rw [HRE.out]; exact Nat.le_refl _) (by have := HR4.out.lt; have := HRE.out; omega) (.int .u8 7) (.string x) (.int .i64 0) (.int .i64 0) (.int .i64 0))
                obtain ⟨⟨s0, s1, s2, s3, s4⟩, -⟩ := hR9.five
                clear c0 c1 c2 c3 c4 f0 f1 f2 f3 f4 hR9
                refine bodyPost_ret (v := tokV (7, x, x.size)) (by simp [results, Tryz.results68, go_sem, s0, s1, s2, s3, s4, tokV]) rfl ⟨by rw [HO2.out], by rw [← HRE.out]; exact hB9⟩
            · have hO := HO3.out
              rw [find_none S (fun x => Lib.hasPrefix l x.data.toList) (fun j hj => HNO.out j hj (by omega))] at hO
              have HO2 := Lib.hid hO
              clear hO HNO
              obtain ⟨⟨c0, c1, c2, c3, c4⟩, f0, f1, f2, f3, f4⟩ := HR4.out.five
              go_wp2_with fail
              have hR9 := HR4.out.set5 (.int .u8 0) (.string ⟨#[]⟩) (.int .i64 0) (.int .i64 0) (.int .i64 0)
              have hB9 := HB4.out.trans (below_set5 (g := R) (by rw [HRE.out]; exact Nat.le_refl _) (by have := HR4.out.lt; have := HRE.out; omega) (.int .u8 0) (.string ⟨#[]⟩) (.int .i64 0) (.int .i64 0) (.int .i64 0))
              obtain ⟨⟨s0, s1, s2, s3, s4⟩, -⟩ := hR9.five
              clear c0 c1 c2 c3 c4 f0 f1 f2 f3 f4 hR9
              refine bodyPost_ret (v := tokV (0, ⟨#[]⟩, 0)) (by simp [results, Tryz.results68, go_sem, s0, s1, s2, s3, s4, tokV]) rfl ⟨by rw [HO2.out], by rw [← HRE.out]; exact hB9⟩
end Go.Proofs.YtmapjahpjolmnaaGreatDoor
namespace Go.Proofs.YtmapjahpjolmnaaGreatDoor
set_option maxRecDepth 20000
open Go.RowKit
theorem ext_mid (s : ByteArray) (a n : Nat) : s.extract a n = bsA ((s.data.toList.drop a).take (n - a)) := by
  apply bytes_ext
  simp [bsA, ByteArray.data_extract, List.extract]
def rtok (a : Nat) (o : Int × ByteArray × Nat) : Value := .agg #[.int .u8 o.1, .string o.2.1, .int .i64 0, .int .i64 a, .int .i64 (a + o.2.2 : Nat)]
theorem below_set1 {w : World} {g B : Nat} (hB : B ≤ g) (hg : B ≤ w.heap.size) (v : Value) : Below B w (w.setCell ⟨g, 0, none⟩ v) :=
  (Tur.of_set ⟨g, 0, none⟩ v).below B hg (fun j hj e => by have : j = g := e; omega)
theorem strs_new (w : World) (xs : List ByteArray) (n : Nat) (h : xs.length = n) : Strs (w.alloc (.cells (svals xs).toArray 9)) (w.heap.size + 1) (some ⟨w.heap.size, 0, none⟩) n xs := by
  refine ⟨h, fun _ => ⟨w.heap.size, 0, rfl, by omega, fun i hi => ?_⟩⟩
  have := (Blk.new w 9 (svals xs).toArray).cell i
  rw [Nat.zero_add, this]
  simp [svals, hi]
theorem r_words2 (w : World) : Calls Tryz.prog 105 #[] w fun e w' => ∃ W, e = .returned (.slice (some ⟨W, 0, none⟩) 33 33) ∧ Strs w' (W + 1) (some ⟨W, 0, none⟩) 33 Lex.wordsB ∧ Below w.heap.size w w' := by
  refine (r_words w).mono ?_
  rintro e w' ⟨rfl, rfl⟩
  exact ⟨_, rfl, strs_new w _ _ rfl, (Below.refl _ _).alloc (Nat.le_refl _) _⟩

theorem r_signs2 (w : World) : Calls Tryz.prog 94 #[] w fun e w' => ∃ W, e = .returned (.slice (some ⟨W, 0, none⟩) 39 39) ∧ W = w.heap.size ∧ Strs w' (W + 1) (some ⟨W, 0, none⟩) 39 Lex.signsB ∧ Below w.heap.size w w' := by
  refine (r_signs w).mono ?_
  rintro e w' ⟨rfl, rfl⟩
  exact ⟨_, rfl, rfl, strs_new w _ _ rfl, (Below.refl _ _).alloc (Nat.le_refl _) _⟩

set_option maxHeartbeats 4000000 in
set_option maxRecDepth 20000 in
theorem r_name (s : ByteArray) (a : Nat) (w : World) (hs : s.size ≤ 4294967) (h0 : a < s.size) :
    Calls Tryz.prog 91 #[.string s, .int .i64 a] w fun e w' => e = .returned (rtok a (Lex.oneName (s.data.toList.drop a))) ∧ Below w.heap.size w w' := by
  have HLN : Hid (s.data.toList.length = s.size) := rfl
  have hx := ext_mid s a
  obtain ⟨l, hL⟩ : ∃ l, l = s.data.toList := ⟨_, rfl⟩
  have HLL := Lib.hid hL
  rw [← hL] at HLN hx ⊢
  clear hL
  obtain ⟨T, hT⟩ : ∃ T, T = a + Lex.runL Lex.word (l.drop a) := ⟨_, rfl⟩
  have hTb : T ≤ s.size := by have := Lex.runL_le Lex.word (l.drop a); rw [List.length_drop, HLN.out] at this; omega
  have hTa : a ≤ T := by omega
  obtain ⟨o, ho⟩ : ∃ o, o = Lex.oneName (l.drop a) := ⟨_, rfl⟩
  rw [← ho]
  have hra : Lex.runL Lex.word (l.drop a) = T - a := by omega
  have hx2 := hx T
  obtain ⟨X, hX⟩ : ∃ X, X = s.extract a T := ⟨_, rfl⟩
  have hoo : o = (if Lib.containsS Lex.wordsB X then 6 else if Lex.byteN l T = 40 then 5 else 4, X, T - a) := by
    rw [ho, Lex.oneName, hra, ← hx2, ← hX, Lex.byteN_drop, show a + (T - a) = T by omega]
  have HO := Lib.hid hoo
  have HX := Lib.hid hX
  have HT := Lib.hid hT
  clear ho hra hx hx2 hoo hT hX
  go_enter Tryz.func91, Tryz.ntmps91
  go_wp2_with fail
  obtain ⟨hR1, hB1⟩ := tok5 w (.int .u8 0) (.string ⟨#[]⟩) (.int .i64 0) (.int .i64 0) (.int .i64 0)
  generalize w.alloc (.cells #[.int .u8 0, .string ⟨#[]⟩, .int .i64 0, .int .i64 0, .int .i64 0] 91) = w1 at *
  obtain ⟨R, hRe⟩ : ∃ R, R = w.heap.size := ⟨_, rfl⟩
  have HRE := Lib.hid hRe
  rw [← hRe] at hR1 hB1 ⊢
  clear hRe
  have HR1 := Lib.hid hR1
  have HB1 := Lib.hid hB1
  clear hR1 hB1
  go_loop [5] (fun i => ∃ k : Nat, a ≤ k ∧ k ≤ T ∧ i = .int .i64 k ∧ k + Lex.runL Lex.word (l.drop k) = T) (fun i => T - (intOf i).toNat)
  case atStart => exact ⟨a, by omega, by omega, rfl, HT.out.symm⟩
  case round =>
    obtain ⟨k, hak, hk, rfl, hT2⟩ := hrel
    have HT2 := Lib.hid hT2
    clear hT2
    go_wp2_with fail
    refine (r_byteAt s k _ (by omega)).mono ?_
    rintro e w2 ⟨rfl, rfl⟩
    rw [← HLL.out]
    have hyes := @Lex.run_yes Lex.word (by decide) l k
    have hnot := @Lex.run_not Lex.word l k
    have HY := Lib.hid hyes
    have HN := Lib.hid hnot
    obtain ⟨b, hb⟩ : ∃ b, b = Lex.byteN l k := ⟨_, rfl⟩
    have HBB := Lib.hid hb
    rw [← hb] at HY HN ⊢
    clear hyes hnot hb
    go_wp2_with fail
    refine (r_letter b _).mono ?_
    rintro e w2 ⟨rfl, rfl⟩
    cases hlb : Lex.let_ b
    · have HLB := Lib.hid hlb
      clear hlb
      go_wp2_with fail
      refine (r_byteAt s k _ (by omega)).mono ?_
      rintro e w2 ⟨rfl, rfl⟩
      rw [← HLL.out, ← HBB.out]
      go_wp2_with fail
      refine (r_digit b _).mono ?_
      rintro e w2 ⟨rfl, rfl⟩
      cases hdb : Lex.dig b
      · have h0 := HN.out (by simp [Lex.word, HLB.out, hdb])
        have he : k = T := by have := HT2.out; omega
        subst he
        clear h0 hdb HN HY HBB HT2
        go_wp2_with fail
        rw [← HX.out]
        obtain ⟨hT2, hB2⟩ := tok5 w1 (.int .u8 4) (.string X) (.int .i64 0) (.int .i64 a) (.int .i64 k)
        generalize w1.alloc (.cells #[.int .u8 4, .string X, .int .i64 0, .int .i64 a, .int .i64 k] 91) = w2 at *
        obtain ⟨M, hMe⟩ : ∃ M, M = w1.heap.size := ⟨_, rfl⟩
        have HME := Lib.hid hMe
        have HRM := Lib.hid (show R < M by rw [hMe]; exact HR1.out.lt)
        rw [← hMe] at hT2 hB2 ⊢
        have HT2 := Lib.hid (show Blk w2.drew M 91 #[.int .u8 4, .string X, .int .i64 0, .int .i64 a, .int .i64 k] from hT2)
        have HB2 := Lib.hid hB2.drew
        clear hMe hT2 hB2
        go_region_held3 (fun w9 => w9.cell? ⟨M, 1, none⟩ = some (.string X)) (first | exact HT2.out.cell 1 | exact hT3.cell 1 | go_keep) (first | (go_at_call 105; with_reducible refine (r_words2 _).mono ?_; rintro e w3 ⟨W, rfl, hST, hB3⟩; have hT3 := below_blk HT2.out hB3 HT2.out.lt; have HB3 := Lib.hid (HB2.out.trans (hB3.mono (by rw [HME.out]; exact HB2.out.size)))) | (go_at_call 104; with_reducible refine (r_has _ _ _ 33 33 Lex.wordsB X hST (by decide) (by decide)).mono ?_; rintro e w4 ⟨rfl, rfl⟩))
        have HT3 := Lib.hid hT3
        have HR3 := Lib.hid (below_blk HR1.out HB3.out HRM.out)
        have HB5 := Lib.hid (HB1.out.trans (HB3.out.mono (Nat.le_of_lt HRM.out)))
        clear hT3 hB3 hST HB3 HB2 HT2
        have HB3 := HB5
        clear HB5
        cases hcs : Lib.containsS Lex.wordsB X
        · have hO := HO.out
          rw [hcs, if_neg (by simp)] at hO
          have HO1 := Lib.hid hO
          clear hcs hO
          go_wp2_with fail
          refine (r_byteAt s k _ (by omega)).mono ?_
          rintro e w4 ⟨rfl, rfl⟩
          rw [← HLL.out]
          by_cases h40 : Lex.byteN l k = 40
          · have hO := HO1.out
            rw [if_pos h40] at hO
            have HO2 := Lib.hid hO
            rw [h40]
            clear h40 hO HO1
            have HR4 := Lib.hid (HR3.out.keep (Tur.of_set ⟨M, 0, none⟩ (.int .u8 5)) (fun e => absurd e (Nat.ne_of_lt HRM.out)))
            have HT4 := Lib.hid (show Blk (w3.setCell ⟨M, 0, none⟩ (.int .u8 5)) M 91 #[.int .u8 5, .string X, .int .i64 0, .int .i64 a, .int .i64 k] from HT3.out.set 0 (.int .u8 5))
            have HB4 := Lib.hid (HB3.out.trans (below_set1 (B := R) (g := M) (w := w3) (Nat.le_of_lt HRM.out) (Nat.le_of_lt (Nat.lt_trans HRM.out HT3.out.lt)) (.int .u8 5)))
            obtain ⟨e0, g0⟩ : w3.cell? ⟨M, 0, none⟩ = some (.int .u8 4) ∧ w3.frozen? ⟨M, 0, none⟩ = false := ⟨HT3.out.five.1.1, HT3.out.five.2.1⟩
            go_upto_region 9 with (fail)
            clear e0 g0
            generalize w3.setCell ⟨M, 0, none⟩ (.int .u8 5) = w4 at *
            obtain ⟨⟨c0, c1, c2, c3, c4⟩, f0, f1, f2, f3, f4⟩ := HR4.out.five
            obtain ⟨⟨d0, d1, d2, d3, d4⟩, -⟩ := HT4.out.five
            go_wp2_with fail
            have hR9 := (HR4.out).set5 (.int .u8 5) (.string X) (.int .i64 0) (.int .i64 a) (.int .i64 k)
            have hB9 := HB4.out.trans (below_set5 (g := R) (by rw [HRE.out]; exact Nat.le_refl _) (by have := HR4.out.lt; have := HRE.out; omega) (.int .u8 5) (.string X) (.int .i64 0) (.int .i64 a) (.int .i64 k))
            obtain ⟨⟨s0, s1, s2, s3, s4⟩, -⟩ := hR9.five
            clear c0 c1 c2 c3 c4 f0 f1 f2 f3 f4 d0 d1 d2 d3 d4 hR9
            refine bodyPost_ret (v := rtok a (5, X, k - a)) (by simp [results, Tryz.results91, go_sem, s0, s1, s2, s3, s4, rtok, show a + (k - a) = k by omega]) rfl ⟨by rw [HO2.out], by rw [← HRE.out]; exact hB9⟩
          · have hO := HO1.out
            rw [if_neg h40] at hO
            have HO2 := Lib.hid hO
            have hn : ((Lex.byteN l k : Int) == 40) = false := beq_eq_false_iff_ne.2 h40
            clear hO HO1
            have HR4 := HR3
            have HT4 := HT3
            have HB4 := HB3
            obtain ⟨⟨c0, c1, c2, c3, c4⟩, f0, f1, f2, f3, f4⟩ := HR4.out.five
            obtain ⟨⟨d0, d1, d2, d3, d4⟩, -⟩ := HT4.out.five
            go_wp2_with fail
            have hR9 := (HR4.out).set5 (.int .u8 4) (.string X) (.int .i64 0) (.int .i64 a) (.int .i64 k)
            have hB9 := HB4.out.trans (below_set5 (g := R) (by rw [HRE.out]; exact Nat.le_refl _) (by have := HR4.out.lt; have := HRE.out; omega) (.int .u8 4) (.string X) (.int .i64 0) (.int .i64 a) (.int .i64 k))
            obtain ⟨⟨s0, s1, s2, s3, s4⟩, -⟩ := hR9.five
            clear c0 c1 c2 c3 c4 f0 f1 f2 f3 f4 d0 d1 d2 d3 d4 hR9
            refine bodyPost_ret (v := rtok a (4, X, k - a)) (by simp [results, Tryz.results91, go_sem, s0, s1, s2, s3, s4, rtok, show a + (k - a) = k by omega]) rfl ⟨by rw [HO2.out], by rw [← HRE.out]; exact hB9⟩
        · have hO := HO.out
          rw [hcs, if_pos rfl] at hO
          have HO2 := Lib.hid hO
          clear hcs hO
          have HR4 := Lib.hid (HR3.out.keep (Tur.of_set ⟨M, 0, none⟩ (.int .u8 6)) (fun e => absurd e (Nat.ne_of_lt HRM.out)))
          have HT4 := Lib.hid (show Blk (w3.setCell ⟨M, 0, none⟩ (.int .u8 6)) M 91 #[.int .u8 6, .string X, .int .i64 0, .int .i64 a, .int .i64 k] from HT3.out.set 0 (.int .u8 6))
          have HB4 := Lib.hid (HB3.out.trans (below_set1 (B := R) (g := M) (w := w3) (Nat.le_of_lt HRM.out) (Nat.le_of_lt (Nat.lt_trans HRM.out HT3.out.lt)) (.int .u8 6)))
          obtain ⟨e0, g0⟩ : w3.cell? ⟨M, 0, none⟩ = some (.int .u8 4) ∧ w3.frozen? ⟨M, 0, none⟩ = false := ⟨HT3.out.five.1.1, HT3.out.five.2.1⟩
          go_upto_region 9 with (fail)
          clear e0 g0
          generalize w3.setCell ⟨M, 0, none⟩ (.int .u8 6) = w4 at *
          obtain ⟨⟨c0, c1, c2, c3, c4⟩, f0, f1, f2, f3, f4⟩ := HR4.out.five
          obtain ⟨⟨d0, d1, d2, d3, d4⟩, -⟩ := HT4.out.five
          go_wp2_with fail
          have hR9 := (HR4.out).set5 (.int .u8 6) (.string X) (.int .i64 0) (.int .i64 a) (.int .i64 k)
          have hB9 := HB4.out.trans (below_set5 (g := R) (by rw [HRE.out]; exact Nat.le_refl _) (by have := HR4.out.lt; have := HRE.out; omega) (.int .u8 6) (.string X) (.int .i64 0) (.int .i64 a) (.int .i64 k))
          obtain ⟨⟨s0, s1, s2, s3, s4⟩, -⟩ := hR9.five
          clear c0 c1 c2 c3 c4 f0 f1 f2 f3 f4 d0 d1 d2 d3 d4 hR9
          refine bodyPost_ret (v := rtok a (6, X, k - a)) (by simp [results, Tryz.results91, go_sem, s0, s1, s2, s3, s4, rtok, show a + (k - a) = k by omega]) rfl ⟨by rw [HO2.out], by rw [← HRE.out]; exact hB9⟩
      · have HDB := Lib.hid hdb
        clear hdb
        obtain ⟨h1, h2⟩ := HY.out (by simp [Lex.word, HLB.out, HDB.out])
        have hkT : k + 1 ≤ T := by have := HT2.out; omega
        have HT3 : Hid (k + 1 + Lex.runL Lex.word (l.drop (k + 1)) = T) := by have := HT2.out; unfold Hid; omega
        clear h2 h1
        go_wp2_with fail
        go_round
        case rel => exact ⟨k + 1, by omega, by omega, by go_num, HT3.out⟩
        case measure => simp [intOf]; omega
    · have HLB := Lib.hid hlb
      clear hlb
      obtain ⟨h1, h2⟩ := HY.out (by simp [Lex.word, HLB.out])
      have hkT : k + 1 ≤ T := by have := HT2.out; omega
      have HT3 : Hid (k + 1 + Lex.runL Lex.word (l.drop (k + 1)) = T) := by have := HT2.out; unfold Hid; omega
      clear h2 h1
      go_wp2_with fail
      go_round
      case rel => exact ⟨k + 1, by omega, by omega, by go_num, HT3.out⟩
      case measure => simp [intOf]; omega

end Go.Proofs.YtmapjahpjolmnaaGreatDoor
namespace Go.Proofs.YtmapjahpjolmnaaGreatDoor
set_option maxRecDepth 20000
open Go.RowKit
set_option maxHeartbeats 4000000 in
theorem r_one_num (s : ByteArray) (a : Nat) (re : Bool) (w : World) (hs : s.size ≤ 4294967) (h0 : a < s.size) (hlet : Lex.let_ (Lex.byteN s.data.toList a) = false) (hnum : 0 < Lex.numL (s.data.toList.drop a)) :
    Calls Tryz.prog 72 #[.string s, .int .i64 a, .bool re] w fun e w' => e = .returned (rtok a (1, bsA ((s.data.toList.drop a).take (Lex.numL (s.data.toList.drop a))), Lex.numL (s.data.toList.drop a))) ∧ Below w.heap.size w w' := by
  have hc : ((s[a]'h0).toNat : Int) = Lex.byteN s.data.toList a := by rw [Lex.byteN_in (by exact h0)]; rfl
  have HLET := Lib.hid hlet
  have hle := Lex.numL_le (s.data.toList.drop a)
  have hle2 : a + Lex.numL (s.data.toList.drop a) ≤ s.size := by rw [List.length_drop, show s.data.toList.length = s.size from rfl] at hle; omega
  clear hlet hle
  generalize Lex.byteN s.data.toList a = c at *
  obtain ⟨T, hT⟩ : ∃ T, T = a + Lex.numL (s.data.toList.drop a) := ⟨_, rfl⟩
  have htx := ext_mid s a T
  rw [show T - a = Lex.numL (s.data.toList.drop a) by omega] at htx
  rw [← htx]
  have hT2 : a < T := by omega
  have hT3 : T ≤ s.size := by omega
  have HN := Lib.hid hT
  clear hT hle2 hnum htx
  go_enter Tryz.func72, Tryz.ntmps72
  go_wp2_with fail
  refine (r_letter _ _).mono ?_
  rintro e w2 ⟨rfl, rfl⟩
  rw [HLET.out]
  go_wp2_with fail
  refine (r_number s a _ (by omega) (by omega)).mono ?_
  rintro e w2 ⟨rfl, rfl⟩
  rw [← HN.out]
  go_wp2_with fail
  obtain ⟨hR, hB⟩ := tok5 w (.int .u8 1) (.string (s.extract a T)) (.int .i64 0) (.int .i64 a) (.int .i64 T)
  obtain ⟨⟨c0, c1, c2, c3, c4⟩, -⟩ := hR.five
  refine bodyPost_ret (v := rtok a (1, s.extract a T, T - a)) (by simp [results, Tryz.results72, go_sem, c0, c1, c2, c3, c4, rtok, show a + (T - a) = T by omega]) rfl ⟨by rw [show T - a = Lex.numL (s.data.toList.drop a) by have := HN.out; omega], hB⟩

set_option maxHeartbeats 4000000 in
theorem r_one_name (s : ByteArray) (a : Nat) (re : Bool) (w : World) (hs : s.size ≤ 4294967) (h0 : a < s.size) (hlet : Lex.let_ (Lex.byteN s.data.toList a) = true) :
    Calls Tryz.prog 72 #[.string s, .int .i64 a, .bool re] w fun e w' => e = .returned (rtok a (Lex.oneName (s.data.toList.drop a))) ∧ Below w.heap.size w w' := by
  have hc : ((s[a]'h0).toNat : Int) = Lex.byteN s.data.toList a := by rw [Lex.byteN_in (by exact h0)]; rfl
  have HLET := Lib.hid hlet
  clear hlet
  generalize Lex.byteN s.data.toList a = c at *
  have HNM := Lib.hid (fun w => r_name s a w hs h0)
  generalize Lex.oneName (s.data.toList.drop a) = o at *
  obtain ⟨k, x, n⟩ := o
  go_enter Tryz.func72, Tryz.ntmps72
  go_wp2_with fail
  refine (r_letter _ _).mono ?_
  rintro e w2 ⟨rfl, rfl⟩
  rw [HLET.out]
  obtain ⟨hR1, hB1⟩ := tok5 w (.int .u8 0) (.string ⟨#[]⟩) (.int .i64 0) (.int .i64 0) (.int .i64 0)
  go_wp2_with fail
  generalize w.alloc (.cells #[.int .u8 0, .string ⟨#[]⟩, .int .i64 0, .int .i64 0, .int .i64 0] 91) = w1 at *
  obtain ⟨R, hRe⟩ : ∃ R, R = w.heap.size := ⟨_, rfl⟩
  have HRE := Lib.hid hRe
  rw [← hRe] at hR1 hB1 ⊢
  clear hRe
  refine (HNM.out _).mono ?_
  rintro e w3 ⟨rfl, hb3⟩
  have HR4 := Lib.hid (below_blk hR1 hb3 hR1.lt)
  have HB4 := Lib.hid (hB1.trans (hb3.mono (by rw [HRE.out]; exact HRE.out ▸ hB1.size)))
  clear hR1 hB1 hb3
  obtain ⟨⟨c0, c1, c2, c3, c4⟩, f0, f1, f2, f3, f4⟩ := HR4.out.five
  obtain ⟨m, hm⟩ : ∃ m, m = a + n := ⟨_, rfl⟩
  have HM := Lib.hid hm
  simp only [rtok]
  rw [← hm]
  clear hm
  go_wp2_with fail
  have hR9 := HR4.out.set5 (.int .u8 k) (.string x) (.int .i64 0) (.int .i64 a) (.int .i64 m)
  have hB9 := HB4.out.trans (below_set5 (g := R) (by rw [HRE.out]; exact Nat.le_refl _) (by have := HR4.out.lt; have := HRE.out; omega) (.int .u8 k) (.string x) (.int .i64 0) (.int .i64 a) (.int .i64 m))
  obtain ⟨⟨s0, s1, s2, s3, s4⟩, -⟩ := hR9.five
  clear c0 c1 c2 c3 c4 f0 f1 f2 f3 f4 hR9
  refine bodyPost_ret (v := .agg #[.int .u8 k, .string x, .int .i64 0, .int .i64 a, .int .i64 m]) (by simp [results, Tryz.results72, go_sem, s0, s1, s2, s3, s4]) rfl ⟨by rw [HM.out]; rfl, by rw [← HRE.out]; exact hB9⟩

end Go.Proofs.YtmapjahpjolmnaaGreatDoor
