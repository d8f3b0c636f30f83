/- The token that a text begins with. -/
import Derived.Test.YtmapjahpjolmnaaDoorG5
import Derived.Test.YtmapjahpjolmnaaDoorG13
import Derived.Deep.RegionHeld3
import Derived.Laws.CopyOwn
import Derived.BigQuiet
import Derived.Test.YtmapjahpjolmnaaDoorG2
import Derived.Test.YtmapjahpjolmnaaDoorG1
set_option linter.unusedVariables false
set_option linter.unusedSimpArgs false
namespace Go.Proofs.YtmapjahpjolmnaaDoor.Lex
set_option maxRecDepth 20000
open Go

def oneName (l : List UInt8) : Int × ByteArray × Nat :=
  (if Lib.containsS wordsB (bsA (l.take (runL word l))) then 6 else if byteN l (runL word l) = 40 then 5 else 4, bsA (l.take (runL word l)), runL word l)
def oneSign (l : List UInt8) : Int × ByteArray × Nat := match signsB.find? (fun x => Lib.hasPrefix l x.data.toList) with
  | some x => (7, x, x.size)
  | none => (0, ⟨#[]⟩, 0)
def oneRest (l : List UInt8) (re : Bool) : Int × ByteArray × Nat :=
  if byteN l 0 = 10 then (8, ⟨#[]⟩, 1)
  else if byteN l 0 = 34 then (2, (quotV (quoted l)).1, (quotV (quoted l)).2)
  else if byteN l 0 = 47 ∧ re = true then (3, (quotV (quoted l)).1, (quotV (quoted l)).2)
  else oneSign l
def oneL : One := fun l re => if let_ (byteN l 0) then oneName l else if 0 < numL l then (1, bsA (l.take (numL l)), numL l) else oneRest l re
theorem signs_size9 : ∀ k : Fin signsB.length, (signsB[k]).size ≤ 2 := by decide +kernel
theorem signs_size : ∀ k, (h : k < signsB.length) → (signsB[k]).size ≤ 2 := fun k h => signs_size9 ⟨k, h⟩
end Go.Proofs.YtmapjahpjolmnaaDoor.Lex
namespace Go.Proofs.YtmapjahpjolmnaaDoor
open Go.RowKit
theorem take_ext (s : ByteArray) (n : Nat) : s.extract 0 n = bsA (s.data.toList.take n) := bytes_ext (ext_take s n)
theorem find_first (S : List ByteArray) (p : ByteArray → Bool) (k : Nat) (hk : k < S.length) (h : p S[k] = true) (h2 : ∀ j, (hj : j < S.length) → j < k → p (S[j]) = false) : S.find? p = some S[k] := by
  rw [List.find?_eq_some_iff_getElem]
  exact ⟨h, k, hk, rfl, fun j hj => by simp [h2 j (by omega) hj]⟩
theorem find_none (S : List ByteArray) (p : ByteArray → Bool) (h : ∀ j, (hj : j < S.length) → p (S[j]) = false) : S.find? p = none := by
  rw [List.find?_eq_none]
  intro x hx
  obtain ⟨j, hj, rfl⟩ := List.mem_iff_getElem.1 hx
  simp [h j hj]
def tokV (o : Int × ByteArray × Nat) : Value := .tuple #[.agg #[.int .u8 o.1, .string o.2.1, .int .i64 0, .int .i64 0, .int .i64 0], .int .i64 (o.2.2 : Nat)]
theorem tok5 (w : World) (a b c d e : Value) : Blk (w.alloc (.cells #[a, b, c, d, e] 78)) w.heap.size 78 #[a, b, c, d, e] ∧ Below w.heap.size w (w.alloc (.cells #[a, b, c, d, e] 78)) :=
  ⟨Blk.new w _ _, (Below.refl _ _).alloc (Nat.le_refl _) _⟩
set_option maxHeartbeats 4000000 in
theorem x_one_num (s : ByteArray) (re : Bool) (w : World) (hs : s.size ≤ 4294967) (h0 : 0 < s.size) (hlet : Lex.let_ (Lex.byteN s.data.toList 0) = false) (hnum : 0 < Lex.numL s.data.toList) :
    Calls Tryd.prog 45 #[.string s, .bool re] w fun e w' => e = .returned (tokV (1, bsA (s.data.toList.take (Lex.numL s.data.toList)), Lex.numL s.data.toList)) ∧ Below w.heap.size w w' := by
  have hc : ((s[0]'h0).toNat : Int) = Lex.byteN s.data.toList 0 := by rw [Lex.byteN_in (by exact h0)]; rfl
  have HLET := Lib.hid hlet
  have hle := Lex.numL_le s.data.toList
  have hle2 : Lex.numL s.data.toList ≤ s.size := hle
  clear hlet hle
  generalize Lex.byteN s.data.toList 0 = c at *
  obtain ⟨n, hn⟩ : ∃ n, n = Lex.numL s.data.toList := ⟨_, rfl⟩
  rw [← hn] at hnum hle2 ⊢
  have HN := Lib.hid hn
  clear hn
  go_enter Tryd.func45, Tryd.ntmps45
  go_wp2_with fail
  refine (x_letter _ _).mono ?_
  rintro e w2 ⟨rfl, rfl⟩
  rw [HLET.out]
  go_wp2_with fail
  refine (x_num s _ (by omega)).mono ?_
  rintro e w2 ⟨rfl, rfl⟩
  rw [← HN.out]
  have htx := take_ext s n
  have HTX := Lib.hid htx
  clear htx
  go_wp2_with fail
  obtain ⟨hR, hB⟩ := tok5 w (.int .u8 1) (.string (s.extract 0 n)) (.int .i64 0) (.int .i64 0) (.int .i64 0)
  obtain ⟨⟨c0, c1, c2, c3, c4⟩, -⟩ := hR.five
  refine bodyPost_ret (v := tokV (1, s.extract 0 n, n)) (by simp [results, Tryd.results45, go_sem, c0, c1, c2, c3, c4, tokV]) rfl ⟨by rw [HTX.out], hB⟩
set_option maxHeartbeats 4000000 in
theorem x_one_name (s : ByteArray) (re : Bool) (w : World) (hs : s.size ≤ 4294967) (h0 : 0 < s.size) (hlet : Lex.let_ (Lex.byteN s.data.toList 0) = true) :
    Calls Tryd.prog 45 #[.string s, .bool re] w fun e w' => e = .returned (tokV (Lex.oneName s.data.toList)) ∧ Below w.heap.size w w' := by
  have hc : ((s[0]'h0).toNat : Int) = Lex.byteN s.data.toList 0 := by rw [Lex.byteN_in (by exact h0)]; rfl
  have HLET := Lib.hid hlet
  clear hlet
  generalize Lex.byteN s.data.toList 0 = c at *
  obtain ⟨l, hL⟩ : ∃ l, l = s.data.toList := ⟨_, rfl⟩
  have HLL := Lib.hid hL
  have hle := Lex.runL_le Lex.word l
  rw [show l.length = s.size by rw [hL]; rfl] at hle
  obtain ⟨o, ho⟩ : ∃ o, o = Lex.oneName l := ⟨_, rfl⟩
  rw [← hL, ← ho]
  obtain ⟨n, hn⟩ : ∃ n, n = Lex.runL Lex.word l := ⟨_, rfl⟩
  rw [← hn] at hle
  unfold Lex.oneName at ho
  rw [← hn] at ho
  have HN := Lib.hid hn
  have HO := Lib.hid ho
  have hx := take_ext s n
  rw [← hL] at hx
  have HX := Lib.hid hx
  have hdr : (s.extract n s.size).data.toList = l.drop n := by rw [ext_drop, hL]
  have HDR := Lib.hid hdr
  have hbn : Lib.hasPrefix (l.drop n) [40] = decide (Lex.byteN l n = 40) := by
    rw [Bool.eq_iff_iff, pre1, decide_eq_true_eq]
    constructor
    · rintro ⟨r, hr⟩; rw [Lex.byteN_of hr]; rfl
    · intro h
      obtain ⟨-, d, hd, hd2⟩ := Lex.byteN_cons (l := l) (k := n) (by rw [h]; decide)
      exact ⟨_, by rw [hd2, show d = 40 from UInt8.toNat_inj.1 (by rw [h] at hd; show d.toNat = 40; omega)]⟩
  have HBN := Lib.hid hbn
  clear hL hn ho hx hdr hbn
  go_enter Tryd.func45, Tryd.ntmps45
  go_wp2_with fail
  refine (x_letter _ _).mono ?_
  rintro e w2 ⟨rfl, rfl⟩
  rw [HLET.out]
  obtain ⟨hR1, hB1⟩ := tok5 w (.int .u8 0) (.string ⟨#[]⟩) (.int .i64 0) (.int .i64 0) (.int .i64 0)
  go_wp2_with fail
  generalize w.alloc (.cells #[.int .u8 0, .string ⟨#[]⟩, .int .i64 0, .int .i64 0, .int .i64 0] 78) = w1 at *
  obtain ⟨R, hRe⟩ : ∃ R, R = w.heap.size := ⟨_, rfl⟩
  have HRE := Lib.hid hRe
  rw [← hRe] at hR1 hB1 ⊢
  clear hRe
  refine (x_run s Lex.word 53 enters_word x_word _ (by omega)).mono ?_
  rintro e w2 ⟨rfl, rfl⟩
  rw [← HLL.out, ← HN.out]
  go_wp2_with fail
  refine (x_words _).mono ?_
  rintro e w3 ⟨rfl, hb3⟩
  have hR3 := below_blk hR1 hb3 hR1.lt
  have hB3 := hB1.trans (hb3.mono (by rw [HRE.out]; exact HRE.out ▸ hB1.size))
  clear hR1 hB1 hb3
  go_wp2_with fail
  rw [run_storeCells_from w3.heap.size 104 (svals Lex.wordsB) 0 _ _ (heap_alloc_new _ _) (by rfl) svals_one]
  have hrow := setRow_heap (w3.alloc (.cells (List.replicate 33 (Value.string ⟨#[]⟩)).toArray 104)) w3.heap.size _ (svals Lex.wordsB).toArray 104 (0, 0) (heap_alloc_new _ _)
  simp only [Result.andThen]
  go_wp2_with fail
  generalize hw4 : World.setRow _ _ _ = w4
  have hrow4 : Blk w4 w3.heap.size 104 (svals Lex.wordsB).toArray := by rw [← hw4]; exact hrow
  have hb4 : Below w3.heap.size w3 w4 := by rw [← hw4]; exact below_setRow ((Below.refl _ _).alloc (Nat.le_refl _) _) (Nat.le_refl _) _
  have hR4 := below_blk hR3 hb4 hR3.lt
  have hB4 := hB3.trans (hb4.mono (by rw [HRE.out]; exact hB3.size))
  have hcell : ∀ j, j < Lex.wordsB.length → w4.drew.cell? ⟨w3.heap.size, 0 + j, none⟩ = some (.string (Lex.wordsB.getD j ByteArray.empty)) := fun j hj => by
    have h1 := hrow4.cell j
    have h2 : w4.drew.cell? ⟨w3.heap.size, 0 + j, none⟩ = w4.cell? ⟨w3.heap.size, j, none⟩ := by rw [Nat.zero_add]; rfl
    rw [h2, h1]
    simp [svals, List.getD, hj]
  have HCELL := Lib.hid hcell
  have HR4 := Lib.hid (show Blk w4.drew R 78 #[.int .u8 0, .string ⟨#[]⟩, .int .i64 0, .int .i64 0, .int .i64 0] from hR4)
  have HB4 := Lib.hid hB4.drew
  clear hw4 hrow hrow4 hb4 hR3 hB3 hcell hR4 hB4
  generalize w3.heap.size = R7 at *
  go_region_held3 (fun _ => True) (trivial) (first | (go_at_call 33; refine (Tryd.slices_Contains_string R7 0 33 33 Lex.wordsB (s.extract 0 n) _ (by decide) (by decide) HCELL.out).mono ?_; rintro e w5 ⟨rfl, rfl⟩))
  generalize w4.drew = w4' at *
  rw [show Lex.wordsB.take 33 = Lex.wordsB from rfl, HX.out]
  cases hcs : Lib.containsS Lex.wordsB (bsA (l.take n))
  · have hO := HO.out
    rw [hcs] at hO
    have HO1 := Lib.hid hO
    clear hcs hO
    go_wp2_with fail
    refine (Tryd.strings_HasPrefix (s.extract n s.size) ⟨#[40]⟩ _).mono ?_
    rintro e w5 ⟨rfl, rfl⟩
    rw [HDR.out, show (⟨#[40]⟩ : ByteArray).data.toList = [40] from rfl, HBN.out]
    by_cases h40 : Lex.byteN l n = 40
    · have hO := HO1.out
      rw [if_neg (by simp), if_pos h40] at hO
      have HO2 := Lib.hid hO
      rw [decide_eq_true h40]
      clear h40 hO HO1
      obtain ⟨⟨c0, c1, c2, c3, c4⟩, f0, f1, f2, f3, f4⟩ := HR4.out.five
      go_wp2_with fail
      have hR9 := HR4.out.set5 (.int .u8 5) (.string (s.extract 0 n)) (.int .i64 0) (.int .i64 0) (.int .i64 0)
      have hB9 := HB4.out.trans (below_set5 (g := R) (by rw [HRE.out]; exact Nat.le_refl _) (by have := HR4.out.lt; have := HRE.out; omega) (.int .u8 5) (.string (s.extract 0 n)) (.int .i64 0) (.int .i64 0) (.int .i64 0))
      obtain ⟨⟨s0, s1, s2, s3, s4⟩, -⟩ := hR9.five
      clear c0 c1 c2 c3 c4 f0 f1 f2 f3 f4 hR9
      refine bodyPost_ret (v := tokV (5, (s.extract 0 n), n)) (by simp [results, Tryd.results45, go_sem, s0, s1, s2, s3, s4, tokV]) rfl ⟨by rw [HO2.out, HX.out], by rw [← HRE.out]; exact hB9⟩
    · have hO := HO1.out
      rw [if_neg (by simp), if_neg h40] at hO
      have HO2 := Lib.hid hO
      rw [decide_eq_false h40]
      clear h40 hO HO1
      obtain ⟨⟨c0, c1, c2, c3, c4⟩, f0, f1, f2, f3, f4⟩ := HR4.out.five
      go_wp2_with fail
      have hR9 := HR4.out.set5 (.int .u8 4) (.string (s.extract 0 n)) (.int .i64 0) (.int .i64 0) (.int .i64 0)
      have hB9 := HB4.out.trans (below_set5 (g := R) (by rw [HRE.out]; exact Nat.le_refl _) (by have := HR4.out.lt; have := HRE.out; omega) (.int .u8 4) (.string (s.extract 0 n)) (.int .i64 0) (.int .i64 0) (.int .i64 0))
      obtain ⟨⟨s0, s1, s2, s3, s4⟩, -⟩ := hR9.five
      clear c0 c1 c2 c3 c4 f0 f1 f2 f3 f4 hR9
      refine bodyPost_ret (v := tokV (4, (s.extract 0 n), n)) (by simp [results, Tryd.results45, go_sem, s0, s1, s2, s3, s4, tokV]) rfl ⟨by rw [HO2.out, HX.out], by rw [← HRE.out]; exact hB9⟩
  · have hO := HO.out
    rw [hcs, if_pos rfl] at hO
    have HO2 := Lib.hid hO
    clear hcs hO
    obtain ⟨⟨c0, c1, c2, c3, c4⟩, f0, f1, f2, f3, f4⟩ := HR4.out.five
    go_wp2_with fail
    have hR9 := HR4.out.set5 (.int .u8 6) (.string (s.extract 0 n)) (.int .i64 0) (.int .i64 0) (.int .i64 0)
    have hB9 := HB4.out.trans (below_set5 (g := R) (by rw [HRE.out]; exact Nat.le_refl _) (by have := HR4.out.lt; have := HRE.out; omega) (.int .u8 6) (.string (s.extract 0 n)) (.int .i64 0) (.int .i64 0) (.int .i64 0))
    obtain ⟨⟨s0, s1, s2, s3, s4⟩, -⟩ := hR9.five
    clear c0 c1 c2 c3 c4 f0 f1 f2 f3 f4 hR9
    refine bodyPost_ret (v := tokV (6, (s.extract 0 n), n)) (by simp [results, Tryd.results45, go_sem, s0, s1, s2, s3, s4, tokV]) rfl ⟨by rw [HO2.out, HX.out], by rw [← HRE.out]; exact hB9⟩
set_option maxHeartbeats 4000000 in
theorem x_one_rest (s : ByteArray) (re : Bool) (w : World) (hs : s.size ≤ 4294967) (h0 : 0 < s.size) (hlet : Lex.let_ (Lex.byteN s.data.toList 0) = false) (hnum : Lex.numL s.data.toList = 0) :
    Calls Tryd.prog 45 #[.string s, .bool re] w fun e w' => e = .returned (tokV (Lex.oneRest s.data.toList re)) ∧ Below w.heap.size w w' := by
  have hc : ((s[0]'h0).toNat : Int) = Lex.byteN s.data.toList 0 := by rw [Lex.byteN_in (by exact h0)]; rfl
  have HLET := Lib.hid hlet
  have HNUM := Lib.hid hnum
  clear hlet hnum
  obtain ⟨o, ho⟩ : ∃ o, o = Lex.oneRest s.data.toList re := ⟨_, rfl⟩
  rw [← ho]
  unfold Lex.oneRest at ho
  have HQQ := Lib.hid (fun (q : UInt8) (hq : s[0]'h0 = q) (hq2 : q.toNat = 34 ∨ q.toNat = 47) (w : World) => x_quoted s q w hs h0 hq hq2)
  have h256 := Lex.byteN_range s.data.toList 0
  have HSB : Hid (s[0]'h0 = s[0]'h0) := rfl
  generalize hcc : Lex.byteN s.data.toList 0 = c at *
  clear hcc
  have HO := Lib.hid ho
  have HC := Lib.hid hc
  clear ho
  go_enter Tryd.func45, Tryd.ntmps45
  go_wp2_with fail
  refine (x_letter _ _).mono ?_
  rintro e w2 ⟨rfl, rfl⟩
  rw [HLET.out]
  obtain ⟨hR1, hB1⟩ := tok5 w (.int .u8 0) (.string ⟨#[]⟩) (.int .i64 0) (.int .i64 0) (.int .i64 0)
  go_wp2_with fail
  generalize w.alloc (.cells #[.int .u8 0, .string ⟨#[]⟩, .int .i64 0, .int .i64 0, .int .i64 0] 78) = w1 at *
  obtain ⟨R, hRe⟩ : ∃ R, R = w.heap.size := ⟨_, rfl⟩
  have HRE := Lib.hid hRe
  rw [← hRe] at hR1 hB1 ⊢
  clear hRe
  refine (x_num s _ (by omega)).mono ?_
  rintro e w2 ⟨rfl, rfl⟩
  rw [HNUM.out]
  by_cases h10 : c = 10
  · have hO := HO.out
    rw [if_pos h10] at hO
    have HO2 := Lib.hid hO
    have HR4 := Lib.hid hR1
    have HB4 := Lib.hid hB1
    subst h10
    clear hO hR1 hB1
    obtain ⟨⟨c0, c1, c2, c3, c4⟩, f0, f1, f2, f3, f4⟩ := HR4.out.five
    go_wp2_with fail
    have hR9 := HR4.out.set5 (.int .u8 8) (.string ⟨#[]⟩) (.int .i64 0) (.int .i64 0) (.int .i64 0)
    have hB9 := HB4.out.trans (below_set5 (g := R) (by rw [HRE.out]; exact Nat.le_refl _) (by have := HR4.out.lt; have := HRE.out; omega) (.int .u8 8) (.string ⟨#[]⟩) (.int .i64 0) (.int .i64 0) (.int .i64 0))
    obtain ⟨⟨s0, s1, s2, s3, s4⟩, -⟩ := hR9.five
    clear c0 c1 c2 c3 c4 f0 f1 f2 f3 f4 hR9
    refine bodyPost_ret (v := tokV (8, ⟨#[]⟩, 1)) (by simp [results, Tryd.results45, go_sem, s0, s1, s2, s3, s4, tokV]) rfl ⟨by rw [HO2.out], by rw [← HRE.out]; exact hB9⟩
  · have hc10 : (c == 10) = false := by simp [h10]
    by_cases h34 : c = 34
    · have hO := HO.out
      rw [if_neg h10, if_pos h34] at hO
      have HO1 := Lib.hid hO
      have hq : s[0]'h0 = 34 := UInt8.toNat_inj.1 (by have := HC.out; show (s[0]'h0).toNat = 34; omega)
      have HQ3 := Lib.hid (HQQ.out 34 hq (.inl rfl))
      subst h34
      clear hO hq h10
      go_wp2_with fail
      refine (HQ3.out _).mono ?_
      rintro e w5 ⟨rfl, hb5⟩
      have HR4 := Lib.hid (below_blk hR1 hb5 hR1.lt)
      have HB4 := Lib.hid (hB1.trans (hb5.mono (by rw [HRE.out]; exact hB1.size)))
      have HO2 := Lib.hid HO1.out
      clear hR1 hB1 hb5 HO1
      generalize (quotV (Lex.quoted s.data.toList)).1 = qs at *
      generalize (quotV (Lex.quoted s.data.toList)).2 = qn at *
      obtain ⟨⟨c0, c1, c2, c3, c4⟩, f0, f1, f2, f3, f4⟩ := HR4.out.five
      go_wp2_with fail
      have hR9 := HR4.out.set5 (.int .u8 2) (.string qs) (.int .i64 0) (.int .i64 0) (.int .i64 0)
      have hB9 := HB4.out.trans (below_set5 (g := R) (by rw [HRE.out]; exact Nat.le_refl _) (by have := HR4.out.lt; have := HRE.out; omega) (.int .u8 2) (.string qs) (.int .i64 0) (.int .i64 0) (.int .i64 0))
      obtain ⟨⟨s0, s1, s2, s3, s4⟩, -⟩ := hR9.five
      clear c0 c1 c2 c3 c4 f0 f1 f2 f3 f4 hR9
      refine bodyPost_ret (v := tokV (2, qs, qn)) (by simp [results, Tryd.results45, go_sem, s0, s1, s2, s3, s4, tokV]) rfl ⟨by rw [HO2.out], by rw [← HRE.out]; exact hB9⟩
    · have hc34 : (c == 34) = false := by simp [h34]
      by_cases h47 : c = 47 ∧ re = true
      · have hO := HO.out
        rw [if_neg h10, if_neg h34, if_pos h47] at hO
        have HO1 := Lib.hid hO
        obtain ⟨h47, hre⟩ := h47
        have hq : s[0]'h0 = 47 := UInt8.toNat_inj.1 (by have := HC.out; show (s[0]'h0).toNat = 47; omega)
        have HQ3 := Lib.hid (HQQ.out 47 hq (.inr rfl))
        subst h47
        subst hre
        clear hO hq h10 h34
        go_wp2_with fail
        refine (HQ3.out _).mono ?_
        rintro e w5 ⟨rfl, hb5⟩
        have HR4 := Lib.hid (below_blk hR1 hb5 hR1.lt)
        have HB4 := Lib.hid (hB1.trans (hb5.mono (by rw [HRE.out]; exact hB1.size)))
        have HO2 := Lib.hid HO1.out
        clear hR1 hB1 hb5 HO1
        generalize (quotV (Lex.quoted s.data.toList)).1 = qs at *
        generalize (quotV (Lex.quoted s.data.toList)).2 = qn at *
        obtain ⟨⟨c0, c1, c2, c3, c4⟩, f0, f1, f2, f3, f4⟩ := HR4.out.five
        go_wp2_with fail
        have hR9 := HR4.out.set5 (.int .u8 3) (.string qs) (.int .i64 0) (.int .i64 0) (.int .i64 0)
        have hB9 := HB4.out.trans (below_set5 (g := R) (by rw [HRE.out]; exact Nat.le_refl _) (by have := HR4.out.lt; have := HRE.out; omega) (.int .u8 3) (.string qs) (.int .i64 0) (.int .i64 0) (.int .i64 0))
        obtain ⟨⟨s0, s1, s2, s3, s4⟩, -⟩ := hR9.five
        clear c0 c1 c2 c3 c4 f0 f1 f2 f3 f4 hR9
        refine bodyPost_ret (v := tokV (3, qs, qn)) (by simp [results, Tryd.results45, go_sem, s0, s1, s2, s3, s4, tokV]) rfl ⟨by rw [HO2.out], by rw [← HRE.out]; exact hB9⟩
      · have hO := HO.out
        rw [if_neg h10, if_neg h34, if_neg h47] at hO
        have HO1 := Lib.hid hO
        have hcs : ((c == 47) && re) = false := by
          by_cases h : c = 47
          · have : re = false := by simpa [h] using h47
            simp [this]
          · simp [h]
        have hcs2 : (c == 47) = false ∨ ((c == 47) = true ∧ re = false) := by
          by_cases h : c = 47
          · right; exact ⟨by simp [h], by simpa [h] using h47⟩
          · left; simp [h]
        clear hO h47 h10 h34 hcs
        rcases hcs2 with h47 | ⟨h47, hre⟩
        · go_wp2_with fail
          refine (x_signs _).mono ?_
          rintro e w5 ⟨rfl, hb5⟩
          have HR4 := Lib.hid (below_blk hR1 hb5 hR1.lt)
          have HB4 := Lib.hid (hB1.trans (hb5.mono (by rw [HRE.out]; exact hB1.size)))
          clear hR1 hB1 hb5
          obtain ⟨l, hL⟩ : ∃ l, l = s.data.toList := ⟨_, rfl⟩
          have HLL := Lib.hid hL
          rw [← hL] at HO1
          clear hL
          have HO3 : Hid (o = match Lex.signsB.find? (fun x => Lib.hasPrefix l x.data.toList) with | some x => (7, x, x.size) | none => (0, ⟨#[]⟩, 0)) := HO1.out
          obtain ⟨S, hS⟩ : ∃ S, S = Lex.signsB := ⟨_, rfl⟩
          have hS39 : S.length = 39 := by rw [hS]; rfl
          have hsz2 : ∀ k, (h : k < S.length) → (S[k]).size ≤ 2 := by
            rw [hS]
            exact Lex.signs_size
          have HSZ2 := Lib.hid hsz2
          rw [← hS] at HO3 ⊢
          clear hS HO1 hsz2
          go_wp2_with fail
          go_loop [89] (fun i => ∃ k : Nat, k ≤ 39 ∧ i = .int .i64 k ∧ ∀ j, (hj : j < S.length) → j < k → Lib.hasPrefix l (S[j]).data.toList = false) (fun i => 39 - (intOf i).toNat)
          case atStart => exact ⟨0, by omega, rfl, fun j _ h => by omega⟩
          case round =>
            obtain ⟨k, hk, rfl, hno⟩ := hrel
            have HNO := Lib.hid hno
            clear hno
            by_cases hlt : k < 39
            · have hkS : k < S.length := by omega
              have hix := run_sign S k hS39 hlt
              have hx2 := HSZ2.out k hkS
              have HFS := Lib.hid (fun hp => find_first S (fun x => Lib.hasPrefix l x.data.toList) k hkS hp HNO.out)
              obtain ⟨x, hx⟩ : ∃ x, x = S[k] := ⟨_, rfl⟩
              rw [← hx] at hix hx2 HFS
              have HX := Lib.hid hx
              clear hx
              go_wp2_with fail
              refine (Tryd.strings_HasPrefix s x _).mono ?_
              rintro e w6 ⟨rfl, rfl⟩
              rw [← HLL.out]
              cases hp : Lib.hasPrefix l x.data.toList
              · have HPF := Lib.hid hp
                clear hp
                go_wp2_with fail
                go_round
                case rel => exact ⟨k + 1, by omega, by go_num, fun j hj h => by
                  rcases Nat.lt_or_ge j k with h | h
                  · exact HNO.out j hj h
                  · obtain rfl : j = k := by omega
                    rw [← HX.out]; exact HPF.out⟩
                case measure => simp [intOf]; omega
              · have hO := HO3.out
                rw [HFS.out hp] at hO
                have HO2 := Lib.hid hO
                clear hO hp HFS HNO
                obtain ⟨⟨c0, c1, c2, c3, c4⟩, f0, f1, f2, f3, f4⟩ := HR4.out.five
                go_wp2_with fail
                have hR9 := HR4.out.set5 (.int .u8 7) (.string x) (.int .i64 0) (.int .i64 0) (.int .i64 0)
                have hB9 := HB4.out.trans (below_set5 (g := R) (by rw [HRE.out]; exact Nat.le_refl _) (by have := HR4.out.lt; have := HRE.out; omega) (.int .u8 7) (.string x) (.int .i64 0) (.int .i64 0) (.int .i64 0))
                obtain ⟨⟨s0, s1, s2, s3, s4⟩, -⟩ := hR9.five
                clear c0 c1 c2 c3 c4 f0 f1 f2 f3 f4 hR9
                refine bodyPost_ret (v := tokV (7, x, x.size)) (by simp [results, Tryd.results45, go_sem, s0, s1, s2, s3, s4, tokV]) rfl ⟨by rw [HO2.out], by rw [← HRE.out]; exact hB9⟩
            · have hO := HO3.out
              rw [find_none S (fun x => Lib.hasPrefix l x.data.toList) (fun j hj => HNO.out j hj (by omega))] at hO
              have HO2 := Lib.hid hO
              clear hO HNO
              obtain ⟨⟨c0, c1, c2, c3, c4⟩, f0, f1, f2, f3, f4⟩ := HR4.out.five
              go_wp2_with fail
              have hR9 := HR4.out.set5 (.int .u8 0) (.string ⟨#[]⟩) (.int .i64 0) (.int .i64 0) (.int .i64 0)
              have hB9 := HB4.out.trans (below_set5 (g := R) (by rw [HRE.out]; exact Nat.le_refl _) (by have := HR4.out.lt; have := HRE.out; omega) (.int .u8 0) (.string ⟨#[]⟩) (.int .i64 0) (.int .i64 0) (.int .i64 0))
              obtain ⟨⟨s0, s1, s2, s3, s4⟩, -⟩ := hR9.five
              clear c0 c1 c2 c3 c4 f0 f1 f2 f3 f4 hR9
              refine bodyPost_ret (v := tokV (0, ⟨#[]⟩, 0)) (by simp [results, Tryd.results45, go_sem, s0, s1, s2, s3, s4, tokV]) rfl ⟨by rw [HO2.out], by rw [← HRE.out]; exact hB9⟩
        · go_wp2_with fail
          refine (x_signs _).mono ?_
          rintro e w5 ⟨rfl, hb5⟩
          have HR4 := Lib.hid (below_blk hR1 hb5 hR1.lt)
          have HB4 := Lib.hid (hB1.trans (hb5.mono (by rw [HRE.out]; exact hB1.size)))
          clear hR1 hB1 hb5
          obtain ⟨l, hL⟩ : ∃ l, l = s.data.toList := ⟨_, rfl⟩
          have HLL := Lib.hid hL
          rw [← hL] at HO1
          clear hL
          have HO3 : Hid (o = match Lex.signsB.find? (fun x => Lib.hasPrefix l x.data.toList) with | some x => (7, x, x.size) | none => (0, ⟨#[]⟩, 0)) := HO1.out
          obtain ⟨S, hS⟩ : ∃ S, S = Lex.signsB := ⟨_, rfl⟩
          have hS39 : S.length = 39 := by rw [hS]; rfl
          have hsz2 : ∀ k, (h : k < S.length) → (S[k]).size ≤ 2 := by
            rw [hS]
            exact Lex.signs_size
          have HSZ2 := Lib.hid hsz2
          rw [← hS] at HO3 ⊢
          clear hS HO1 hsz2
          go_wp2_with fail
          go_loop [89] (fun i => ∃ k : Nat, k ≤ 39 ∧ i = .int .i64 k ∧ ∀ j, (hj : j < S.length) → j < k → Lib.hasPrefix l (S[j]).data.toList = false) (fun i => 39 - (intOf i).toNat)
          case atStart => exact ⟨0, by omega, rfl, fun j _ h => by omega⟩
          case round =>
            obtain ⟨k, hk, rfl, hno⟩ := hrel
            have HNO := Lib.hid hno
            clear hno
            by_cases hlt : k < 39
            · have hkS : k < S.length := by omega
              have hix := run_sign S k hS39 hlt
              have hx2 := HSZ2.out k hkS
              have HFS := Lib.hid (fun hp => find_first S (fun x => Lib.hasPrefix l x.data.toList) k hkS hp HNO.out)
              obtain ⟨x, hx⟩ : ∃ x, x = S[k] := ⟨_, rfl⟩
              rw [← hx] at hix hx2 HFS
              have HX := Lib.hid hx
              clear hx
              go_wp2_with fail
              refine (Tryd.strings_HasPrefix s x _).mono ?_
              rintro e w6 ⟨rfl, rfl⟩
              rw [← HLL.out]
              cases hp : Lib.hasPrefix l x.data.toList
              · have HPF := Lib.hid hp
                clear hp
                go_wp2_with fail
                go_round
                case rel => exact ⟨k + 1, by omega, by go_num, fun j hj h => by
                  rcases Nat.lt_or_ge j k with h | h
                  · exact HNO.out j hj h
                  · obtain rfl : j = k := by omega
                    rw [← HX.out]; exact HPF.out⟩
                case measure => simp [intOf]; omega
              · have hO := HO3.out
                rw [HFS.out hp] at hO
                have HO2 := Lib.hid hO
                clear hO hp HFS HNO
                obtain ⟨⟨c0, c1, c2, c3, c4⟩, f0, f1, f2, f3, f4⟩ := HR4.out.five
                go_wp2_with fail
                have hR9 := HR4.out.set5 (.int .u8 7) (.string x) (.int .i64 0) (.int .i64 0) (.int .i64 0)
                have hB9 := HB4.out.trans (below_set5 (g := R) (by rw [HRE.out]; exact Nat.le_refl _) (by have := HR4.out.lt; have := HRE.out; omega) (.int .u8 7) (.string x) (.int .i64 0) (.int .i64 0) (.int .i64 0))
                obtain ⟨⟨s0, s1, s2, s3, s4⟩, -⟩ := hR9.five
                clear c0 c1 c2 c3 c4 f0 f1 f2 f3 f4 hR9
                refine bodyPost_ret (v := tokV (7, x, x.size)) (by simp [results, Tryd.results45, go_sem, s0, s1, s2, s3, s4, tokV]) rfl ⟨by rw [HO2.out], by rw [← HRE.out]; exact hB9⟩
            · have hO := HO3.out
              rw [find_none S (fun x => Lib.hasPrefix l x.data.toList) (fun j hj => HNO.out j hj (by omega))] at hO
              have HO2 := Lib.hid hO
              clear hO HNO
              obtain ⟨⟨c0, c1, c2, c3, c4⟩, f0, f1, f2, f3, f4⟩ := HR4.out.five
              go_wp2_with fail
              have hR9 := HR4.out.set5 (.int .u8 0) (.string ⟨#[]⟩) (.int .i64 0) (.int .i64 0) (.int .i64 0)
              have hB9 := HB4.out.trans (below_set5 (g := R) (by rw [HRE.out]; exact Nat.le_refl _) (by have := HR4.out.lt; have := HRE.out; omega) (.int .u8 0) (.string ⟨#[]⟩) (.int .i64 0) (.int .i64 0) (.int .i64 0))
              obtain ⟨⟨s0, s1, s2, s3, s4⟩, -⟩ := hR9.five
              clear c0 c1 c2 c3 c4 f0 f1 f2 f3 f4 hR9
              refine bodyPost_ret (v := tokV (0, ⟨#[]⟩, 0)) (by simp [results, Tryd.results45, go_sem, s0, s1, s2, s3, s4, tokV]) rfl ⟨by rw [HO2.out], by rw [← HRE.out]; exact hB9⟩
end Go.Proofs.YtmapjahpjolmnaaDoor
namespace Go.Proofs.YtmapjahpjolmnaaDoor
set_option maxRecDepth 20000
open Go.RowKit
theorem ext_mid (s : ByteArray) (a n : Nat) : s.extract a n = bsA ((s.data.toList.drop a).take (n - a)) := by
  apply bytes_ext
  simp [bsA, ByteArray.data_extract, List.extract]
def rtok (a : Nat) (o : Int × ByteArray × Nat) : Value := .agg #[.int .u8 o.1, .string o.2.1, .int .i64 0, .int .i64 a, .int .i64 (a + o.2.2 : Nat)]
theorem below_set1 {w : World} {g B : Nat} (hB : B ≤ g) (hg : B ≤ w.heap.size) (v : Value) : Below B w (w.setCell ⟨g, 0, none⟩ v) :=
  (Tur.of_set ⟨g, 0, none⟩ v).below B hg (fun j hj e => by have : j = g := e; omega)
theorem strs_new (w : World) (xs : List ByteArray) (n : Nat) (h : xs.length = n) : Strs (w.alloc (.cells (svals xs).toArray 9)) (w.heap.size + 1) (some ⟨w.heap.size, 0, none⟩) n xs := by
  refine ⟨h, fun _ => ⟨w.heap.size, 0, rfl, by omega, fun i hi => ?_⟩⟩
  have := (Blk.new w 9 (svals xs).toArray).cell i
  rw [Nat.zero_add, this]
  simp [svals, hi]



end Go.Proofs.YtmapjahpjolmnaaDoor
namespace Go.Proofs.YtmapjahpjolmnaaDoor
set_option maxRecDepth 20000
open Go.RowKit


end Go.Proofs.YtmapjahpjolmnaaDoor
namespace Go.Proofs.YtmapjahpjolmnaaDoor
set_option maxRecDepth 20000
open Go.RowKit
def rzero : Value := .agg #[.int .u8 0, .string ⟨#[]⟩, .int .i64 0, .int .i64 0, .int .i64 0]
def rres (a : Nat) (o : Int × ByteArray × Nat) : Value := if o.2.2 = 0 then rzero else rtok a o
theorem hp_cut (s x : ByteArray) (a : Nat) : Lib.hasPrefix (s.data.toList.drop a) x.data.toList = decide (a + x.size ≤ s.size ∧ s.extract a (a + x.size) = x) ∨ s.size < a := by
  rcases Nat.lt_or_ge s.size a with h | h
  · exact .inr h
  · left
    rw [Bool.eq_iff_iff, decide_eq_true_eq, ext_mid, Nat.add_sub_cancel_left]
    unfold Lib.hasPrefix
    rw [List.isPrefixOf_iff_prefix]
    have hxl : x.data.toList.length = x.size := rfl
    have hsl : s.data.toList.length = s.size := rfl
    constructor
    · intro hp
      have hle := hp.length_le
      rw [List.length_drop] at hle
      have hq := List.prefix_iff_eq_take.1 hp
      rw [hxl] at hq hle
      refine ⟨by omega, bytes_ext ?_⟩
      rw [← hq]
      simp [bsA]
    · rintro ⟨hle, he⟩
      rw [List.prefix_iff_eq_take, hxl]
      conv => lhs; rw [← he]
      simp [bsA]
theorem Lex.signs_pos9 : ∀ k : Fin Lex.signsB.length, 0 < (Lex.signsB[k]).size := by decide +kernel
theorem Lex.signs_pos : ∀ k, (h : k < Lex.signsB.length) → 0 < (Lex.signsB[k]).size := fun k h => Lex.signs_pos9 ⟨k, h⟩
theorem below_drewN {B : Nat} {w w' : World} (n : Nat) (h : Below B w w') : Below B w (w'.drewN n) := ⟨h.os, h.tape, h.output, h.size, h.block⟩
theorem quoted_pos (l : List UInt8) (p : List UInt8 × Nat) (h : Lex.quoted l = some p) : 0 < p.2 := by
  cases l with
  | nil => simp [Lex.quoted] at h
  | cons q r =>
    simp [Lex.quoted] at h
    obtain ⟨x, y, hxy, rfl⟩ := h
    simp only []
    omega

end Go.Proofs.YtmapjahpjolmnaaDoor
namespace Go.Proofs.YtmapjahpjolmnaaDoor.Lex
set_option maxRecDepth 20000
open Go
theorem quotL_le (q : UInt8) : ∀ n (l : List UInt8) p, l.length ≤ n → quotL q l = some p → p.2 ≤ l.length ∧ 0 < p.2 := by
  intro n
  induction n with
  | zero =>
    intro l p hn h
    cases l with
    | nil => rw [quot_nil] at h; simp at h
    | cons c r => simp at hn
  | succ n ih =>
    intro l p hn h
    cases l with
    | nil => rw [quot_nil] at h; simp at h
    | cons c r =>
      have hl : (c :: r).length = r.length + 1 := rfl
      rw [hl] at hn ⊢
      by_cases h10 : c.toNat = 10
      · rw [quot_line h10] at h; simp at h
      · by_cases hq : c.toNat = q.toNat
        · rw [quot_end h10 hq] at h
          obtain rfl : ([], 1) = p := by simpa using h
          exact ⟨by show 1 ≤ _; omega, by decide⟩
        · by_cases h92 : c.toNat = 92
          · by_cases hb : r = [] ∨ byteN r 0 = 10
            · rw [quot_bad h10 hq h92 hb] at h; simp at h
            · rw [quot_mark h10 hq h92 hb] at h
              obtain ⟨x, hx, rfl⟩ := Option.map_eq_some_iff.1 h
              have hr : r ≠ [] := fun e => hb (.inl e)
              have hr2 : 0 < r.length := List.length_pos_iff.2 hr
              have h1 := (say_le q (l := c :: r) (by rw [hl]; omega)).1
              have h2 := say_ge q (c :: r)
              have h3 := ih _ x (by rw [List.length_drop, hl]; omega) hx
              rw [List.length_drop, hl] at h3
              rw [hl] at h1
              exact ⟨by show _ + x.2 ≤ _; omega, by show 0 < _ + x.2; omega⟩
          · rw [quot_byte h10 hq h92] at h
            obtain ⟨x, hx, rfl⟩ := Option.map_eq_some_iff.1 h
            have h3 := ih r x (by omega) hx
            exact ⟨by show 1 + x.2 ≤ _; omega, by show 0 < 1 + x.2; omega⟩
theorem quoted_le (l : List UInt8) : (quotV (quoted l)).2 ≤ l.length := by
  cases h : quoted l with
  | none => exact Nat.zero_le _
  | some p =>
    cases l with
    | nil => simp [quoted] at h
    | cons q r =>
      obtain ⟨x, hx, rfl⟩ := Option.map_eq_some_iff.1 h
      have := (quotL_le q _ r x (Nat.le_refl _) hx).1
      show 1 + x.2 ≤ r.length + 1
      omega
theorem byteN_nil (k : Nat) : byteN [] k = 0 := by unfold byteN; simp
theorem numL_none {l : List UInt8} (h1 : dig (byteN l 0) = false) (h2 : byteN l 0 ≠ 46) : numL l = 0 := by
  apply numL_zero
  have h0 : runL dig l = 0 := by simpa using run_not (p := dig) (l := l) (k := 0) h1
  rw [num1_no, h0]
  rintro ⟨r, hr⟩
  rw [h0, List.drop_zero] at hr
  exact h2 (by rw [hr]; rfl)
theorem oneL_line {l : List UInt8} {re : Bool} (h : byteN l 0 = 10) : oneL l re = (8, ⟨#[]⟩, 1) := by
  unfold oneL
  rw [h, if_neg (by decide), numL_none (by rw [h]; decide) (by rw [h]; decide), if_neg (by decide)]
  unfold oneRest
  rw [if_pos h]
theorem oneSign_le (l : List UInt8) : (oneSign l).2.2 ≤ l.length := by
  unfold oneSign
  split
  · rename_i x hx
    have := List.find?_some hx
    unfold Lib.hasPrefix at this
    exact (List.isPrefixOf_iff_prefix.1 this).length_le
  · exact Nat.zero_le _
theorem oneL_le {l : List UInt8} {re : Bool} : (oneL l re).2.2 ≤ l.length := by
  unfold oneL
  split
  · exact runL_le _ _
  · split
    · exact numL_le l
    · unfold oneRest
      split
      · rename_i h
        cases l with
        | nil => rw [byteN_nil] at h; exact absurd h (by decide)
        | cons c r => show 1 ≤ r.length + 1; omega
      · split
        · exact quoted_le l
        · split
          · exact quoted_le l
          · exact oneSign_le l
theorem oneL_kind {l : List UInt8} {re : Bool} (h : (oneL l re).2.2 ≠ 0) : (oneL l re).1 ≠ 0 := by
  revert h
  unfold oneL
  split
  · intro _
    unfold oneName
    dsimp only
    split
    · decide
    · split <;> decide
  · split
    · intro _; show (1 : Int) ≠ 0; decide
    · unfold oneRest
      split
      · intro _; show (8 : Int) ≠ 0; decide
      · split
        · intro _; show (2 : Int) ≠ 0; decide
        · split
          · intro _; show (3 : Int) ≠ 0; decide
          · unfold oneSign
            split
            · intro _; show (7 : Int) ≠ 0; decide
            · intro h; exact absurd rfl h
theorem oneName_pos {l : List UInt8} (h : let_ (byteN l 0) = true) : (oneName l).2.2 ≠ 0 := by
  have := (run_yes (p := word) (by decide) (l := l) (k := 0) (by simp [word, h])).2
  rw [List.drop_zero] at this
  show runL word l ≠ 0
  omega
end Go.Proofs.YtmapjahpjolmnaaDoor.Lex
namespace Go.Proofs.YtmapjahpjolmnaaDoor
open Go.RowKit

theorem x_one (s : ByteArray) (re : Bool) (w : World) (hs : s.size ≤ 4294967) (h0 : 0 < s.size) :
    Calls Tryd.prog 45 #[.string s, .bool re] w fun e w' => e = .returned (tokV (Lex.oneL s.data.toList re)) ∧ Below w.heap.size w w' := by
  unfold Lex.oneL
  cases hlet : Lex.let_ (Lex.byteN s.data.toList 0)
  · rw [if_neg (by decide)]
    by_cases hn : 0 < Lex.numL s.data.toList
    · rw [if_pos hn]
      exact x_one_num s re w hs h0 hlet hn
    · rw [if_neg hn]
      exact x_one_rest s re w hs h0 hlet (by omega)
  · rw [if_pos rfl]
    exact x_one_name s re w hs h0 hlet
theorem x_Next (s : ByteArray) (at_ : Int) (re : Bool) (w : World) (hs : s.size ≤ 4294967296) :
    Calls Tryd.prog 38 #[.string s, .int .i64 at_, .bool re] w fun e w' => e = .returned (.tuple #[(Lex.nextL Lex.oneL s.data.toList at_ re).tok, (Lex.nextL Lex.oneL s.data.toList at_ re).fault]) ∧ Below w.heap.size w w' := by
  refine x_next Lex.oneL s at_ re w hs fun h1 h2 h3 h4 w => ?_
  generalize at_.toNat + Lex.passL (s.data.toList.drop at_.toNat) = a at *
  have hsz : (s.extract a s.size).size = s.size - a := ext_size s a
  have h := x_one (s.extract a s.size) re w (by omega) (by omega)
  rw [ext_drop] at h
  refine h.mono ?_
  rintro e w' ⟨rfl, hb⟩
  refine ⟨rfl, hb, ?_⟩
  have := Lex.oneL_le (l := s.data.toList.drop a) (re := re)
  rw [List.length_drop, show s.data.toList.length = s.size from rfl] at this
  omega
end Go.Proofs.YtmapjahpjolmnaaDoor
namespace Go.Proofs.YtmapjahpjolmnaaDoor
open Go.RowKit Tr
/-- Is a text a name? -/
def nameB (s : ByteArray) : Bool := decide ((Lex.nextL Lex.oneL s.data.toList 0 false).err = 0) && (decide ((Lex.nextL Lex.oneL s.data.toList 0 false).k = 4) && decide (wrap64 ((Lex.nextL Lex.oneL s.data.toList 0 false).end_ - (Lex.nextL Lex.oneL s.data.toList 0 false).at_) = s.size))
theorem x_NextA (s : ByteArray) (at_ : Int) (re : Bool) (w : World) (hs : s.size ≤ maxLen) :
    Calls Tryd.prog 38 #[.string s, .int .i64 at_, .bool re] w fun e w' => e = .returned (.tuple #[(Lex.nextL Lex.oneL s.data.toList at_ re).tok, (Lex.nextL Lex.oneL s.data.toList at_ re).fault]) ∧ Below w.heap.size w w' := by
  by_cases hA : s.size ≤ 65536
  · exact x_Next s at_ re w (by omega)
  · unfold maxLen at hs
    have hsl : s.size < 9223372036854775808 := by omega
    have hsA : 65536 < s.size := by omega
    have HN : Hid (Lex.nextL Lex.oneL s.data.toList at_ re = Lex.none_ 3 0) := by unfold Hid Lex.nextL; rw [if_pos (show 65536 < s.data.toList.length from hsA)]
    rw [HN.out]
    clear hs hA
    go_enter Tryd.func38, Tryd.ntmps38
    go_wp2_with fail
    have hfin := fin2 w (.int .u8 0) (.string ⟨#[]⟩) (.int .i64 0) (.int .i64 0) (.int .i64 0) (.int .i64 3) (.int .i64 0)
    obtain ⟨hR, hF, hB'⟩ := hfin
    obtain ⟨⟨c0, c1, c2, c3, c4⟩, -⟩ := hR.five
    obtain ⟨⟨d0, d1⟩, -⟩ := hF.two
    refine bodyPost_ret (v := .tuple #[(Lex.none_ 3 0).tok, (Lex.none_ 3 0).fault]) (by simp [results, Tryd.results38, go_sem, c0, c1, c2, c3, c4, d0, d1, Lex.Out.tok, Lex.Out.fault, Lex.none_]) rfl ⟨rfl, hB'⟩
set_option maxRecDepth 20000 in
set_option maxHeartbeats 4000000 in
theorem w_name (s : ByteArray) (w : World) (hs : s.size ≤ maxLen) : Calls Tryd.prog 32 #[.string s] w fun e w' => e = .returned (.bool (nameB s)) ∧ Below w.heap.size w w' := by
  have HX := Lib.hid (x_NextA s 0 false w hs)
  have hsz : s.size < 9223372036854775808 := by unfold maxLen at hs; omega
  have hnb : nameB s = (decide ((Lex.nextL Lex.oneL s.data.toList 0 false).err = 0) && (decide ((Lex.nextL Lex.oneL s.data.toList 0 false).k = 4) && decide (wrap64 ((Lex.nextL Lex.oneL s.data.toList 0 false).end_ - (Lex.nextL Lex.oneL s.data.toList 0 false).at_) = s.size))) := rfl
  rw [hnb]
  clear hnb hs
  generalize Lex.nextL Lex.oneL s.data.toList 0 false = o at *
  go_enter Tryd.func32, Tryd.ntmps32
  go_wp2_with fail
  refine HX.out.mono ?_
  rintro e w1 ⟨rfl, hb1⟩
  simp only [Lex.Out.tok, Lex.Out.fault]
  have HB1 := Lib.hid hb1
  clear hb1
  go_wp2_with fail
  all_goals
    have HB2 := Lib.hid ((HB1.out.alloc HB1.out.size (.cells #[.int .u8 o.k, .string o.s, .int .i64 o.line, .int .i64 o.at_, .int .i64 o.end_] 78)).alloc (by have := HB1.out.size; simp; omega) (.cells #[.int .i64 o.err, .int .i64 o.eline] 81))
    go_ret
    refine ⟨?_, by have := HB2.out; simp_all⟩
    (simp_all <;> rfl)
end Go.Proofs.YtmapjahpjolmnaaDoor
namespace Go.Proofs.YtmapjahpjolmnaaDoor
open Go.RowKit
namespace Tr
section
variable (al : XE → Bool)
mutual
/-- Right, nested at most so deep. -/
def exprR : XE → Int → Bool
  | .mk k s n l, m => if m < 1 then false else al (.mk k s n l) && exprsR l (m - 1)
def exprsR : List XE → Int → Bool
  | [], _ => true
  | e :: r, m => exprR e m && exprsR r m
end
theorem exprR_eq (e : XE) (m : Int) : exprR al e m = if m < 1 then false else al e && exprsR al e.kids (m - 1) := by
  cases e; rw [exprR]; rfl
theorem exprsR_nil (m : Int) : exprsR al [] m = true := by rw [exprsR]
theorem exprsR_cons (e : XE) (r : List XE) (m : Int) : exprsR al (e :: r) m = (exprR al e m && exprsR al r m) := by rw [exprsR]
/-- The fold of 'Expr'. -/
def stE (a : Bool) (e : XE) (d : Int) : Bool := a && (decide (d ≤ 60) && al e)
mutual
theorem foldE_R : ∀ (e : XE) (d : Int) (a : Bool), d ≤ 61 → foldE (stE al) 61 e d a = (a && exprR al e (61 - d))
  | .mk k s n l, d, a, h => by
    rw [foldE_eq, exprR_eq, show (XE.mk k s n l).kids = l from rfl]
    by_cases h2 : d ≤ 60
    · rw [foldEs_R l (d + 1) _ (by omega), if_neg (by omega)]
      unfold stE
      rw [decide_eq_true h2, Bool.true_and, Bool.and_assoc]
      show (a && (al _ && exprsR al l _)) = _
      rw [show (61 : Int) - (d + 1) = 61 - d - 1 by omega]
    · rw [foldEs_deep _ _ (by omega), if_pos (by omega)]
      unfold stE
      rw [decide_eq_false h2]
      simp
theorem foldEs_R : ∀ (l : List XE) (d : Int) (a : Bool), d ≤ 61 → foldEs (stE al) 61 l d a = (a && exprsR al l (61 - d))
  | [], d, a, _ => by rw [foldEs_nil, exprsR_nil, Bool.and_true]
  | e :: r, d, a, h => by
    rw [foldEs_cons, if_neg (by omega), foldEs_R r d _ h, foldE_R e d a h, exprsR_cons, Bool.and_assoc]
end
/-- 'Expr'. -/
theorem fold_Expr (e : XE) : foldEs (stE al) 61 [e] 1 true = exprR al e 60 := by
  rw [foldEs_R al [e] 1 true (by decide), exprsR_cons, exprsR_nil, Bool.and_true, Bool.true_and]
  rfl
end
mutual
/-- How many, how deep, down to so many levels. -/
def sizeE : XE → Int → Int × Int
  | .mk _ _ _ l, m => sizeEs l m
def sizeEs : List XE → Int → Int × Int
  | [], _ => (0, 0)
  | e :: r, m => if m < 1 then (0, 0) else ((sizeE e (m - 1)).1 + 1 + (sizeEs r m).1, max ((sizeE e (m - 1)).2 + 1) (sizeEs r m).2)
end
theorem sizeE_eq (e : XE) (m : Int) : sizeE e m = sizeEs e.kids m := by cases e; rw [sizeE]; rfl
theorem sizeEs_nil (m : Int) : sizeEs [] m = (0, 0) := by rw [sizeEs]
theorem sizeEs_cons (e : XE) (r : List XE) (m : Int) : sizeEs (e :: r) m = if m < 1 then (0, 0) else ((sizeE e (m - 1)).1 + 1 + (sizeEs r m).1, max ((sizeE e (m - 1)).2 + 1) (sizeEs r m).2) := by rw [sizeEs]
mutual
def sizeS : XS → Int → Int × Int
  | .mk _ _ _ l b o _, m => ((sizeEs l m).1 + (sizeSs b m).1 + (sizeSs o m).1, max (sizeEs l m).2 (max (sizeSs b m).2 (sizeSs o m).2))
def sizeSs : List XS → Int → Int × Int
  | [], _ => (0, 0)
  | e :: r, m => if m < 1 then (0, 0) else ((sizeS e (m - 1)).1 + 1 + (sizeSs r m).1, max ((sizeS e (m - 1)).2 + 1) (sizeSs r m).2)
end
theorem sizeS_eq (e : XS) (m : Int) : sizeS e m = ((sizeEs e.exprs m).1 + (sizeSs e.body m).1 + (sizeSs e.els m).1, max (sizeEs e.exprs m).2 (max (sizeSs e.body m).2 (sizeSs e.els m).2)) := by cases e; rw [sizeS]; rfl
theorem sizeSs_nil (m : Int) : sizeSs [] m = (0, 0) := by rw [sizeSs]
theorem sizeSs_cons (e : XS) (r : List XS) (m : Int) : sizeSs (e :: r) m = if m < 1 then (0, 0) else ((sizeS e (m - 1)).1 + 1 + (sizeSs r m).1, max ((sizeS e (m - 1)).2 + 1) (sizeSs r m).2) := by rw [sizeSs]
/-- The fold of 'Size'. -/
def stN {X : Type} (a : Int × Int) (_ : X) (d : Int) : Int × Int := (a.1 + 1, max a.2 d)
mutual
theorem foldE_N : ∀ (e : XE) (d : Int) (a : Int × Int), d ≤ 61 → d - 1 ≤ a.2 → foldE stN 61 e d a = (a.1 + 1 + (sizeE e (61 - d)).1, max a.2 (d + (sizeE e (61 - d)).2))
  | .mk k s n l, d, a, h, h2 => by
    rw [foldE_eq, sizeE_eq]
    have h3 := foldEs_N l (d + 1) (stN a (XE.mk k s n l) d) (by unfold stN; simp only; omega)
    show foldEs stN 61 l (d + 1) _ = _
    rw [h3, show (62 : Int) - (d + 1) = 61 - d by omega]
    unfold stN
    simp only
    refine Prod.ext rfl ?_
    show max (max a.2 d) (d + 1 - 1 + (sizeEs l (61 - d)).2) = max a.2 (d + (sizeEs l (61 - d)).2)
    have h4 := sizeEs_nn l (61 - d)
    omega
theorem foldEs_N : ∀ (l : List XE) (d : Int) (a : Int × Int), d - 1 ≤ a.2 → foldEs stN 61 l d a = (a.1 + (sizeEs l (62 - d)).1, max a.2 (d - 1 + (sizeEs l (62 - d)).2))
  | [], d, a, h2 => by
    rw [foldEs_nil, sizeEs_nil]
    refine Prod.ext (by simp) ?_
    show a.2 = max a.2 (d - 1 + 0)
    omega
  | e :: r, d, a, h2 => by
    rw [foldEs_cons, sizeEs_cons]
    by_cases h : 61 < d
    · rw [if_pos h, if_pos (by omega)]
      refine Prod.ext (by simp) ?_
      show a.2 = max a.2 (d - 1 + 0)
      omega
    · rw [if_neg h, if_neg (by omega)]
      have h3 := foldE_N e d a (by omega) h2
      rw [h3, foldEs_N r d _ (by simp only; omega), show (62 : Int) - d - 1 = 61 - d by omega]
      simp only
      refine Prod.ext ?_ ?_
      · simp only; omega
      · simp only; omega
theorem sizeEs_nn : ∀ (l : List XE) (m : Int), 0 ≤ (sizeEs l m).2
  | [], m => by rw [sizeEs_nil]; exact Int.le_refl _
  | e :: r, m => by
    rw [sizeEs_cons]
    split
    · exact Int.le_refl _
    · have := sizeEs_nn r m
      simp only
      omega
end
mutual
theorem foldS_N : ∀ (e : XS) (d : Int) (a : Int × Int), d ≤ 61 → d - 1 ≤ a.2 → foldS stN stN 61 e d a = (a.1 + 1 + (sizeS e (61 - d)).1, max a.2 (d + (sizeS e (61 - d)).2))
  | .mk k s n l b o ln, d, a, h, h2 => by
    rw [foldS_eq, sizeS_eq]
    show foldSs stN stN 61 o (d + 1) (foldSs stN stN 61 b (d + 1) (foldEs stN 61 l (d + 1) (stN a _ d))) = _
    rw [foldEs_N l (d + 1) _ (by unfold stN; simp only; omega), foldSs_N b (d + 1) _ (by unfold stN; simp only; omega), foldSs_N o (d + 1) _ (by unfold stN; simp only; omega), show (62 : Int) - (d + 1) = 61 - d by omega]
    unfold stN
    have h4 := sizeEs_nn l (61 - d)
    have h5 := sizeSs_nn b (61 - d)
    have h6 := sizeSs_nn o (61 - d)
    refine Prod.ext ?_ ?_
    · show a.1 + 1 + (sizeEs l (61 - d)).1 + (sizeSs b (61 - d)).1 + (sizeSs o (61 - d)).1 = a.1 + 1 + ((sizeEs l (61 - d)).1 + (sizeSs b (61 - d)).1 + (sizeSs o (61 - d)).1)
      omega
    · show max (max (max (max a.2 d) (d + 1 - 1 + (sizeEs l (61 - d)).2)) (d + 1 - 1 + (sizeSs b (61 - d)).2)) (d + 1 - 1 + (sizeSs o (61 - d)).2) = max a.2 (d + max (sizeEs l (61 - d)).2 (max (sizeSs b (61 - d)).2 (sizeSs o (61 - d)).2))
      omega
theorem foldSs_N : ∀ (l : List XS) (d : Int) (a : Int × Int), d - 1 ≤ a.2 → foldSs stN stN 61 l d a = (a.1 + (sizeSs l (62 - d)).1, max a.2 (d - 1 + (sizeSs l (62 - d)).2))
  | [], d, a, h2 => by
    rw [foldSs_nil, sizeSs_nil]
    refine Prod.ext (by simp) ?_
    show a.2 = max a.2 (d - 1 + 0)
    omega
  | e :: r, d, a, h2 => by
    rw [foldSs_cons, sizeSs_cons]
    by_cases h : 61 < d
    · rw [if_pos h, if_pos (by omega)]
      refine Prod.ext (by simp) ?_
      show a.2 = max a.2 (d - 1 + 0)
      omega
    · rw [if_neg h, if_neg (by omega)]
      have h3 := foldS_N e d a (by omega) h2
      rw [h3, foldSs_N r d _ (by simp only; omega), show (62 : Int) - d - 1 = 61 - d by omega]
      simp only
      refine Prod.ext ?_ ?_
      · simp only; omega
      · simp only; omega
theorem sizeSs_nn : ∀ (l : List XS) (m : Int), 0 ≤ (sizeSs l m).2
  | [], m => by rw [sizeSs_nil]; exact Int.le_refl _
  | e :: r, m => by
    rw [sizeSs_cons]
    split
    · exact Int.le_refl _
    · have := sizeSs_nn r m
      simp only
      omega
end
section
variable (al : XE → Bool) (sh : XS → Bool)
mutual
def stmtR : XS → Int → Bool
  | .mk k s n l b o ln, m => sh (.mk k s n l b o ln) && (exprsR al l (m - 1) && (stmtsR b (m - 1) && stmtsR o (m - 1)))
def stmtsR : List XS → Int → Bool
  | [], _ => true
  | e :: r, m => if m < 1 then false else stmtR e m && stmtsR r m
end
theorem stmtR_eq (e : XS) (m : Int) : stmtR al sh e m = (sh e && (exprsR al e.exprs (m - 1) && (stmtsR al sh e.body (m - 1) && stmtsR al sh e.els (m - 1)))) := by cases e; rw [stmtR]; rfl
theorem stmtsR_nil (m : Int) : stmtsR al sh [] m = true := by rw [stmtsR]
theorem stmtsR_cons (e : XS) (r : List XS) (m : Int) : stmtsR al sh (e :: r) m = if m < 1 then false else stmtR al sh e m && stmtsR al sh r m := by rw [stmtsR]
/-- The folds of 'Right'. -/
def stA (a : Bool) (e : XE) (_ : Int) : Bool := a && al e
def stB (a : Bool) (e : XS) (_ : Int) : Bool := a && sh e
mutual
theorem foldE_A : ∀ (e : XE) (d : Int) (a : Bool), d ≤ 60 → (sizeE e (61 - d)).2 ≤ 60 - d → foldE (stA al) 60 e d a = (a && exprR al e (61 - d))
  | .mk k s n l, d, a, h, h2 => by
    rw [foldE_eq, exprR_eq, if_neg (by omega)]
    show foldEs (stA al) 60 l (d + 1) (a && al (.mk k s n l)) = (a && (al (.mk k s n l) && exprsR al l (61 - d - 1)))
    rw [sizeE_eq] at h2
    rw [foldEs_A l (d + 1) _ (by omega) (by rw [show (62 : Int) - (d + 1) = 61 - d by omega]; show (sizeEs l (61 - d)).2 ≤ _; have : (sizeEs l (61 - d)).2 ≤ 60 - d := h2; omega), Bool.and_assoc, show (61 : Int) - (d + 1) = 61 - d - 1 by omega]
theorem foldEs_A : ∀ (l : List XE) (d : Int) (a : Bool), d ≤ 61 → (sizeEs l (62 - d)).2 ≤ 61 - d → foldEs (stA al) 60 l d a = (a && exprsR al l (61 - d))
  | [], d, a, _, _ => by rw [foldEs_nil, exprsR_nil, Bool.and_true]
  | e :: r, d, a, h, h2 => by
    rw [sizeEs_cons, if_neg (by omega), show (62 : Int) - d - 1 = 61 - d by omega] at h2
    simp only at h2
    have h3 := sizeE_nn e (61 - d)
    rw [foldEs_cons, if_neg (by omega), foldEs_A r d _ h (by omega), foldE_A e d a (by omega) (by omega), exprsR_cons, Bool.and_assoc]
theorem sizeE_nn : ∀ (e : XE) (m : Int), 0 ≤ (sizeE e m).2
  | .mk k s n l, m => by rw [sizeE_eq]; exact sizeEs_nn l m
end
mutual
theorem foldS_A : ∀ (e : XS) (d : Int) (a : Bool), d ≤ 60 → (sizeS e (61 - d)).2 ≤ 60 - d → foldS (stA al) (stB sh) 60 e d a = (a && stmtR al sh e (61 - d))
  | .mk k s n l b o ln, d, a, h, h2 => by
    rw [foldS_eq, stmtR_eq]
    rw [sizeS_eq] at h2
    have h3 : max (sizeEs l (61 - d)).2 (max (sizeSs b (61 - d)).2 (sizeSs o (61 - d)).2) ≤ 60 - d := h2
    show foldSs (stA al) (stB sh) 60 o (d + 1) (foldSs (stA al) (stB sh) 60 b (d + 1) (foldEs (stA al) 60 l (d + 1) (a && sh _))) = (a && (sh _ && (exprsR al l (61 - d - 1) && (stmtsR al sh b (61 - d - 1) && stmtsR al sh o (61 - d - 1)))))
    have e1 : (62 : Int) - (d + 1) = 61 - d := by omega
    rw [foldEs_A al l (d + 1) _ (by omega) (by rw [e1]; omega), foldSs_A b (d + 1) _ (by omega) (by rw [e1]; omega), foldSs_A o (d + 1) _ (by omega) (by rw [e1]; omega), show (61 : Int) - (d + 1) = 61 - d - 1 by omega]
    simp only [Bool.and_assoc]
theorem foldSs_A : ∀ (l : List XS) (d : Int) (a : Bool), d ≤ 61 → (sizeSs l (62 - d)).2 ≤ 61 - d → foldSs (stA al) (stB sh) 60 l d a = (a && stmtsR al sh l (61 - d))
  | [], d, a, _, _ => by rw [foldSs_nil, stmtsR_nil, Bool.and_true]
  | e :: r, d, a, h, h2 => by
    rw [sizeSs_cons, if_neg (by omega), show (62 : Int) - d - 1 = 61 - d by omega] at h2
    simp only at h2
    have h3 := sizeS_nn e (61 - d)
    rw [foldSs_cons, if_neg (by omega), foldSs_A r d _ h (by omega), foldS_A e d a (by omega) (by omega), stmtsR_cons, if_neg (by omega), Bool.and_assoc]
theorem sizeS_nn : ∀ (e : XS) (m : Int), 0 ≤ (sizeS e m).2
  | .mk k s n l b o ln, m => by
    rw [sizeS_eq]
    have := sizeEs_nn l m
    show 0 ≤ max (sizeEs l m).2 _
    omega
end
end
end Tr
end Go.Proofs.YtmapjahpjolmnaaDoor
namespace Go.Proofs.YtmapjahpjolmnaaDoor
open Go.RowKit
namespace Tr
/-- How many, how deep: a program. -/
def sizeI (a : Int × Int) (x : XI) : Int × Int := (a.1 + (sizeEs x.exprs 61).1 + (sizeSs x.body 61).1, max (max a.2 (sizeEs x.exprs 61).2) (sizeSs x.body 61).2)
def sizeP (l : List XI) : Int × Int := l.foldl sizeI (0, 0)
def foldI {σ : Type} (se : σ → XE → Int → σ) (ss : σ → XS → Int → σ) (most : Int) (a : σ) (x : XI) : σ := foldSs se ss most x.body 1 (foldEs se most x.exprs 1 a)
theorem foldI_N (a : Int × Int) (x : XI) (h : 0 ≤ a.2) : foldI stN stN 61 a x = sizeI a x ∧ 0 ≤ (sizeI a x).2 := by
  unfold foldI sizeI
  rw [foldEs_N x.exprs 1 a (by omega), foldSs_N x.body 1 _ (by simp only; omega)]
  refine ⟨Prod.ext ?_ ?_, ?_⟩
  · show a.1 + (sizeEs x.exprs (62 - 1)).1 + (sizeSs x.body (62 - 1)).1 = a.1 + (sizeEs x.exprs 61).1 + (sizeSs x.body 61).1
    rfl
  · show max (max a.2 (1 - 1 + (sizeEs x.exprs (62 - 1)).2)) (1 - 1 + (sizeSs x.body (62 - 1)).2) = max (max a.2 (sizeEs x.exprs 61).2) (sizeSs x.body 61).2
    rw [show (62 : Int) - 1 = 61 from rfl, show (1 : Int) - 1 = 0 from rfl, Int.zero_add, Int.zero_add]
  · show 0 ≤ max (max a.2 _) _
    omega
theorem sizeI_le (a : Int × Int) (x : XI) : a.2 ≤ (sizeI a x).2 ∧ (sizeEs x.exprs 61).2 ≤ (sizeI a x).2 ∧ (sizeSs x.body 61).2 ≤ (sizeI a x).2 := by
  unfold sizeI
  simp only
  omega
theorem fold_le : ∀ (l : List XI) (a : Int × Int), a.2 ≤ (l.foldl sizeI a).2 ∧ ∀ x ∈ l, (sizeEs x.exprs 61).2 ≤ (l.foldl sizeI a).2 ∧ (sizeSs x.body 61).2 ≤ (l.foldl sizeI a).2
  | [], a => ⟨Int.le_refl _, fun x hx => by cases hx⟩
  | y :: l, a => by
    have h := fold_le l (sizeI a y)
    have h2 := sizeI_le a y
    rw [List.foldl_cons]
    refine ⟨by omega, fun x hx => ?_⟩
    rcases List.mem_cons.1 hx with rfl | hx
    · omega
    · exact h.2 x hx
theorem sizeP_le {l : List XI} {x : XI} (hx : x ∈ l) : (sizeEs x.exprs 61).2 ≤ (sizeP l).2 ∧ (sizeSs x.body 61).2 ≤ (sizeP l).2 := (fold_le l (0, 0)).2 x hx
mutual
theorem sizeE_n1 : ∀ (e : XE) (m : Int), 0 ≤ (sizeE e m).1
  | .mk k s n l, m => by rw [sizeE_eq]; exact sizeEs_n1 l m
theorem sizeEs_n1 : ∀ (l : List XE) (m : Int), 0 ≤ (sizeEs l m).1
  | [], m => by rw [sizeEs_nil]; exact Int.le_refl _
  | e :: r, m => by
    rw [sizeEs_cons]
    split
    · exact Int.le_refl _
    · have := sizeE_n1 e (m - 1)
      have := sizeEs_n1 r m
      simp only
      omega
end
mutual
theorem sizeS_n1 : ∀ (e : XS) (m : Int), 0 ≤ (sizeS e m).1
  | .mk k s n l b o ln, m => by
    rw [sizeS_eq]
    have := sizeEs_n1 l m
    have := sizeSs_n1 b m
    have := sizeSs_n1 o m
    show 0 ≤ (sizeEs l m).1 + (sizeSs b m).1 + (sizeSs o m).1
    omega
theorem sizeSs_n1 : ∀ (l : List XS) (m : Int), 0 ≤ (sizeSs l m).1
  | [], m => by rw [sizeSs_nil]; exact Int.le_refl _
  | e :: r, m => by
    rw [sizeSs_cons]
    split
    · exact Int.le_refl _
    · have := sizeS_n1 e (m - 1)
      have := sizeSs_n1 r m
      simp only
      omega
end
theorem sizeI_n1 : ∀ (l : List XI) (a : Int × Int), a.1 ≤ (l.foldl sizeI a).1
  | [], a => Int.le_refl _
  | x :: l, a => by
    have h := sizeI_n1 l (sizeI a x)
    have h1 := sizeEs_n1 x.exprs 61
    have h2 := sizeSs_n1 x.body 61
    have h3 : (sizeI a x).1 = a.1 + (sizeEs x.exprs 61).1 + (sizeSs x.body 61).1 := rfl
    rw [List.foldl_cons]
    omega
theorem sizeP_nn (l : List XI) : 0 ≤ (sizeP l).1 := sizeI_n1 l (0, 0)
section
variable (nm : ByteArray → Bool) (al : XE → Bool)
def plainB (e : XS) : Bool := decide (e.s.size = 0) && decide (e.n = 0)
def loopB (e : XS) : Bool := decide (e.s.size = 0) && (decide (0 ≤ e.n ∧ e.n ≤ 7) && (decide ((e.exprs.length : Int) = e.n / 2 % 2) && (decide ((e.els.length : Int) = e.n % 2 + e.n / 4) && e.els.all (fun x => decide (x.k = 1)))))
def one4 (l : List XE) : Bool := match l with
  | [x] => decide (x.k = 4)
  | _ => false
def shapeF (k : Int) (z : Bool) (n : Int) (m1 m2 m3 : Nat) (nm lp o4 : Bool) : Bool :=
  if k = 1 then (z && decide (n = 0)) && decide (m1 = 1 ∧ m2 + m3 = 0)
  else if k = 2 then z && decide (0 ≤ n ∧ n ≤ 3 ∧ (0 < n → 0 < m1) ∧ m2 + m3 = 0)
  else if k = 3 then z && decide (0 ≤ n ∧ n ≤ 3 ∧ 0 < m1 ∧ (0 < n → 1 < m1) ∧ m2 + m3 = 0)
  else if k = 4 then (z && decide (n = 0)) && decide (m1 = 1)
  else if k = 5 ∨ k = 6 then (z && decide (n = 0)) && decide (m1 = 1 ∧ m3 = 0)
  else if k = 7 then lp
  else if k = 8 then nm && (decide (n = 0) && (o4 && decide (m3 = 0)))
  else if k = 9 ∨ k = 10 ∨ k = 11 then (z && decide (n = 0)) && decide (wrap64 (wrap64 ((m1 : Int) + m2) + m3) = 0)
  else if k = 12 ∨ k = 13 then (z && decide (n = 0)) && decide (m1 ≤ 1 ∧ m2 + m3 = 0)
  else if k = 14 then nm && (decide (n = 0) && decide (m2 + m3 = 0))
  else if k = 15 then (z && decide (n = 0)) && decide (m1 + m3 = 0)
  else false
/-- Is a statement right, but for what is within? -/
def shapeB (e : XS) : Bool := shapeF e.k (decide (e.s.size = 0)) e.n e.exprs.length e.body.length e.els.length (nm e.s) (loopB e) (one4 e.exprs)
def bareB (x : XI) : Bool := decide (x.name.size = 0) && decide (x.params.length = 0)
/-- Is an item right, but for what is within? -/
def itemB (x : XI) : Bool :=
  if x.k = 1 ∨ x.k = 2 then bareB x && (decide (x.exprs.length = 0) && !x.has)
  else if x.k = 3 then bareB x && (decide (x.exprs.length ≤ 2) && (x.has || decide (0 < x.exprs.length ∧ x.body.length = 0)))
  else if x.k = 4 then nm x.name && (decide (x.params.length ≤ 20) && (x.params.all nm && (decide (x.exprs.length = 0) && !x.has)))
  else false
def insideB (x : XI) : Bool := exprsR al x.exprs 60 && stmtsR al (shapeB nm) x.body 60
/-- May a program be? -/
def rightB (l : List XI) : Bool := decide ((sizeP l).1 ≤ 4000 ∧ (sizeP l).2 ≤ 60) && l.all (fun x => itemB nm x && insideB nm al x)
/-- The program's last loop. -/
def stR (a : Bool) (x : XI) : Bool := foldI (stA al) (stB (shapeB nm)) 60 (a && itemB nm x) x
theorem stR_eq (a : Bool) (x : XI) (h : (sizeEs x.exprs 61).2 ≤ 60) (h2 : (sizeSs x.body 61).2 ≤ 60) : stR nm al a x = (a && (itemB nm x && insideB nm al x)) := by
  unfold stR foldI insideB
  rw [foldEs_A al x.exprs 1 _ (by decide) (by show (sizeEs x.exprs (62 - 1)).2 ≤ 60; exact h), foldSs_A al (shapeB nm) x.body 1 _ (by decide) (by show (sizeSs x.body (62 - 1)).2 ≤ 60; exact h2)]
  show ((a && itemB nm x) && exprsR al x.exprs 60 && stmtsR al (shapeB nm) x.body 60) = _
  simp only [Bool.and_assoc]
theorem foldR_eq : ∀ (l : List XI) (a : Bool), (∀ x ∈ l, (sizeEs x.exprs 61).2 ≤ 60 ∧ (sizeSs x.body 61).2 ≤ 60) → l.foldl (stR nm al) a = (a && l.all (fun x => itemB nm x && insideB nm al x))
  | [], a, _ => by simp
  | x :: l, a, h => by
    have h1 := h x (List.mem_cons_self ..)
    rw [List.foldl_cons, stR_eq nm al a x h1.1 h1.2, foldR_eq l _ (fun y hy => h y (List.mem_cons_of_mem _ hy)), List.all_cons, Bool.and_assoc]
theorem right_eq (l : List XI) (h : (sizeP l).1 ≤ 4000 ∧ (sizeP l).2 ≤ 60) : l.foldl (stR nm al) true = rightB nm al l := by
  rw [foldR_eq nm al l true (fun x hx => by have := sizeP_le hx; omega), Bool.true_and]
  unfold rightB
  rw [decide_eq_true h, Bool.true_and]
end
end Tr
end Go.Proofs.YtmapjahpjolmnaaDoor
