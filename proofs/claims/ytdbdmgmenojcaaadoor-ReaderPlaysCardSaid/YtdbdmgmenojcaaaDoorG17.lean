/- The records of a text between empty lines, plain. No program in sight. -/
import Derived.Test.YtdbdmgmenojcaaaDoorG16
import Derived.Test.YtdbdmgmenojcaaaDoorG3
import Derived.Test.YtdbdmgmenojcaaaDoorG11
set_option linter.unusedVariables false
set_option linter.unusedSimpArgs false
namespace Go.Proofs.YtdbdmgmenojcaaaDoor
namespace Rd
open Go.Lib
def pBare (T : List UInt8) : List UInt8 := trimLeftB T 10
def pHas (T : List UInt8) : Bool := (cut (pBare T) [10, 10]).2.2
def pRec (T : List UInt8) : List UInt8 := if pHas T then (cut (pBare T) [10, 10]).1 else trimSuffix (cut (pBare T) [10, 10]).1 [10]
def pRest (T : List UInt8) : List UInt8 := trimLeftB (cut (pBare T) [10, 10]).2.1 10
def pSo (T : List UInt8) : Bool := pHas T && !decide (pRest T = [])
theorem cut_hit {s sep : List UInt8} (h : (cut s sep).2.2 = true) : s = (cut s sep).1 ++ sep ++ (cut s sep).2.1 ∧ index s sep = (cut s sep).1.length ∧ ∀ j, j < (cut s sep).1.length → occAt s sep j = false := by
  rcases index_spec s sep with ⟨h1, h2⟩ | ⟨i, h1, h2, h3, h4⟩
  · exfalso
    unfold cut at h
    rw [h1] at h
    simp at h
  · have hc : cut s sep = (s.take i, s.drop (i + sep.length), true) := by
      unfold cut
      rw [h1, if_pos (by omega)]
      simp
    rw [hc]
    have hl : (s.take i).length = i := by rw [List.length_take]; omega
    refine ⟨?_, by rw [h1, hl], fun j hj => h4 j (by rw [hl] at hj; exact hj)⟩
    unfold occAt at h3
    obtain ⟨r, hr⟩ := List.isPrefixOf_iff_prefix.1 h3
    have e2 : s.drop (i + sep.length) = r := by rw [← List.drop_drop, ← hr]; simp
    show s = s.take i ++ sep ++ s.drop (i + sep.length)
    rw [e2, List.append_assoc, hr, List.take_append_drop]
theorem cut_miss {s sep : List UInt8} (h : (cut s sep).2.2 = false) : cut s sep = (s, [], false) ∧ index s sep = -1 ∧ ∀ j, j ≤ s.length → occAt s sep j = false := by
  rcases index_spec s sep with ⟨h1, h2⟩ | ⟨i, h1, h2, h3, h4⟩
  · exact ⟨by unfold cut; rw [h1]; rfl, h1, h2⟩
  · exfalso
    unfold cut at h
    rw [h1, if_pos (by omega)] at h
    simp at h
theorem occ_app {s sub : List UInt8} (r : List UInt8) {j : Nat} (h : j + sub.length ≤ s.length) : occAt (s ++ r) sub j = occAt s sub j := by
  unfold occAt
  rw [List.drop_append_of_le_length (by omega)]
  have hl : sub.length ≤ (s.drop j).length := by rw [List.length_drop]; omega
  rw [Bool.eq_iff_iff, List.isPrefixOf_iff_prefix, List.isPrefixOf_iff_prefix]
  constructor
  · intro h1; exact List.prefix_of_prefix_length_le h1 (List.prefix_append _ _) hl
  · intro h1; exact h1.trans (List.prefix_append _ _)
theorem occ_mid (p sub r : List UInt8) : occAt (p ++ sub ++ r) sub p.length = true := by
  unfold occAt
  rw [List.append_assoc, List.drop_left, List.isPrefixOf_iff_prefix]
  exact List.prefix_append _ _
theorem trim_split (T : List UInt8) : ∃ p, T = p ++ pBare T ∧ (∀ x ∈ p, x = 10) := by
  refine ⟨T.takeWhile (· == 10), ?_, ?_⟩
  · unfold pBare trimLeftB; exact (List.takeWhile_append_dropWhile).symm
  · intro x hx
    induction T with
    | nil => simp at hx
    | cons y l ih =>
      by_cases hy : y = 10
      · subst hy
        simp at hx
        rcases hx with rfl | hx
        · rfl
        · exact ih hx
      · simp [hy] at hx
theorem bare_head (T : List UInt8) : (pBare T).head? ≠ some 10 := by
  unfold pBare trimLeftB
  induction T with
  | nil => simp
  | cons y l ih =>
    by_cases hy : y = 10
    · subst hy; simpa using ih
    · simp [hy]
theorem bare_app {l : List UInt8} (r : List UInt8) (h : pBare l ≠ []) : pBare (l ++ r) = pBare l ++ r := by
  unfold pBare trimLeftB at *
  rw [List.dropWhile_append, if_neg (by simpa using h)]
theorem so_has {l : List UInt8} (h : pSo l = true) : pHas l = true ∧ pRest l ≠ [] := by
  unfold pSo at h
  simpa using h
theorem so_app {l : List UInt8} (r : List UInt8) (h : pSo l = true) : pRec (l ++ r) = pRec l ∧ pRest (l ++ r) = pRest l ++ r ∧ pHas (l ++ r) = true := by
  obtain ⟨h1, h2⟩ := so_has h
  have hh : (cut (pBare l) [10, 10]).2.2 = true := h1
  obtain ⟨g1, g2, g3⟩ := cut_hit hh
  have hne : pBare l ≠ [] := by intro e; rw [e] at g1; simp at g1
  have hb := bare_app r hne
  have hlen := congrArg List.length g1
  simp at hlen
  have hix : index (pBare l ++ r) [10, 10] = (cut (pBare l) [10, 10]).1.length := by
    refine index_first ?_ ?_ ?_
    · rw [List.length_append]; omega
    · rw [occ_app r (by show _ + 2 ≤ _; omega)]
      have h9 := occ_mid (cut (pBare l) [10, 10]).1 [10, 10] (cut (pBare l) [10, 10]).2.1
      rw [← g1] at h9
      exact h9
    · intro j hj
      rw [occ_app r (by show _ + 2 ≤ _; omega)]
      exact g3 j hj
  have hc : cut (pBare (l ++ r)) [10, 10] = ((cut (pBare l) [10, 10]).1, (cut (pBare l) [10, 10]).2.1 ++ r, true) := by
    rw [hb]
    unfold cut
    rw [hix, g2, if_pos (by omega), if_pos (by omega)]
    show (_, _, _) = (_, _, _)
    rw [List.take_append_of_le_length (by omega), List.drop_append_of_le_length (by show _ + 2 ≤ _; omega)]
  refine ⟨?_, ?_, ?_⟩
  · unfold pRec pHas
    rw [hc, hh]
  · unfold pRest
    rw [hc]
    exact bare_app r h2
  · unfold pHas
    rw [hc]
/-- No two, one behind the other. -/
theorem no_two {t : List UInt8} (h : ∀ j, j + 2 ≤ t.length → occAt t [10, 10] j = false) : contains t [10, 10] = false := by
  unfold contains
  rcases index_spec t [10, 10] with ⟨h1, -⟩ | ⟨i, h1, h2, h3, -⟩
  · rw [h1]; rfl
  · rcases occAt_room h3 with h4 | h4
    · rw [h i h4] at h3; cases h3
    · cases h4
theorem occ_last {p : List UInt8} (r : List UInt8) : occAt (p ++ [10] ++ (10 :: r)) [10, 10] p.length = true := by
  have := occ_mid p [10, 10] r
  simpa using this
theorem rec_spec (T : List UInt8) : (∃ p m : List UInt8, T = p ++ pRec T ++ m ++ pRest T ∧ (∀ x ∈ p, x = 10) ∧ (∀ x ∈ m, x = 10)) ∧ (pRec T).head? ≠ some 10 ∧ (pRec T).getLast? ≠ some 10 ∧ contains (pRec T) [10, 10] = false ∧ (pRec T = [] → pRest T = []) := by
  obtain ⟨p, hp, hp10⟩ := trim_split T
  have hhead := bare_head T
  by_cases hh : pHas T = true
  · obtain ⟨g1, g2, g3⟩ := cut_hit (show (cut (pBare T) [10, 10]).2.2 = true from hh)
    obtain ⟨m, hm, hm10⟩ := trim_split (cut (pBare T) [10, 10]).2.1
    have er : pRec T = (cut (pBare T) [10, 10]).1 := by unfold pRec; rw [if_pos hh]
    have et : pRest T = pBare (cut (pBare T) [10, 10]).2.1 := rfl
    rw [er, et]
    generalize (cut (pBare T) [10, 10]).1 = t at *
    generalize (cut (pBare T) [10, 10]).2.1 = r at *
    refine ⟨⟨p, [10, 10] ++ m, ?_, hp10, ?_⟩, ?_, ?_, ?_, ?_⟩
    · conv => lhs; rw [hp, g1, hm]
      simp
    · intro x hx
      simp at hx
      rcases hx with h | h
      · exact h
      · exact hm10 x h
    · cases t with
      | nil => simp
      | cons y t => rw [g1] at hhead; simpa using hhead
    · intro hl
      obtain ⟨t', rfl⟩ : ∃ t', t = t' ++ [10] := by
        rcases List.eq_nil_or_concat t with rfl | ⟨t', x, e⟩
        · simp at hl
        · rw [List.concat_eq_append] at e; subst e; simp at hl; exact ⟨t', by rw [hl]⟩
      have h1 := g3 t'.length (by simp)
      rw [g1] at h1
      have h2 := occ_last (p := t') (10 :: r)
      simp at h1 h2
      rw [h2] at h1
      cases h1
    · refine no_two fun j hj => ?_
      have h1 := g3 j (by omega)
      rw [g1, List.append_assoc, occ_app _ (by show j + 2 ≤ _; exact hj)] at h1
      exact h1
    · rintro rfl
      rw [g1] at hhead
      simp at hhead
  · have hh' : (cut (pBare T) [10, 10]).2.2 = false := by simpa [pHas] using hh
    obtain ⟨g1, -, g3⟩ := cut_miss hh'
    have et : pRest T = [] := by unfold pRest; rw [g1]; rfl
    have er : pRec T = trimSuffix (pBare T) [10] := by unfold pRec; rw [if_neg hh, g1]
    rw [er, et]
    generalize pBare T = B at *
    have key : ∃ q, B = trimSuffix B [10] ++ q ∧ (q = [] ∨ q = [10]) ∧ (q = [] → B.getLast? ≠ some 10) := by
      unfold trimSuffix
      by_cases hs : hasSuffix B [10] = true
      · rw [if_pos hs]
        obtain ⟨q, hq⟩ := List.isSuffixOf_iff_suffix.1 hs
        refine ⟨[10], ?_, .inr rfl, fun h => by cases h⟩
        rw [← hq]; simp
      · rw [if_neg hs]
        refine ⟨[], by simp, .inl rfl, fun _ hl => hs ?_⟩
        rcases List.eq_nil_or_concat B with rfl | ⟨t', x, e⟩
        · simp at hl
        · rw [List.concat_eq_append] at e; subst e; simp at hl; subst hl
          exact List.isSuffixOf_iff_suffix.2 ⟨t', rfl⟩
    obtain ⟨q, hq, hq2, hq3⟩ := key
    generalize trimSuffix B [10] = t at *
    subst hq
    refine ⟨⟨p, q, ?_, hp10, ?_⟩, ?_, ?_, ?_, fun _ => rfl⟩
    · conv => lhs; rw [hp]
      simp
    · intro x hx
      rcases hq2 with rfl | rfl
      · simp at hx
      · simpa using hx
    · cases t with
      | nil => simp
      | cons y t => simpa using hhead
    · intro hl
      obtain ⟨t', rfl⟩ : ∃ t', t = t' ++ [10] := by
        rcases List.eq_nil_or_concat t with rfl | ⟨t', x, e⟩
        · simp at hl
        · rw [List.concat_eq_append] at e; subst e; simp at hl; exact ⟨t', by rw [hl]⟩
      rcases hq2 with rfl | rfl
      · exact hq3 rfl (by simp)
      · have h1 := g3 t'.length (by simp)
        have h2 := occ_last (p := t') []
        rw [h2] at h1; cases h1
    · refine no_two fun j hj => ?_
      have h1 := g3 j (by simp; omega)
      rw [occ_app _ (by show j + 2 ≤ _; exact hj)] at h1
      exact h1
def kept (l : List UInt8) : List UInt8 := l.filter (· != 10)
theorem kept_app (a b : List UInt8) : kept (a ++ b) = kept a ++ kept b := List.filter_append ..
theorem kept_none {p : List UInt8} (h : ∀ x ∈ p, x = 10) : kept p = [] := by
  unfold kept
  rw [List.filter_eq_nil_iff]
  intro x hx
  simp [h x hx]
theorem kept_rec (T : List UInt8) : kept T = kept (pRec T) ++ kept (pRest T) := by
  obtain ⟨⟨p, m, h, hp, hm⟩, -⟩ := rec_spec T
  conv => lhs; rw [h]
  rw [kept_app, kept_app, kept_app, kept_none hp, kept_none hm]
  simp
theorem rec_len (T : List UInt8) : (pRec T).length + (pRest T).length ≤ T.length := by
  obtain ⟨⟨p, m, h, -, -⟩, -⟩ := rec_spec T
  have := congrArg List.length h
  simp at this
  omega
theorem rec_end {T : List UInt8} (h : pRec T = []) : kept T = [] := by
  rw [kept_rec, h, (rec_spec T).2.2.2.2 h]; rfl
theorem replace_all (s : List UInt8) : replaceAll s [10] [] = kept s := by
  have gen : ∀ (n : Nat) (s : List UInt8), s.count 10 = n → replaceK [10] [] n s = kept s := by
    intro n
    induction n with
    | zero =>
      intro s hs
      rw [List.count_eq_zero] at hs
      show s = kept s
      unfold kept
      rw [List.filter_eq_self.2]
      intro x hx
      have : x ≠ 10 := fun e => hs (e ▸ hx)
      simpa using this
    | succ n ih =>
      intro s hs
      have hm : (10 : UInt8) ∈ s := by
        rw [← List.one_le_count_iff]; omega
      have hsp := tw_split hm
      have h1 := (index_one 10 s).1 hm
      rw [replaceK_hit [10] [] n s _ h1]
      obtain ⟨e1, e2⟩ := split_at hsp
      rw [e1]
      show tw 10 s ++ [] ++ replaceK [10] [] n (s.drop ((tw 10 s).length + 1)) = _
      rw [e2]
      have hn := tw_not 10 s
      have hc : (rest1 10 s).count 10 = n := by
        rw [hsp, List.count_append, List.count_cons_self, List.count_eq_zero.2 hn] at hs
        omega
      rw [ih _ hc]
      conv => rhs; rw [hsp]
      rw [kept_app, List.append_nil]
      congr 1
      unfold kept
      rw [List.filter_eq_self.2]
      intro x hx
      have : x ≠ 10 := fun e => hn (e ▸ hx)
      simpa using this
  unfold replaceAll replace
  rw [if_neg (by simp)]
  have e : replaceNum s [10] (-1) = s.count 10 := by
    unfold replaceNum
    rw [if_pos (.inl (by omega)), count_one]
  rw [e]
  exact gen _ s rfl
/-- A piece is found no later than where it stands. -/
theorem index_upto {s p t r : List UInt8} (h : s = p ++ t ++ r) : ∃ k : Nat, index s t = k ∧ k ≤ p.length := by
  rcases index_spec s t with ⟨h1, h2⟩ | ⟨i, h1, h2, h3, h4⟩
  · exfalso
    have := h2 p.length (by rw [h]; simp)
    rw [h, occ_mid] at this
    cases this
  · refine ⟨i, h1, ?_⟩
    by_cases hi : i ≤ p.length
    · exact hi
    · exfalso
      have := h4 p.length (by omega)
      rw [h, occ_mid] at this
      cases this
/-- What is left stands at the end of what has not been passed. -/
def Ahead (s : List UInt8) (pos : Nat) (T : List UInt8) : Prop := pos ≤ s.length ∧ ∃ p, s.drop pos = p ++ T
theorem ahead_start (s : List UInt8) : Ahead s 0 s := ⟨Nat.zero_le _, [], by simp⟩
theorem ahead_less {s : List UInt8} {pos : Nat} {T T' : List UInt8} (h : Ahead s pos T) (hT : ∃ q, T = q ++ T') : Ahead s pos T' := by
  obtain ⟨h1, p, h2⟩ := h
  obtain ⟨q, rfl⟩ := hT
  exact ⟨h1, p ++ q, by rw [h2, List.append_assoc]⟩
theorem ahead_step {s : List UInt8} {pos : Nat} {T t T' : List UInt8} (h : Ahead s pos T) (hT : ∃ q m, T = q ++ t ++ m ++ T') : ∃ k : Nat, index (s.drop pos) t = k ∧ pos + k + t.length ≤ s.length ∧ Ahead s (pos + k + t.length) T' := by
  obtain ⟨h1, p, h2⟩ := h
  obtain ⟨q, m, rfl⟩ := hT
  have h3 : s.drop pos = (p ++ q) ++ t ++ (m ++ T') := by rw [h2]; simp
  obtain ⟨k, hk, hkl⟩ := index_upto h3
  have hlen := congrArg List.length h3
  simp at hlen hkl
  refine ⟨k, hk, by omega, by omega, ?_⟩
  have h4 : s.drop (pos + k + t.length) = ((p ++ q ++ t).drop (k + t.length)) ++ (m ++ T') := by
    rw [Nat.add_assoc, ← List.drop_drop, h3, List.drop_append_of_le_length (by simp; omega)]
  exact ⟨(p ++ q ++ t).drop (k + t.length) ++ m, by rw [h4]; simp⟩
theorem one_in (b : UInt8) (T : List UInt8) : ∃ q m, T = q ++ tw b T ++ m ++ rest1 b T := by
  by_cases hb : b ∈ T
  · exact ⟨[], [b], by conv => lhs; rw [tw_split hb]
                       simp⟩
  · obtain ⟨e1, e2⟩ := tw_all hb
    exact ⟨[], [], by rw [e1, e2]; simp⟩
theorem para_in (T : List UInt8) : ∃ q m, T = q ++ pRec T ++ m ++ pRest T := by
  obtain ⟨⟨p, m, h, -, -⟩, -⟩ := rec_spec T
  exact ⟨p, m, h⟩
end Rd
end Go.Proofs.YtdbdmgmenojcaaaDoor
namespace Go.Proofs.YtdbdmgmenojcaaaDoor
open Go.RowKit Wd
namespace Wd
/-- How much a stream has left. -/
def remL (st : St) (k : Int) (name : ByteArray) : Nat :=
  if k = 1 ∧ name = minus then st.stdin.size else match Wd.find st k name with
  | none => 0
  | some i => (st.opn.getD i smZero).left.size
structure Lim (z : Nat) (st : St) : Prop where
  inp : st.stdin.size ≤ z
  op : ∀ s ∈ st.opn, s.left.size ≤ z
  no : st.opn.length ≤ 1000
  nf : st.fails.length ≤ 1000
theorem findIdx_set {α : Type} (p : α → Bool) (x : α) : ∀ (l : List α) (i : Nat), (∀ h : i < l.length, p x = p l[i]) → (l.set i x).findIdx? p = l.findIdx? p
  | [], _, _ => rfl
  | a :: l, 0, h => by
    have e : p x = p a := h (by simp)
    rw [List.set_cons_zero, List.findIdx?_cons, List.findIdx?_cons, e]
  | a :: l, i + 1, h => by
    rw [List.set_cons_succ, List.findIdx?_cons, List.findIdx?_cons, findIdx_set p x l i (fun hi => h (by simpa using hi))]
theorem cut_left (n : Int) (s : ByteArray) : (s.extract (cutN n s) s.size).size + (s.extract 0 (cutN n s)).size = s.size := by
  have h : cutN n s ≤ s.size := Nat.min_le_right _ _
  rw [ByteArray.size_extract, ByteArray.size_extract]
  omega
variable {st st' : St} {rs rs' : RSt} {z : Nat}
theorem readL_lim (h : Lim z st) (k : Int) (name : ByteArray) (n : Int) : Lim z (readL st k name n).1 := by
  unfold readL
  split
  · exact h
  split
  · exact h
  rename_i i hf
  split
  · exact h
  split
  · exact h
  split
  · refine { h with inp := ?_ }
    show (st.stdin.extract _ _).size ≤ z
    have := cut_left n st.stdin
    have := h.inp
    omega
  · have hil : i < st.opn.length := (List.findIdx?_eq_some_iff_getElem.1 hf).1
    have hm : st.opn.getD i smZero ∈ st.opn := by simp [List.getD_eq_getElem?_getD, List.getElem?_eq_getElem hil]
    refine { h with op := ?_, no := ?_ }
    · intro s hs
      rcases List.mem_or_eq_of_mem_set hs with h1 | h1
      · exact h.op s h1
      · subst h1
        show ((st.opn.getD i smZero).left.extract _ _).size ≤ z
        have := h.op _ hm
        have := cut_left n (st.opn.getD i smZero).left
        omega
    · show (st.opn.set i _).length ≤ 1000
      rw [List.length_set]; exact h.no
theorem readL_rem (k : Int) (name : ByteArray) (n : Int) (h : (readL st k name n).2.2 = 0) : remL (readL st k name n).1 k name + (readL st k name n).2.1.size = remL st k name := by
  unfold readL at h ⊢
  by_cases hk : ¬ (k = 1 ∨ k = 2)
  · rw [if_pos hk] at h
    exact absurd h (show ¬ (16 : Int) = 0 by decide)
  rw [if_neg hk] at h ⊢
  cases hf : Wd.find st k name with
  | none =>
    rw [hf] at h
    exact absurd h (show ¬ (16 : Int) = 0 by decide)
  | some i =>
    rw [hf] at h
    simp only at h ⊢
    by_cases h1 : n < 1
    · rw [if_pos h1] at h
      exact absurd h (show ¬ (2 : Int) = 0 by decide)
    rw [if_neg h1] at h ⊢
    by_cases h2 : failB st 2 name = true
    · rw [if_pos h2] at h
      exact absurd h (show ¬ (13 : Int) = 0 by decide)
    rw [if_neg h2] at h ⊢
    by_cases h3 : k = 1 ∧ name = minus
    · rw [if_pos h3]
      simp only
      unfold remL
      rw [if_pos h3, if_pos h3]
      exact cut_left n st.stdin
    · rw [if_neg h3]
      simp only
      have hil : i < st.opn.length := (List.findIdx?_eq_some_iff_getElem.1 hf).1
      have hg : st.opn.getD i smZero = st.opn[i] := by simp [List.getD_eq_getElem?_getD, List.getElem?_eq_getElem hil]
      have hf2 : Wd.find { st with opn := setAtL st.opn i ((st.opn.getD i smZero).left.extract (cutN n (st.opn.getD i smZero).left) (st.opn.getD i smZero).left.size) } k name = some i := by
        show List.findIdx? (hit k name) (setAtL st.opn i _) = some i
        rw [← hf]
        unfold setAtL
        refine findIdx_set _ _ _ _ (fun hi => ?_)
        rw [hg]
        rfl
      unfold remL
      rw [if_neg h3, if_neg h3, hf2, hf]
      simp only
      have e : (setAtL st.opn i ((st.opn.getD i smZero).left.extract (cutN n (st.opn.getD i smZero).left) (st.opn.getD i smZero).left.size)).getD i smZero = { st.opn.getD i smZero with left := (st.opn.getD i smZero).left.extract (cutN n (st.opn.getD i smZero).left) (st.opn.getD i smZero).left.size } := by
        unfold setAtL
        simp [List.getD_eq_getElem?_getD, hil]
      rw [e]
      exact cut_left n _
/-- What fails leaves the world as it was. -/
theorem readL_fail (k : Int) (name : ByteArray) (n : Int) (e : (readL st k name n).2.2 ≠ 0) : (readL st k name n).1 = st := by
  unfold readL at e ⊢
  by_cases hk : ¬ (k = 1 ∨ k = 2)
  · rw [if_pos hk]
  rw [if_neg hk] at e ⊢
  cases hf : Wd.find st k name with
  | none => rfl
  | some i =>
    rw [hf] at e
    simp only at e ⊢
    by_cases h1 : n < 1
    · rw [if_pos h1]
    rw [if_neg h1] at e ⊢
    by_cases h2 : failB st 2 name = true
    · rw [if_pos h2]
    rw [if_neg h2] at e ⊢
    by_cases h3 : k = 1 ∧ name = minus
    · rw [if_pos h3] at e
      exact absurd rfl e
    · rw [if_neg h3] at e
      exact absurd rfl e
theorem rem_le (h : Lim z st) (k : Int) (name : ByteArray) : remL st k name ≤ z := by
  unfold remL
  split
  · exact h.inp
  split
  · exact Nat.zero_le _
  · rename_i i hf
    have hil : i < st.opn.length := (List.findIdx?_eq_some_iff_getElem.1 hf).1
    exact h.op _ (by simp [List.getD_eq_getElem?_getD, List.getElem?_eq_getElem hil])
/-- Reads of 512 bytes, as long as something is not so: the program's world. -/
inductive PullL (so : List UInt8 → Bool) (k : Int) (name : ByteArray) : St → ByteArray → Bool → St → ByteArray → Bool → Int → Prop
  | stop {st : St} {l : ByteArray} {fin : Bool} (h : fin = true ∨ so l.data.toList = true) : PullL so k name st l fin st l fin 0
  | fail {st : St} {l : ByteArray} (h : so l.data.toList = false) (e : (readL st k name 512).2.2 ≠ 0) : PullL so k name st l false (readL st k name 512).1 l false (readL st k name 512).2.2
  | step {st st' : St} {l l' : ByteArray} {fin' : Bool} {e : Int} (h : so l.data.toList = false) (e0 : (readL st k name 512).2.2 = 0)
      (hr : PullL so k name (readL st k name 512).1 (l ++ (readL st k name 512).2.1) (decide ((readL st k name 512).2.1.size = 0)) st' l' fin' e) : PullL so k name st l false st' l' fin' e
/-- .. and the document's. -/
inductive PullR (so : List UInt8 → Bool) (k : Int) (name : ByteArray) : RSt → ByteArray → Bool → RSt → ByteArray → Bool → Int → Prop
  | stop {rs : RSt} {l : ByteArray} {fin : Bool} (h : fin = true ∨ so l.data.toList = true) : PullR so k name rs l fin rs l fin 0
  | fail {rs : RSt} {l : ByteArray} (h : so l.data.toList = false) (e : (readD rs k name 512).2.2 ≠ 0) : PullR so k name rs l false (readD rs k name 512).1 l false (readD rs k name 512).2.2
  | step {rs rs' : RSt} {l l' : ByteArray} {fin' : Bool} {e : Int} (h : so l.data.toList = false) (e0 : (readD rs k name 512).2.2 = 0)
      (hr : PullR so k name (readD rs k name 512).1 (l ++ (readD rs k name 512).2.1) (decide ((readD rs k name 512).2.1.size = 0)) rs' l' fin' e) : PullR so k name rs l false rs' l' fin' e
theorem pull_corr {so : List UInt8 → Bool} {k : Int} {name l l' : ByteArray} {fin fin' : Bool} {e : Int} (h : PullL so k name st l fin st' l' fin' e) : ∀ {rs rs' : RSt} {l2 : ByteArray} {fin2 : Bool} {e2 : Int}, Corr st rs → PullR so k name rs l fin rs' l2 fin2 e2 → l' = l2 ∧ fin' = fin2 ∧ e = e2 ∧ Corr st' rs' := by
  induction h with
  | stop h =>
    intro rs rs' l2 fin2 e2 hc hr
    cases hr with
    | stop _ => exact ⟨rfl, rfl, rfl, hc⟩
    | fail h1 _ => rcases h with h | h; cases h; rw [h] at h1; cases h1
    | step h1 _ _ => rcases h with h | h; cases h; rw [h] at h1; cases h1
  | fail h e =>
    intro rs rs' l2 fin2 e2 hc hr
    obtain ⟨c1, c2⟩ := hc.read k name 512
    cases hr with
    | stop h1 => rcases h1 with h1 | h1; cases h1; rw [h] at h1; cases h1
    | fail _ _ => exact ⟨rfl, rfl, by rw [c1], c2⟩
    | step _ e0 _ => rw [← c1] at e0; exact absurd e0 e
  | step h e0 _ ih =>
    intro rs rs' l2 fin2 e2 hc hr
    obtain ⟨c1, c2⟩ := hc.read k name 512
    cases hr with
    | stop h1 => rcases h1 with h1 | h1; cases h1; rw [h] at h1; cases h1
    | fail _ e1 => rw [← c1] at e1; exact absurd e0 e1
    | step _ _ hr => rw [← c1] at hr; exact ih c2 hr
theorem pull_lim {so : List UInt8 → Bool} {k : Int} {name l l' : ByteArray} {fin fin' : Bool} {e : Int} (h : PullL so k name st l fin st' l' fin' e) : Lim z st → Lim z st' ∧ l'.size + remL st' k name ≤ l.size + remL st k name := by
  induction h with
  | stop h => exact fun hl => ⟨hl, Nat.le_refl _⟩
  | @fail st l h e =>
    intro hl
    refine ⟨readL_lim hl k name 512, ?_⟩
    have e2 : (readL st k name 512).1 = st := readL_fail k name 512 e
    rw [e2]
    exact Nat.le_refl _
  | @step st st' l l' fin' e h e0 _ ih =>
    intro hl
    obtain ⟨h1, h2⟩ := ih (readL_lim hl k name 512)
    have h3 := readL_rem (st := st) k name 512 e0
    rw [ByteArray.size_append] at h2
    exact ⟨h1, by omega⟩
/-- Is it so, by an RS? -/
def soT (rs l : List UInt8) : Bool := match rs with
  | [] => Rd.pSo l
  | b :: _ => decide (b ∈ l)
/-- What is told, whether, what is left. -/
def tellT (rs l : List UInt8) : List UInt8 × Bool × List UInt8 := match rs with
  | [] => (Rd.pRec l, !decide (Rd.pRec l = []), Rd.pRest l)
  | b :: _ => if l = [] then ([], false, []) else (Rd.tw b l, true, Rd.rest1 b l)
/-- A record, or what fails. -/
def Tells (rs : ByteArray) (l1 : ByteArray) (e : Int) (t : List UInt8) (ok : Bool) (l' : ByteArray) : Prop :=
  (e ≠ 0 ∧ t = [] ∧ ok = false ∧ l' = l1) ∨ (e = 0 ∧ t = (tellT rs.data.toList l1.data.toList).1 ∧ ok = (tellT rs.data.toList l1.data.toList).2.1 ∧ l' = ⟨(tellT rs.data.toList l1.data.toList).2.2.toArray⟩)
theorem tells_det {rs l1 l' l2 : ByteArray} {e : Int} {t t2 : List UInt8} {ok ok2 : Bool} (h : Tells rs l1 e t ok l') (h2 : Tells rs l1 e t2 ok2 l2) : t = t2 ∧ ok = ok2 ∧ l' = l2 := by
  rcases h with ⟨a, b, c, d⟩ | ⟨a, b, c, d⟩ <;> rcases h2 with ⟨a', b', c', d'⟩ | ⟨a', b', c', d'⟩
  · exact ⟨by rw [b, b'], by rw [c, c'], by rw [d, d']⟩
  · exact absurd a' a
  · exact absurd a a'
  · exact ⟨by rw [b, b'], by rw [c, c'], by rw [d, d']⟩
theorem tell_len (rs l : List UInt8) : (tellT rs l).1.length ≤ l.length ∧ (tellT rs l).2.2.length ≤ l.length := by
  unfold tellT
  cases rs with
  | nil => have := Rd.rec_len l; exact ⟨by simp only; omega, by simp only; omega⟩
  | cons b r =>
    simp only
    split
    · exact ⟨Nat.zero_le _, Nat.zero_le _⟩
    · rename_i h
      have := Rd.rest1_len b h
      exact ⟨by simp only; omega, by simp only; omega⟩
def NextLP (rs : ByteArray) (k : Int) (name : ByteArray) (st : St) (l : ByteArray) (fin : Bool) (st' : St) (l' : ByteArray) (fin' : Bool) (e : Int) (t : List UInt8) (ok : Bool) : Prop :=
  ∃ l1, PullL (soT rs.data.toList) k name st l fin st' l1 fin' e ∧ Tells rs l1 e t ok l'
def NextRP (rs : ByteArray) (k : Int) (name : ByteArray) (st : RSt) (l : ByteArray) (fin : Bool) (st' : RSt) (l' : ByteArray) (fin' : Bool) (e : Int) (t : List UInt8) (ok : Bool) : Prop :=
  ∃ l1, PullR (soT rs.data.toList) k name st l fin st' l1 fin' e ∧ Tells rs l1 e t ok l'
theorem next_corr {sep name l l' l2 : ByteArray} {k e e2 : Int} {fin fin' fin2 ok ok2 : Bool} {t t2 : List UInt8} (h : NextLP sep k name st l fin st' l' fin' e t ok) (hc : Corr st rs) (h2 : NextRP sep k name rs l fin rs' l2 fin2 e2 t2 ok2) : l' = l2 ∧ fin' = fin2 ∧ e = e2 ∧ t = t2 ∧ ok = ok2 ∧ Corr st' rs' := by
  obtain ⟨m, h1, h3⟩ := h
  obtain ⟨m2, h4, h5⟩ := h2
  obtain ⟨rfl, rfl, rfl, hc'⟩ := pull_corr h1 hc h4
  obtain ⟨rfl, rfl, rfl⟩ := tells_det h3 h5
  exact ⟨rfl, rfl, rfl, rfl, rfl, hc'⟩
theorem next_size {sep name l l' : ByteArray} {k e : Int} {fin fin' ok : Bool} {t : List UInt8} (h : NextLP sep k name st l fin st' l' fin' e t ok) (hl : Lim z st) : l'.size ≤ l.size + z := by
  obtain ⟨m, h1, h3⟩ := h
  have h2 := (pull_lim h1 hl).2
  have h4 := rem_le hl k name
  have hm : m.data.toList.length = m.size := rfl
  rcases h3 with ⟨-, -, -, rfl⟩ | ⟨-, -, -, rfl⟩
  · omega
  · have := (tell_len sep.data.toList m.data.toList).2
    have e : (⟨(tellT sep.data.toList m.data.toList).2.2.toArray⟩ : ByteArray).size = (tellT sep.data.toList m.data.toList).2.2.length := by simp [ByteArray.size]
    rw [e]
    omega
/-- What a read leaves as it was. -/
structure Same (rs rs' : RSt) : Prop where
  kept : Kept rs rs'
  opn : rs'.opn.length = rs.opn.length
  ev : rs'.events = rs.events
  fl : rs'.files = rs.files
  src : ∀ z : Nat, (∀ s ∈ rs.opn, s.src.size ≤ z) → ∀ s ∈ rs'.opn, s.src.size ≤ z
theorem Same.refl (rs : RSt) : Same rs rs := ⟨⟨rfl, rfl, rfl⟩, rfl, rfl, rfl, fun _ h => h⟩
theorem Same.trans {a b c : RSt} (h : Same a b) (h2 : Same b c) : Same a c :=
  ⟨⟨h2.kept.st.trans h.kept.st, h2.kept.rep.trans h.kept.rep, h2.kept.fails.trans h.kept.fails⟩, h2.opn.trans h.opn, h2.ev.trans h.ev, h2.fl.trans h.fl, fun z hz => h2.src z (h.src z hz)⟩
theorem readD_same (rs : RSt) (k : Int) (name : ByteArray) (n : Int) : Same rs (readD rs k name n).1 := by
  unfold readD
  cases hf : findF rs k name with
  | none => exact .refl _
  | some i =>
    have hil : i < rs.opn.length := (List.findIdx?_eq_some_iff_getElem.1 hf).1
    have hmm : rs.opn.getD i smZ ∈ rs.opn := by simp [List.getD_eq_getElem?_getD, List.getElem?_eq_getElem hil]
    simp only
    split
    · exact .refl _
    split
    · exact .refl _
    split
    · exact .refl _
    split
    · exact ⟨⟨rfl, rfl, rfl⟩, rfl, rfl, rfl, fun _ h => h⟩
    · refine ⟨⟨rfl, rfl, rfl⟩, List.length_set, rfl, rfl, fun z hz s hs => ?_⟩
      rcases List.mem_or_eq_of_mem_set hs with h1 | h1
      · exact hz s h1
      · subst h1
        show (rs.opn.getD i smZ).src.size ≤ z
        exact hz _ hmm
theorem pullR_same {so : List UInt8 → Bool} {k : Int} {name l l' : ByteArray} {fin fin' : Bool} {e : Int} (h : PullR so k name rs l fin rs' l' fin' e) : Same rs rs' := by
  induction h with
  | stop _ => exact .refl _
  | fail _ _ => exact readD_same _ _ _ _
  | step _ _ _ ih => exact (readD_same _ _ _ _).trans ih
end Wd
end Go.Proofs.YtdbdmgmenojcaaaDoor
namespace Go.Proofs.YtdbdmgmenojcaaaDoor
open Go.RowKit Wd
open Go.WideMaps Go.WideElems Go.WideAt
set_option maxRecDepth 20000 in
set_option maxHeartbeats 4000000 in
theorem wo_newE {w : World} (stdin : ByteArray) (lim : Int) (hlim : 0 ≤ lim ∧ lim ≤ 16) :
    Calls Tryd.prog 12 #[.agg #[.slice none 0 0, .string stdin, .slice none 0 0, .slice none 0 0, .int .i64 lim, .int .i64 0, .int .u64 0]] w fun e w' => ∃ pb M F, e = .returned (.tuple #[.pointer (some ⟨pb, 0, none⟩), .int .i64 0]) ∧ WAt w' F pb M ⟨lim, 0, filesOf [], stdin, [], 0, [], [], []⟩ ∧ Below w.heap.size w w' ∧ (∀ g, F g → w.heap.size ≤ g) ∧ M.m ≤ 0 := by
  have HB := Lib.hid (Blk.new w 38 #[.slice none 0 0, .string stdin, .slice none 0 0, .slice none 0 0, .int .i64 lim, .int .i64 0, .int .u64 0])
  have HB0 := Lib.hid ((Below.refl w.heap.size w).alloc (Nat.le_refl _) (.cells #[.slice none 0 0, .string stdin, .slice none 0 0, .slice none 0 0, .int .i64 lim, .int .i64 0, .int .u64 0] 38))
  go_enter Tryd.func12, Tryd.ntmps12
  go_wp2_with fail
  generalize w.alloc (.cells #[.slice none 0 0, .string stdin, .slice none 0 0, .slice none 0 0, .int .i64 lim, .int .i64 0, .int .u64 0] 38) = w1 at *
  obtain ⟨B, hB⟩ : ∃ B, B = w.heap.size := ⟨_, rfl⟩
  rw [← hB] at HB HB0 ⊢
  have HBE := Lib.hid hB
  have S1 : ∀ w', Blk w' B 38 #[.slice none 0 0, .string stdin, .slice none 0 0, .slice none 0 0, .int .i64 lim, .int .i64 0, .int .u64 0] → w'.cell? ⟨B, 0, none⟩ = some (.slice none 0 0) ∧ w'.cell? ⟨B, 1, none⟩ = some (.string stdin) ∧ w'.cell? ⟨B, 2, none⟩ = some (.slice none 0 0) ∧ w'.cell? ⟨B, 3, none⟩ = some (.slice none 0 0) ∧ w'.cell? ⟨B, 4, none⟩ = some (.int .i64 lim) ∧ w'.cell? ⟨B, 5, none⟩ = some (.int .i64 0) ∧ w'.cell? ⟨B, 6, none⟩ = some (.int .u64 0) := fun w' h => ⟨h.cell 0, h.cell 1, h.cell 2, h.cell 3, h.cell 4, h.cell 5, h.cell 6⟩
  obtain ⟨c0, c1, c2, c3, c4, c5, c6⟩ := S1 w1 HB.out
  clear hB S1
  have hmm := @run_makeMap Tryd.prog
  go_region_held3 (fun w' => w'.cell? ⟨B, 0, none⟩ = some (.slice none 0 0) ∧ w'.cell? ⟨B, 1, none⟩ = some (.string stdin) ∧ w'.cell? ⟨B, 2, none⟩ = some (.slice none 0 0) ∧ w'.cell? ⟨B, 3, none⟩ = some (.slice none 0 0) ∧ w'.cell? ⟨B, 4, none⟩ = some (.int .i64 lim) ∧ w'.cell? ⟨B, 5, none⟩ = some (.int .i64 0) ∧ w'.cell? ⟨B, 6, none⟩ = some (.int .u64 0)) (go_keep) (first | (go_at_call 31; refine (wo_cloneR0 _).mono ?_; rintro e w2 ⟨rfl, rfl⟩) | (go_at_call 32; refine (wo_cloneF0 _).mono ?_; rintro e w2 ⟨rfl, rfl⟩))
  all_goals
    have hmap0 := MapS.made Tryd.prog 9 9 w1
    obtain ⟨bm, hbm⟩ : ∃ bm, bm = w1.heap.size := ⟨_, rfl⟩
    rw [← hbm] at hmap0
    have HBM := Lib.hid hbm
    have HWA : Hid (∃ M0 : Mem, M0.m = 0 ∧ M0.vr = .slice none 0 0 ∧ WAt ((w1.alloc (.map #[] 0)).alloc (.cells #[.bool true, .slice none 0 0, .string stdin, .slice none 0 0, .slice none 0 0, .int .i64 lim, .int .i64 0, .int .u64 0, .map (some w1.heap.size), .string stdin, .slice none 0 0, .int .u64 0, .slice none 0 0, .slice none 0 0, .slice none 0 0] 93)).drew (fun k => k = w1.heap.size ∨ k = w1.heap.size + 1) (w1.heap.size + 1) M0 ⟨lim, 0, filesOf [], stdin, [], 0, [], [], []⟩) := by
      refine ⟨⟨.slice none 0 0, .string stdin, .slice none 0 0, .slice none 0 0, .int .u64 0, w1.heap.size, 0, .slice none 0 0, [], .slice none 0 0, .slice none 0 0, .slice none 0 0⟩, rfl, rfl, ?_⟩
      exact {
        flt := fun k hk => by
          show k < ((w1.alloc _).alloc _).heap.size
          simp; omega
        fp := .inr rfl
        fm := .inl rfl
        fo := fun g hg => by cases hg
        ft := fun g hg => by cases hg
        fr := fun g hg => by cases hg
        ff := fun g hg => by cases hg
        fg := fun g hg => by cases hg
        head := by
          have h := Blk.new (w1.alloc (.map #[] 0)) 93 #[.bool true, .slice none 0 0, .string stdin, .slice none 0 0, .slice none 0 0, .int .i64 lim, .int .i64 0, .int .u64 0, .map (some w1.heap.size), .string stdin, .slice none 0 0, .int .u64 0, .slice none 0 0, .slice none 0 0, .slice none 0 0]
          rw [show (w1.alloc (.map #[] 0)).heap.size = w1.heap.size + 1 by simp] at h
          exact h
        map := by
          rw [hbm] at hmap0
          exact hmap0.of_block (((Below.refl (w1.alloc (.map #[] 0)).heap.size (w1.alloc (.map #[] 0))).alloc (Nat.le_refl _) _).block _ (by simp))
        rowO := World.ownsRow_nil _ _ _ _
        strm := fun i h => by simp at h
        nd := List.nodup_nil
        rowT := World.ownsRow_nil _ _ _ _
        rowR := World.ownsRow_nil _ _ _ _
        rowF := World.ownsRow_nil _ _ _ _ }
    have HB2 := Lib.hid (((HB0.out.alloc (by have := HB0.out.size; have := HBE.out; omega) (.map #[] 0)).alloc (by have := HB0.out.size; have := HBE.out; simp; omega) (.cells #[.bool true, .slice none 0 0, .string stdin, .slice none 0 0, .slice none 0 0, .int .i64 lim, .int .i64 0, .int .u64 0, .map (some w1.heap.size), .string stdin, .slice none 0 0, .int .u64 0, .slice none 0 0, .slice none 0 0, .slice none 0 0] 93)).drew)
    have HBS : Hid (Blk ((w1.alloc (.map #[] 0)).alloc (.cells #[.bool true, .slice none 0 0, .string stdin, .slice none 0 0, .slice none 0 0, .int .i64 lim, .int .i64 0, .int .u64 0, .map (some w1.heap.size), .string stdin, .slice none 0 0, .int .u64 0, .slice none 0 0, .slice none 0 0, .slice none 0 0] 93)).drew B 38 #[.slice none 0 0, .string stdin, .slice none 0 0, .slice none 0 0, .int .i64 lim, .int .i64 0, .int .u64 0]) :=
      below_blk HB.out (((((Below.refl w1.heap.size w1).alloc (Nat.le_refl _) (.map #[] 0)).alloc (by simp) (.cells #[.bool true, .slice none 0 0, .string stdin, .slice none 0 0, .slice none 0 0, .int .i64 lim, .int .i64 0, .int .u64 0, .map (some w1.heap.size), .string stdin, .slice none 0 0, .int .u64 0, .slice none 0 0, .slice none 0 0, .slice none 0 0] 93)).drew)) HB.out.lt
    have HB1S := Lib.hid HB0.out.size
    clear hmap0 hbm c0 c1 c2 c3 c4 c5 c6 hmm
    generalize ((w1.alloc (.map #[] 0)).alloc (.cells #[.bool true, .slice none 0 0, .string stdin, .slice none 0 0, .slice none 0 0, .int .i64 lim, .int .i64 0, .int .u64 0, .map (some w1.heap.size), .string stdin, .slice none 0 0, .int .u64 0, .slice none 0 0, .slice none 0 0, .slice none 0 0] 93)).drew = w2 at *
    obtain ⟨M0, hM0, hMv, hWA⟩ := HWA.out
    have HMV := Lib.hid hMv
    have c0 : w2.cell? ⟨B, 0, none⟩ = some (.slice none 0 0) := HBS.out.cell 0
    have HW0 := Lib.hid hWA
    have HM0 := Lib.hid hM0
    clear HWA hWA hM0 hMv
    obtain ⟨pb, hpb⟩ : ∃ pb, pb = w1.heap.size + 1 := ⟨_, rfl⟩
    rw [← hpb] at HW0 ⊢
    obtain ⟨F0, hF0⟩ : ∃ F0 : Nat → Prop, F0 = fun k => k = w1.heap.size ∨ k = pb := ⟨_, rfl⟩
    have HF0 : Hid (∀ k, F0 k → w.heap.size ≤ k) := by
      unfold Hid; intro k hk; rw [hF0] at hk; have := HB1S.out
      rcases hk with hk | hk <;> omega
    rw [← hF0] at HW0
    clear hF0 hpb
    generalize w1.heap.size = sz1 at *
    go_wp2_with fail
    go_loopw [28] (fun i wr => i = .int .i64 0 ∧ wr = w2) (fun _ _ => 0)
    case atStart => exact ⟨rfl, rfl⟩
    case round =>
      obtain ⟨rfl, rfl⟩ := hrel
      have c13 : wr.cell? ⟨pb, 13, none⟩ = some M0.vr := HW0.out.cell 13
      rw [HMV.out] at c13
      have c4 : wr.cell? ⟨B, 4, none⟩ = some (.int .i64 lim) := HBS.out.cell 4
      have hl1 : ¬ lim < 0 := by omega
      have hl2 : ¬ 16 < lim := by omega
      go_wp2_with fail
      go_loopw [57] (fun i wx => i = .int .i64 0 ∧ wx = wr) (fun _ _ => 0)
      case atStart => exact ⟨rfl, rfl⟩
      case round =>
        obtain ⟨rfl, rfl⟩ := hrel
        go_wp2_with fail
        go_ret2
        exact ⟨pb, M0, F0, rfl, HW0.out, by have := HB2.out; rw [HBE.out] at this; exact this, HF0.out, by rw [HM0.out]; exact Nat.le_refl _⟩
end Go.Proofs.YtdbdmgmenojcaaaDoor
namespace Go.Proofs.YtdbdmgmenojcaaaDoor
open Go.RowKit Wd
def rcells (pb : Nat) (left : ByteArray) (fin ended : Bool) : Array Value := #[.pointer (some ⟨pb, 0, none⟩), .int .u8 1, .string minus, .string left, .bool fin, .bool ended]
/-- A reader of the input at block rb, its world at pb, made since w0; apart from the blocks X. -/
structure RdS (X : Nat → Prop) (w0 w : World) (rb pb : Nat) (left stdin : ByteArray) (fin ended : Bool) : Prop where
  wat : ∃ M F st, WAt w F pb M st ∧ (∀ g, F g → w0.heap.size ≤ g) ∧ (∀ g, F g → ¬ X g) ∧ ¬ F rb ∧ st.stdin = stdin ∧ find st 1 minus = some 0 ∧ failB st 2 minus = false ∧ st.opn.length ≤ 9 ∧ st.fails.length ≤ 9
  below : Below w0.heap.size w0 w
  rd : Blk w rb 26 (rcells pb left fin ended)
  rb0 : w0.heap.size ≤ rb
  rbx : ¬ X rb
  xs : ∀ g, X g → w0.heap.size ≤ g ∧ g < w.heap.size
  size : left.size + stdin.size ≤ 5000
  fin0 : fin = true → stdin.size = 0
section
variable {X : Nat → Prop} {w0 w w' : World} {rb pb : Nat} {left stdin : ByteArray} {fin ended : Bool}
theorem RdS.pure (h : RdS X w0 w rb pb left stdin fin ended) (hb : Below w.heap.size w w') : RdS X w0 w' rb pb left stdin fin ended where
  wat := by
    obtain ⟨M, F, st, h1, r⟩ := h.wat
    exact ⟨M, F, st, h1.pure hb, r⟩
  below := h.below.trans (hb.mono h.below.size)
  rd := below_blk h.rd hb h.rd.lt
  rb0 := h.rb0
  rbx := h.rbx
  xs := fun g hg => by have := h.xs g hg; have := hb.size; omega
  size := h.size
  fin0 := h.fin0
theorem RdS.drew (h : RdS X w0 w rb pb left stdin fin ended) : RdS X w0 w.drew rb pb left stdin fin ended := h.pure (Below.refl _ _).drew
theorem RdS.drewN (h : RdS X w0 w rb pb left stdin fin ended) (n : Nat) : RdS X w0 (w.drewN n) rb pb left stdin fin ended := h.pure (below_drew w n)
theorem RdS.less {Y : Nat → Prop} (h : RdS X w0 w rb pb left stdin fin ended) (hY : ∀ g, Y g → X g) : RdS Y w0 w rb pb left stdin fin ended where
  wat := by
    obtain ⟨M, F, st, h1, h2, h3, r⟩ := h.wat
    exact ⟨M, F, st, h1, h2, fun g hg hy => h3 g hg (hY g hy), r⟩
  below := h.below
  rd := h.rd
  rb0 := h.rb0
  rbx := fun hy => h.rbx (hY _ hy)
  xs := fun g hg => h.xs g (hY g hg)
  size := h.size
  fin0 := h.fin0
/-- Blocks made since a while are kept apart, too. -/
theorem RdS.grow (h : RdS X w0 w rb pb left stdin fin ended) (hb : Below w.heap.size w w') : RdS (fun i => X i ∨ (w.heap.size ≤ i ∧ i < w'.heap.size)) w0 w' rb pb left stdin fin ended where
  wat := by
    obtain ⟨M, F, st, h1, h2, h3, r⟩ := h.wat
    refine ⟨M, F, st, h1.pure hb, h2, fun g hg hx => ?_, r⟩
    rcases hx with hx | hx
    · exact h3 g hg hx
    · have := h1.flt g hg; omega
  below := h.below.trans (hb.mono h.below.size)
  rd := below_blk h.rd hb h.rd.lt
  rb0 := h.rb0
  rbx := fun hx => by
    rcases hx with hx | hx
    · exact h.rbx hx
    · have := h.rd.lt; omega
  xs := fun g hx => by
    have := hb.size
    have := h.below.size
    rcases hx with hx | hx
    · have := h.xs g hx; omega
    · omega
  size := h.size
  fin0 := h.fin0
theorem RdS.setCell (h : RdS X w0 w rb pb left stdin fin ended) (i : Nat) (u : Value) (left' : ByteArray) (fin' ended' : Bool) (hc : (rcells pb left fin ended).setIfInBounds i u = rcells pb left' fin' ended') (hs : left'.size + stdin.size ≤ 5000) (hf : fin' = true → stdin.size = 0) :
    RdS X w0 (w.setCell ⟨rb, i, none⟩ u) rb pb left' stdin fin' ended' where
  wat := by
    obtain ⟨M, F, st, h1, h2, h3, h4, r⟩ := h.wat
    exact ⟨M, F, st, h1.tur (Tur.of_set ⟨rb, i, none⟩ u) (fun k hk e => h4 (by rw [show rb = k from e.symm]; exact hk)), h2, h3, h4, r⟩
  below := h.below.trans ((Tur.of_set ⟨rb, i, none⟩ u).below _ h.below.size (fun k hk e => by have e : k = rb := e; have := h.rb0; omega))
  rd := by rw [← hc]; exact h.rd.set i u
  rb0 := h.rb0
  rbx := h.rbx
  xs := fun g hg => by have := h.xs g hg; simpa [World.setCell] using this
  size := hs
  fin0 := hf
theorem RdS.turSet (h : RdS X w0 w rb pb left stdin fin ended) (i : Nat) (u : Value) : Tur (fun g => ¬ X g) w (w.setCell ⟨rb, i, none⟩ u) :=
  (Tur.of_set ⟨rb, i, none⟩ u).mono (fun k _ e => by rw [show k = rb from e]; exact h.rbx)
theorem RdS.setLeft (h : RdS X w0 w rb pb left stdin fin ended) (l : ByteArray) (hs : l.size + stdin.size ≤ 5000) : RdS X w0 (w.setCell ⟨rb, 3, none⟩ (.string l)) rb pb l stdin fin ended := h.setCell 3 _ l fin ended rfl hs h.fin0
theorem RdS.setFin (h : RdS X w0 w rb pb left stdin fin ended) (b : Bool) (hb : b = true → stdin.size = 0) : RdS X w0 (w.setCell ⟨rb, 4, none⟩ (.bool b)) rb pb left stdin b ended := h.setCell 4 _ left b ended rfl h.size hb
theorem RdS.setEnded (h : RdS X w0 w rb pb left stdin fin ended) (b : Bool) : RdS X w0 (w.setCell ⟨rb, 5, none⟩ (.bool b)) rb pb left stdin fin b := h.setCell 5 _ left fin b rfl h.size h.fin0
theorem RdS.cells (h : RdS X w0 w rb pb left stdin fin ended) : (w.cell? ⟨rb, 0, none⟩ = some (.pointer (some ⟨pb, 0, none⟩)) ∧ w.cell? ⟨rb, 1, none⟩ = some (.int .u8 1) ∧ w.cell? ⟨rb, 2, none⟩ = some (.string minus) ∧ w.cell? ⟨rb, 3, none⟩ = some (.string left) ∧ w.cell? ⟨rb, 4, none⟩ = some (.bool fin) ∧ w.cell? ⟨rb, 5, none⟩ = some (.bool ended)) ∧
    (w.frozen? ⟨rb, 3, none⟩ = false ∧ w.frozen? ⟨rb, 4, none⟩ = false ∧ w.frozen? ⟨rb, 5, none⟩ = false) :=
  ⟨⟨h.rd.cell 0, h.rd.cell 1, h.rd.cell 2, h.rd.cell 3, h.rd.cell 4, h.rd.cell 5⟩, h.rd.free 3, h.rd.free 4, h.rd.free 5⟩
theorem cut_parts (q : Int) (s : ByteArray) : s.extract 0 (cutN q s) ++ s.extract (cutN q s) s.size = s := by
  have h : cutN q s ≤ s.size := Nat.min_le_right _ _
  generalize cutN q s = k at *
  apply ByteArray.ext
  apply Array.ext'
  simp [ByteArray.data_append, ByteArray.data_extract]
theorem rd_read (h : RdS X w0 w rb pb left stdin fin ended) :
    Calls Tryd.prog 18 #[.pointer (some ⟨pb, 0, none⟩), .int .u8 1, .string minus, .int .i64 512] w fun e w' => ∃ s s' : ByteArray, e = .returned (.tuple #[.string s, .int .i64 0]) ∧ s ++ s' = stdin ∧ (s.size = 0 → stdin.size = 0) ∧ RdS X w0 w' rb pb left s' fin ended ∧ Tur (fun g => ¬ X g) w w' := by
  obtain ⟨M, F, st, h1, h2, h3, h4, rfl, h5, h6, h7, h8⟩ := h.wat
  have hsz := h.size
  refine (wo_read_in h1 512 (by omega) (by omega) (by omega) (by omega) (by omega) 0 h5 h6).mono ?_
  rintro e w2 ⟨rfl, hW', ht⟩
  have hcat := cut_parts ((512 : Nat) : Int) st.stdin
  have hz := congrArg ByteArray.size hcat
  rw [ByteArray.size_append] at hz
  refine ⟨_, _, rfl, hcat, ?_, ?_, ht.mono (fun i _ hi => h3 i hi)⟩
  · intro h0
    have hk : cutN ((512 : Nat) : Int) st.stdin = min 512 st.stdin.size := rfl
    rw [ByteArray.size_extract, hk] at h0
    omega
  · exact {
      wat := ⟨M, F, _, hW', h2, h3, h4, rfl, h5, h6, h7, h8⟩
      below := h.below.trans (ht.below _ h.below.size (fun k hk e => by have := h2 k e; omega))
      rd := h.rd.keep ht h4
      rb0 := h.rb0
      rbx := h.rbx
      xs := fun g hg => by have := h.xs g hg; have := ht.size; omega
      size := by show left.size + (st.stdin.extract _ _).size ≤ 5000; omega
      fin0 := fun e => by have := h.fin0 e; show (st.stdin.extract _ _).size = 0; omega }
end
end Go.Proofs.YtdbdmgmenojcaaaDoor
