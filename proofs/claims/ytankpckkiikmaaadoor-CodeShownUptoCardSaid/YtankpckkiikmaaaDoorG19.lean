/- Code: the plain law of CodeShown: what is shown says the instruction; more registers and more code leave it right. -/
import Derived.Test.YtankpckkiikmaaaDoorG15
import Derived.Test.YtankpckkiikmaaaDoorG1
import Derived.Maps.AppendAt
import Derived.Test.YtankpckkiikmaaaDoorG18
set_option linter.unusedVariables false
set_option linter.unusedSimpArgs false
namespace Go.Proofs.YtankpckkiikmaaaDoor
open Go.RowKit Cod
namespace Cod
/-- Nothing, or a blank and more. -/
def Ends (r : List UInt8) : Prop := r = [] ∨ ∃ t, r = 32 :: t
theorem split_sp : ∀ {x y r r' : List UInt8}, 32 ∉ x → 32 ∉ y → Ends r → Ends r' → x ++ r = y ++ r' → x = y ∧ r = r'
  | [], [], _, _, _, _, _, _, h => ⟨rfl, h⟩
  | [], b :: y, r, r', _, hy, hr, _, h => by
    rcases hr with rfl | ⟨t, rfl⟩
    · simp at h
    · simp only [List.nil_append, List.cons_append, List.cons.injEq] at h
      exact absurd (by rw [h.1]; exact List.mem_cons_self) hy
  | a :: x, [], r, r', hx, _, _, hr', h => by
    rcases hr' with rfl | ⟨t, rfl⟩
    · simp at h
    · simp only [List.nil_append, List.cons_append, List.cons.injEq] at h
      exact absurd (by rw [← h.1]; exact List.mem_cons_self) hx
  | a :: x, b :: y, r, r', hx, hy, hr, hr', h => by
    simp only [List.cons_append, List.cons.injEq] at h
    obtain ⟨h1, h2⟩ := split_sp (fun hm => hx (List.mem_cons_of_mem _ hm)) (fun hm => hy (List.mem_cons_of_mem _ hm)) hr hr' h.2
    exact ⟨by rw [h.1, h1], h2⟩
theorem tail_ends (r : List (List UInt8)) : Ends (Lib.joinTail [32] r) := by
  cases r with
  | nil => exact .inl rfl
  | cons x r => exact .inr ⟨x ++ Lib.joinTail [32] r, by simp [Lib.joinTail]⟩
theorem tail_cons (x : List UInt8) (r : List (List UInt8)) : Lib.joinTail [32] (x :: r) = 32 :: (x ++ Lib.joinTail [32] r) := by simp [Lib.joinTail]
theorem tail_inj : ∀ (r r' : List (List UInt8)), (∀ x ∈ r, 32 ∉ x) → (∀ x ∈ r', 32 ∉ x) → Lib.joinTail [32] r = Lib.joinTail [32] r' → r = r'
  | [], [], _, _, _ => rfl
  | [], y :: r', _, _, h => by rw [tail_cons] at h; cases h
  | x :: r, [], _, _, h => by rw [tail_cons] at h; cases h
  | x :: r, y :: r', h1, h2, h => by
    rw [tail_cons, tail_cons] at h
    obtain ⟨e1, e2⟩ := split_sp (h1 x List.mem_cons_self) (h2 y List.mem_cons_self) (tail_ends _) (tail_ends _) (List.cons.inj h).2
    rw [e1, tail_inj r r' (fun z hz => h1 z (List.mem_cons_of_mem _ hz)) (fun z hz => h2 z (List.mem_cons_of_mem _ hz)) e2]
/-- The number that digits say. -/
def valD (l : List UInt8) : Nat := l.foldl (fun a b => 10 * a + (b.toNat - 48)) 0
theorem dig_toNat {d : Nat} (h : d < 10) : (UInt8.ofNat (48 + d)).toNat = 48 + d := by
  rw [UInt8.toNat_ofNat']; omega
theorem valD_dec : ∀ u : Nat, valD (Lib.decDigits u) = u := by
  intro u
  induction u using Nat.strongRecOn with
  | _ u ih =>
    rw [Lib.decDigits]
    by_cases h : u < 10
    · rw [dif_pos h]
      show 10 * 0 + ((UInt8.ofNat (48 + u)).toNat - 48) = u
      rw [dig_toNat h]; omega
    · rw [dif_neg h]
      have h1 := ih (u / 10) (by omega)
      unfold valD at h1 ⊢
      rw [List.foldl_append, h1]
      show 10 * (u / 10) + ((UInt8.ofNat (48 + u % 10)).toNat - 48) = u
      rw [dig_toNat (Nat.mod_lt _ (by omega))]; omega
theorem dec_dig : ∀ u : Nat, ∀ b ∈ Lib.decDigits u, 48 ≤ b.toNat ∧ b.toNat ≤ 57 := by
  intro u
  induction u using Nat.strongRecOn with
  | _ u ih =>
    intro b hb
    rw [Lib.decDigits] at hb
    by_cases h : u < 10
    · rw [dif_pos h] at hb
      simp only [List.mem_singleton] at hb
      rw [hb, dig_toNat h]; omega
    · rw [dif_neg h] at hb
      rcases List.mem_append.1 hb with hb | hb
      · exact ih (u / 10) (by omega) b hb
      · simp only [List.mem_singleton] at hb
        rw [hb, dig_toNat (Nat.mod_lt _ (by omega))]; omega
theorem itoa_inj {m n : Int} (h : Lib.itoa m = Lib.itoa n) : m = n := by
  unfold Lib.itoa at h
  have key : ∀ (u v : Nat), ¬ (45 :: Lib.decDigits u) = Lib.decDigits v := fun u v he => by
    have := dec_dig v 45 (by rw [← he]; exact List.mem_cons_self)
    simp at this
  by_cases hm : m < 0 <;> by_cases hn : n < 0
  · rw [if_pos hm, if_pos hn] at h
    have := congrArg valD (List.cons.inj h).2
    rw [valD_dec, valD_dec] at this
    omega
  · rw [if_pos hm, if_neg hn] at h; exact absurd h (key _ _)
  · rw [if_neg hm, if_pos hn] at h; exact absurd h.symm (key _ _)
  · rw [if_neg hm, if_neg hn] at h
    have := congrArg valD h
    rw [valD_dec, valD_dec] at this
    omega
theorem itoa_sp (n : Int) : 32 ∉ Lib.itoa n := by
  have key : ∀ u : Nat, (32 : UInt8) ∉ Lib.decDigits u := fun u hm => by
    have := dec_dig u 32 hm
    simp at this
  unfold Lib.itoa
  split
  · intro hm
    rcases List.mem_cons.1 hm with h | h
    · exact absurd h (by decide)
    · exact key _ h
  · exact key _
theorem itB_list (n : Int) : (itB n).data.toList = Lib.itoa n := by simp [itB]
theorem names_sp : ∀ x ∈ namesS, (32 : UInt8) ∉ x.data.toList := by decide
theorem names_nodup : namesS.Pairwise (fun a b => a.data.toList ≠ b.data.toList) := by decide
theorem names_inj {i j : Nat} (hi : i < 36) (hj : j < 36) (h : (namesS.getD i ⟨#[]⟩).data.toList = (namesS.getD j ⟨#[]⟩).data.toList) : i = j := by
  have hl : namesS.length = 36 := by decide
  have e1 : namesS.getD i ⟨#[]⟩ = namesS[i]'(by omega) := by simp [List.getD_eq_getElem?_getD, List.getElem?_eq_getElem (show i < namesS.length by omega)]
  have e2 : namesS.getD j ⟨#[]⟩ = namesS[j]'(by omega) := by simp [List.getD_eq_getElem?_getD, List.getElem?_eq_getElem (show j < namesS.length by omega)]
  rw [e1, e2] at h
  have hp := List.pairwise_iff_getElem.1 names_nodup
  rcases Nat.lt_trichotomy i j with hlt | heq | hgt
  · exact absurd h (hp i j (by omega) (by omega) hlt)
  · exact heq
  · exact absurd h.symm (hp j i (by omega) (by omega) hgt)
theorem word_sp {op : Int} (h1 : 1 ≤ op) (h2 : op ≤ 36) : (32 : UInt8) ∉ (wordB op).data.toList := by
  unfold wordB
  rw [if_pos ⟨h1, h2⟩]
  have hl : namesS.length = 36 := by decide
  have e1 : namesS.getD (op - 1).toNat ⟨#[]⟩ = namesS[(op - 1).toNat]'(by omega) := by rw [List.getD_eq_getElem?_getD, List.getElem?_eq_getElem (show (op - 1).toNat < namesS.length by omega)]; rfl
  rw [e1]
  exact names_sp _ (List.getElem_mem _)
theorem word_inj {op op' : Int} (h1 : 1 ≤ op) (h2 : op ≤ 36) (h3 : 1 ≤ op') (h4 : op' ≤ 36) (h : (wordB op).data.toList = (wordB op').data.toList) : op = op' := by
  unfold wordB at h
  rw [if_pos ⟨h1, h2⟩, if_pos ⟨h3, h4⟩] at h
  have := names_inj (by omega) (by omega) h
  omega
def restL (i : IV) : List UInt8 := (if empB i.s then [] else 32 :: i.s.data.toList) ++ (if i.args = [] then [] else 32 :: 91 :: (Lib.join ((i.args.map itB).map (·.data.toList)) [32] ++ [93]))
theorem rest_ends (i : IV) : Ends (restL i) := by
  unfold restL
  cases empB i.s
  · exact .inr ⟨_, rfl⟩
  · by_cases h : i.args = []
    · rw [if_pos h]; exact .inl rfl
    · rw [if_neg h]; exact .inr ⟨_, rfl⟩
theorem show_list (i : IV) : (showB i).data.toList = (wordB i.op).data.toList ++ (32 :: (Lib.itoa i.a ++ (32 :: (Lib.itoa i.b ++ (32 :: (Lib.itoa i.c ++ restL i)))))) := by
  have hp : (joinB (partsS i)).data.toList = (wordB i.op).data.toList ++ (32 :: (Lib.itoa i.a ++ (32 :: (Lib.itoa i.b ++ (32 :: (Lib.itoa i.c ++ (if empB i.s then [] else 32 :: i.s.data.toList))))))) := by
    unfold joinB joinD datas partsS
    cases empB i.s <;> simp [Lib.join_cons, Lib.joinTail, itB_list]
  unfold showB restL
  by_cases h : i.args = []
  · rw [if_pos h, if_pos h, hp]; simp
  · rw [if_neg h, if_neg h]
    have e : (joinB (partsS i) ++ ((⟨#[32, 91]⟩ ++ joinB (i.args.map itB)) ++ ⟨#[93]⟩)).data.toList = (joinB (partsS i)).data.toList ++ (32 :: 91 :: ((joinB (i.args.map itB)).data.toList ++ [93])) := by
      simp [ByteArray.data_append]
    rw [e, hp]
    have e2 : (joinB (i.args.map itB)).data.toList = Lib.join ((i.args.map itB).map (·.data.toList)) [32] := by
      unfold joinB joinD datas; simp
    rw [e2]
    simp [List.append_assoc]
def listedOp (op : Int) : Bool := op == 25 || (op == 27 || (op == 28 || (op == 29 || op == 30)))
theorem rows_ops : ∀ r ∈ rowsM, 1 ≤ r.op ∧ r.op ≤ 36 ∧ listedOp r.op = false := by decide
/-- What an instruction that may stand is like. -/
theorem stand {C : CV} {p : PV} {i : IV} (h : insP C p i = true) : 1 ≤ i.op ∧ i.op ≤ 36 ∧ (if listedOp i.op then empB i.s = true else i.n = 0) := by
  unfold insP at h
  cases h56 : (i.op == 5 || i.op == 6)
  case true =>
    rw [h56] at h
    simp only [cond_true, Bool.and_eq_true, decide_eq_true_eq] at h
    have e : i.op = 5 ∨ i.op = 6 := by simpa using h56
    refine ⟨by omega, by omega, ?_⟩
    rw [if_neg (by rcases e with e | e <;> rw [e] <;> decide)]
    exact h.2.2
  rw [h56] at h
  cases h9 : i.op == 9
  case true =>
    rw [h9] at h
    simp only [cond_true, cond_false, Bool.and_eq_true, decide_eq_true_eq] at h
    have e : i.op = 9 := by simpa using h9
    refine ⟨by omega, by omega, ?_⟩
    rw [if_neg (by rw [e]; decide)]
    exact h.2.1
  rw [h9] at h
  cases h26 : i.op == 26
  case true =>
    rw [h26] at h
    simp only [cond_true, cond_false] at h
    have e : i.op = 26 := by simpa using h26
    refine ⟨by omega, by omega, ?_⟩
    rw [if_neg (by rw [e]; decide)]
    unfold builtinB at h
    split at h
    · cases h
    · simp only [Bool.and_eq_true, decide_eq_true_eq] at h
      exact h.2.2.2.1
  rw [h26] at h
  cases hl : (i.op == 25 || (i.op == 27 || (i.op == 28 || (i.op == 29 || i.op == 30))))
  case true =>
    rw [hl] at h
    simp only [cond_true, cond_false, Bool.and_eq_true] at h
    have e : i.op = 25 ∨ i.op = 27 ∨ i.op = 28 ∨ i.op = 29 ∨ i.op = 30 := by simpa using hl
    refine ⟨by omega, by omega, ?_⟩
    rw [if_pos (show listedOp i.op = true from hl)]
    exact h.1
  rw [hl] at h
  simp only [cond_false] at h
  split at h
  · cases h
  · rename_i r hr
    have hop := List.find?_some hr
    have e : i.op = r.op := by simpa using hop
    have hm := rows_ops r (List.mem_of_find?_eq_some hr)
    simp only [Bool.and_eq_true, decide_eq_true_eq] at h
    refine ⟨by omega, by omega, ?_⟩
    rw [if_neg (by rw [e, hm.2.2]; decide)]
    exact h.1
theorem bytes_ext {s t : ByteArray} (h : s.data.toList = t.data.toList) : s = t := by
  obtain ⟨⟨l⟩⟩ := s; obtain ⟨⟨l'⟩⟩ := t
  simp only at h
  rw [h]
/-- TWO THAT MAY STAND AND ARE SHOWN ALIKE ARE THE SAME. -/
theorem shown_same {C : CV} {p : PV} {i j : IV} (hi : insP C p i = true) (hj : insP C p j = true) (li : i.args.length = i.n) (lj : j.args.length = j.n) (h : showB i = showB j) :
    i.op = j.op ∧ i.a = j.a ∧ i.b = j.b ∧ i.c = j.c ∧ i.s = j.s ∧ i.args = j.args := by
  obtain ⟨i1, i2, i3⟩ := stand hi
  obtain ⟨j1, j2, j3⟩ := stand hj
  have hs := congrArg (fun s : ByteArray => s.data.toList) h
  simp only [show_list] at hs
  obtain ⟨w1, hs⟩ := split_sp (word_sp i1 i2) (word_sp j1 j2) (.inr ⟨_, rfl⟩) (.inr ⟨_, rfl⟩) hs
  obtain ⟨w2, hs⟩ := split_sp (itoa_sp _) (itoa_sp _) (.inr ⟨_, rfl⟩) (.inr ⟨_, rfl⟩) (List.cons.inj hs).2
  obtain ⟨w3, hs⟩ := split_sp (itoa_sp _) (itoa_sp _) (.inr ⟨_, rfl⟩) (.inr ⟨_, rfl⟩) (List.cons.inj hs).2
  obtain ⟨w4, hs⟩ := split_sp (itoa_sp _) (itoa_sp _) (rest_ends _) (rest_ends _) (List.cons.inj hs).2
  have eo := word_inj i1 i2 j1 j2 w1
  refine ⟨eo, itoa_inj w2, itoa_inj w3, itoa_inj w4, ?_⟩
  rw [← eo] at j3
  unfold restL at hs
  cases hl : listedOp i.op
  · rw [hl] at i3 j3
    have ai : i.args = [] := List.length_eq_zero_iff.1 (li.trans i3)
    have aj : j.args = [] := List.length_eq_zero_iff.1 (lj.trans j3)
    rw [if_pos ai, if_pos aj, List.append_nil, List.append_nil] at hs
    refine ⟨?_, by rw [ai, aj]⟩
    apply bytes_ext
    cases ei : empB i.s <;> cases ej : empB j.s <;> rw [ei, ej] at hs
    · exact (List.cons.inj hs).2
    · cases hs
    · cases hs
    · rw [show i.s.data.toList = [] by simpa [empB] using ei, show j.s.data.toList = [] by simpa [empB] using ej]
  · rw [hl] at i3 j3
    have si : empB i.s = true := i3
    have sj : empB j.s = true := j3
    rw [si, sj] at hs
    refine ⟨bytes_ext (by rw [show i.s.data.toList = [] by simpa [empB] using si, show j.s.data.toList = [] by simpa [empB] using sj]), ?_⟩
    by_cases ai : i.args = [] <;> by_cases aj : j.args = []
    · rw [ai, aj]
    · rw [if_pos ai, if_neg aj] at hs; cases hs
    · rw [if_neg ai, if_pos aj] at hs; cases hs
    · rw [if_neg ai, if_neg aj] at hs
      have h1 := List.append_cancel_right (List.cons.inj (List.cons.inj hs).2).2
      have key : ∀ l : List Int, ∀ x ∈ (l.map itB).map (·.data.toList), (32 : UInt8) ∉ x := fun l x hx => by
        simp only [List.map_map, List.mem_map, Function.comp] at hx
        obtain ⟨n, -, rfl⟩ := hx
        rw [itB_list]; exact itoa_sp n
      have h2 : (i.args.map itB).map (·.data.toList) = (j.args.map itB).map (·.data.toList) := by
        have ki := key i.args
        have kj := key j.args
        generalize hL : (i.args.map itB).map (·.data.toList) = L at h1 ki ⊢
        generalize hM : (j.args.map itB).map (·.data.toList) = M at h1 kj ⊢
        cases L with
        | nil => simp at hL; exact absurd hL ai
        | cons x L =>
          cases M with
          | nil => simp at hM; exact absurd hM aj
          | cons y M =>
            rw [Lib.join_cons, Lib.join_cons] at h1
            obtain ⟨e1, e2⟩ := split_sp (ki x List.mem_cons_self) (kj y List.mem_cons_self) (tail_ends _) (tail_ends _) h1
            rw [e1, tail_inj L M (fun z hz => ki z (List.mem_cons_of_mem _ hz)) (fun z hz => kj z (List.mem_cons_of_mem _ hz)) e2]
      have hf : ∀ (l l' : List Int), (l.map itB).map (·.data.toList) = (l'.map itB).map (·.data.toList) → l = l' := by
        intro l
        induction l with
        | nil => intro l' h; cases l' with
          | nil => rfl
          | cons y l' => cases h
        | cons x l ih => intro l' h; cases l' with
          | nil => cases h
          | cons y l' =>
            simp only [List.map_cons, List.cons.injEq, itB_list] at h
            rw [itoa_inj h.1, ih l' h.2]
      exact hf _ _ h2
/-- More registers, more code. -/
structure MoreP (p p' : PV) : Prop where
  regs : p.regs ≤ p'.regs
  code : p.n' ≤ p'.n'
  loops : p'.loops = p.loops
  n : p'.n = p.n
  arrays : p'.arrays = p.arrays
structure MoreC (C C' : CV) : Prop where
  n0 : C'.n0 = C.n0
  n1 : C'.n1 = C.n1
  n2 : C'.n2 = C.n2
  n3 : C'.n3 = C.n3
  globals : C'.globals = C.globals
  fns : C'.fns = C.fns
  parts : ∀ f q, at? C.parts f = some q → ∃ q', at? C'.parts f = some q' ∧ q'.n = q.n ∧ q'.arrays = q.arrays
theorem inB_mono {n m m' : Int} (h : m ≤ m') (hb : inB n m = true) : inB n m' = true := by
  simp [inB] at hb ⊢; omega
theorem regB_mono {p p' : PV} (h : MoreP p p') {n : Int} (hb : regB p n = true) : regB p' n = true := inB_mono h.regs hb
theorem optB_mono {p p' : PV} (h : MoreP p p') {n : Int} (hb : optB p n = true) : optB p' n = true := by
  unfold optB at hb ⊢
  rw [Bool.or_eq_true] at hb ⊢
  exact hb.imp id (regB_mono h)
theorem arrB_more {C C' : CV} {p p' : PV} (hC : MoreC C C') (h : MoreP p p') (n : Int) : arrB C' p' n = arrB C p n := by
  unfold arrB; rw [hC.globals, h.arrays]
theorem mayB_mono {C C' : CV} {p p' : PV} (hC : MoreC C C') (h : MoreP p p') {k n : Int} (hb : mayB C p k n = true) : mayB C' p' k n = true := by
  unfold mayB at hb ⊢
  rw [arrB_more hC h, h.loops, hC.n0]
  generalize (k == 114) = bb at hb ⊢; cases bb <;> simp only [cond_true, cond_false] at hb ⊢
  · generalize (k == 111) = bb at hb ⊢; cases bb <;> simp only [cond_true, cond_false] at hb ⊢
    · generalize (k == 103) = bb at hb ⊢; cases bb <;> simp only [cond_true, cond_false] at hb ⊢
      · generalize (k == 120) = bb at hb ⊢; cases bb <;> simp only [cond_true, cond_false] at hb ⊢
        · generalize (k == 106) = bb at hb ⊢; cases bb <;> simp only [cond_true, cond_false] at hb ⊢
          · exact hb
          · exact inB_mono (by have := h.code; omega) hb
        · exact hb
      · unfold globB at hb ⊢; rw [hC.n1, hC.globals]; exact hb
    · exact optB_mono h hb
  · exact regB_mono h hb
theorem abcB_mono {C C' : CV} {p p' : PV} (hC : MoreC C C') (h : MoreP p p') {l : List UInt8} {i : IV} (hb : abcB C p l i = true) : abcB C' p' l i = true := by
  unfold abcB at hb ⊢
  simp only [Bool.and_eq_true] at hb ⊢
  exact ⟨mayB_mono hC h hb.1, mayB_mono hC h hb.2.1, mayB_mono hC h hb.2.2⟩
theorem rowB_mono {p p' : PV} (h : MoreP p p') {fr n : Int} (hb : rowB p fr n = true) : rowB p' fr n = true := by
  unfold rowB at hb ⊢
  simp only [Bool.and_eq_true, decide_eq_true_eq] at hb ⊢
  exact ⟨regB_mono h hb.1, hb.2.1, by have := h.regs; omega⟩
theorem allB_mono {p p' : PV} (h : MoreP p p') {l : List Int} (hb : allB p l = true) : allB p' l = true := by
  unfold allB at hb ⊢
  rw [List.all_eq_true] at hb ⊢
  exact fun x hx => regB_mono h (hb x hx)
theorem listedB_mono {C C' : CV} {p p' : PV} (hC : MoreC C C') (h : MoreP p p') {i : IV} (hb : listedB C p i = true) : listedB C' p' i = true := by
  unfold listedB at hb ⊢
  generalize (i.op == 25) = bb at hb ⊢; cases bb <;> simp only [cond_true, cond_false] at hb ⊢
  · generalize (i.op == 27) = bb at hb ⊢; cases bb <;> simp only [cond_true, cond_false] at hb ⊢
    · generalize (i.op == 28) = bb at hb ⊢; cases bb <;> simp only [cond_true, cond_false] at hb ⊢
      · generalize (i.op == 29) = bb at hb ⊢; cases bb <;> simp only [cond_true, cond_false] at hb ⊢
        · unfold printB at hb ⊢
          simp only [Bool.and_eq_true, Bool.or_eq_true, decide_eq_true_eq] at hb ⊢
          obtain ⟨h1, h2, h3, h4, h5, h6⟩ := hb
          exact ⟨h1, h2, h3, h4, allB_mono h h5, h6.imp id (fun x => ⟨x.1, regB_mono h x.2⟩)⟩
        · unfold getlB at hb ⊢
          simp only [Bool.and_eq_true, Bool.or_eq_true, decide_eq_true_eq] at hb ⊢
          obtain ⟨h1, h2, h3, h4, h5, h6⟩ := hb
          exact ⟨regB_mono h h1, h2, h3, h4, allB_mono h h5, h6.imp id (fun x => ⟨x.1, regB_mono h x.2⟩)⟩
      · unfold subB at hb ⊢
        simp only [Bool.and_eq_true, decide_eq_true_eq] at hb ⊢
        exact ⟨regB_mono h hb.1, regB_mono h hb.2.1, hb.2.2.1, hb.2.2.2.1, allB_mono h hb.2.2.2.2⟩
    · unfold splitB at hb ⊢
      simp only [Bool.and_eq_true, decide_eq_true_eq] at hb ⊢
      rw [arrB_more hC h]
      exact ⟨regB_mono h hb.1, hb.2.1, hb.2.2.1, hb.2.2.2.1, regB_mono h hb.2.2.2.2.1, optB_mono h hb.2.2.2.2.2⟩
  · unfold argsB at hb ⊢
    rw [hC.n3, hC.fns, hC.n2]
    simp only [Bool.and_eq_true] at hb ⊢
    obtain ⟨h1, h2, h3, h4⟩ := hb
    refine ⟨regB_mono h h1, h2, h3, ?_⟩
    split at h4
    · cases h4
    · rename_i f hf
      simp only [Bool.and_eq_true] at h4 ⊢
      refine ⟨h4.1, ?_⟩
      have h5 := h4.2
      split at h5
      · cases h5
      · rename_i q hq
        obtain ⟨q', e1, e2, e3⟩ := hC.parts f q hq
        rw [e1]
        simp only [Bool.and_eq_true, decide_eq_true_eq] at h5 ⊢
        rw [e2]
        refine ⟨h5.1, ?_⟩
        have h6 := h5.2
        unfold argB at h6 ⊢
        rw [e3]
        rw [List.all_eq_true] at h6 ⊢
        intro x hx
        have h7 := h6 x hx
        rw [arrB_more hC h]
        generalize x.2 = bb at h7 ⊢
        cases bb
        · exact regB_mono h h7
        · exact h7
/-- ONE THAT MAY STAND MAY STAND WHERE THERE IS MORE. -/
theorem more_ins {C C' : CV} {p p' : PV} (hC : MoreC C C') (h : MoreP p p') {i : IV} (hb : insP C p i = true) : insP C' p' i = true := by
  unfold insP at hb ⊢
  generalize (i.op == 5 || i.op == 6) = bb at hb ⊢; cases bb <;> simp only [cond_true, cond_false] at hb ⊢
  · generalize (i.op == 9) = bb at hb ⊢; cases bb <;> simp only [cond_true, cond_false] at hb ⊢
    · generalize (i.op == 26) = bb at hb ⊢; cases bb <;> simp only [cond_true, cond_false] at hb ⊢
      · generalize (i.op == 25 || (i.op == 27 || (i.op == 28 || (i.op == 29 || i.op == 30)))) = bb at hb ⊢; cases bb <;> simp only [cond_true, cond_false] at hb ⊢
        · split at hb
          · cases hb
          · rename_i r hr
            simp only [Bool.and_eq_true] at hb ⊢
            exact ⟨hb.1, abcB_mono hC h hb.2.1, hb.2.2⟩
        · simp only [Bool.and_eq_true] at hb ⊢
          exact ⟨hb.1, listedB_mono hC h hb.2⟩
      · unfold builtinB at hb ⊢
        split at hb
        · cases hb
        · simp only [Bool.and_eq_true, Bool.or_eq_true, decide_eq_true_eq] at hb ⊢
          obtain ⟨h1, h2, h3, h4, h5⟩ := hb
          exact ⟨h1, h2, regB_mono h h3, h4, h5.imp id (fun x => ⟨x.1, rowB_mono h x.2⟩)⟩
    · simp only [Bool.and_eq_true] at hb ⊢
      exact ⟨hb.1, hb.2.1, regB_mono h hb.2.2.1, rowB_mono h hb.2.2.2⟩
  · simp only [Bool.and_eq_true] at hb ⊢
    exact ⟨abcB_mono hC h hb.1, hb.2⟩
end Cod
end Go.Proofs.YtankpckkiikmaaaDoor
namespace Go.Proofs.YtankpckkiikmaaaDoor
open Go.RowKit
/-- What is known of a slice that is read: its cells. -/
def Src (w : World) (ad : Option Addr) (m c size : Nat) (news : List Value) : Prop :=
  news.length = m * size ∧ (∀ u ∈ news, u.oneCell' = true) ∧ ((ad = none ∧ m = 0 ∧ c = 0) ∨ ∃ a', ad = some a' ∧ ∀ j u, news[j]? = some u → w.cell? (a'.add j) = some u)
theorem add_block (a : Addr) (j : Nat) : (a.add j).block = a.block := by unfold Addr.add; split <;> rfl
theorem Src.keep {w w' : World} {ad : Option Addr} {m c size : Nat} {news : List Value} (h : Src w ad m c size news) (hb : Below w.heap.size w w') : Src w' ad m c size news := by
  refine ⟨h.1, h.2.1, ?_⟩
  rcases h.2.2 with h0 | ⟨a', e, hc⟩
  · exact .inl h0
  · refine .inr ⟨a', e, fun j u hj => ?_⟩
    have h1 := hc j u hj
    have hlt : (a'.add j).block < w.heap.size := by
      by_cases hlt : (a'.add j).block < w.heap.size
      · exact hlt
      · simp [World.cell?, Array.getElem?_eq_none (Nat.le_of_not_lt hlt)] at h1
    exact (hb.cell (p := a'.add j) hlt).trans h1
section
variable {P : Program} {w : World}
theorem run_appx (base : Nat) (t ty e : TypeId) (size bytes : Nat) (z : Value) (ht : P.underlying t = some (.slice e)) (hinf : (P.info? e).map (fun i => (i.zero, i.size, i.bytes)) = some (some z, size, bytes)) (hzs : z.cells.size = size) (hsz : 0 < size)
    (v : Value) (n : Nat) (xs : List Value) (hown : w.ownsRow base e size v n xs) (ad : Option Addr) (m c : Nat) (news : List Value) (hsrc : Src w ad m c size news) (h63 : n + m ≤ maxLen) (hbytes : (n + m) * bytes ≤ 140737488355328) (hbase : base ≤ w.heap.size) :
    ∃ A cap w', (Builtin.append_ #[t, t] ty #[v, .slice ad m c]).run P w = .ok (.slice A (n + m) cap) w' ∧ w'.ownsRow base e size (.slice A (n + m) cap) (n + m) (xs ++ news) ∧ w.grownBy w' v.ownBlock ∧
      (∀ g, (.slice A (n + m) cap : Value).ownBlock = some g → v.ownBlock = some g ∨ w.heap.size ≤ g) := by
  obtain ⟨i, hi, hz0, hz1, hz2⟩ := info_parts hinf
  obtain ⟨hl, h1, hs⟩ := hsrc
  rcases hs with ⟨rfl, rfl, rfl⟩ | ⟨a', rfl, hc⟩
  · have hnil : news = [] := List.eq_nil_of_length_eq_zero (by rw [hl]; simp)
    subst hnil
    have hv : ∃ A cap, v = .slice A n cap := by
      rcases hown.2 with ⟨h1, h0⟩ | ⟨g, cap, cur, h1, _⟩
      · exact ⟨none, 0, by rw [h1, h0]⟩
      · exact ⟨_, _, h1⟩
    obtain ⟨A, cap, rfl⟩ := hv
    exact ⟨A, cap, w, run_append_owned_none (P := P) w base t ty e i size ht hi _ n xs hown, by simpa using hown, ⟨rfl, rfl, rfl, Nat.le_refl _, fun _ _ _ => rfl⟩, fun g hg => .inl hg⟩
  · obtain ⟨v', w', hr, ho', hg', hn', hat⟩ := run_append_own_at (P := P) w base t ty e i z size bytes ht hi hz0 hz1 hz2 hzs hsz v n xs hown a' m c news hl hc h1 h63 hbytes hbase
    have hv : ∃ A cap, v' = .slice A (n + m) cap := by
      rcases ho'.2 with ⟨h1, h0⟩ | ⟨g, cap, cur, h1, _⟩
      · exact ⟨none, 0, by rw [h1, h0]⟩
      · exact ⟨_, _, h1⟩
    obtain ⟨A, cap, rfl⟩ := hv
    refine ⟨A, cap, w', hr, ho', hg', fun g hg => ?_⟩
    rcases hat with h | h
    · exact .inl (h ▸ hg)
    · right; rw [h] at hg; injection hg with hg; omega
variable {ops : Array Oper} {o : Oper} {a : Act}
theorem oper_appx {K : Act → World → Prop} {Q : Exit → Act → World → Prop} (s x : Operand) (t : TypeId)
    (ho : o.op = .call { callee := .builtin .append, args := #[s, x], argTypes := #[t, t] })
    (e size bytes : Nat) (z : Value) (ht : P.underlying t = some (.slice e)) (hinf : (P.info? e).map (fun i => (i.zero, i.size, i.bytes)) = some (some z, size, bytes)) (hzs : z.cells.size = size) (hsz : 0 < size)
    (base : Nat) (v : Value) (n : Nat) (xs : List Value) (hs : a.eval s = v) (hown : w.ownsRow base e size v n xs)
    (ad : Option Addr) (m c : Nat) (news : List Value) (hx : a.eval x = .slice ad m c) (hsrc : Src w ad m c size news)
    (h63 : n + m ≤ maxLen) (hbytes : (n + m) * bytes ≤ 140737488355328) (hbase : base ≤ w.heap.size)
    (h : ∀ A cap w', w'.ownsRow base e size (.slice A (n + m) cap) (n + m) (xs ++ news) → w.grownBy w' v.ownBlock → (∀ g, (.slice A (n + m) cap : Value).ownBlock = some g → v.ownBlock = some g ∨ w.heap.size ≤ g) → K (a.put o.dst (.slice A (n + m) cap)) w') : o.wp P a w K Q := by
  obtain ⟨A, cap, w', hr, h2, h3, h4⟩ := run_appx (P := P) base t o.type e size bytes z ht hinf hzs hsz v n xs hown ad m c news hsrc h63 hbytes hbase
  unfold Oper.wp execOp
  simp only [ho, resolve, invoke, builtin, Sem.run_bind, Sem.run_pure, Result.andThen_ok, List.map_toArray, List.map_cons, List.map_nil, hs, hx, hr]
  exact h A cap w' h2 h3 h4
theorem wp_appx {rest : List Oper} {Q : Exit → Act → World → Prop} (hgd : o.guard = none) (s x : Operand) (t : TypeId)
    (ho : o.op = .call { callee := .builtin .append, args := #[s, x], argTypes := #[t, t] })
    (e size bytes : Nat) (z : Value) (ht : P.underlying t = some (.slice e)) (hinf : (P.info? e).map (fun i => (i.zero, i.size, i.bytes)) = some (some z, size, bytes)) (hzs : z.cells.size = size) (hsz : 0 < size)
    (base : Nat) (v : Value) (n : Nat) (xs : List Value) (hs : a.eval s = v) (hown : w.ownsRow base e size v n xs)
    (ad : Option Addr) (m c : Nat) (news : List Value) (hx : a.eval x = .slice ad m c) (hsrc : Src w ad m c size news)
    (h63 : n + m ≤ maxLen) (hbytes : (n + m) * bytes ≤ 140737488355328) (hbase : base ≤ w.heap.size)
    (h : ∀ A cap w', w'.ownsRow base e size (.slice A (n + m) cap) (n + m) (xs ++ news) → w.grownBy w' v.ownBlock → (∀ g, (.slice A (n + m) cap : Value).ownBlock = some g → v.ownBlock = some g ∨ w.heap.size ≤ g) → wpList P ops Q rest (a.put o.dst (.slice A (n + m) cap)) w') : wpList P ops Q (o :: rest) a w :=
  wpList_plain hgd fun K hK => oper_appx s x t ho e size bytes z ht hinf hzs hsz base v n xs hs hown ad m c news hx hsrc h63 hbytes hbase (fun A cap w' h1 h2 h3 => hK _ _ (h A cap w' h1 h2 h3))
/-- In a region that draws (the form of go_region_held3's third argument). -/
theorem step_appx {K : Act → World → Prop} {Q : Exit → Act → World → Prop} {E : Prop} (hgd : o.guard = none) (s x : Operand) (t : TypeId)
    (ho : o.op = .call { callee := .builtin .append, args := #[s, x], argTypes := #[t, t] })
    (e size bytes : Nat) (z : Value) (ht : P.underlying t = some (.slice e)) (hinf : (P.info? e).map (fun i => (i.zero, i.size, i.bytes)) = some (some z, size, bytes)) (hzs : z.cells.size = size) (hsz : 0 < size)
    (base : Nat) (v : Value) (n : Nat) (xs : List Value) (hs : a.eval s = v) (hown : w.ownsRow base e size v n xs)
    (ad : Option Addr) (m c : Nat) (news : List Value) (hx : a.eval x = .slice ad m c) (hsrc : Src w ad m c size news)
    (h63 : n + m ≤ maxLen) (hbytes : (n + m) * bytes ≤ 140737488355328) (hbase : base ≤ w.heap.size)
    (h : ∀ A cap w', w'.ownsRow base e size (.slice A (n + m) cap) (n + m) (xs ++ news) → w.grownBy w' v.ownBlock → (∀ g, (.slice A (n + m) cap : Value).ownBlock = some g → v.ownBlock = some g ∨ w.heap.size ≤ g) → K (a.put o.dst (.slice A (n + m) cap)) w') :
    if Region.wanted o (yielded ops a.tmps) = true then o.wp P a w K Q else E := by
  rw [if_pos (by unfold Region.wanted; rw [hgd])]
  exact oper_appx s x t ho e size bytes z ht hinf hzs hsz base v n xs hs hown ad m c news hx hsrc h63 hbytes hbase h
/-- .. onto an empty row. -/
theorem step_appx0 {K : Act → World → Prop} {Q : Exit → Act → World → Prop} {E : Prop} (hgd : o.guard = none) (s x : Operand) (t : TypeId)
    (ho : o.op = .call { callee := .builtin .append, args := #[s, x], argTypes := #[t, t] })
    (e size bytes : Nat) (z : Value) (ht : P.underlying t = some (.slice e)) (hinf : (P.info? e).map (fun i => (i.zero, i.size, i.bytes)) = some (some z, size, bytes)) (hzs : z.cells.size = size) (hsz : 0 < size)
    (base : Nat) (v : Value) (hs : a.eval s = v) (hown : w.ownsRow base e size v 0 [])
    (ad : Option Addr) (m c : Nat) (news : List Value) (hx : a.eval x = .slice ad m c) (hsrc : Src w ad m c size news)
    (h63 : m ≤ maxLen) (hbytes : m * bytes ≤ 140737488355328) (hbase : base ≤ w.heap.size)
    (h : ∀ A cap w', w'.ownsRow base e size (.slice A m cap) m news → w.grownBy w' v.ownBlock → (∀ g, (.slice A m cap : Value).ownBlock = some g → v.ownBlock = some g ∨ w.heap.size ≤ g) → K (a.put o.dst (.slice A m cap)) w') :
    if Region.wanted o (yielded ops a.tmps) = true then o.wp P a w K Q else E :=
  step_appx hgd s x t ho e size bytes z ht hinf hzs hsz base v 0 [] hs hown ad m c news hx hsrc (by rw [Nat.zero_add]; exact h63) (by rw [Nat.zero_add]; exact hbytes) hbase (fun A cap w' h1 h2 h3 => by
    rw [Nat.zero_add] at h1 h3 ⊢
    exact h A cap w' h1 h2 h3)
end
end Go.Proofs.YtankpckkiikmaaaDoor
namespace Go.Proofs.YtankpckkiikmaaaDoor
open Go.RowKit

def Blk (w : World) (g : Nat) (t : TypeId) (cs : Array Value) : Prop := w.heap[g]? = some (.cells cs t (0, 0))
theorem Blk.cell {w : World} {g : Nat} {t : TypeId} {cs : Array Value} (h : Blk w g t cs) (i : Nat) : w.cell? ⟨g, i, none⟩ = cs[i]? := by
  unfold Blk at h; simp [World.cell?, h]
theorem Blk.free {w : World} {g : Nat} {t : TypeId} {cs : Array Value} (h : Blk w g t cs) (i : Nat) : w.frozen? ⟨g, i, none⟩ = false := by
  unfold Blk at h; simp [World.frozen?, h]
theorem Blk.set {w : World} {g : Nat} {t : TypeId} {cs : Array Value} (h : Blk w g t cs) (i : Nat) (u : Value) : Blk (w.setCell ⟨g, i, none⟩ u) g t (cs.setIfInBounds i u) := heap_setCell_self (a := ⟨g, i, none⟩) rfl h
theorem Blk.set3 {w : World} {g : Nat} {t : TypeId} {a b c : Value} (h : Blk w g t #[a, b, c]) (x y z : Value) : Blk (((w.setCell ⟨g, 0, none⟩ x).setCell ⟨g, 1, none⟩ y).setCell ⟨g, 2, none⟩ z) g t #[x, y, z] := by
  have := ((h.set 0 x).set 1 y).set 2 z
  simpa using this
theorem Tur.set3 {w : World} {g i j k : Nat} (x y z : Value) : Tur (· = g) w (((w.setCell ⟨g, i, none⟩ x).setCell ⟨g, j, none⟩ y).setCell ⟨g, k, none⟩ z) :=
  ((Tur.of_set ⟨g, i, none⟩ x).trans (Tur.of_set ⟨g, j, none⟩ y) (fun _ _ h => h)).trans (Tur.of_set ⟨g, k, none⟩ z) (fun _ _ h => h)
theorem Blk.lt {w : World} {g : Nat} {t : TypeId} {cs : Array Value} (h : Blk w g t cs) : g < w.heap.size := (Array.getElem?_eq_some_iff.1 h).1
theorem Blk.new (w : World) (t : TypeId) (cs : Array Value) : Blk (w.alloc (.cells cs t)) w.heap.size t cs := heap_alloc_new w _

theorem below_blk {w w' : World} {B g : Nat} {t : TypeId} {cs : Array Value} (h : Blk w g t cs) (hb : Below B w w') (hg : g < B) : Blk w' g t cs := (hb.block g hg).trans h

theorem Blk.set5 {w : World} {g : Nat} {t : TypeId} {a b c d e : Value} (h : Blk w g t #[a, b, c, d, e]) (v x y z u : Value) : Blk (((((w.setCell ⟨g, 0, none⟩ v).setCell ⟨g, 1, none⟩ x).setCell ⟨g, 2, none⟩ y).setCell ⟨g, 3, none⟩ z).setCell ⟨g, 4, none⟩ u) g t #[v, x, y, z, u] := by
  have := ((((h.set 0 v).set 1 x).set 2 y).set 3 z).set 4 u
  simpa using this
theorem Tur.set5 {w : World} {g i1 i2 i3 i4 i5 : Nat} (x1 x2 x3 x4 x5 : Value) : Tur (· = g) w (((((w.setCell ⟨g, i1, none⟩ x1).setCell ⟨g, i2, none⟩ x2).setCell ⟨g, i3, none⟩ x3).setCell ⟨g, i4, none⟩ x4).setCell ⟨g, i5, none⟩ x5) :=
  (((((Tur.of_set ⟨g, i1, none⟩ x1).trans (Tur.of_set ⟨g, i2, none⟩ x2) (fun i _ h => h)).trans (Tur.of_set ⟨g, i3, none⟩ x3) (fun i _ h => h)).trans (Tur.of_set ⟨g, i4, none⟩ x4) (fun i _ h => h)).trans (Tur.of_set ⟨g, i5, none⟩ x5) (fun i _ h => h))
theorem below_set5 {w : World} {g B : Nat} (hB : B ≤ g) (hg : B ≤ w.heap.size) (v x y z u : Value) : Below B w (((((w.setCell ⟨g, 0, none⟩ v).setCell ⟨g, 1, none⟩ x).setCell ⟨g, 2, none⟩ y).setCell ⟨g, 3, none⟩ z).setCell ⟨g, 4, none⟩ u) :=
  (Tur.set5 (g := g) (i1 := 0) (i2 := 1) (i3 := 2) (i4 := 3) (i5 := 4) v x y z u).below B hg (fun j hj e => by omega)
theorem Tur.set2 {w : World} {g i1 i2 : Nat} (x1 x2 : Value) : Tur (· = g) w ((w.setCell ⟨g, i1, none⟩ x1).setCell ⟨g, i2, none⟩ x2) :=
  (Tur.of_set ⟨g, i1, none⟩ x1).trans (Tur.of_set ⟨g, i2, none⟩ x2) (fun i _ h => h)
theorem below_set2 {w : World} {g B : Nat} (hB : B ≤ g) (hg : B ≤ w.heap.size) (v x : Value) : Below B w ((w.setCell ⟨g, 0, none⟩ v).setCell ⟨g, 1, none⟩ x) :=
  (Tur.set2 (g := g) (i1 := 0) (i2 := 1) v x).below B hg (fun j hj e => by omega)
theorem Blk.set2 {w : World} {g : Nat} {t : TypeId} {a b : Value} (h : Blk w g t #[a, b]) (x y : Value) : Blk ((w.setCell ⟨g, 0, none⟩ x).setCell ⟨g, 1, none⟩ y) g t #[x, y] := by
  have := (h.set 0 x).set 1 y
  simpa using this
theorem Blk.two {w : World} {R : Nat} {t : TypeId} {a b : Value} (h : Blk w R t #[a, b]) : (w.cell? ⟨R, 0, none⟩ = some a ∧ w.cell? ⟨R, 1, none⟩ = some b) ∧ (w.frozen? ⟨R, 0, none⟩ = false ∧ w.frozen? ⟨R, 1, none⟩ = false) :=
  ⟨⟨h.cell 0, h.cell 1⟩, h.free 0, h.free 1⟩
theorem Blk.keep {w w' : World} {F : Nat → Prop} {g : Nat} {t : TypeId} {cs : Array Value} (h : Blk w g t cs) (ht : Tur F w w') (hF : ¬ F g) : Blk w' g t cs := (ht.block g h.lt hF).trans h
theorem Blk.five {w : World} {R : Nat} {t : TypeId} {a b c d e : Value} (h : Blk w R t #[a, b, c, d, e]) : (w.cell? ⟨R, 0, none⟩ = some a ∧ w.cell? ⟨R, 1, none⟩ = some b ∧ w.cell? ⟨R, 2, none⟩ = some c ∧ w.cell? ⟨R, 3, none⟩ = some d ∧ w.cell? ⟨R, 4, none⟩ = some e) ∧
    (w.frozen? ⟨R, 0, none⟩ = false ∧ w.frozen? ⟨R, 1, none⟩ = false ∧ w.frozen? ⟨R, 2, none⟩ = false ∧ w.frozen? ⟨R, 3, none⟩ = false ∧ w.frozen? ⟨R, 4, none⟩ = false) :=
  ⟨⟨h.cell 0, h.cell 1, h.cell 2, h.cell 3, h.cell 4⟩, h.free 0, h.free 1, h.free 2, h.free 3, h.free 4⟩
end Go.Proofs.YtankpckkiikmaaaDoor
namespace Go.Proofs.YtankpckkiikmaaaDoor
open Go.RowKit Cod
theorem info_part : (Tryd.prog.info? 39).map (fun i => (i.zero, i.size, i.bytes)) = some (some (.agg #[.int .i64 0, .slice none 0 0, .int .i64 0, .slice none 0 0]), 4, 64) := by kernel_rfl
theorem info_ins : (Tryd.prog.info? 31).map (fun i => (i.zero, i.size, i.bytes)) = some (some (.agg #[.int .u8 0, .int .i64 0, .int .i64 0, .int .i64 0, .string ⟨#[]⟩, .slice none 0 0]), 6, 72) := by kernel_rfl
structure BoxS (w w' : World) (C : CV) (i j : IV) : Prop where
  below : Below w.heap.size w w'
  cl : w'.heap[w.heap.size]? = some (.cells #[.slice C.A0 C.n0 C.c0, .slice C.A1 C.n1 C.c1, .slice C.A2 C.n2 C.c2, .slice C.A3 C.n3 C.c3, .slice C.A4 C.n4 C.c4, .slice C.A5 C.n5 C.c5, .slice C.A6 C.n6 C.c6] 28 (0, 0))
  il : w'.heap[w.heap.size + 1]? = some (.cells #[.int .u8 i.op, .int .i64 i.a, .int .i64 i.b, .int .i64 i.c, .string i.s, .slice i.A i.n i.cap] 31 (0, 0))
  jl : w'.heap[w.heap.size + 1 + 1]? = some (.cells #[.int .u8 j.op, .int .i64 j.a, .int .i64 j.b, .int .i64 j.c, .string j.s, .slice j.A j.n j.cap] 31 (0, 0))
theorem BoxS.keep {w w1 w2 : World} {C : CV} {i j : IV} (h : BoxS w w1 C i j) (hb : Below w1.heap.size w1 w2) : BoxS w w2 C i j :=
  ⟨Gr.trans h.below hb, (hb.block _ (Array.getElem?_eq_some_iff.1 h.cl).1).trans h.cl, (hb.block _ (Array.getElem?_eq_some_iff.1 h.il).1).trans h.il, (hb.block _ (Array.getElem?_eq_some_iff.1 h.jl).1).trans h.jl⟩
theorem BoxS.lt {w w' : World} {C : CV} {i j : IV} (h : BoxS w w' C i j) : w.heap.size + 1 + 1 < w'.heap.size := (Array.getElem?_eq_some_iff.1 h.jl).1
theorem BoxS.keep3 {w w1 w2 : World} {C : CV} {i j : IV} (h : BoxS w w1 C i j) (hb : Below (w.heap.size + 1 + 1 + 1) w1 w2) : BoxS w w2 C i j :=
  ⟨h.below.trans (hb.mono (by omega)), (hb.block _ (by omega)).trans h.cl, (hb.block _ (by omega)).trans h.il, (hb.block _ (by omega)).trans h.jl⟩
theorem BoxS.cells {w w' : World} {C : CV} {i j : IV} (h : BoxS w w' C i j) : (w'.cell? ⟨w.heap.size, 0, none⟩ = some (.slice C.A0 C.n0 C.c0) ∧ w'.cell? ⟨w.heap.size, 1, none⟩ = some (.slice C.A1 C.n1 C.c1) ∧ w'.cell? ⟨w.heap.size, 2, none⟩ = some (.slice C.A2 C.n2 C.c2) ∧ w'.cell? ⟨w.heap.size, 3, none⟩ = some (.slice C.A3 C.n3 C.c3) ∧ w'.cell? ⟨w.heap.size, 4, none⟩ = some (.slice C.A4 C.n4 C.c4) ∧ w'.cell? ⟨w.heap.size, 5, none⟩ = some (.slice C.A5 C.n5 C.c5) ∧ w'.cell? ⟨w.heap.size, 6, none⟩ = some (.slice C.A6 C.n6 C.c6)) ∧ (w'.cell? ⟨w.heap.size + 1, 0, none⟩ = some (.int .u8 i.op) ∧ w'.cell? ⟨w.heap.size + 1, 1, none⟩ = some (.int .i64 i.a) ∧ w'.cell? ⟨w.heap.size + 1, 2, none⟩ = some (.int .i64 i.b) ∧ w'.cell? ⟨w.heap.size + 1, 3, none⟩ = some (.int .i64 i.c) ∧ w'.cell? ⟨w.heap.size + 1, 4, none⟩ = some (.string i.s) ∧ w'.cell? ⟨w.heap.size + 1, 5, none⟩ = some (.slice i.A i.n i.cap)) ∧ w'.cell? ⟨w.heap.size + 1 + 1, 0, none⟩ = some (.int .u8 j.op) ∧ w'.cell? ⟨w.heap.size + 1 + 1, 1, none⟩ = some (.int .i64 j.a) ∧ w'.cell? ⟨w.heap.size + 1 + 1, 2, none⟩ = some (.int .i64 j.b) ∧ w'.cell? ⟨w.heap.size + 1 + 1, 3, none⟩ = some (.int .i64 j.c) ∧ w'.cell? ⟨w.heap.size + 1 + 1, 4, none⟩ = some (.string j.s) ∧ w'.cell? ⟨w.heap.size + 1 + 1, 5, none⟩ = some (.slice j.A j.n j.cap) := ⟨ccells h.cl, icells h.il, icells h.jl⟩
theorem BoxS.made (w : World) (C : CV) (i j : IV) : BoxS w (((w.alloc (.cells #[.slice C.A0 C.n0 C.c0, .slice C.A1 C.n1 C.c1, .slice C.A2 C.n2 C.c2, .slice C.A3 C.n3 C.c3, .slice C.A4 C.n4 C.c4, .slice C.A5 C.n5 C.c5, .slice C.A6 C.n6 C.c6] 28)).alloc (.cells #[.int .u8 i.op, .int .i64 i.a, .int .i64 i.b, .int .i64 i.c, .string i.s, .slice i.A i.n i.cap] 31)).alloc (.cells #[.int .u8 j.op, .int .i64 j.a, .int .i64 j.b, .int .i64 j.c, .string j.s, .slice j.A j.n j.cap] 31)) C i j := by
  refine ⟨(((Below.refl _ _).alloc (Nat.le_refl _) _).alloc (by simp) _).alloc (by simp; omega) _, ?_, ?_, ?_⟩
  · rw [(MapKept.heap_alloc _ _).2 _ (by simp; omega), (MapKept.heap_alloc _ _).2 _ (by simp), (MapKept.heap_alloc w _).1]
  · rw [(MapKept.heap_alloc _ _).2 _ (by simp)]
    have := (MapKept.heap_alloc (w.alloc (.cells #[.slice C.A0 C.n0 C.c0, .slice C.A1 C.n1 C.c1, .slice C.A2 C.n2 C.c2, .slice C.A3 C.n3 C.c3, .slice C.A4 C.n4 C.c4, .slice C.A5 C.n5 C.c5, .slice C.A6 C.n6 C.c6] 28)) (.cells #[.int .u8 i.op, .int .i64 i.a, .int .i64 i.b, .int .i64 i.c, .string i.s, .slice i.A i.n i.cap] 31)).1
    rwa [World.size_alloc] at this
  · have := (MapKept.heap_alloc ((w.alloc (.cells #[.slice C.A0 C.n0 C.c0, .slice C.A1 C.n1 C.c1, .slice C.A2 C.n2 C.c2, .slice C.A3 C.n3 C.c3, .slice C.A4 C.n4 C.c4, .slice C.A5 C.n5 C.c5, .slice C.A6 C.n6 C.c6] 28)).alloc (.cells #[.int .u8 i.op, .int .i64 i.a, .int .i64 i.b, .int .i64 i.c, .string i.s, .slice i.A i.n i.cap] 31)) (.cells #[.int .u8 j.op, .int .i64 j.a, .int .i64 j.b, .int .i64 j.c, .string j.s, .slice j.A j.n j.cap] 31)).1
    rwa [World.size_alloc, World.size_alloc] at this
theorem BoxS.code {w w' : World} {C : CV} {i j : IV} {B : Nat} (h : BoxS w w' C i j) (hC : CodeAt w B C) : CodeAt w' B C := hC.keep h.below
theorem BoxS.ints {w w' : World} {C : CV} {i j : IV} {A : Option Addr} {n : Nat} {l : List Int} (h : BoxS w w' C i j) (hl : Ints w w.heap.size A n l) : Ints w' w.heap.size A n l := hl.keep (Nat.le_refl _) h.below
theorem BoxS.tab {w w' : World} {C : CV} {i j : IV} (h : BoxS w w' C i j) (ht : Lib.TabBelow Tryd.prog w.heap.size w "internal/strconv.uint64pow10" .u64 Lib.pow10Tab) : Lib.TabBelow Tryd.prog w'.heap.size w' "internal/strconv.uint64pow10" .u64 Lib.pow10Tab := tab_on ht h.below
theorem BoxS.le {w w' : World} {C : CV} {i j : IV} (h : BoxS w w' C i j) : w.heap.size ≤ w'.heap.size := h.below.size
theorem BoxS.drew {w w' : World} {C : CV} {i j : IV} (h : BoxS w w' C i j) : BoxS w w'.drew C i j := h.keep (Below.refl _ _).drew
theorem own_open {w : World} {base e size n cap : Nat} {A : Option Addr} {xs : List Value} (h : w.ownsRow base e size (.slice A n cap) n xs) (hn : 0 < n) :
    ∃ g cur, A = some ⟨g, 0, none⟩ ∧ base ≤ g ∧ Blk w g e cur ∧ (∀ j, j < n * size → cur[j]? = xs[j]?) ∧ n ≤ cap ∧ cap ≤ maxLen := by
  rcases h.2 with ⟨_, h0⟩ | ⟨g, cap', cur, h1, hb, hg, h4, h5, _, h6⟩
  · omega
  · injection h1 with h1 _ h3
    subst h3
    refine ⟨g, cur, h1, hb, hg, fun j hj => ?_, h4, h5⟩
    rw [← h6, List.getElem?_take, if_pos hj]
    simp
theorem set_other {w : World} {g m : Nat} {e : TypeId} {cur : Array Value} (h : Blk w g e cur) (hne : g ≠ m) (x : Nat) (v : Value) : Blk (w.setCell ⟨m, x, none⟩ v) g e cur := (RowKit.Below.heap_setCell _ _ _ _ hne).trans h
theorem BoxS.set {w w1 : World} {C : CV} {i j : IV} (h : BoxS w w1 C i j) {m : Nat} (hm : w.heap.size + 1 + 1 + 1 ≤ m) (x : Nat) (v : Value) : BoxS w (w1.setCell ⟨m, x, none⟩ v) C i j := h.keep3 ((Below.refl _ _).setCell hm _)
/-- The parts, cell for cell. -/
def qcells (q : PV) : List Value := [.int .i64 q.regs, .slice q.A q.n q.c, .int .i64 q.loops, .slice q.A' q.n' q.c']
def flatP (l : List PV) : List Value := l.flatMap qcells
theorem flatP_len (l : List PV) : (flatP l).length = l.length * 4 := by
  induction l with
  | nil => rfl
  | cons q l ih => simp only [flatP, List.flatMap_cons, List.length_append, List.length_cons] at ih ⊢; rw [ih]; simp [qcells]; omega
theorem flatP_get : ∀ (l : List PV) (t s : Nat) (q : PV), l[t]? = some q → s < 4 → (flatP l)[t * 4 + s]? = (qcells q)[s]?
  | [], t, s, q, h, _ => by simp at h
  | p :: l, 0, s, q, h, hs => by
    obtain rfl : p = q := by simpa using h
    show (qcells p ++ flatP l)[0 * 4 + s]? = _
    rw [List.getElem?_append_left (by simp [qcells]; omega)]
    simp
  | p :: l, t + 1, s, q, h, hs => by
    show (qcells p ++ flatP l)[(t + 1) * 4 + s]? = _
    rw [List.getElem?_append_right (by simp [qcells]; omega), show (t + 1) * 4 + s - (qcells p).length = t * 4 + s by simp [qcells]; omega]
    exact flatP_get l t s q (by simpa using h) hs
theorem flatP_one (l : List PV) : ∀ u ∈ flatP l, u.oneCell' = true := by
  intro u hu
  obtain ⟨q, -, hq⟩ := List.mem_flatMap.1 hu
  simp only [qcells, List.mem_cons, List.not_mem_nil, or_false] at hq
  rcases hq with rfl | rfl | rfl | rfl <;> rfl
theorem parts_src {w : World} {B : Nat} {C : CV} (hC : CodeAt w B C) (hn : 0 < C.n2) : Src w C.A2 C.n2 C.c2 4 (flatP C.parts) := by
  refine ⟨by rw [flatP_len, hC.plen], flatP_one _, .inr ?_⟩
  obtain ⟨b, o, hA, hB, hc⟩ := hC.parts hn
  refine ⟨_, hA, fun j u hj => ?_⟩
  have hjl : j < (flatP C.parts).length := (List.getElem?_eq_some_iff.1 hj).1
  rw [flatP_len] at hjl
  have ht : j / 4 < C.parts.length := by omega
  have h1 := flatP_get C.parts (j / 4) (j % 4) _ (List.getElem?_eq_getElem ht) (Nat.mod_lt _ (by omega))
  rw [show j / 4 * 4 + j % 4 = j by omega, hj] at h1
  obtain ⟨c0, c1, c2, c3⟩ := hc (j / 4) ht
  rw [add_offC]
  have hs : j % 4 = 0 ∨ j % 4 = 1 ∨ j % 4 = 2 ∨ j % 4 = 3 := by omega
  rcases hs with hs | hs | hs | hs <;> rw [hs] at h1
  · rw [show o + j = o + j / 4 * 4 by omega, c0]; simpa [qcells] using h1.symm
  · rw [show o + j = o + j / 4 * 4 + 1 by omega, c1]; simpa [qcells] using h1.symm
  · rw [show o + j = o + j / 4 * 4 + 2 by omega, c2]; simpa [qcells] using h1.symm
  · rw [show o + j = o + j / 4 * 4 + 3 by omega, c3]; simpa [qcells] using h1.symm
/-- The copy: one part has other registers and other code. -/
def Cod.turnP (C : CV) (k : Nat) (q : PV) : List PV := C.parts.set k q
def Cod.moreC (C : CV) (k : Nat) (q : PV) (A : Option Addr) (cap : Nat) : CV := { C with A2 := A, c2 := cap, parts := C.parts.set k q }
def Cod.moreP (q : PV) (r : Int) (A : Option Addr) (n c : Nat) : PV := { q with regs := r, A' := A, n' := n, c' := c }
theorem Bools.up {w : World} {B B' : Nat} {A : Option Addr} {n : Nat} {xs : List Bool} (h : Bools w B A n xs) (hB : B ≤ B') : Bools w B' A n xs :=
  ⟨h.1, h.2.1, fun hn => by obtain ⟨b, o, hA, hb, hc⟩ := h.2.2 hn; exact ⟨b, o, hA, by omega, hc⟩⟩
theorem Ints.up {w : World} {B B' : Nat} {A : Option Addr} {n : Nat} {xs : List Int} (h : Ints w B A n xs) (hB : B ≤ B') : Ints w B' A n xs :=
  ⟨h.1, h.2.1, h.2.2.1, fun hn => by obtain ⟨b, o, hA, hb, hc⟩ := h.2.2.2 hn; exact ⟨b, o, hA, by omega, hc⟩⟩
theorem CodeAt.more {w w' : World} {B : Nat} {C : CV} (hC : CodeAt w B C) (hb : Below B w w') {k : Nat} {q : PV} (hq : C.parts[k]? = some q) {r : Int} (hr : (Lit.int .i64 r).wf = true) {A : Option Addr} {n c g cap : Nat} (hn : n ≤ maxLen)
    {cur : Array Value} {e : TypeId} (hg : w'.heap[g]? = some (.cells cur e (0, 0))) (ht : ∀ j, j < C.n2 * 4 → cur[j]? = (flatP (C.parts.set k (moreP q r A n c)))[j]?) : CodeAt w' w'.heap.size (moreC C k (moreP q r A n c) (some ⟨g, 0, none⟩) cap) := by
  have hB : B ≤ w'.heap.size := Nat.le_trans hC.le hb.size
  refine ⟨(hC.glob.below hb).up hB, (hC.fns.below hb).up hB, by show (C.parts.set k _).length = C.n2; rw [List.length_set]; exact hC.plen, fun h0 => ⟨g, 0, rfl, (Array.getElem?_eq_some_iff.1 hg).1, fun j hj => ?_⟩, fun p hp => ?_, Nat.le_refl _, hC.n0, hC.n2, hC.n3⟩
  · have hj2 : j < C.n2 := by have : j < (C.parts.set k (moreP q r A n c)).length := hj; rw [List.length_set, hC.plen] at this; exact this
    have hget := fun s (hs : s < 4) => (ht (j * 4 + s) (by omega)).trans (flatP_get _ j s _ (List.getElem?_eq_getElem hj) hs)
    have hcell : ∀ m, w'.cell? ⟨g, m, none⟩ = cur[m]? := fun m => by simp [World.cell?, hg]
    rw [hcell, hcell, hcell, hcell]
    have h0 := hget 0 (by omega)
    have h1 := hget 1 (by omega)
    have h2 := hget 2 (by omega)
    have h3 := hget 3 (by omega)
    rw [Nat.zero_add]
    exact ⟨h0, h1, h2, h3⟩
  · rcases List.mem_or_eq_of_mem_set hp with h | h
    · obtain ⟨e1, e2, e3, e4⟩ := hC.each p h
      exact ⟨(e1.below hb).up hB, e2, e3, e4⟩
    · subst h
      obtain ⟨e1, e2, e3, e4⟩ := hC.each q (List.mem_of_getElem? hq)
      exact ⟨(e1.below hb).up hB, hr, e3, hn⟩
theorem flatP_set {l : List PV} {k : Nat} {q : PV} (hq : l[k]? = some q) (r : Int) (A : Option Addr) (n c j : Nat) (hj : j < l.length * 4) :
    (flatP (l.set k (moreP q r A n c)))[j]? = if j = k * 4 then some (.int .i64 r) else if j = k * 4 + 3 then some (.slice A n c) else (flatP l)[j]? := by
  have ht : j / 4 < l.length := by omega
  have ht' : j / 4 < (l.set k (moreP q r A n c)).length := by rw [List.length_set]; exact ht
  have h1 := flatP_get (l.set k (moreP q r A n c)) (j / 4) (j % 4) _ (List.getElem?_eq_getElem ht') (Nat.mod_lt _ (by omega))
  have h2 := flatP_get l (j / 4) (j % 4) _ (List.getElem?_eq_getElem ht) (Nat.mod_lt _ (by omega))
  rw [show j / 4 * 4 + j % 4 = j by omega] at h1 h2
  rw [h1]
  by_cases hk : k = j / 4
  · have hq' : l[j / 4] = q := by
      rw [hk, List.getElem?_eq_getElem ht] at hq
      exact Option.some.inj hq
    rw [hq'] at h2
    have e : (l.set k (moreP q r A n c))[j / 4] = moreP q r A n c := by simp [hk]
    rw [e]
    have hs : j % 4 = 0 ∨ j % 4 = 1 ∨ j % 4 = 2 ∨ j % 4 = 3 := by omega
    rcases hs with hs | hs | hs | hs <;> rw [hs] at h2 ⊢
    · rw [if_pos (by omega)]; rfl
    · rw [if_neg (by omega), if_neg (by omega), h2]; rfl
    · rw [if_neg (by omega), if_neg (by omega), h2]; rfl
    · rw [if_neg (by omega), if_pos (by omega)]; rfl
  · have e : (l.set k (moreP q r A n c))[j / 4] = l[j / 4] := by rw [List.getElem_set_ne hk]
    rw [e, if_neg (by omega), if_neg (by omega), h2]
/-- Where the copy stands. -/
structure K13 (w wx : World) (C : CV) (i j : IV) (M g cap8 : Nat) (cur : Array Value) : Prop where
  bx : BoxS w wx C i j
  mb : Blk wx M 28 #[.slice C.A0 C.n0 C.c0, .slice C.A1 C.n1 C.c1, .slice (some ⟨g, 0, none⟩) C.n2 cap8, .slice C.A3 C.n3 C.c3, .slice C.A4 C.n4 C.c4, .slice C.A5 C.n5 C.c5, .slice C.A6 C.n6 C.c6]
  gb : Blk wx g 39 cur
theorem K13.keepN {w wx wy : World} {C : CV} {i j : IV} {M g cap8 N : Nat} {cur : Array Value} (h : K13 w wx C i j M g cap8 cur) (hM : M < N) (hg : g < N) (hb3 : w.heap.size + 1 + 1 + 1 ≤ N) (hb : Below N wx wy) : K13 w wy C i j M g cap8 cur :=
  ⟨h.bx.keep3 (hb.mono hb3), (hb.block M hM).trans h.mb, (hb.block g hg).trans h.gb⟩
theorem K13.keep {w wx wy : World} {C : CV} {i j : IV} {M g cap8 : Nat} {cur : Array Value} (h : K13 w wx C i j M g cap8 cur) (hb : Below wx.heap.size wx wy) : K13 w wy C i j M g cap8 cur :=
  h.keepN h.mb.lt h.gb.lt (by have := h.bx.lt; omega) hb
theorem K13.alloc {w wx : World} {C : CV} {i j : IV} {M g cap8 : Nat} {cur : Array Value} (h : K13 w wx C i j M g cap8 cur) (o : Obj) : K13 w (wx.alloc o) C i j M g cap8 cur := h.keep ((Below.refl _ _).alloc (Nat.le_refl _) _)
theorem K13.set {w wx : World} {C : CV} {i j : IV} {M g cap8 : Nat} {cur : Array Value} (h : K13 w wx C i j M g cap8 cur) (hne : M ≠ g) (hg : w.heap.size + 1 + 1 + 1 ≤ g) (x : Nat) (v : Value) : K13 w (wx.setCell ⟨g, x, none⟩ v) C i j M g cap8 (cur.setIfInBounds x v) :=
  ⟨h.bx.set hg x v, set_other h.mb hne x v, h.gb.set x v⟩
theorem K13.cells {w w' : World} {C : CV} {i j : IV} {M g cap8 : Nat} {cur : Array Value} (h : K13 w w' C i j M g cap8 cur) {pb po k : Nat} {q : PV} (hA : C.A2 = some ⟨pb, po, none⟩) (hb : pb < w.heap.size) (hc : w.cell? ⟨pb, po + k * 4 + 3, none⟩ = some (.slice q.A' q.n' q.c')) : w'.cell? ⟨w.heap.size, 2, none⟩ = some (.slice (some ⟨pb, po, none⟩) C.n2 C.c2) ∧ w'.cell? ⟨M, 2, none⟩ = some (.slice (some ⟨g, 0, none⟩) C.n2 cap8) ∧ w'.cell? ⟨pb, po + k * 4 + 3, none⟩ = some (.slice q.A' q.n' q.c') := by
  have h1 := h.bx.cells
  exact ⟨by rw [← hA]; exact h1.1.2.2.1, h.mb.cell 2, (h.bx.below.cell (p := ⟨pb, po + k * 4 + 3, none⟩) hb).trans hc⟩
theorem ins_src (w : World) : Src (w.alloc (.cells #[.int .u8 36, .int .i64 0, .int .i64 0, .int .i64 0, .string ⟨#[]⟩, .slice none 0 0] 31)) (some ⟨w.heap.size, 0, none⟩) 1 1 6 [.int .u8 36, .int .i64 0, .int .i64 0, .int .i64 0, .string ⟨#[]⟩, .slice none 0 0] := by
  refine ⟨rfl, by intro u hu; simp only [List.mem_cons, List.not_mem_nil, or_false] at hu; rcases hu with rfl | rfl | rfl | rfl | rfl | rfl <;> rfl, .inr ⟨_, rfl, fun j u hj => ?_⟩⟩
  rw [add_off, World.cell?_alloc_at _ _ _ _ rfl]
  simpa using hj
theorem Src.block {w w' : World} {b m c size : Nat} {news : List Value} (h : Src w (some ⟨b, 0, none⟩) m c size news) (hb : w'.heap[b]? = w.heap[b]?) : Src w' (some ⟨b, 0, none⟩) m c size news := by
  refine ⟨h.1, h.2.1, ?_⟩
  rcases h.2.2 with h0 | ⟨a', e, hc⟩
  · exact .inl h0
  · injection e with e
    subst e
    refine .inr ⟨_, rfl, fun j u hj => ?_⟩
    rw [add_off]
    have h1 := hc j u hj
    rw [add_off] at h1
    exact (World.cell?_of_block (w := w) (a := ⟨b, j, none⟩) hb).trans h1
/-- The row of parts behind the two stores. -/
theorem cur_fin {C : CV} {B k : Nat} {w : World} (hC : CodeAt w B C) {q : PV} (hq : C.parts[k]? = some q) {cur cur1 : Array Value} (hcur : ∀ j, j < C.n2 * 4 → cur[j]? = (flatP C.parts)[j]?) {r : Int}
    (h1 : cur1 = cur.setIfInBounds (k * 4) (.int .i64 r) ∨ (cur1 = cur ∧ r = q.regs)) (A : Option Addr) (n c : Nat) :
    ∀ j, j < C.n2 * 4 → (cur1.setIfInBounds (k * 4 + 3) (.slice A n c))[j]? = (flatP (C.parts.set k (moreP q r A n c)))[j]? := by
  intro j hj
  have hk : k < C.parts.length := (List.getElem?_eq_some_iff.1 hq).1
  have hl : C.n2 * 4 ≤ cur.size := by
    rcases Nat.lt_or_ge cur.size (C.n2 * 4) with h | h
    · have h2 := hcur cur.size h
      rw [Array.getElem?_eq_none (Nat.le_refl _)] at h2
      have h3 : cur.size < (flatP C.parts).length := by rw [flatP_len, hC.plen]; exact h
      rw [List.getElem?_eq_getElem h3] at h2
      cases h2
    · exact h
  have hpl := hC.plen
  rw [flatP_set hq r A n c j (by omega)]
  have hs1 : cur1.size = cur.size := by rcases h1 with h | ⟨h, -⟩ <;> rw [h] <;> simp
  rw [Array.getElem?_setIfInBounds]
  by_cases e3 : j = k * 4 + 3
  · rw [if_pos e3.symm, if_pos (by omega), if_neg (by omega), if_pos e3]
  · rw [if_neg (fun h => e3 h.symm), if_neg e3]
    by_cases e0 : j = k * 4
    · rw [if_pos e0]
      rcases h1 with h | ⟨h, h2⟩
      · rw [h, Array.getElem?_setIfInBounds, if_pos e0.symm, if_pos (by omega)]
      · rw [h, h2, hcur j hj, e0]
        exact flatP_get _ k 0 q hq (by omega)
    · rw [if_neg e0]
      rcases h1 with h | ⟨h, -⟩
      · rw [h, Array.getElem?_setIfInBounds, if_neg (fun h => e0 h.symm)]; exact hcur j hj
      · rw [h]; exact hcur j hj
theorem cur_three {C : CV} {k : Nat} {q : PV} (hq : C.parts[k]? = some q) (hk : k < C.n2) {cur cur1 : Array Value} (hcur : ∀ j, j < C.n2 * 4 → cur[j]? = (flatP C.parts)[j]?) {r : Int}
    (h1 : cur1 = cur.setIfInBounds (k * 4) (.int .i64 r) ∨ (cur1 = cur ∧ r = q.regs)) : cur1[k * 4 + 3]? = some (.slice q.A' q.n' q.c') := by
  have h0 : cur[k * 4 + 3]? = some (.slice q.A' q.n' q.c') := (hcur _ (by omega)).trans (flatP_get _ k 3 q hq (by omega))
  rcases h1 with h | ⟨h, -⟩
  · rw [h, Array.getElem?_setIfInBounds, if_neg (by omega)]; exact h0
  · rw [h]; exact h0
theorem more_moreC {C : CV} {k : Nat} {q : PV} (hq : C.parts[k]? = some q) (r : Int) (A A2 : Option Addr) (n c cap : Nat) : MoreC C (moreC C k (moreP q r A n c) A2 cap) :=
  ⟨rfl, rfl, rfl, rfl, rfl, rfl, fun f p hp => by
    unfold at? at hp ⊢
    by_cases h0 : 0 ≤ f
    · rw [if_pos h0] at hp ⊢
      show ∃ q', (C.parts.set k (moreP q r A n c))[f.toNat]? = some q' ∧ _
      rw [List.getElem?_set]
      by_cases hk : k = f.toNat
      · rw [if_pos hk, if_pos (by rw [hk]; exact (List.getElem?_eq_some_iff.1 hp).1)]
        rw [hk] at hq
        obtain rfl : p = q := Option.some.inj (hp.symm.trans hq)
        exact ⟨_, rfl, rfl, rfl⟩
      · rw [if_neg hk]
        exact ⟨p, hp, rfl, rfl⟩
    · rw [if_neg h0] at hp; cases hp⟩
theorem more_insB {C : CV} {k : Nat} {q : PV} (hq : C.parts[k]? = some q) {i : IV} (h : insB C k i = true) {r : Int} (hr : q.regs ≤ r) {n : Nat} (hn : q.n' ≤ n) (A A2 : Option Addr) (c cap : Nat) : insB (moreC C k (moreP q r A n c) A2 cap) k i = true := by
  have e : (moreC C k (moreP q r A n c) A2 cap).parts[k]? = some (moreP q r A n c) := by
    show (C.parts.set k _)[k]? = _
    rw [List.getElem?_set, if_pos rfl, if_pos (List.getElem?_eq_some_iff.1 hq).1]
  rw [insB_in i e]
  rw [insB_in i hq] at h
  exact more_ins (p := q) (more_moreC hq r A A2 n c cap) (⟨hr, hn, rfl, rfl, rfl⟩ : MoreP q (moreP q r A n c)) h
theorem p_more {w : World} {B : Nat} {C : CV} {k g cap n c : Nat} {q : PV} {r : Int} {A : Option Addr} (h : CodeAt w B (moreC C k (moreP q r A n c) (some ⟨g, 0, none⟩) cap)) (hk : (Lit.int .i64 (k : Int)).wf = true) (i : IV) (hi : IOk i) (hl : Ints w B i.A i.n i.args)
    (hq : C.parts[k]? = some q) (hb : insB C k i = true) (hr : q.regs ≤ r) (hn : q.n' ≤ n) :
    Calls Tryd.prog 7 #[.agg #[.slice C.A0 C.n0 C.c0, .slice C.A1 C.n1 C.c1, .slice (some ⟨g, 0, none⟩) C.n2 cap, .slice C.A3 C.n3 C.c3, .slice C.A4 C.n4 C.c4, .slice C.A5 C.n5 C.c5, .slice C.A6 C.n6 C.c6], .int .i64 k, .agg #[.int .u8 i.op, .int .i64 i.a, .int .i64 i.b, .int .i64 i.c, .string i.s, .slice i.A i.n i.cap]] w fun e w' => e = .returned (.bool true) ∧ Below w.heap.size w w' := by
  have := p_ins h k hk i hi hl
  rw [more_insB hq hb hr hn A _ c cap] at this
  exact this
theorem K13.mcells {w w' : World} {C : CV} {i j : IV} {M g cap8 : Nat} {cur : Array Value} (h : K13 w w' C i j M g cap8 cur) : w'.cell? ⟨M, 0, none⟩ = some (.slice C.A0 C.n0 C.c0) ∧ w'.cell? ⟨M, 1, none⟩ = some (.slice C.A1 C.n1 C.c1) ∧ w'.cell? ⟨M, 2, none⟩ = some (.slice (some ⟨g, 0, none⟩) C.n2 cap8) ∧ w'.cell? ⟨M, 3, none⟩ = some (.slice C.A3 C.n3 C.c3) ∧ w'.cell? ⟨M, 4, none⟩ = some (.slice C.A4 C.n4 C.c4) ∧ w'.cell? ⟨M, 5, none⟩ = some (.slice C.A5 C.n5 C.c5) ∧ w'.cell? ⟨M, 6, none⟩ = some (.slice C.A6 C.n6 C.c6) :=
  ⟨h.mb.cell 0, h.mb.cell 1, h.mb.cell 2, h.mb.cell 3, h.mb.cell 4, h.mb.cell 5, h.mb.cell 6⟩
end Go.Proofs.YtankpckkiikmaaaDoor
