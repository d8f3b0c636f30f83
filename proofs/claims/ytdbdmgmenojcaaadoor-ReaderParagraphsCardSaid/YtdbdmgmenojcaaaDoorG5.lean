/- A world: a script of calls that came in; the plain law of WorldLimits. -/
import Derived.Test.YtdbdmgmenojcaaaDoorG3
import Derived.Test.YtdbdmgmenojcaaaDoorG4
import Derived.Deep.Slices
import Derived.Lib.IndexMore
import Derived.Lib.TrimByte
import Derived.Lib.Join
import Derived.Lib.Strings
import Derived.Lib.Replace
set_option linter.unusedVariables false
set_option linter.unusedSimpArgs false
namespace Go.Proofs.YtdbdmgmenojcaaaDoor
open Go.RowKit Go.ChangeShapes Go.WideShapes Go.Deep Wd

theorem add_offX (b o i : Nat) : (⟨b, o, none⟩ : Addr).add i = ⟨b, o + i, none⟩ := by unfold Addr.add; split <;> simp_all
structure Wd.OpV where
  kind : Int
  k : Int
  name : ByteArray
  data : ByteArray
  n : Int



namespace Wd
def opens (l : List Ev) : Nat := l.countP (fun e => e.k == 1)
def closes (l : List Ev) : Nat := l.countP (fun e => e.k == 3)
structure Fine (L : Int) (st : St) : Prop where
  lim : st.lim = L
  len : (st.opn.length : Int) ≤ L
  kind : ∀ m ∈ st.opn, 1 ≤ m.k ∧ m.k ≤ 5
  apart : st.opn.Pairwise (fun a b => ¬ (a.k = b.k ∧ a.name = b.name))
  bal : opens st.trace = closes st.trace + st.opn.length
theorem find_any (st : St) (k : Int) (name : ByteArray) : (find st k name).isSome = st.opn.any (hit k name) := by
  unfold find
  rw [List.findIdx?_isSome]
def cntL (l : List Sm) (name : ByteArray) : Nat → Nat
  | 0 => 0
  | n + 1 => (if l.any (hit ((n + 1 : Nat) : Int) name) then 1 else 0) + cntL l name n
theorem cnt_filter (name : ByteArray) : ∀ (l : List Sm), (∀ m ∈ l, 1 ≤ m.k ∧ m.k ≤ 5) → l.Pairwise (fun a b => ¬ (a.k = b.k ∧ a.name = b.name)) → cntL l name 5 = (l.filter (fun m => decide (m.name = name))).length := by
  intro l
  induction l with
  | nil => intro _ _; simp [cntL]
  | cons m l ih =>
    intro hk hp
    obtain ⟨hp1, hp2⟩ := List.pairwise_cons.1 hp
    have h0 := ih (fun x hx => hk x (List.mem_cons_of_mem _ hx)) hp2
    have hmk := hk m (List.mem_cons_self)
    by_cases hm : m.name = name
    · have hno : l.any (hit m.k name) = false := by
        rw [List.any_eq_false]
        intro x hx hh
        simp only [hit, Bool.and_eq_true, decide_eq_true_eq] at hh
        exact hp1 x hx ⟨hh.1.symm, by rw [hm, hh.2]⟩
      have step : ∀ n, cntL (m :: l) name n = cntL l name n + if 1 ≤ m.k ∧ m.k ≤ n then 1 else 0 := by
        intro n
        induction n with
        | zero => rw [if_neg (by omega)]; rfl
        | succ n ihn =>
          show (if (m :: l).any (hit ((n + 1 : Nat) : Int) name) then 1 else 0) + cntL (m :: l) name n = (if l.any (hit ((n + 1 : Nat) : Int) name) then 1 else 0) + cntL l name n + _
          rw [ihn, List.any_cons]
          by_cases e : m.k = ((n + 1 : Nat) : Int)
          · have e1 : hit ((n + 1 : Nat) : Int) name m = true := by simp [hit, e, hm]
            have hno' : l.any (hit ((n + 1 : Nat) : Int) name) = false := by rw [← e]; exact hno
            rw [e1, hno', Bool.true_or, if_pos rfl, if_neg (by decide : ¬ (false = true)), if_neg (show ¬ (1 ≤ m.k ∧ m.k ≤ (n : Int)) by omega), if_pos (show 1 ≤ m.k ∧ m.k ≤ ((n + 1 : Nat) : Int) by omega)]
            omega
          · have e1 : hit ((n + 1 : Nat) : Int) name m = false := by simp only [hit, decide_eq_false e, Bool.false_and]
            rw [e1, Bool.false_or]
            by_cases c : 1 ≤ m.k ∧ m.k ≤ (n : Int)
            · rw [if_pos c, if_pos (show 1 ≤ m.k ∧ m.k ≤ ((n + 1 : Nat) : Int) by omega)]
              omega
            · rw [if_neg c, if_neg (show ¬ (1 ≤ m.k ∧ m.k ≤ ((n + 1 : Nat) : Int)) by omega)]
              omega
      rw [step 5, h0, if_pos (show 1 ≤ m.k ∧ m.k ≤ ((5 : Nat) : Int) by omega), List.filter_cons, if_pos (by simp [hm])]
      rfl
    · have step : ∀ n, cntL (m :: l) name n = cntL l name n := by
        intro n
        induction n with
        | zero => rfl
        | succ n ihn =>
          show (if (m :: l).any _ then 1 else 0) + cntL (m :: l) name n = (if l.any _ then 1 else 0) + cntL l name n
          rw [ihn, List.any_cons, show hit ((n + 1 : Nat) : Int) name m = false by simp [hit, hm], Bool.false_or]
      rw [step 5, h0, List.filter_cons, if_neg (by simp [hm])]
theorem filter_two (l : List Sm) (q : Sm → Bool) : l.length = (l.filter q).length + (l.filter (fun m => !q m)).length := by
  induction l with
  | nil => rfl
  | cons m l ih => rw [List.filter_cons, List.filter_cons, List.length_cons, ih]; cases q m <;> simp <;> omega
theorem closeK_cnt (st : St) (name : ByteArray) (n : Nat) : opens (closeK st name n).1.trace = opens st.trace ∧ closes (closeK st name n).1.trace = closes st.trace + cntL st.opn name n ∧ ((closeK st name n).2.2 = decide (0 < cntL st.opn name n)) := by
  induction n with
  | zero => exact ⟨rfl, rfl, rfl⟩
  | succ n ih =>
    obtain ⟨h1, h2, h3⟩ := ih
    have hc : cntL st.opn name (n + 1) = (if st.opn.any (hit ((n + 1 : Nat) : Int) name) then 1 else 0) + cntL st.opn name n := rfl
    unfold closeK
    rw [find_any, hc]
    by_cases ha : st.opn.any (hit ((n + 1 : Nat) : Int) name) = true
    · rw [if_pos ha, if_pos ha]
      refine ⟨?_, ?_, ?_⟩
      · show opens ((closeK st name n).1.trace ++ [_]) = _
        unfold opens at *
        rw [List.countP_append, h1]; rfl
      · show closes ((closeK st name n).1.trace ++ [_]) = _
        unfold closes at *
        rw [List.countP_append, h2]
        show _ + 1 = _
        omega
      · show true = _
        exact (decide_eq_true (by omega)).symm
    · rw [if_neg ha, if_neg ha, Nat.zero_add]
      exact ⟨h1, h2, h3⟩
theorem fine_close {lim : Int} {st : St} (h : Fine lim st) (name : ByteArray) : Fine lim (closeL st name).1 ∧ (closeL st name).2.2 = decide ((closeL st name).1.opn.length < st.opn.length) := by
  obtain ⟨c1, c2, c3⟩ := closeK_cnt st name 5
  have c4 := cnt_filter name st.opn h.kind h.apart
  have c5 := filter_two st.opn (fun m => decide (m.name = name))
  have c6 : (closeL st name).1.opn = st.opn.filter (fun m => !decide (m.name = name)) := rfl
  refine ⟨⟨?_, ?_, ?_, ?_, ?_⟩, ?_⟩
  · show (closeK st name 5).1.lim = lim
    rw [(closeK_same st name 5).1]; exact h.lim
  · rw [c6]; have := h.len; have := List.length_filter_le (fun m : Sm => !decide (m.name = name)) st.opn; omega
  · rw [c6]; intro m hm; exact h.kind m (List.mem_filter.1 hm).1
  · rw [c6]; exact h.apart.filter _
  · rw [c6]
    show opens (closeK st name 5).1.trace = closes (closeK st name 5).1.trace + _
    rw [c1, c2, h.bal, c4]; omega
  · rw [c6]
    show (closeK st name 5).2.2 = _
    rw [c3, c4]
    congr 1
    exact propext (by omega)
theorem fine_closed {lim : Int} {st st' : St} (h : Fine lim st) (hc : ClosedTo st st') : Fine lim st' := by
  induction hc with
  | refl => exact h
  | step _ _ ih => exact (fine_close ih _).1
theorem find_kind {lim : Int} {st : St} (h : Fine lim st) {k : Int} {name : ByteArray} (hk : k < 1 ∨ 5 < k) : (find st k name).isSome = false := by
  rw [find_any, List.any_eq_false]
  intro m hm hh
  simp only [hit, Bool.and_eq_true, decide_eq_true_eq] at hh
  have := h.kind m hm
  omega
theorem fine_open {lim : Int} {st : St} (h : Fine lim st) (k : Int) (name : ByteArray) :
    Fine lim (openL st k name).1 ∧ (k ≠ 6 → (find (openL st k name).1 k name).isSome = decide ((openL st k name).2 = 0)) ∧
      (decide ((openL st k name).1.opn.length = st.opn.length + 1) = (decide ((openL st k name).2 = 0) && !(decide (k = 6) || (find st k name).isSome))) := by
  unfold openL
  by_cases hA : k < 1 ∨ 5 < k
  · rw [if_pos hA]
    exact ⟨h, fun _ => by rw [find_kind h hA]; rfl, by simp⟩
  · rw [if_neg hA]
    by_cases hf : (find st k name).isSome = true
    · rw [if_pos hf]
      exact ⟨h, fun _ => by rw [hf]; rfl, by simp [hf]⟩
    · rw [if_neg hf]
      have hf' : (find st k name).isSome = false := by simpa using hf
      by_cases hL : st.lim ≤ st.opn.length
      · rw [if_pos hL]
        exact ⟨h, fun _ => by rw [hf']; rfl, by simp⟩
      · rw [if_neg hL]
        by_cases hE : failB st 1 name = true ∨ (k = 1 ∧ name ≠ minus ∧ (st.files name.data.toList).isSome = false)
        · rw [if_pos hE]
          exact ⟨h, fun _ => by rw [hf']; rfl, by simp⟩
        · rw [if_neg hE]
          have hno : st.opn.any (hit k name) = false := by rw [← find_any]; exact hf'
          refine ⟨⟨h.lim, ?_, ?_, ?_, ?_⟩, fun _ => ?_, ?_⟩
          · show (((st.opn ++ [_]).length : Nat) : Int) ≤ lim
            rw [List.length_append]
            have := h.lim
            show ((st.opn.length + 1 : Nat) : Int) ≤ lim
            omega
          · intro m hm
            rcases List.mem_append.1 (show m ∈ st.opn ++ [_] from hm) with hm | hm
            · exact h.kind m hm
            · rw [List.mem_singleton.1 hm]; show 1 ≤ k ∧ k ≤ 5; omega
          · show (st.opn ++ [_]).Pairwise _
            rw [List.pairwise_append]
            refine ⟨h.apart, List.pairwise_singleton _ _, fun a ha b hb => ?_⟩
            rw [List.mem_singleton.1 hb]
            rintro ⟨e1, e2⟩
            rw [List.any_eq_false] at hno
            exact hno a ha (by simp [hit, show a.k = k from e1, show a.name = name from e2])
          · show opens (st.trace ++ [_]) = closes (st.trace ++ [_]) + (st.opn ++ [_]).length
            have hb := h.bal
            unfold opens closes at *
            rw [List.countP_append, List.countP_append, List.length_append, hb]
            show _ + 1 = _ + 0 + (_ + 1)
            omega
          · rw [find_any]
            show (st.opn ++ [_]).any (hit k name) = true
            rw [List.any_append]
            simp [hit]
          · show decide ((st.opn ++ [_]).length = st.opn.length + 1) = _
            rw [hf', List.length_append]
            have : ¬ k = 6 := by omega
            simp [this]
theorem openL_trace (st : St) (k : Int) (name : ByteArray) : (openL st k name).1.trace.length ≤ st.trace.length + 1 ∧ (openL st k name).1.replies = st.replies ∧ (openL st k name).1.fails = st.fails := by
  unfold openL
  by_cases h1 : k < 1 ∨ 5 < k
  · rw [if_pos h1]; exact ⟨Nat.le_succ _, rfl, rfl⟩
  · rw [if_neg h1]
    by_cases h2 : (find st k name).isSome = true
    · rw [if_pos h2]; exact ⟨Nat.le_succ _, rfl, rfl⟩
    · rw [if_neg h2]
      by_cases h3 : st.lim ≤ st.opn.length
      · rw [if_pos h3]; exact ⟨Nat.le_succ _, rfl, rfl⟩
      · rw [if_neg h3]
        by_cases h4 : failB st 1 name = true ∨ (k = 1 ∧ name ≠ minus ∧ (st.files name.data.toList).isSome = false)
        · rw [if_pos h4]; exact ⟨Nat.le_succ _, rfl, rfl⟩
        · rw [if_neg h4]
          refine ⟨?_, rfl, rfl⟩
          show (st.trace ++ [_]).length ≤ _
          rw [List.length_append]
          exact Nat.le_refl _
theorem closeL_fails (st : St) (name : ByteArray) : (closeL st name).1.fails = st.fails := by show (closeK st name 5).1.fails = _; rw [(closeK_same st name 5).1]
end Wd
end Go.Proofs.YtdbdmgmenojcaaaDoor
namespace Go.Proofs.YtdbdmgmenojcaaaDoor
open Go.RowKit Wd
open Go.WideMaps Go.WideElems Go.WideAt

def Wd.setAtL (l : List Sm) (i : Nat) (left : ByteArray) : List Sm := l.set i { l.getD i smZero with left := left }
/-- What Read gives, and the world then. -/
def Wd.cutN (n : Int) (s : ByteArray) : Nat := min n.toNat s.size
def Wd.readL (st : St) (k : Int) (name : ByteArray) (n : Int) : St × ByteArray × Int :=
  if ¬ (k = 1 ∨ k = 2) then (st, ⟨#[]⟩, 16)
  else match find st k name with
  | none => (st, ⟨#[]⟩, 16)
  | some i =>
    if n < 1 then (st, ⟨#[]⟩, 2)
    else if failB st 2 name then (st, ⟨#[]⟩, 13)
    else if k = 1 ∧ name = minus then ({ st with stdin := st.stdin.extract (cutN n st.stdin) st.stdin.size }, st.stdin.extract 0 (cutN n st.stdin), 0)
    else ({ st with opn := setAtL st.opn i ((st.opn.getD i smZero).left.extract (cutN n (st.opn.getD i smZero).left) (st.opn.getD i smZero).left.size) }, (st.opn.getD i smZero).left.extract 0 (cutN n (st.opn.getD i smZero).left), 0)
/-- One cell of the world's own, set. -/
theorem WAt.setHead {w : World} {F : Nat → Prop} {pb : Nat} {M : Mem} {st st' : St} (h : WAt w F pb M st) (i : Nat) (v : Value) (hc : (wcells M st).setIfInBounds i v = wcells M st') (h1 : st'.files = st.files) (h2 : st'.opn = st.opn) (h3 : st'.trace = st.trace) (h4 : st'.replies = st.replies) (h5 : st'.fails = st.fails) :
    WAt (w.setCell ⟨pb, i, none⟩ v) F pb M st' ∧ Tur F w (w.setCell ⟨pb, i, none⟩ v) := by
  have ht : Tur (· = pb) w (w.setCell ⟨pb, i, none⟩ v) := Tur.of_set ⟨pb, i, none⟩ v
  have hrow : ∀ (u : Value) (t : TypeId) (sz n : Nat) (cs : List Value), w.ownsRow 0 t sz u n cs → t ≠ 93 → ∀ k, u.ownBlock = some k → ¬ k = pb := by
    intro u t sz n cs hr ht2 k hk e
    obtain ⟨cur, hc, -⟩ := own_lt hr hk
    exact cells_ne hc h.head ht2 e
  refine ⟨?_, ht.mono (fun k _ e => by rw [e]; exact h.fp)⟩
  exact {
    flt := fun k hk => Nat.lt_of_lt_of_le (h.flt k hk) ht.size
    fp := h.fp
    fm := h.fm
    fo := h.fo
    ft := h.ft
    fr := h.fr
    ff := h.ff
    fg := h.fg
    head := by have := h.head.set i v; rw [hc] at this; exact this
    map := by rw [h1]; exact h.map' ht (fun e => map_ne h.head h.map e.symm)
    rowO := by rw [h2]; exact h.rowO' ht (hrow _ _ _ _ _ h.rowO (by decide))
    strm := by rw [h2]; exact h.strm' ht (fun k hk => by obtain ⟨cs, hc⟩ := h.gsAt hk; exact fun e => cells_ne hc h.head (by decide) e)
    nd := h.nd
    rowT := by rw [h3]; exact h.rowT' ht (hrow _ _ _ _ _ h.rowT (by decide))
    rowR := by rw [h4]; exact h.rowR' ht (hrow _ _ _ _ _ h.rowR (by decide))
    rowF := by rw [h5]; exact h.rowF' ht (hrow _ _ _ _ _ h.rowF (by decide)) }
/-- What a stream still gives, set. -/
theorem WAt.setLeft {w : World} {F : Nat → Prop} {pb : Nat} {M : Mem} {st : St} (h : WAt w F pb M st) (i : Nat) (hi : i < st.opn.length) (left : ByteArray) :
    WAt (w.setCell ⟨M.gs.getD i 0, 2, none⟩ (.string left)) F pb M { st with opn := setAtL st.opn i left } ∧ Tur F w (w.setCell ⟨M.gs.getD i 0, 2, none⟩ (.string left)) := by
  have hig : i < M.gs.length := by rw [h.gl]; exact hi
  obtain ⟨g, hg, hB⟩ := h.strm i hi
  have hgd : M.gs.getD i 0 = g := by simp [List.getD, hg]
  rw [hgd]
  have hgm : g ∈ M.gs := List.mem_of_getElem? hg
  have ht : Tur (· = g) w (w.setCell ⟨g, 2, none⟩ (.string left)) := Tur.of_set ⟨g, 2, none⟩ _
  have hrow : ∀ (u : Value) (t : TypeId) (sz n : Nat) (cs : List Value), w.ownsRow 0 t sz u n cs → t ≠ 109 → ∀ k, u.ownBlock = some k → ¬ k = g := by
    intro u t sz n cs hr ht2 k hk e
    obtain ⟨cur, hc, -⟩ := own_lt hr hk
    exact cells_ne hc hB ht2 e
  refine ⟨?_, ht.mono (fun k _ e => by rw [e]; exact h.fg g hgm)⟩
  exact {
    flt := fun k hk => Nat.lt_of_lt_of_le (h.flt k hk) ht.size
    fp := h.fp
    fm := h.fm
    fo := h.fo
    ft := h.ft
    fr := h.fr
    ff := h.ff
    fg := h.fg
    head := h.head' ht (fun e => cells_ne h.head hB (by decide) e)
    map := h.map' ht (fun e => map_ne hB h.map e.symm)
    rowO := by
      show World.ownsRow _ 0 99 1 M.vo (setAtL st.opn i left).length _
      rw [show (setAtL st.opn i left).length = st.opn.length by simp [setAtL]]
      exact h.rowO' ht (hrow _ _ _ _ _ h.rowO (by decide))
    strm := fun j hj => by
      have hj' : j < st.opn.length := by simpa [setAtL] using hj
      obtain ⟨gj, hgj, hBj⟩ := h.strm j hj'
      refine ⟨gj, hgj, ?_⟩
      show Blk _ gj _ ((setAtL st.opn i left)[j]'hj).cells
      by_cases e : j = i
      · subst e
        rw [hg] at hgj
        injection hgj with hgj
        subst hgj
        have hs := hB.set 2 (.string left)
        simp only [setAtL, List.getElem_set_self]
        have e2 : st.opn.getD j smZero = st.opn[j] := by simp [List.getD, hj']
        rw [e2]
        exact hs
      · have hne : gj ≠ g := by
          intro e2
          have h1 : M.gs[j]? = M.gs[i]? := by rw [hgj, hg, e2]
          exact e ((List.getElem?_inj (by rw [h.gl]; exact hj') h.nd).1 h1)
        simp only [setAtL, List.getElem_set_ne (Ne.symm e)]
        exact hBj.keep ht hne
    nd := h.nd
    rowT := h.rowT' ht (hrow _ _ _ _ _ h.rowT (by decide))
    rowR := h.rowR' ht (hrow _ _ _ _ _ h.rowR (by decide))
    rowF := h.rowF' ht (hrow _ _ _ _ _ h.rowF (by decide)) }
end Go.Proofs.YtdbdmgmenojcaaaDoor
namespace Go.Proofs.YtdbdmgmenojcaaaDoor
open Go.RowKit Wd
open Go.WideMaps Go.WideElems Go.WideAt
set_option maxRecDepth 20000 in
set_option maxHeartbeats 4000000 in
theorem wo_read_in {w : World} {F : Nat → Prop} {pb : Nat} {M : Mem} {st : St} (h : WAt w F pb M st) (q : Nat) (hno : st.opn.length ≤ 1000000000) (hnf : st.fails.length ≤ 1000000000) (hn : q ≤ 1000000000) (hq1 : ¬ (q : Int) < 1)
    (hs1 : st.stdin.size ≤ 4294967296) (i : Nat) (hf : find st 1 minus = some i) (hfl : failB st 2 minus = false) :
    Calls Tryd.prog 18 #[.pointer (some ⟨pb, 0, none⟩), .int .u8 1, .string minus, .int .i64 q] w fun e w' => e = .returned (.tuple #[.string (st.stdin.extract 0 (cutN q st.stdin)), .int .i64 0]) ∧ WAt w' F pb M { st with stdin := st.stdin.extract (cutN q st.stdin) st.stdin.size } ∧ Tur F w w' := by
  have H := Lib.hid h
  clear h
  have hi : i < st.opn.length := (List.findIdx?_eq_some_iff_getElem.1 hf).1
  have HFV : Hid (findV M st 1 minus = .pointer (some ⟨M.gs.getD i 0, 0, none⟩)) := by unfold Hid findV; rw [hf]
  have HFB := Lib.hid hfl
  obtain ⟨g, hgd⟩ : ∃ g, M.gs.getD i 0 = g := ⟨_, rfl⟩
  rw [hgd] at HFV
  obtain ⟨s, hs⟩ : ∃ s, s = st.stdin := ⟨_, rfl⟩
  have HSS := Lib.hid hs
  rw [← hs] at hs1 ⊢
  obtain ⟨c, hc⟩ : ∃ c, c = cutN q s := ⟨_, rfl⟩
  have hmin : ((q : Int) ≤ (s.size : Int) ∧ c = q) ∨ ((s.size : Int) < (q : Int) ∧ c = s.size) := by
    rw [hc]
    unfold cutN
    rcases Nat.lt_or_ge s.size q with h | h
    · right; exact ⟨by omega, by simp; omega⟩
    · left; exact ⟨by omega, by simp; omega⟩
  rw [← hc]
  have hnb : (minus.toList == [45]) = true := by rw [minus_list]; simp
  obtain ⟨nm, hnm⟩ : ∃ nm, nm = minus := ⟨_, rfl⟩
  rw [← hnm] at HFV HFB hnb ⊢
  have hcs : c ≤ s.size := by rcases hmin with h | h <;> omega
  clear hs hf hfl hgd hc hnm
  go_enter Tryd.func18, Tryd.ntmps18
  go_wp2_with fail
  refine (wo_none H.out).mono ?_
  rintro e w2 ⟨rfl, rfl⟩
  go_wp2_with fail
  refine (wo_find H.out _ nm hno).mono ?_
  rintro e w1 ⟨rfl, hb1⟩
  rw [HFV.out]
  have H1 := Lib.hid (H.out.pure hb1)
  have HT1 := Lib.hid (Tur.of_gr (F := F) hb1)
  clear hb1
  go_wp2_with fail
  refine (wo_fail H1.out 2 nm hnf).mono ?_
  rintro e w3 ⟨rfl, hb3⟩
  rw [HFB.out]
  have H3 := Lib.hid (H1.out.pure hb3)
  have HT3 := Lib.hid (HT1.out.trans (Tur.of_gr (F := F) hb3) (fun _ _ e => e))
  clear hb3
  have c9 : w3.cell? ⟨pb, 9, none⟩ = some (.string s) := HSS.out ▸ H3.out.cell 9
  have f9 := H3.out.free 9
  have hcs2 : (c : Int) ≤ (s.size : Int) := by omega
  have hc0 : (0 : Int) ≤ (c : Int) := by omega
  have HST := Lib.hid (H3.out.setHead (st' := { st with stdin := s.extract c s.size }) 9 (.string (s.extract c s.size)) (by rfl) rfl rfl rfl rfl rfl)
  have hmin2 : (c = q ∧ (q : Int) ≤ (s.size : Int)) ∨ (c = s.size ∧ ¬ (q : Int) ≤ (s.size : Int)) := by omega
  clear hmin
  rcases hmin2 with ⟨rfl, hm⟩ | ⟨rfl, hm⟩
  all_goals
    go_wp2_with fail
    go_ret2
    first
      | exact ⟨rfl, HST.out.1, HT3.out.trans HST.out.2 (fun _ _ e => e)⟩
      | (have he : s.extract s.size s.size = ByteArray.empty := by simp
         have h2 := HST.out
         rw [he] at h2 ⊢
         exact ⟨by first | rfl | (rw [show s.extract 0 s.size = s by simp]; rfl), h2.1, HT3.out.trans h2.2 (fun _ _ e => e)⟩)
set_option maxRecDepth 20000 in
set_option maxHeartbeats 4000000 in
theorem wo_read_st {w : World} {F : Nat → Prop} {pb : Nat} {M : Mem} {st : St} (h : WAt w F pb M st) (k : Int) (nm : ByteArray) (q : Nat) (hk : k = 1 ∨ k = 2) (hin : ¬ (k = 1 ∧ nm = minus)) (hno : st.opn.length ≤ 1000000000) (hnf : st.fails.length ≤ 1000000000) (hn : q ≤ 1000000000) (hq1 : ¬ (q : Int) < 1)
    (i : Nat) (hf : find st k nm = some i) (hfl : failB st 2 nm = false) (s : ByteArray) (hs : s = (st.opn.getD i smZero).left) (hs1 : s.size ≤ 4294967296) :
    Calls Tryd.prog 18 #[.pointer (some ⟨pb, 0, none⟩), .int .u8 k, .string nm, .int .i64 q] w fun e w' => e = .returned (.tuple #[.string (s.extract 0 (cutN q s)), .int .i64 0]) ∧ WAt w' F pb M { st with opn := setAtL st.opn i (s.extract (cutN q s) s.size) } ∧ Tur F w w' := by
  have H := Lib.hid h
  clear h
  have hi : i < st.opn.length := (List.findIdx?_eq_some_iff_getElem.1 hf).1
  have HFV : Hid (findV M st k nm = .pointer (some ⟨M.gs.getD i 0, 0, none⟩)) := by unfold Hid findV; rw [hf]
  have HFB := Lib.hid hfl
  obtain ⟨g, hgd⟩ : ∃ g, M.gs.getD i 0 = g := ⟨_, rfl⟩
  rw [hgd] at HFV
  have HGD := Lib.hid hgd
  have HSE := Lib.hid hs
  have HII := Lib.hid hi
  obtain ⟨c, hc⟩ : ∃ c, c = cutN q s := ⟨_, rfl⟩
  have hmin : ((q : Int) ≤ (s.size : Int) ∧ c = q) ∨ ((s.size : Int) < (q : Int) ∧ c = s.size) := by
    rw [hc]
    unfold cutN
    rcases Nat.lt_or_ge s.size q with h | h
    · right; exact ⟨by omega, by simp; omega⟩
    · left; exact ⟨by omega, by simp; omega⟩
  rw [← hc]
  have hcs : c ≤ s.size := by rcases hmin with h | h <;> omega
  have hnb9 : k = 1 → (nm.toList == [45]) = false ∧ ¬ nm.toList = [45] := fun h => by
    have h2 : ¬ nm = minus := fun e => hin ⟨h, e⟩
    have h3 : (nm.toList == minus.toList) = false := by rw [str_eq]; exact decide_eq_false h2
    rw [minus_list] at h3
    exact ⟨h3, beq_eq_false_iff_ne.1 h3⟩
  have hk9 : (k = 1 ∧ (nm.toList == [45]) = false ∧ ¬ nm.toList = [45]) ∨ (k = 2 ∧ True ∧ True) := by
    rcases hk with h | h
    · exact .inl ⟨h, hnb9 h⟩
    · exact .inr ⟨h, trivial, trivial⟩
  clear hs hf hfl hgd hc hk hin hi hnb9
  rcases hk9 with ⟨rfl, hnb, hnb2⟩ | ⟨rfl, -, -⟩
  all_goals
    go_enter Tryd.func18, Tryd.ntmps18
    go_wp2_with fail
    refine (wo_none H.out).mono ?_
    rintro e w2 ⟨rfl, rfl⟩
    go_wp2_with fail
    refine (wo_find H.out _ nm hno).mono ?_
    rintro e w1 ⟨rfl, hb1⟩
    rw [HFV.out]
    have H1 := Lib.hid (H.out.pure hb1)
    have HT1 := Lib.hid (Tur.of_gr (F := F) hb1)
    clear hb1
    go_wp2_with fail
    refine (wo_fail H1.out 2 nm hnf).mono ?_
    rintro e w3 ⟨rfl, hb3⟩
    rw [HFB.out]
    have H3 := Lib.hid (H1.out.pure hb3)
    have HT3 := Lib.hid (HT1.out.trans (Tur.of_gr (F := F) hb3) (fun _ _ e => e))
    clear hb3
    have hst := H3.out.strm i HII.out
    have hst2 : Blk w3 g 109 (Sm.cells ⟨(st.opn.getD i smZero).k, (st.opn.getD i smZero).name, s⟩) := by
      obtain ⟨g', hg', hB⟩ := hst
      have e1 : g' = g := by rw [← HGD.out]; simp [List.getD, hg']
      have e2 : st.opn.getD i smZero = st.opn[i]'HII.out := by have := HII.out; simp [List.getD, this]
      rw [HSE.out, e2, ← e1]
      exact hB
    have c9 : w3.cell? ⟨g, 2, none⟩ = some (.string s) := hst2.cell 2
    have f9 := hst2.free 2
    have hcs2 : (c : Int) ≤ (s.size : Int) := by omega
    have hc0 : (0 : Int) ≤ (c : Int) := by omega
    have hsl := H3.out.setLeft i HII.out (s.extract c s.size)
    rw [HGD.out] at hsl
    have HST := Lib.hid hsl
    have hmin2 : (c = q ∧ (q : Int) ≤ (s.size : Int)) ∨ (c = s.size ∧ ¬ (q : Int) ≤ (s.size : Int)) := by omega
    clear hmin hst hst2 hsl
    rcases hmin2 with ⟨rfl, hm⟩ | ⟨rfl, hm⟩
    all_goals
      go_wp2_with fail
      go_ret2
      first
        | exact ⟨rfl, HST.out.1, HT3.out.trans HST.out.2 (fun _ _ e => e)⟩
        | (have he : s.extract s.size s.size = ByteArray.empty := by simp
           have h2 := HST.out
           rw [he] at h2 ⊢
           exact ⟨by first | rfl | (rw [show s.extract 0 s.size = s by simp]; rfl), h2.1, HT3.out.trans h2.2 (fun _ _ e => e)⟩)
end Go.Proofs.YtdbdmgmenojcaaaDoor
namespace Go.Proofs.YtdbdmgmenojcaaaDoor
open Go.RowKit Wd
open Go.WideMaps Go.WideElems Go.WideAt
set_option maxRecDepth 20000 in
set_option maxHeartbeats 4000000 in
theorem wo_newE {w : World} (stdin : ByteArray) (lim : Int) (hlim : 0 ≤ lim ∧ lim ≤ 16) :
    Calls Tryd.prog 12 #[.agg #[.slice none 0 0, .string stdin, .slice none 0 0, .slice none 0 0, .int .i64 lim, .int .i64 0, .int .u64 0]] w fun e w' => ∃ pb M F, e = .returned (.tuple #[.pointer (some ⟨pb, 0, none⟩), .int .i64 0]) ∧ WAt w' F pb M ⟨lim, 0, filesOf [], stdin, [], 0, [], [], []⟩ ∧ Below w.heap.size w w' ∧ (∀ g, F g → w.heap.size ≤ g) ∧ M.m ≤ 0 := by
  have HB := Lib.hid (Blk.new w 38 #[.slice none 0 0, .string stdin, .slice none 0 0, .slice none 0 0, .int .i64 lim, .int .i64 0, .int .u64 0])
  have HB0 := Lib.hid ((Below.refl w.heap.size w).alloc (Nat.le_refl _) (.cells #[.slice none 0 0, .string stdin, .slice none 0 0, .slice none 0 0, .int .i64 lim, .int .i64 0, .int .u64 0] 38))
  go_enter Tryd.func12, Tryd.ntmps12
  go_wp2_with fail
  generalize w.alloc (.cells #[.slice none 0 0, .string stdin, .slice none 0 0, .slice none 0 0, .int .i64 lim, .int .i64 0, .int .u64 0] 38) = w1 at *
  obtain ⟨B, hB⟩ : ∃ B, B = w.heap.size := ⟨_, rfl⟩
  rw [← hB] at HB HB0 ⊢
  have HBE := Lib.hid hB
  have S1 : ∀ w', Blk w' B 38 #[.slice none 0 0, .string stdin, .slice none 0 0, .slice none 0 0, .int .i64 lim, .int .i64 0, .int .u64 0] → w'.cell? ⟨B, 0, none⟩ = some (.slice none 0 0) ∧ w'.cell? ⟨B, 1, none⟩ = some (.string stdin) ∧ w'.cell? ⟨B, 2, none⟩ = some (.slice none 0 0) ∧ w'.cell? ⟨B, 3, none⟩ = some (.slice none 0 0) ∧ w'.cell? ⟨B, 4, none⟩ = some (.int .i64 lim) ∧ w'.cell? ⟨B, 5, none⟩ = some (.int .i64 0) ∧ w'.cell? ⟨B, 6, none⟩ = some (.int .u64 0) := fun w' h => ⟨h.cell 0, h.cell 1, h.cell 2, h.cell 3, h.cell 4, h.cell 5, h.cell 6⟩
  obtain ⟨c0, c1, c2, c3, c4, c5, c6⟩ := S1 w1 HB.out
  clear hB S1
  have hmm := @run_makeMap Tryd.prog
  go_region_held3 (fun w' => w'.cell? ⟨B, 0, none⟩ = some (.slice none 0 0) ∧ w'.cell? ⟨B, 1, none⟩ = some (.string stdin) ∧ w'.cell? ⟨B, 2, none⟩ = some (.slice none 0 0) ∧ w'.cell? ⟨B, 3, none⟩ = some (.slice none 0 0) ∧ w'.cell? ⟨B, 4, none⟩ = some (.int .i64 lim) ∧ w'.cell? ⟨B, 5, none⟩ = some (.int .i64 0) ∧ w'.cell? ⟨B, 6, none⟩ = some (.int .u64 0)) (go_keep) (first | (go_at_call 31; refine (wo_cloneR0 _).mono ?_; rintro e w2 ⟨rfl, rfl⟩) | (go_at_call 32; refine (wo_cloneF0 _).mono ?_; rintro e w2 ⟨rfl, rfl⟩))
  all_goals
    have hmap0 := MapS.made Tryd.prog 9 9 w1
    obtain ⟨bm, hbm⟩ : ∃ bm, bm = w1.heap.size := ⟨_, rfl⟩
    rw [← hbm] at hmap0
    have HBM := Lib.hid hbm
    have HWA : Hid (∃ M0 : Mem, M0.m = 0 ∧ M0.vr = .slice none 0 0 ∧ WAt ((w1.alloc (.map #[] 0)).alloc (.cells #[.bool true, .slice none 0 0, .string stdin, .slice none 0 0, .slice none 0 0, .int .i64 lim, .int .i64 0, .int .u64 0, .map (some w1.heap.size), .string stdin, .slice none 0 0, .int .u64 0, .slice none 0 0, .slice none 0 0, .slice none 0 0] 93)).drew (fun k => k = w1.heap.size ∨ k = w1.heap.size + 1) (w1.heap.size + 1) M0 ⟨lim, 0, filesOf [], stdin, [], 0, [], [], []⟩) := by
      refine ⟨⟨.slice none 0 0, .string stdin, .slice none 0 0, .slice none 0 0, .int .u64 0, w1.heap.size, 0, .slice none 0 0, [], .slice none 0 0, .slice none 0 0, .slice none 0 0⟩, rfl, rfl, ?_⟩
      exact {
        flt := fun k hk => by
          show k < ((w1.alloc _).alloc _).heap.size
          simp; omega
        fp := .inr rfl
        fm := .inl rfl
        fo := fun g hg => by cases hg
        ft := fun g hg => by cases hg
        fr := fun g hg => by cases hg
        ff := fun g hg => by cases hg
        fg := fun g hg => by cases hg
        head := by
          have h := Blk.new (w1.alloc (.map #[] 0)) 93 #[.bool true, .slice none 0 0, .string stdin, .slice none 0 0, .slice none 0 0, .int .i64 lim, .int .i64 0, .int .u64 0, .map (some w1.heap.size), .string stdin, .slice none 0 0, .int .u64 0, .slice none 0 0, .slice none 0 0, .slice none 0 0]
          rw [show (w1.alloc (.map #[] 0)).heap.size = w1.heap.size + 1 by simp] at h
          exact h
        map := by
          rw [hbm] at hmap0
          exact hmap0.of_block (((Below.refl (w1.alloc (.map #[] 0)).heap.size (w1.alloc (.map #[] 0))).alloc (Nat.le_refl _) _).block _ (by simp))
        rowO := World.ownsRow_nil _ _ _ _
        strm := fun i h => by simp at h
        nd := List.nodup_nil
        rowT := World.ownsRow_nil _ _ _ _
        rowR := World.ownsRow_nil _ _ _ _
        rowF := World.ownsRow_nil _ _ _ _ }
    have HB2 := Lib.hid (((HB0.out.alloc (by have := HB0.out.size; have := HBE.out; omega) (.map #[] 0)).alloc (by have := HB0.out.size; have := HBE.out; simp; omega) (.cells #[.bool true, .slice none 0 0, .string stdin, .slice none 0 0, .slice none 0 0, .int .i64 lim, .int .i64 0, .int .u64 0, .map (some w1.heap.size), .string stdin, .slice none 0 0, .int .u64 0, .slice none 0 0, .slice none 0 0, .slice none 0 0] 93)).drew)
    have HBS : Hid (Blk ((w1.alloc (.map #[] 0)).alloc (.cells #[.bool true, .slice none 0 0, .string stdin, .slice none 0 0, .slice none 0 0, .int .i64 lim, .int .i64 0, .int .u64 0, .map (some w1.heap.size), .string stdin, .slice none 0 0, .int .u64 0, .slice none 0 0, .slice none 0 0, .slice none 0 0] 93)).drew B 38 #[.slice none 0 0, .string stdin, .slice none 0 0, .slice none 0 0, .int .i64 lim, .int .i64 0, .int .u64 0]) :=
      below_blk HB.out (((((Below.refl w1.heap.size w1).alloc (Nat.le_refl _) (.map #[] 0)).alloc (by simp) (.cells #[.bool true, .slice none 0 0, .string stdin, .slice none 0 0, .slice none 0 0, .int .i64 lim, .int .i64 0, .int .u64 0, .map (some w1.heap.size), .string stdin, .slice none 0 0, .int .u64 0, .slice none 0 0, .slice none 0 0, .slice none 0 0] 93)).drew)) HB.out.lt
    have HB1S := Lib.hid HB0.out.size
    clear hmap0 hbm c0 c1 c2 c3 c4 c5 c6 hmm
    generalize ((w1.alloc (.map #[] 0)).alloc (.cells #[.bool true, .slice none 0 0, .string stdin, .slice none 0 0, .slice none 0 0, .int .i64 lim, .int .i64 0, .int .u64 0, .map (some w1.heap.size), .string stdin, .slice none 0 0, .int .u64 0, .slice none 0 0, .slice none 0 0, .slice none 0 0] 93)).drew = w2 at *
    obtain ⟨M0, hM0, hMv, hWA⟩ := HWA.out
    have HMV := Lib.hid hMv
    have c0 : w2.cell? ⟨B, 0, none⟩ = some (.slice none 0 0) := HBS.out.cell 0
    have HW0 := Lib.hid hWA
    have HM0 := Lib.hid hM0
    clear HWA hWA hM0 hMv
    obtain ⟨pb, hpb⟩ : ∃ pb, pb = w1.heap.size + 1 := ⟨_, rfl⟩
    rw [← hpb] at HW0 ⊢
    obtain ⟨F0, hF0⟩ : ∃ F0 : Nat → Prop, F0 = fun k => k = w1.heap.size ∨ k = pb := ⟨_, rfl⟩
    have HF0 : Hid (∀ k, F0 k → w.heap.size ≤ k) := by
      unfold Hid; intro k hk; rw [hF0] at hk; have := HB1S.out
      rcases hk with hk | hk <;> omega
    rw [← hF0] at HW0
    clear hF0 hpb
    generalize w1.heap.size = sz1 at *
    go_wp2_with fail
    go_loopw [28] (fun i wr => i = .int .i64 0 ∧ wr = w2) (fun _ _ => 0)
    case atStart => exact ⟨rfl, rfl⟩
    case round =>
      obtain ⟨rfl, rfl⟩ := hrel
      have c13 : wr.cell? ⟨pb, 13, none⟩ = some M0.vr := HW0.out.cell 13
      rw [HMV.out] at c13
      have c4 : wr.cell? ⟨B, 4, none⟩ = some (.int .i64 lim) := HBS.out.cell 4
      have hl1 : ¬ lim < 0 := by omega
      have hl2 : ¬ 16 < lim := by omega
      go_wp2_with fail
      go_loopw [57] (fun i wx => i = .int .i64 0 ∧ wx = wr) (fun _ _ => 0)
      case atStart => exact ⟨rfl, rfl⟩
      case round =>
        obtain ⟨rfl, rfl⟩ := hrel
        go_wp2_with fail
        go_ret2
        exact ⟨pb, M0, F0, rfl, HW0.out, by have := HB2.out; rw [HBE.out] at this; exact this, HF0.out, by rw [HM0.out]; exact Nat.le_refl _⟩
end Go.Proofs.YtdbdmgmenojcaaaDoor
namespace Go.Proofs.YtdbdmgmenojcaaaDoor
namespace Rd
open Go.Lib
def tw (b : UInt8) (T : List UInt8) : List UInt8 := T.takeWhile (· != b)
def rest1 (b : UInt8) (T : List UInt8) : List UInt8 := (T.dropWhile (· != b)).drop 1
theorem pre_one (b x : UInt8) (l : List UInt8) : ([b] : List UInt8).isPrefixOf (x :: l) = (b == x) := by simp [List.isPrefixOf]
theorem index_one (b : UInt8) : ∀ s : List UInt8, (b ∈ s → index s [b] = (tw b s).length) ∧ (b ∉ s → index s [b] = -1) := by
  intro s
  induction s with
  | nil => exact ⟨fun h => by simp at h, fun _ => rfl⟩
  | cons x l ih =>
    unfold index
    rw [pre_one]
    by_cases hx : b = x
    · subst hx
      exact ⟨fun _ => by simp [tw], fun h => absurd (List.mem_cons_self) h⟩
    · rw [if_neg (by simp [hx])]
      have htw : tw b (x :: l) = x :: tw b l := by simp [tw, Ne.symm hx]
      refine ⟨fun h => ?_, fun h => ?_⟩
      · have hl : b ∈ l := by simpa [hx] using h
        rw [ih.1 hl, htw]
        have : (((tw b l).length : Int) == -1) = false := by rw [beq_eq_false_iff_ne]; omega
        rw [this]; simp
      · have hl : b ∉ l := fun h' => h (List.mem_cons_of_mem _ h')
        rw [ih.2 hl]; rfl
theorem tw_split {b : UInt8} {s : List UInt8} (h : b ∈ s) : s = tw b s ++ b :: rest1 b s := by
  induction s with
  | nil => simp at h
  | cons x l ih =>
    by_cases hx : x = b
    · subst hx; simp [tw, rest1]
    · have hl : b ∈ l := by simpa [Ne.symm hx] using h
      have h1 : tw b (x :: l) = x :: tw b l := by simp [tw, hx]
      have h2 : rest1 b (x :: l) = rest1 b l := by simp [rest1, hx]
      rw [h1, h2, List.cons_append, ← ih hl]
theorem tw_all {b : UInt8} {s : List UInt8} (h : b ∉ s) : tw b s = s ∧ rest1 b s = [] := by
  induction s with
  | nil => exact ⟨rfl, rfl⟩
  | cons x l ih =>
    have hx : x ≠ b := fun e => h (by rw [e]; exact List.mem_cons_self)
    have hl : b ∉ l := fun e => h (List.mem_cons_of_mem _ e)
    obtain ⟨h1, h2⟩ := ih hl
    constructor
    · have : tw b (x :: l) = x :: tw b l := by simp [tw, hx]
      rw [this, h1]
    · have : rest1 b (x :: l) = rest1 b l := by simp [rest1, hx]
      rw [this, h2]
theorem tw_not (b : UInt8) (s : List UInt8) : b ∉ tw b s := by
  induction s with
  | nil => simp [tw]
  | cons x l ih =>
    by_cases hx : x = b
    · subst hx; simp [tw]
    · have e : tw b (x :: l) = x :: tw b l := by simp [tw, hx]
      rw [e]
      simp [Ne.symm hx, ih]
theorem tw_app {b : UInt8} {l : List UInt8} (r : List UInt8) (h : b ∈ l) : tw b (l ++ r) = tw b l ∧ rest1 b (l ++ r) = rest1 b l ++ r := by
  induction l with
  | nil => simp at h
  | cons x l ih =>
    by_cases hx : x = b
    · subst hx; simp [tw, rest1]
    · have hl : b ∈ l := by simpa [Ne.symm hx] using h
      obtain ⟨h1, h2⟩ := ih hl
      have e1 : ∀ m, tw b (x :: m) = x :: tw b m := fun m => by simp [tw, hx]
      have e2 : ∀ m, rest1 b (x :: m) = rest1 b m := fun m => by simp [rest1, hx]
      rw [List.cons_append, e1, e2, e1, e2, h1, h2]
      exact ⟨rfl, rfl⟩
theorem split_at {s p r : List UInt8} {b : UInt8} (h : s = p ++ b :: r) : s.take p.length = p ∧ s.drop (p.length + 1) = r := by
  subst h
  constructor
  · simp
  · rw [← List.drop_drop]; simp
theorem cut_in {b : UInt8} {s : List UInt8} (h : b ∈ s) : cut s [b] = (tw b s, rest1 b s, true) := by
  unfold cut
  rw [(index_one b s).1 h, if_pos (by omega)]
  have h2 := tw_split h
  have e : ((tw b s).length : Int).toNat = (tw b s).length := by omega
  obtain ⟨g1, g2⟩ := split_at h2
  rw [e, g1]
  show (_, s.drop ((tw b s).length + 1), true) = _
  rw [g2]
theorem cut_out {b : UInt8} {s : List UInt8} (h : b ∉ s) : cut s [b] = (s, [], false) := by
  unfold cut
  rw [(index_one b s).2 h]; rfl
theorem indexByte_one (b : UInt8) : ∀ s : List UInt8, decide (0 ≤ indexByte s b) = decide (b ∈ s) := by
  intro s
  induction s with
  | nil => simp [indexByte]
  | cons x l ih =>
    unfold indexByte
    by_cases hx : x = b
    · subst hx; simp
    · have hge : -1 ≤ indexByte l b := by
        clear ih
        induction l with
        | nil => simp [indexByte]
        | cons y l ih => unfold indexByte; split <;> (try split) <;> omega
      have hm : (b ∈ x :: l) = (b ∈ l) := by simp [Ne.symm hx]
      rw [if_neg (by simp [hx])]
      by_cases h1 : indexByte l b = -1
      · rw [if_pos (by simp [h1])]
        have hb : b ∉ l := by rw [h1] at ih; simpa using ih
        rw [decide_eq_false (show ¬ (0 : Int) ≤ -1 by omega)]
        exact (decide_eq_false (by rw [hm]; exact hb)).symm
      · rw [if_neg (by simp [h1])]
        have hb : b ∈ l := by rw [decide_eq_true (show 0 ≤ indexByte l b by omega)] at ih; simpa using ih
        rw [decide_eq_true (show 0 ≤ indexByte l b + 1 by omega)]
        exact (decide_eq_true (by rw [hm]; exact hb)).symm
theorem rest1_len (b : UInt8) {T : List UInt8} (h : T ≠ []) : (tw b T).length + (rest1 b T).length ≤ T.length ∧ (rest1 b T).length + 1 ≤ T.length := by
  by_cases hb : b ∈ T
  · have := congrArg List.length (tw_split hb)
    simp at this
    omega
  · obtain ⟨h1, h2⟩ := tw_all hb
    rw [h1, h2]
    have := List.length_pos_iff.2 h
    simp; omega
/-- What has been told of s by b: L, and what is left: T. -/
structure Whole (b : UInt8) (s : List UInt8) (L : List (List UInt8)) (T : List UInt8) : Prop where
  no : ∀ t ∈ L, b ∉ t
  len : L.length + T.length ≤ s.length
  lens : lens L ≤ s.length
  shape : s = (L.map (· ++ [b])).flatten ++ T ∨ (T = [] ∧ ∃ L' t, L = L' ++ [t] ∧ t ≠ [] ∧ s = (L'.map (· ++ [b])).flatten ++ t)
theorem flat_lens (b : UInt8) (L : List (List UInt8)) : lens L ≤ ((L.map (· ++ [b])).flatten).length := by
  induction L with
  | nil => simp [Lib.lens]
  | cons x l ih => simp [Lib.lens] at *; omega
theorem lens_snoc (L : List (List UInt8)) (t : List UInt8) : Lib.lens (L ++ [t]) = Lib.lens L + t.length := by
  simp [Lib.lens]
theorem whole_start (b : UInt8) (s : List UInt8) : Whole b s [] s := ⟨by simp, by simp, by simp [Lib.lens], .inl (by simp)⟩
theorem whole_step {b : UInt8} {s : List UInt8} {L : List (List UInt8)} {T : List UInt8} (h : Whole b s L T) (hT : T ≠ []) : Whole b s (L ++ [tw b T]) (rest1 b T) := by
  obtain ⟨h1, h2, hl, h3⟩ := h
  have hlen := (rest1_len b hT).2
  rcases h3 with h3 | ⟨h3, -⟩
  · by_cases hb : b ∈ T
    · have hsh : s = ((L ++ [tw b T]).map (· ++ [b])).flatten ++ rest1 b T := by
        rw [h3]
        conv => lhs; rw [tw_split hb]
        simp
      refine ⟨?_, ?_, ?_, .inl hsh⟩
      · intro t ht
        rcases List.mem_append.1 ht with ht | ht
        · exact h1 t ht
        · rw [List.mem_singleton.1 ht]; exact tw_not b T
      · simp; omega
      · have := flat_lens b (L ++ [tw b T])
        have h4 := congrArg List.length hsh
        rw [List.length_append] at h4
        omega
    · obtain ⟨e1, e2⟩ := tw_all hb
      rw [e1, e2]
      refine ⟨?_, ?_, ?_, .inr ⟨rfl, L, T, rfl, hT, h3⟩⟩
      · intro t ht
        rcases List.mem_append.1 ht with ht | ht
        · exact h1 t ht
        · rw [List.mem_singleton.1 ht]; exact hb
      · simp
        have := List.length_pos_iff.2 hT
        omega
      · rw [lens_snoc]
        have := flat_lens b L
        have h4 := congrArg List.length h3
        rw [List.length_append] at h4
        omega
  · exact absurd h3 hT
theorem join_flat (b : UInt8) : ∀ (L : List (List UInt8)) (t : List UInt8), join (L ++ [t]) [b] = (L.map (· ++ [b])).flatten ++ t := by
  intro L
  induction L with
  | nil => intro t; rw [List.nil_append, join_one]; rfl
  | cons x l ih =>
    intro t
    have h := ih t
    cases l with
    | nil =>
      simp [join_cons, joinTail]
    | cons y l =>
      rw [List.cons_append, List.cons_append, join_cons]
      rw [List.cons_append, join_cons] at h
      have e : joinTail [b] (y :: (l ++ [t])) = [b] ++ (y ++ joinTail [b] (l ++ [t])) := by simp [joinTail]
      rw [e, h]
      simp
theorem whole_end {b : UInt8} {s : List UInt8} {L : List (List UInt8)} (h : Whole b s L []) : (s = [] ∧ join L [b] = []) ∨ (s ≠ [] ∧ join L [b] ++ [b] = s) ∨ (s ≠ [] ∧ join L [b] = s ∧ hasSuffix s [b] = false) := by
  obtain ⟨h1, h2, -, h3⟩ := h
  rcases h3 with h3 | ⟨-, L', t, rfl, ht, h3⟩
  · rcases List.eq_nil_or_concat L with rfl | ⟨L', t, e⟩
    · left; exact ⟨by simpa using h3, rfl⟩
    · rw [List.concat_eq_append] at e
      subst e
      right; left
      have e2 : join (L' ++ [t]) [b] ++ [b] = s := by rw [join_flat, h3]; simp
      refine ⟨?_, e2⟩
      rintro rfl
      simp at e2
  · right; right
    have hs : s ≠ [] := by rw [h3]; simp [ht]
    refine ⟨hs, by rw [join_flat, h3], ?_⟩
    have hbt := h1 t (by simp)
    cases hh : hasSuffix s [b] with
    | false => rfl
    | true =>
      exfalso
      unfold hasSuffix at hh
      have hsuf := List.isSuffixOf_iff_suffix.1 hh
      obtain ⟨p, hp⟩ := hsuf
      obtain ⟨t', x, e⟩ : ∃ t' x, t = t' ++ [x] := by
        rcases List.eq_nil_or_concat t with rfl | ⟨t', x, e⟩
        · exact absurd rfl ht
        · exact ⟨t', x, by rw [e, List.concat_eq_append]⟩
      subst e
      rw [h3, ← List.append_assoc] at hp
      have := List.append_inj_right' hp rfl
      simp at this
      apply hbt
      rw [this]; simp
end Rd
end Go.Proofs.YtdbdmgmenojcaaaDoor
namespace Go.Proofs.YtdbdmgmenojcaaaDoor
namespace Rd
open Go.Lib
def pBare (T : List UInt8) : List UInt8 := trimLeftB T 10
def pHas (T : List UInt8) : Bool := (cut (pBare T) [10, 10]).2.2
def pRec (T : List UInt8) : List UInt8 := if pHas T then (cut (pBare T) [10, 10]).1 else trimSuffix (cut (pBare T) [10, 10]).1 [10]
def pRest (T : List UInt8) : List UInt8 := trimLeftB (cut (pBare T) [10, 10]).2.1 10
def pSo (T : List UInt8) : Bool := pHas T && !decide (pRest T = [])
theorem cut_hit {s sep : List UInt8} (h : (cut s sep).2.2 = true) : s = (cut s sep).1 ++ sep ++ (cut s sep).2.1 ∧ index s sep = (cut s sep).1.length ∧ ∀ j, j < (cut s sep).1.length → occAt s sep j = false := by
  rcases index_spec s sep with ⟨h1, h2⟩ | ⟨i, h1, h2, h3, h4⟩
  · exfalso
    unfold cut at h
    rw [h1] at h
    simp at h
  · have hc : cut s sep = (s.take i, s.drop (i + sep.length), true) := by
      unfold cut
      rw [h1, if_pos (by omega)]
      simp
    rw [hc]
    have hl : (s.take i).length = i := by rw [List.length_take]; omega
    refine ⟨?_, by rw [h1, hl], fun j hj => h4 j (by rw [hl] at hj; exact hj)⟩
    unfold occAt at h3
    obtain ⟨r, hr⟩ := List.isPrefixOf_iff_prefix.1 h3
    have e2 : s.drop (i + sep.length) = r := by rw [← List.drop_drop, ← hr]; simp
    show s = s.take i ++ sep ++ s.drop (i + sep.length)
    rw [e2, List.append_assoc, hr, List.take_append_drop]
theorem cut_miss {s sep : List UInt8} (h : (cut s sep).2.2 = false) : cut s sep = (s, [], false) ∧ index s sep = -1 ∧ ∀ j, j ≤ s.length → occAt s sep j = false := by
  rcases index_spec s sep with ⟨h1, h2⟩ | ⟨i, h1, h2, h3, h4⟩
  · exact ⟨by unfold cut; rw [h1]; rfl, h1, h2⟩
  · exfalso
    unfold cut at h
    rw [h1, if_pos (by omega)] at h
    simp at h
theorem occ_app {s sub : List UInt8} (r : List UInt8) {j : Nat} (h : j + sub.length ≤ s.length) : occAt (s ++ r) sub j = occAt s sub j := by
  unfold occAt
  rw [List.drop_append_of_le_length (by omega)]
  have hl : sub.length ≤ (s.drop j).length := by rw [List.length_drop]; omega
  rw [Bool.eq_iff_iff, List.isPrefixOf_iff_prefix, List.isPrefixOf_iff_prefix]
  constructor
  · intro h1; exact List.prefix_of_prefix_length_le h1 (List.prefix_append _ _) hl
  · intro h1; exact h1.trans (List.prefix_append _ _)
theorem occ_mid (p sub r : List UInt8) : occAt (p ++ sub ++ r) sub p.length = true := by
  unfold occAt
  rw [List.append_assoc, List.drop_left, List.isPrefixOf_iff_prefix]
  exact List.prefix_append _ _
theorem trim_split (T : List UInt8) : ∃ p, T = p ++ pBare T ∧ (∀ x ∈ p, x = 10) := by
  refine ⟨T.takeWhile (· == 10), ?_, ?_⟩
  · unfold pBare trimLeftB; exact (List.takeWhile_append_dropWhile).symm
  · intro x hx
    induction T with
    | nil => simp at hx
    | cons y l ih =>
      by_cases hy : y = 10
      · subst hy
        simp at hx
        rcases hx with rfl | hx
        · rfl
        · exact ih hx
      · simp [hy] at hx
theorem bare_head (T : List UInt8) : (pBare T).head? ≠ some 10 := by
  unfold pBare trimLeftB
  induction T with
  | nil => simp
  | cons y l ih =>
    by_cases hy : y = 10
    · subst hy; simpa using ih
    · simp [hy]
theorem bare_app {l : List UInt8} (r : List UInt8) (h : pBare l ≠ []) : pBare (l ++ r) = pBare l ++ r := by
  unfold pBare trimLeftB at *
  rw [List.dropWhile_append, if_neg (by simpa using h)]
theorem so_has {l : List UInt8} (h : pSo l = true) : pHas l = true ∧ pRest l ≠ [] := by
  unfold pSo at h
  simpa using h
theorem so_app {l : List UInt8} (r : List UInt8) (h : pSo l = true) : pRec (l ++ r) = pRec l ∧ pRest (l ++ r) = pRest l ++ r ∧ pHas (l ++ r) = true := by
  obtain ⟨h1, h2⟩ := so_has h
  have hh : (cut (pBare l) [10, 10]).2.2 = true := h1
  obtain ⟨g1, g2, g3⟩ := cut_hit hh
  have hne : pBare l ≠ [] := by intro e; rw [e] at g1; simp at g1
  have hb := bare_app r hne
  have hlen := congrArg List.length g1
  simp at hlen
  have hix : index (pBare l ++ r) [10, 10] = (cut (pBare l) [10, 10]).1.length := by
    refine index_first ?_ ?_ ?_
    · rw [List.length_append]; omega
    · rw [occ_app r (by show _ + 2 ≤ _; omega)]
      have h9 := occ_mid (cut (pBare l) [10, 10]).1 [10, 10] (cut (pBare l) [10, 10]).2.1
      rw [← g1] at h9
      exact h9
    · intro j hj
      rw [occ_app r (by show _ + 2 ≤ _; omega)]
      exact g3 j hj
  have hc : cut (pBare (l ++ r)) [10, 10] = ((cut (pBare l) [10, 10]).1, (cut (pBare l) [10, 10]).2.1 ++ r, true) := by
    rw [hb]
    unfold cut
    rw [hix, g2, if_pos (by omega), if_pos (by omega)]
    show (_, _, _) = (_, _, _)
    rw [List.take_append_of_le_length (by omega), List.drop_append_of_le_length (by show _ + 2 ≤ _; omega)]
  refine ⟨?_, ?_, ?_⟩
  · unfold pRec pHas
    rw [hc, hh]
  · unfold pRest
    rw [hc]
    exact bare_app r h2
  · unfold pHas
    rw [hc]
/-- No two, one behind the other. -/
theorem no_two {t : List UInt8} (h : ∀ j, j + 2 ≤ t.length → occAt t [10, 10] j = false) : contains t [10, 10] = false := by
  unfold contains
  rcases index_spec t [10, 10] with ⟨h1, -⟩ | ⟨i, h1, h2, h3, -⟩
  · rw [h1]; rfl
  · rcases occAt_room h3 with h4 | h4
    · rw [h i h4] at h3; cases h3
    · cases h4
theorem occ_last {p : List UInt8} (r : List UInt8) : occAt (p ++ [10] ++ (10 :: r)) [10, 10] p.length = true := by
  have := occ_mid p [10, 10] r
  simpa using this
theorem rec_spec (T : List UInt8) : (∃ p m : List UInt8, T = p ++ pRec T ++ m ++ pRest T ∧ (∀ x ∈ p, x = 10) ∧ (∀ x ∈ m, x = 10)) ∧ (pRec T).head? ≠ some 10 ∧ (pRec T).getLast? ≠ some 10 ∧ contains (pRec T) [10, 10] = false ∧ (pRec T = [] → pRest T = []) := by
  obtain ⟨p, hp, hp10⟩ := trim_split T
  have hhead := bare_head T
  by_cases hh : pHas T = true
  · obtain ⟨g1, g2, g3⟩ := cut_hit (show (cut (pBare T) [10, 10]).2.2 = true from hh)
    obtain ⟨m, hm, hm10⟩ := trim_split (cut (pBare T) [10, 10]).2.1
    have er : pRec T = (cut (pBare T) [10, 10]).1 := by unfold pRec; rw [if_pos hh]
    have et : pRest T = pBare (cut (pBare T) [10, 10]).2.1 := rfl
    rw [er, et]
    generalize (cut (pBare T) [10, 10]).1 = t at *
    generalize (cut (pBare T) [10, 10]).2.1 = r at *
    refine ⟨⟨p, [10, 10] ++ m, ?_, hp10, ?_⟩, ?_, ?_, ?_, ?_⟩
    · conv => lhs; rw [hp, g1, hm]
      simp
    · intro x hx
      simp at hx
      rcases hx with h | h
      · exact h
      · exact hm10 x h
    · cases t with
      | nil => simp
      | cons y t => rw [g1] at hhead; simpa using hhead
    · intro hl
      obtain ⟨t', rfl⟩ : ∃ t', t = t' ++ [10] := by
        rcases List.eq_nil_or_concat t with rfl | ⟨t', x, e⟩
        · simp at hl
        · rw [List.concat_eq_append] at e; subst e; simp at hl; exact ⟨t', by rw [hl]⟩
      have h1 := g3 t'.length (by simp)
      rw [g1] at h1
      have h2 := occ_last (p := t') (10 :: r)
      simp at h1 h2
      rw [h2] at h1
      cases h1
    · refine no_two fun j hj => ?_
      have h1 := g3 j (by omega)
      rw [g1, List.append_assoc, occ_app _ (by show j + 2 ≤ _; exact hj)] at h1
      exact h1
    · rintro rfl
      rw [g1] at hhead
      simp at hhead
  · have hh' : (cut (pBare T) [10, 10]).2.2 = false := by simpa [pHas] using hh
    obtain ⟨g1, -, g3⟩ := cut_miss hh'
    have et : pRest T = [] := by unfold pRest; rw [g1]; rfl
    have er : pRec T = trimSuffix (pBare T) [10] := by unfold pRec; rw [if_neg hh, g1]
    rw [er, et]
    generalize pBare T = B at *
    have key : ∃ q, B = trimSuffix B [10] ++ q ∧ (q = [] ∨ q = [10]) ∧ (q = [] → B.getLast? ≠ some 10) := by
      unfold trimSuffix
      by_cases hs : hasSuffix B [10] = true
      · rw [if_pos hs]
        obtain ⟨q, hq⟩ := List.isSuffixOf_iff_suffix.1 hs
        refine ⟨[10], ?_, .inr rfl, fun h => by cases h⟩
        rw [← hq]; simp
      · rw [if_neg hs]
        refine ⟨[], by simp, .inl rfl, fun _ hl => hs ?_⟩
        rcases List.eq_nil_or_concat B with rfl | ⟨t', x, e⟩
        · simp at hl
        · rw [List.concat_eq_append] at e; subst e; simp at hl; subst hl
          exact List.isSuffixOf_iff_suffix.2 ⟨t', rfl⟩
    obtain ⟨q, hq, hq2, hq3⟩ := key
    generalize trimSuffix B [10] = t at *
    subst hq
    refine ⟨⟨p, q, ?_, hp10, ?_⟩, ?_, ?_, ?_, fun _ => rfl⟩
    · conv => lhs; rw [hp]
      simp
    · intro x hx
      rcases hq2 with rfl | rfl
      · simp at hx
      · simpa using hx
    · cases t with
      | nil => simp
      | cons y t => simpa using hhead
    · intro hl
      obtain ⟨t', rfl⟩ : ∃ t', t = t' ++ [10] := by
        rcases List.eq_nil_or_concat t with rfl | ⟨t', x, e⟩
        · simp at hl
        · rw [List.concat_eq_append] at e; subst e; simp at hl; exact ⟨t', by rw [hl]⟩
      rcases hq2 with rfl | rfl
      · exact hq3 rfl (by simp)
      · have h1 := g3 t'.length (by simp)
        have h2 := occ_last (p := t') []
        rw [h2] at h1; cases h1
    · refine no_two fun j hj => ?_
      have h1 := g3 j (by simp; omega)
      rw [occ_app _ (by show j + 2 ≤ _; exact hj)] at h1
      exact h1
def kept (l : List UInt8) : List UInt8 := l.filter (· != 10)
theorem kept_app (a b : List UInt8) : kept (a ++ b) = kept a ++ kept b := List.filter_append ..
theorem kept_none {p : List UInt8} (h : ∀ x ∈ p, x = 10) : kept p = [] := by
  unfold kept
  rw [List.filter_eq_nil_iff]
  intro x hx
  simp [h x hx]
theorem kept_rec (T : List UInt8) : kept T = kept (pRec T) ++ kept (pRest T) := by
  obtain ⟨⟨p, m, h, hp, hm⟩, -⟩ := rec_spec T
  conv => lhs; rw [h]
  rw [kept_app, kept_app, kept_app, kept_none hp, kept_none hm]
  simp
theorem rec_len (T : List UInt8) : (pRec T).length + (pRest T).length ≤ T.length := by
  obtain ⟨⟨p, m, h, -, -⟩, -⟩ := rec_spec T
  have := congrArg List.length h
  simp at this
  omega
theorem rec_end {T : List UInt8} (h : pRec T = []) : kept T = [] := by
  rw [kept_rec, h, (rec_spec T).2.2.2.2 h]; rfl
theorem replace_all (s : List UInt8) : replaceAll s [10] [] = kept s := by
  have gen : ∀ (n : Nat) (s : List UInt8), s.count 10 = n → replaceK [10] [] n s = kept s := by
    intro n
    induction n with
    | zero =>
      intro s hs
      rw [List.count_eq_zero] at hs
      show s = kept s
      unfold kept
      rw [List.filter_eq_self.2]
      intro x hx
      have : x ≠ 10 := fun e => hs (e ▸ hx)
      simpa using this
    | succ n ih =>
      intro s hs
      have hm : (10 : UInt8) ∈ s := by
        rw [← List.one_le_count_iff]; omega
      have hsp := tw_split hm
      have h1 := (index_one 10 s).1 hm
      rw [replaceK_hit [10] [] n s _ h1]
      obtain ⟨e1, e2⟩ := split_at hsp
      rw [e1]
      show tw 10 s ++ [] ++ replaceK [10] [] n (s.drop ((tw 10 s).length + 1)) = _
      rw [e2]
      have hn := tw_not 10 s
      have hc : (rest1 10 s).count 10 = n := by
        rw [hsp, List.count_append, List.count_cons_self, List.count_eq_zero.2 hn] at hs
        omega
      rw [ih _ hc]
      conv => rhs; rw [hsp]
      rw [kept_app, List.append_nil]
      congr 1
      unfold kept
      rw [List.filter_eq_self.2]
      intro x hx
      have : x ≠ 10 := fun e => hn (e ▸ hx)
      simpa using this
  unfold replaceAll replace
  rw [if_neg (by simp)]
  have e : replaceNum s [10] (-1) = s.count 10 := by
    unfold replaceNum
    rw [if_pos (.inl (by omega)), count_one]
  rw [e]
  exact gen _ s rfl
/-- A piece is found no later than where it stands. -/
theorem index_upto {s p t r : List UInt8} (h : s = p ++ t ++ r) : ∃ k : Nat, index s t = k ∧ k ≤ p.length := by
  rcases index_spec s t with ⟨h1, h2⟩ | ⟨i, h1, h2, h3, h4⟩
  · exfalso
    have := h2 p.length (by rw [h]; simp)
    rw [h, occ_mid] at this
    cases this
  · refine ⟨i, h1, ?_⟩
    by_cases hi : i ≤ p.length
    · exact hi
    · exfalso
      have := h4 p.length (by omega)
      rw [h, occ_mid] at this
      cases this
/-- What is left stands at the end of what has not been passed. -/
def Ahead (s : List UInt8) (pos : Nat) (T : List UInt8) : Prop := pos ≤ s.length ∧ ∃ p, s.drop pos = p ++ T
theorem ahead_start (s : List UInt8) : Ahead s 0 s := ⟨Nat.zero_le _, [], by simp⟩
theorem ahead_less {s : List UInt8} {pos : Nat} {T T' : List UInt8} (h : Ahead s pos T) (hT : ∃ q, T = q ++ T') : Ahead s pos T' := by
  obtain ⟨h1, p, h2⟩ := h
  obtain ⟨q, rfl⟩ := hT
  exact ⟨h1, p ++ q, by rw [h2, List.append_assoc]⟩
theorem ahead_step {s : List UInt8} {pos : Nat} {T t T' : List UInt8} (h : Ahead s pos T) (hT : ∃ q m, T = q ++ t ++ m ++ T') : ∃ k : Nat, index (s.drop pos) t = k ∧ pos + k + t.length ≤ s.length ∧ Ahead s (pos + k + t.length) T' := by
  obtain ⟨h1, p, h2⟩ := h
  obtain ⟨q, m, rfl⟩ := hT
  have h3 : s.drop pos = (p ++ q) ++ t ++ (m ++ T') := by rw [h2]; simp
  obtain ⟨k, hk, hkl⟩ := index_upto h3
  have hlen := congrArg List.length h3
  simp at hlen hkl
  refine ⟨k, hk, by omega, by omega, ?_⟩
  have h4 : s.drop (pos + k + t.length) = ((p ++ q ++ t).drop (k + t.length)) ++ (m ++ T') := by
    rw [Nat.add_assoc, ← List.drop_drop, h3, List.drop_append_of_le_length (by simp; omega)]
  exact ⟨(p ++ q ++ t).drop (k + t.length) ++ m, by rw [h4]; simp⟩
theorem one_in (b : UInt8) (T : List UInt8) : ∃ q m, T = q ++ tw b T ++ m ++ rest1 b T := by
  by_cases hb : b ∈ T
  · exact ⟨[], [b], by conv => lhs; rw [tw_split hb]
                       simp⟩
  · obtain ⟨e1, e2⟩ := tw_all hb
    exact ⟨[], [], by rw [e1, e2]; simp⟩
theorem para_in (T : List UInt8) : ∃ q m, T = q ++ pRec T ++ m ++ pRest T := by
  obtain ⟨⟨p, m, h, -, -⟩, -⟩ := rec_spec T
  exact ⟨p, m, h⟩
end Rd
end Go.Proofs.YtdbdmgmenojcaaaDoor
