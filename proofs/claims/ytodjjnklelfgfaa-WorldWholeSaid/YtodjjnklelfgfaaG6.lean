/- WorldWhole while it runs: what was read, what was written; reads and writes by their number. -/
import Derived.Test.YtodjjnklelfgfaaG5
import Derived.Test.YtodjjnklelfgfaaG1
import Derived.SliceStrings
import Derived.Test.YtodjjnklelfgfaaRows
import Derived.OpenShut
import Derived.Calls
import Derived.Below
import Derived.Laws.Sem
import Derived.Laws.World
namespace Go.Proofs.Ytodjjnklelfgfaa
open Go.RowKit Wd
namespace Wd
def upd (f : Nat → ByteArray) (j : Nat) (s : ByteArray) : Nat → ByteArray := fun i => if i = j then s else f i
def inK (j : Nat) : Int := if j = 2 then 2 else 1
def inN (j : Nat) : ByteArray := if j = 0 then ⟨#[102]⟩ else if j = 1 then minus else ⟨#[99]⟩
def outK (j : Nat) : Int := j + 3
def outN (j : Nat) : ByteArray := if j = 0 then ⟨#[111]⟩ else if j = 1 then ⟨#[102]⟩ else ⟨#[112]⟩
def isPipe (e : Ev) : Bool := (e.k == 2) && (e.st == 5)
def piped (l : List Ev) : ByteArray := l.foldl (fun a e => if isPipe e then a ++ e.data else a) ⟨#[]⟩
theorem upd_at (f : Nat → ByteArray) (j : Nat) (s : ByteArray) : upd f j s j = s := by simp [upd]
theorem upd_no (f : Nat → ByteArray) {i j : Nat} (s : ByteArray) (h : i ≠ j) : upd f j s i = f i := by simp [upd, h]
theorem piped_snoc (l : List Ev) (e : Ev) : piped (l ++ [e]) = if isPipe e then piped l ++ e.data else piped l := by simp [piped, List.foldl_append]
theorem piped_wr5 (l : List Ev) (d : ByteArray) : piped (l ++ wrEv 5 ⟨#[112]⟩ d) = piped l ++ d := by
  unfold wrEv
  by_cases h : d.size = 0
  · rw [if_pos h, List.append_nil, cat_none _ _ h]
  · rw [if_neg h, piped_snoc]; rfl
theorem piped_wrno (l : List Ev) (k : Int) (nm d : ByteArray) (hk : k ≠ 5) : piped (l ++ wrEv k nm d) = piped l := by
  unfold wrEv
  by_cases h : d.size = 0
  · rw [if_pos h, List.append_nil]
  · rw [if_neg h, piped_snoc, if_neg (by simp [isPipe, hk])]
theorem piped_take_succ (l : List Ev) (j : Nat) (h : j < l.length) : piped (l.take (j + 1)) = if isPipe l[j] then piped (l.take j) ++ l[j].data else piped (l.take j) := by
  rw [List.take_succ_eq_append_getElem h, piped_snoc]
theorem piped_le (l r : List Ev) : (piped l).size ≤ (piped (l ++ r)).size := by
  induction r generalizing l with
  | nil => simp
  | cons e r ih =>
    have h := ih (l ++ [e])
    rw [List.append_assoc, List.singleton_append] at h
    refine Nat.le_trans ?_ h
    rw [piped_snoc]
    split
    · rw [ByteArray.size_append]; omega
    · exact Nat.le_refl _
theorem piped_take_le (l : List Ev) (j : Nat) : (piped (l.take j)).size ≤ (piped l).size := by
  have h := piped_le (l.take j) (l.drop j)
  rwa [List.take_append_drop] at h
theorem wrEv_len (k : Int) (nm d : ByteArray) : (wrEv k nm d).length ≤ 1 := by unfold wrEv; split <;> simp
end Wd
def Run (X : Nat → Prop) (w w1 : World) (pb k : Nat) (src b q : Nat → ByteArray) : Prop :=
  ∃ st l0 l1 l2, PX X w w1 pb (7 + k) st ∧ RunIs st l0 l1 l2 (q 0) (src 0 ++ q 1) ∧ b 0 ++ l0 = src 0 ∧ b 1 ++ l1 = src 1 ∧ b 2 ++ l2 = src 2 ∧ piped st.trace = q 2 ∧ st.trace.length ≤ 6 + k ∧
    ((src 0).size ≤ 300 ∧ (src 1).size ≤ 300 ∧ (src 2).size ≤ 300) ∧ ((q 0).size ≤ 100 * k ∧ (q 1).size ≤ 100 * k ∧ (q 2).size ≤ 100 * k) ∧ k ≤ 40
theorem size_of_cat {a b c : ByteArray} (h : a ++ b = c) : a.size + b.size = c.size := by rw [← h, ByteArray.size_append]
theorem cat_left_none {a b : ByteArray} (h : a ++ b = a) : b.size = 0 := by have := size_of_cat h; omega
section
variable {X : Nat → Prop} {w w1 : World} {pb k : Nat} {src b q : Nat → ByteArray}
theorem Run.taken (h : Run X w w1 pb k src b q) : (b 0).size ≤ 300 ∧ (b 1).size ≤ 300 ∧ (b 2).size ≤ 300 := by
  obtain ⟨st, l0, l1, l2, -, -, h0, h1, h2, -, -, ⟨s0, s1, s2⟩, -⟩ := h
  have := size_of_cat h0; have := size_of_cat h1; have := size_of_cat h2
  omega
theorem Run.taken_at (h : Run X w w1 pb k src b q) {j : Nat} (hj : j < 3) : (b j).size ≤ 300 := by
  have := h.taken
  have : j = 0 ∨ j = 1 ∨ j = 2 := by omega
  rcases this with rfl | rfl | rfl <;> omega
theorem Run.put_at (h : Run X w w1 pb k src b q) {j : Nat} (hj : j < 3) : (q j).size ≤ 4000 := by
  obtain ⟨st, l0, l1, l2, -, -, -, -, -, -, -, -, ⟨s0, s1, s2⟩, hk⟩ := h
  have : j = 0 ∨ j = 1 ∨ j = 2 := by omega
  rcases this with rfl | rfl | rfl <;> omega
theorem Run.src_at (h : Run X w w1 pb k src b q) {j : Nat} (hj : j < 3) : (src j).size ≤ 300 := by
  obtain ⟨st, l0, l1, l2, -, -, -, -, -, -, -, ⟨s0, s1, s2⟩, -⟩ := h
  have : j = 0 ∨ j = 1 ∨ j = 2 := by omega
  rcases this with rfl | rfl | rfl <;> omega
theorem Run.below (h : Run X w w1 pb k src b q) : Below w.heap.size w w1 := by
  obtain ⟨st, l0, l1, l2, ⟨M, F, -, hB, -⟩, -⟩ := h
  exact hB
theorem Run.more (h : Run X w w1 pb k src b q) (hk : k < 40) : Run X w w1 pb (k + 1) src b q := by
  obtain ⟨st, l0, l1, l2, ⟨M, F, p1, p2, p3, p4, p5, p6⟩, h1, h2, h3, h4, h5, h6, h7, h8, h9⟩ := h
  exact ⟨st, l0, l1, l2, ⟨M, F, p1, p2, p3, p4, p5, by omega⟩, h1, h2, h3, h4, h5, by omega, h7, by omega, by omega⟩
theorem Run.set (h : Run X w w1 pb k src b q) (g i : Nat) (u : Value) (hg : X g) : Run X w (w1.setCell ⟨g, i, none⟩ u) pb k src b q := by
  obtain ⟨st, l0, l1, l2, hp, r⟩ := h
  exact ⟨st, l0, l1, l2, hp.set g i u hg, r⟩
theorem Run.pure {w2 : World} (h : Run X w w1 pb k src b q) (hb : Below w1.heap.size w1 w2) : Run X w w2 pb k src b q := by
  obtain ⟨st, l0, l1, l2, hp, r⟩ := h
  exact ⟨st, l0, l1, l2, hp.pure hb, r⟩
theorem run_read (h : Run X w w1 pb k src b q) (j : Nat) (hj : j < 3) (x : Nat) (hx : 1 ≤ x ∧ x ≤ 1000) :
    Calls Try.prog 11 #[.pointer (some ⟨pb, 0, none⟩), .int .u8 (inK j), .string (inN j), .int .i64 x] w1 fun e w' => ∃ s, e = .returned (.tuple #[.string s, .int .i64 0]) ∧ Run X w w' pb k src (upd b j (b j ++ s)) q ∧ Tur (fun g => ¬ X g) w1 w' ∧ (x = 1000 → b j ++ s = src j) ∧ (b j = src j → s.size = 0) ∧ (b j).size + s.size ≤ 300 := by
  have htk := h.taken_at hj
  have hs := h.src_at hj
  obtain ⟨st, l0, l1, l2, hp, hr, h0, h1, h2, hpi, htl, hsz, hq, hk⟩ := h
  have z0 := size_of_cat h0
  have z1 := size_of_cat h1
  have z2 := size_of_cat h2
  have hc : j = 0 ∨ j = 1 ∨ j = 2 := by omega
  rcases hc with rfl | rfl | rfl
  · refine (wh_read0 hp hr x hx (by omega)).mono ?_
    rintro e w' ⟨rfl, st', ⟨hp', ht⟩, hr', htr⟩
    have hle := cut_le x l0
    have hes : (l0.extract 0 (cutN x l0)).size ≤ l0.size := by simp; omega
    refine ⟨_, rfl, ⟨st', _, _, _, hp', hr', by rw [upd_at]; exact got_step x h0, by rw [upd_no _ _ (by decide)]; exact h1, by rw [upd_no _ _ (by decide)]; exact h2, by rw [htr]; exact hpi, by rw [htr]; exact htl, hsz, hq, hk⟩, ht, ?_, ?_, by omega⟩
    · rintro rfl
      show b 0 ++ l0.extract 0 (cutN ((1000 : Nat) : Int) l0) = src 0
      rw [show ((1000 : Nat) : Int) = 1000 from rfl, (cut_all (by omega)).1, h0]
    · intro e; rw [← e] at h0; have := cat_left_none h0; omega
  · refine (wh_read1 hp hr x hx (by omega)).mono ?_
    rintro e w' ⟨rfl, st', ⟨hp', ht⟩, hr', htr⟩
    have hle := cut_le x l1
    have hes : (l1.extract 0 (cutN x l1)).size ≤ l1.size := by simp; omega
    refine ⟨_, rfl, ⟨st', _, _, _, hp', hr', by rw [upd_no _ _ (by decide)]; exact h0, by rw [upd_at]; exact got_step x h1, by rw [upd_no _ _ (by decide)]; exact h2, by rw [htr]; exact hpi, by rw [htr]; exact htl, hsz, hq, hk⟩, ht, ?_, ?_, by omega⟩
    · rintro rfl
      show b 1 ++ l1.extract 0 (cutN ((1000 : Nat) : Int) l1) = src 1
      rw [show ((1000 : Nat) : Int) = 1000 from rfl, (cut_all (by omega)).1, h1]
    · intro e; rw [← e] at h1; have := cat_left_none h1; omega
  · refine (wh_read2 hp hr x hx (by omega)).mono ?_
    rintro e w' ⟨rfl, st', ⟨hp', ht⟩, hr', htr⟩
    have hle := cut_le x l2
    have hes : (l2.extract 0 (cutN x l2)).size ≤ l2.size := by simp; omega
    refine ⟨_, rfl, ⟨st', _, _, _, hp', hr', by rw [upd_no _ _ (by decide)]; exact h0, by rw [upd_no _ _ (by decide)]; exact h1, by rw [upd_at]; exact got_step x h2, by rw [htr]; exact hpi, by rw [htr]; exact htl, hsz, hq, hk⟩, ht, ?_, ?_, by omega⟩
    · rintro rfl
      show b 2 ++ l2.extract 0 (cutN ((1000 : Nat) : Int) l2) = src 2
      rw [show ((1000 : Nat) : Int) = 1000 from rfl, (cut_all (by omega)).1, h2]
    · intro e; rw [← e] at h2; have := cat_left_none h2; omega
theorem run_write (h : Run X w w1 pb k src b q) (j : Nat) (hj : j < 3) (hk : k < 40) (d : ByteArray) (hd : d.size ≤ 100) :
    Calls Try.prog 12 #[.pointer (some ⟨pb, 0, none⟩), .int .u8 (outK j), .string (outN j), .string d] w1 fun e w' => e = .returned (.int .i64 0) ∧ Run X w w' pb (k + 1) src b (upd q j (q j ++ d)) ∧ Tur (fun g => ¬ X g) w1 w' := by
  obtain ⟨st, l0, l1, l2, hp, hr, h0, h1, h2, hpi, htl, ⟨s0, s1, s2⟩, ⟨q0, q1, q2⟩, -⟩ := h
  have hc : j = 0 ∨ j = 1 ∨ j = 2 := by omega
  rcases hc with rfl | rfl | rfl
  · refine (wh_write3 hp hr d hd (by omega) (by omega) (by omega)).mono ?_
    rintro e w' ⟨rfl, st', ⟨hp', ht⟩, hr', htr⟩
    have hl := wrEv_len 3 ⟨#[111]⟩ d
    refine ⟨rfl, ⟨st', _, _, _, hp', ?_, h0, h1, h2, ?_, ?_, ⟨s0, s1, s2⟩, ⟨?_, ?_, ?_⟩, hk⟩, ht⟩
    · rw [upd_at, upd_no _ _ (by decide)]; exact hr'
    · rw [htr, piped_wrno _ _ _ _ (by decide), upd_no _ _ (by decide)]; exact hpi
    · rw [htr, List.length_append]; omega
    · rw [upd_at, ByteArray.size_append]; omega
    · rw [upd_no _ _ (by decide)]; omega
    · rw [upd_no _ _ (by decide)]; omega
  · refine (wh_write4 hp hr d hd (by rw [ByteArray.size_append]; omega) (by omega) (by omega)).mono ?_
    rintro e w' ⟨rfl, st', ⟨hp', ht⟩, hr', htr⟩
    have hl := wrEv_len 4 ⟨#[102]⟩ d
    refine ⟨rfl, ⟨st', _, _, _, hp', ?_, h0, h1, h2, ?_, ?_, ⟨s0, s1, s2⟩, ⟨?_, ?_, ?_⟩, hk⟩, ht⟩
    · rw [upd_at, upd_no _ _ (by decide), ← ByteArray.append_assoc]; exact hr'
    · rw [htr, piped_wrno _ _ _ _ (by decide), upd_no _ _ (by decide)]; exact hpi
    · rw [htr, List.length_append]; omega
    · rw [upd_no _ _ (by decide)]; omega
    · rw [upd_at, ByteArray.size_append]; omega
    · rw [upd_no _ _ (by decide)]; omega
  · refine (wh_write5 hp hr d (by omega)).mono ?_
    rintro e w' ⟨rfl, st', ⟨hp', ht⟩, hr', htr⟩
    have hl := wrEv_len 5 ⟨#[112]⟩ d
    refine ⟨rfl, ⟨st', _, _, _, hp', ?_, h0, h1, h2, ?_, ?_, ⟨s0, s1, s2⟩, ⟨?_, ?_, ?_⟩, hk⟩, ht⟩
    · rw [upd_no _ _ (by decide), upd_no _ _ (by decide)]; exact hr'
    · rw [htr, piped_wr5, upd_at, hpi]
    · rw [htr, List.length_append]; omega
    · rw [upd_no _ _ (by decide)]; omega
    · rw [upd_no _ _ (by decide)]; omega
    · rw [upd_at, ByteArray.size_append]; omega
end
end Go.Proofs.Ytodjjnklelfgfaa
namespace Go.Proofs.Ytodjjnklelfgfaa
open Go.RowKit Go.ChangeShapes Go.WideShapes

theorem add_off' (g o i : Nat) : (⟨g, o, none⟩ : Addr).add i = ⟨g, o + i, none⟩ := by unfold Addr.add; split <;> simp_all
set_option maxRecDepth 100000 in
theorem strs_open {H : Type} {enc : TypeId × Value → H} {w : World} {base : Nat} {v : Value} {d : DataW H} {p : List MemPlace} {spare : Nat → Bool} {held : Bool} {r}
    (hval : Value.okWide Try.prog w r base 23 v) (k : DataW.Trod enc Try.prog w 0 spare held 23 v d p) :
    ∃ A n cap xs, v = .slice A n cap ∧ Strs w w.heap.size A n xs ∧ n ≤ cap ∧ cap ≤ maxLen ∧ ∀ x ∈ xs, x.size ≤ maxLen := by
  obtain ⟨a0, len0, cap0, rfl⟩ := okWide_slice Try.underlying23 hval
  obtain ⟨fuel, hf⟩ := k
  rcases open_strings Try.underlying23 Try.underlying9 (by kernel_rfl) (by simpa [Value.cells] using hf) with ⟨hcs, _⟩ | ⟨a, len, cap, ss, hcs, _, hl, hm, hz, _, hcell, hws⟩
  · simp at hcs
    obtain ⟨rfl, rfl, rfl⟩ := hcs
    exact ⟨_, _, _, [], rfl, Strs.nil _ _, Nat.le_refl _, by unfold maxLen; omega, by simp⟩
  · simp at hcs
    obtain ⟨rfl, rfl, rfl⟩ := hcs
    have hlen : len0 ≤ ss.length := by rw [hz]; split <;> omega
    refine ⟨_, _, _, ss.take len0, rfl, ⟨by simp; omega, fun hn => ?_⟩, hl, hm, fun x hx => hws x (List.mem_of_mem_take hx)⟩
    obtain ⟨b, o, s⟩ := a
    have h0 := hcell 0 (by omega)
    have hs : s = none := by simpa [Addr.add] using World.cell?_spot h0
    subst hs
    have hlt : b < w.heap.size := by
      rw [add_off'] at h0
      by_cases h : b < w.heap.size
      · exact h
      · simp [World.cell?, Array.getElem?_eq_none (Nat.le_of_not_lt h)] at h0
    refine ⟨b, o, rfl, hlt, fun i hi => ?_⟩
    have hi' : i < ss.length := by simp at hi; omega
    have := hcell i hi'
    rw [add_off'] at this
    rw [this]
    simp [List.getD_eq_getElem?_getD, hi']
theorem strs_form {w : World} {base e n : Nat} {u : Value} {xs : List ByteArray} (h : w.ownsRow base e 1 u n (svals xs)) : ∃ A cap, u = .slice A n cap ∧ n ≤ cap ∧ cap ≤ maxLen ∧ Strs w w.heap.size A n xs := by
  rcases h.2 with ⟨h1, h0⟩ | ⟨g, cap, cur, h1, _, _, h4, h5, _⟩
  · subst h0
    subst h1
    exact ⟨none, 0, rfl, Nat.le_refl _, Nat.zero_le _, Strs.of_own h⟩
  · subst h1
    exact ⟨_, cap, rfl, h4, h5, Strs.of_own h⟩
end Go.Proofs.Ytodjjnklelfgfaa
namespace Go.Proofs.Ytodjjnklelfgfaa
open Go.RowKit Wd Go.ChangeShapes Go.WideShapes
/-- A slice of numbers that came in. -/
def Ints (w : World) (B : Nat) (A : Option Addr) (n : Nat) (xs : List Int) : Prop :=
  xs.length = n ∧ (∀ x ∈ xs, (Lit.int .i64 x).wf = true) ∧ (0 < n → ∃ b o, A = some ⟨b, o, none⟩ ∧ b < B ∧ ∀ i, (hi : i < xs.length) → w.cell? ⟨b, o + i, none⟩ = some (.int .i64 xs[i]))
theorem Ints.nil (w : World) (B : Nat) : Ints w B none 0 [] := ⟨rfl, by simp, fun h => by omega⟩
set_option maxRecDepth 100000 in
theorem ints_open {H : Type} {enc : TypeId × Value → H} {w : World} {base : Nat} {v : Value} {d : DataW H} {p : List MemPlace} {spare : Nat → Bool} {held : Bool} {r}
    (hval : Value.okWide Try.prog w r base 22 v) (k : DataW.Trod enc Try.prog w 0 spare held 22 v d p) :
    ∃ A n cap xs, v = .slice A n cap ∧ Ints w w.heap.size A n xs ∧ n ≤ cap ∧ cap ≤ maxLen := by
  obtain ⟨a0, len0, cap0, rfl⟩ := okWide_slice Try.underlying22 hval
  obtain ⟨fuel, hf⟩ := k
  rcases open_ints Try.underlying22 Try.underlying3 (by kernel_rfl) (by simpa [Value.cells] using hf) with ⟨hcs, _⟩ | ⟨a, len, cap, ss, hcs, _, hl, hm, hz, _, hcell, hws⟩
  · simp at hcs
    obtain ⟨rfl, rfl, rfl⟩ := hcs
    exact ⟨_, _, _, [], rfl, Ints.nil _ _, Nat.le_refl _, by unfold maxLen; omega⟩
  · simp at hcs
    obtain ⟨rfl, rfl, rfl⟩ := hcs
    have hlen : len0 ≤ ss.length := by rw [hz]; split <;> omega
    refine ⟨_, _, _, ss.take len0, rfl, ⟨by simp; omega, fun x hx => hws x (List.mem_of_mem_take hx), fun hn => ?_⟩, hl, hm⟩
    obtain ⟨b, o, s⟩ := a
    have h0 := hcell 0 (by omega)
    have hs : s = none := by simpa [Addr.add] using World.cell?_spot h0
    subst hs
    have hlt : b < w.heap.size := by
      rw [add_off'] at h0
      by_cases h : b < w.heap.size
      · exact h
      · simp [World.cell?, Array.getElem?_eq_none (Nat.le_of_not_lt h)] at h0
    refine ⟨b, o, rfl, hlt, fun i hi => ?_⟩
    have hi' : i < ss.length := by simp at hi; omega
    have := hcell i hi'
    rw [add_off'] at this
    rw [this]
    simp [List.getD_eq_getElem?_getD, hi']
def six3 (a : Nat → ByteArray) : Array Value := #[.string (a 0), .string (a 1), .string (a 2)]
def sixK (a : Nat → Int) : Array Value := #[.int .u8 (a 0), .int .u8 (a 1), .int .u8 (a 2)]
theorem six3_get (a : Nat → ByteArray) {j : Nat} (h : j < 3) : (six3 a)[j]? = some (.string (a j)) := by
  have : j = 0 ∨ j = 1 ∨ j = 2 := by omega
  rcases this with rfl | rfl | rfl <;> rfl
theorem sixK_get (a : Nat → Int) {j : Nat} (h : j < 3) : (sixK a)[j]? = some (.int .u8 (a j)) := by
  have : j = 0 ∨ j = 1 ∨ j = 2 := by omega
  rcases this with rfl | rfl | rfl <;> rfl
theorem six3_set (a : Nat → ByteArray) {j : Nat} (h : j < 3) (s : ByteArray) : (six3 a).setIfInBounds j (.string s) = six3 (upd a j s) := by
  have : j = 0 ∨ j = 1 ∨ j = 2 := by omega
  rcases this with rfl | rfl | rfl <;> rfl
/-- got, put, ins, in, outs, out. -/
structure Six (w : World) (g : Nat) (a q : Nat → ByteArray) : Prop where
  got : Blk w g 27 (six3 a)
  put : Blk w (g + 1) 27 (six3 q)
  ins : Blk w (g + 2) 27 (six3 inN)
  inn : Blk w (g + 3) 29 (sixK inK)
  outs : Blk w (g + 4) 27 (six3 outN)
  out : Blk w (g + 5) 29 (sixK outK)
def InX (g : Nat) (i : Nat) : Prop := g ≤ i ∧ i < g + 6
section
variable {w w' : World} {g : Nat} {a q : Nat → ByteArray}
theorem Six.keep (h : Six w g a q) (ht : Tur (fun i => ¬ InX g i) w w') : Six w' g a q where
  got := h.got.keep ht (by simp [InX])
  put := h.put.keep ht (by simp [InX])
  ins := h.ins.keep ht (by simp [InX])
  inn := h.inn.keep ht (by simp [InX])
  outs := h.outs.keep ht (by simp [InX])
  out := h.out.keep ht (by simp [InX])
theorem Six.pure (h : Six w g a q) (hb : Below w.heap.size w w') : Six w' g a q := h.keep (Tur.of_gr hb)
theorem Six.setGot (h : Six w g a q) {j : Nat} (hj : j < 3) (s : ByteArray) : Six (w.setCell ⟨g, j, none⟩ (.string s)) g (upd a j s) q where
  got := by rw [← six3_set a hj]; exact h.got.set j _
  put := h.put.keep (Tur.of_set ⟨g, j, none⟩ _) (by simp)
  ins := h.ins.keep (Tur.of_set ⟨g, j, none⟩ _) (by simp)
  inn := h.inn.keep (Tur.of_set ⟨g, j, none⟩ _) (by simp)
  outs := h.outs.keep (Tur.of_set ⟨g, j, none⟩ _) (by simp)
  out := h.out.keep (Tur.of_set ⟨g, j, none⟩ _) (by simp)
theorem Six.setPut (h : Six w g a q) {j : Nat} (hj : j < 3) (s : ByteArray) : Six (w.setCell ⟨g + 1, j, none⟩ (.string s)) g a (upd q j s) where
  got := h.got.keep (Tur.of_set ⟨g + 1, j, none⟩ _) (by simp)
  put := by rw [← six3_set q hj]; exact h.put.set j _
  ins := h.ins.keep (Tur.of_set ⟨g + 1, j, none⟩ _) (by simp)
  inn := h.inn.keep (Tur.of_set ⟨g + 1, j, none⟩ _) (by simp)
  outs := h.outs.keep (Tur.of_set ⟨g + 1, j, none⟩ _) (by simp)
  out := h.out.keep (Tur.of_set ⟨g + 1, j, none⟩ _) (by simp)
theorem Six.cells (h : Six w g a q) {j : Nat} (hj : j < 3) : w.cell? ⟨g, j, none⟩ = some (.string (a j)) ∧ w.cell? ⟨g + 1, j, none⟩ = some (.string (q j)) ∧ w.cell? ⟨g + 2, j, none⟩ = some (.string (inN j)) ∧
    w.cell? ⟨g + 3, j, none⟩ = some (.int .u8 (inK j)) ∧ w.cell? ⟨g + 4, j, none⟩ = some (.string (outN j)) ∧ w.cell? ⟨g + 5, j, none⟩ = some (.int .u8 (outK j)) :=
  ⟨by rw [h.got.cell, six3_get _ hj], by rw [h.put.cell, six3_get _ hj], by rw [h.ins.cell, six3_get _ hj], by rw [h.inn.cell, sixK_get _ hj], by rw [h.outs.cell, six3_get _ hj], by rw [h.out.cell, sixK_get _ hj]⟩
theorem Six.free (h : Six w g a q) (j : Nat) : w.frozen? ⟨g, j, none⟩ = false ∧ w.frozen? ⟨g + 1, j, none⟩ = false := ⟨h.got.free j, h.put.free j⟩
end
theorem Blk.more {w : World} {g : Nat} {t : TypeId} {cs : Array Value} (h : Blk w g t cs) (o : Obj) : Blk (w.alloc o) g t cs := h.keep (Tur.of_alloc (F := fun _ => False) w o) (fun h => h)
theorem Blk.new' (w : World) (t : TypeId) (cs : Array Value) {n : Nat} (h : w.heap.size = n) : Blk (w.alloc (.cells cs t)) n t cs := by rw [← h]; exact Blk.new w t cs
theorem six_new (w : World) : Six ((((((w.alloc (.cells #[.string ⟨#[]⟩, .string ⟨#[]⟩, .string ⟨#[]⟩] 27)).alloc (.cells #[.string ⟨#[]⟩, .string ⟨#[]⟩, .string ⟨#[]⟩] 27)).alloc
    (.cells #[.string ⟨#[102]⟩, .string ⟨#[45]⟩, .string ⟨#[99]⟩] 27)).alloc (.cells #[.int .u8 1, .int .u8 1, .int .u8 2] 29)).alloc
    (.cells #[.string ⟨#[111]⟩, .string ⟨#[102]⟩, .string ⟨#[112]⟩] 27)).alloc (.cells #[.int .u8 3, .int .u8 4, .int .u8 5] 29)) w.heap.size (fun _ => ⟨#[]⟩) (fun _ => ⟨#[]⟩) where
  got := (((((Blk.new w _ _).more _).more _).more _).more _).more _
  put := ((((Blk.new' (w.alloc _) _ _ (by simp)).more _).more _).more _).more _
  ins := (((Blk.new' ((w.alloc _).alloc _) _ _ (by simp)).more _).more _).more _
  inn := ((Blk.new' (((w.alloc _).alloc _).alloc _) _ _ (by simp)).more _).more _
  outs := (Blk.new' ((((w.alloc _).alloc _).alloc _).alloc _) _ _ (by simp)).more _
  out := Blk.new' (((((w.alloc _).alloc _).alloc _).alloc _).alloc _) _ _ (by simp)
theorem six_below (w : World) (o1 o2 o3 o4 o5 o6 : Obj) : Below w.heap.size w ((((((w.alloc o1).alloc o2).alloc o3).alloc o4).alloc o5).alloc o6) ∧ ((((((w.alloc o1).alloc o2).alloc o3).alloc o4).alloc o5).alloc o6).heap.size = w.heap.size + 6 :=
  ⟨((((((Below.refl _ _).alloc (Nat.le_refl _) _).alloc (by simp) _).alloc (by simp; omega) _).alloc (by simp; omega) _).alloc (by simp; omega) _).alloc (by simp; omega) _, by simp⟩
def srcs (f s r : ByteArray) (j : Nat) : ByteArray := if j = 0 then f else if j = 1 then s else r
def nones (_ : Nat) : ByteArray := ⟨#[]⟩
theorem run_start {X : Nat → Prop} {w w1 : World} {pb : Nat} {file stdin reply : ByteArray} (hp : PX X w w1 pb 7 (plain6 file stdin reply)) (h1 : file.size ≤ 300) (h2 : stdin.size ≤ 300) (h3 : reply.size ≤ 300) : Run X w w1 pb 0 (srcs file stdin reply) nones nones := by
  have e : ∀ x : ByteArray, (⟨#[]⟩ : ByteArray) ++ x = x := fun x => ByteArray.ext (by simp [ByteArray.data_append])
  refine ⟨_, file, stdin, reply, hp, ?_, e _, e _, e _, rfl, Nat.le_of_ble_eq_true rfl, ⟨h1, h2, h3⟩, ⟨Nat.zero_le _, Nat.zero_le _, Nat.zero_le _⟩, by omega⟩
  have h := run_plain6 file stdin reply
  rw [show srcs file stdin reply 0 ++ nones 1 = file from cat_none _ _ rfl]
  exact h
section
variable {X : Nat → Prop} {w w1 w' : World} {pb k : Nat} {src b q a : Nat → ByteArray} {g g1 g2 g3 g4 g5 : Nat}
theorem Run.drew (h : Run X w w1 pb k src b q) : Run X w w1.drew pb k src b q := h.pure (Below.refl _ _).drew
theorem Run.drewN (h : Run X w w1 pb k src b q) (n : Nat) : Run X w (w1.drewN n) pb k src b q := h.pure (below_drew w1 n)
theorem Six.drew (h : Six w g a q) : Six w.drew g a q := h.pure (Below.refl _ _).drew
theorem Six.drewN (h : Six w g a q) (n : Nat) : Six (w.drewN n) g a q := h.pure (below_drew w n)
theorem Run.grow (h : Run X w w1 pb k src b q) (o : Obj) : Run (fun i => X i ∨ i = w1.heap.size) w (w1.alloc o) pb k src b q := by
  obtain ⟨st, l0, l1, l2, ⟨M, F, hW, hB, hF, hX, hXl, hm⟩, r⟩ := h
  have hb : Below w1.heap.size w1 (w1.alloc o) := (Below.refl _ _).alloc (Nat.le_refl _) o
  refine ⟨st, l0, l1, l2, ⟨M, F, hW.pure hb, hB.trans (hb.mono hB.size), hF, fun i hi hx => ?_, fun i hx => ?_, hm⟩, r⟩
  · rcases hx with hx | hx
    · exact hX i hi hx
    · have := hW.flt i hi; omega
  · have hs := hB.size
    rcases hx with hx | hx
    · have := hXl i hx; simp; omega
    · simp; omega
/-- The arrays' numbers, by names of their own. -/
def Names (g g1 g2 g3 g4 g5 : Nat) : Prop := g1 = g + 1 ∧ g2 = g + 1 + 1 ∧ g3 = g + 1 + 1 + 1 ∧ g4 = g + 1 + 1 + 1 + 1 ∧ g5 = g + 1 + 1 + 1 + 1 + 1
theorem Six.cells' (h : Six w g a q) (hn : Names g g1 g2 g3 g4 g5) {j : Nat} (hj : j < 3) : w.cell? ⟨g, j, none⟩ = some (.string (a j)) ∧ w.cell? ⟨g1, j, none⟩ = some (.string (q j)) ∧ w.cell? ⟨g2, j, none⟩ = some (.string (inN j)) ∧
    w.cell? ⟨g3, j, none⟩ = some (.int .u8 (inK j)) ∧ w.cell? ⟨g4, j, none⟩ = some (.string (outN j)) ∧ w.cell? ⟨g5, j, none⟩ = some (.int .u8 (outK j)) := by
  obtain ⟨rfl, rfl, rfl, rfl, rfl⟩ := hn
  exact h.cells hj
theorem Six.frees (h : Six w g a q) (hn : Names g g1 g2 g3 g4 g5) (j : Nat) : w.frozen? ⟨g, j, none⟩ = false ∧ w.frozen? ⟨g1, j, none⟩ = false := by
  obtain ⟨rfl, rfl, rfl, rfl, rfl⟩ := hn
  exact h.free j
theorem Six.setPut' (h : Six w g a q) (hn : Names g g1 g2 g3 g4 g5) {j : Nat} (hj : j < 3) (s : ByteArray) : Six (w.setCell ⟨g1, j, none⟩ (.string s)) g a (upd q j s) := by
  obtain ⟨rfl, rfl, rfl, rfl, rfl⟩ := hn
  exact h.setPut hj s
theorem run_file_o (h : Run X w w1 pb k src b q) :
    Calls Try.prog 13 #[.pointer (some ⟨pb, 0, none⟩), .string ⟨#[111]⟩] w1 fun e w' => e = .returned (.tuple #[.string (q 0), .bool true]) ∧ w1 = w' := by
  obtain ⟨st, l0, l1, l2, ⟨M, F, hW, hB, hF, hX, hXl, hm⟩, hr, -⟩ := h
  refine (wo_file hW ⟨#[111]⟩ (by decide)).mono ?_
  rintro e w2 ⟨rfl, rfl⟩
  refine ⟨?_, rfl⟩
  show Ending.returned (.tuple #[.string ((st.files [111]).getD ⟨#[]⟩), .bool (st.files [111]).isSome]) = _
  rw [hr.2.2.2.1]; rfl
theorem run_file_f (h : Run X w w1 pb k src b q) :
    Calls Try.prog 13 #[.pointer (some ⟨pb, 0, none⟩), .string ⟨#[102]⟩] w1 fun e w' => e = .returned (.tuple #[.string (src 0 ++ q 1), .bool true]) ∧ w1 = w' := by
  obtain ⟨st, l0, l1, l2, ⟨M, F, hW, hB, hF, hX, hXl, hm⟩, hr, -⟩ := h
  refine (wo_file hW ⟨#[102]⟩ (by decide)).mono ?_
  rintro e w2 ⟨rfl, rfl⟩
  refine ⟨?_, rfl⟩
  show Ending.returned (.tuple #[.string ((st.files [102]).getD ⟨#[]⟩), .bool (st.files [102]).isSome]) = _
  rw [hr.2.2.2.2]; rfl
theorem run_trace (h : Run X w w1 pb k src b q) :
    Calls Try.prog 14 #[.pointer (some ⟨pb, 0, none⟩)] w1 fun e w' => ∃ v' tr, e = .returned v' ∧ w'.ownsRow w1.heap.size 41 5 v' tr.length (evals tr) ∧ Below w1.heap.size w1 w' ∧ piped tr = q 2 ∧ tr.length ≤ 100 := by
  obtain ⟨st, l0, l1, l2, ⟨M, F, hW, hB, hF, hX, hXl, hm⟩, hr, -, -, -, hp, hl, -, -, hk⟩ := h
  refine (wo_trace hW (by omega)).mono ?_
  rintro e w2 ⟨v', rfl, h1, h2⟩
  exact ⟨v', _, rfl, h1, h2, hp, by omega⟩
theorem run_readA (h : Run X w w1 pb k src b q) (j : Nat) (hj : j < 3) :
    Calls Try.prog 11 #[.pointer (some ⟨pb, 0, none⟩), .int .u8 (inK j), .string (inN j), .int .i64 1000] w1 fun e w' => ∃ s, e = .returned (.tuple #[.string s, .int .i64 0]) ∧ Run X w w' pb k src (upd b j (src j)) q ∧ Tur (fun g => ¬ X g) w1 w' ∧ b j ++ s = src j ∧ (b j).size + s.size ≤ 300 := by
  refine (run_read h j hj 1000 (by omega)).mono ?_
  rintro e w2 ⟨s, he, hr, ht, h1, -, h3⟩
  have h1 := h1 rfl
  rw [h1] at hr
  exact ⟨s, he, hr, ht, h1, h3⟩
theorem run_readB (h : Run X w w1 pb k src b q) (j : Nat) (hj : j < 3) (hb : b j = src j) :
    Calls Try.prog 11 #[.pointer (some ⟨pb, 0, none⟩), .int .u8 (inK j), .string (inN j), .int .i64 1] w1 fun e w' => e = .returned (.tuple #[.string ⟨#[]⟩, .int .i64 0]) ∧ Run X w w' pb k src b q ∧ Tur (fun g => ¬ X g) w1 w' := by
  refine (run_read h j hj 1 (by omega)).mono ?_
  rintro e w2 ⟨s, he, hr, ht, -, h2, -⟩
  have h2 := h2 hb
  obtain rfl : s = ⟨#[]⟩ := ByteArray.ext (Array.eq_empty_of_size_eq_zero h2)
  have e2 : upd b j (b j ++ ⟨#[]⟩) = b := by
    funext i
    unfold upd
    split
    · rename_i hi; subst hi; exact cat_none _ _ rfl
    · rfl
  rw [e2] at hr
  exact ⟨he, hr, ht⟩
end
end Go.Proofs.Ytodjjnklelfgfaa
namespace Go.Proofs.Ytodjjnklelfgfaa
namespace Vm
set_option linter.unusedSimpArgs false
set_option linter.unusedVariables false
open Go.RowKit

/-- What may be done to a block: ro: it came in; ex: its row is just so long; tip: the youngest of its line; old: a younger one has been made of it; dead: nobody may look at it any more. -/
inductive Fl where
  | ro | ex | tip | old | dead
  deriving DecidableEq, Inhabited
structure Blk where
  cells : Array Value
  elem : TypeId
  fl : Fl
  kin : Bool
  root : Nat
  esz : Nat
  deriving Inhabited
inductive VObj where
  | cells (b : Blk)
  | map (es : Array MapEntry) (clock : Nat)
  | iter (s : ByteArray) (pos : Nat)
  | rmap (es : Array MapEntry) (clock : Nat)
  deriving Inhabited
abbrev VHeap := Array VObj

def VObj.live : VObj → Bool
  | .cells b => b.fl != .dead
  | _ => true
def VObj.own : VObj → Bool
  | .cells b => b.fl != .dead && b.fl != .ro
  | .rmap _ _ => false
  | _ => true

def cell? (σ : VHeap) (a : Addr) : Option Value :=
  match a.spot, σ[a.block]? with
  | none, some (.cells b) => if b.fl = .dead then none else b.cells[a.off]?
  | _, _ => none
/-- The elders of a line are looked at no more. -/
def killed (r : Nat) : VObj → VObj
  | .cells b => if b.root = r ∧ b.fl = .old then .cells { b with fl := .dead } else .cells b
  | o => o
def kill (σ : VHeap) (r : Nat) : VHeap := σ.map (killed r)
def Blk.put (b : Blk) (i : Nat) (v : Value) : Blk := { b with cells := b.cells.setIfInBounds i v, kin := false }
def setCell (σ : VHeap) (a : Addr) (v : Value) : Option VHeap :=
  match a.spot, σ[a.block]? with
  | none, some (.cells b) =>
    if a.off < b.cells.size then
      match b.fl with
      | .ex => some (σ.setIfInBounds a.block (.cells (b.put a.off v)))
      | .tip => some ((bif b.kin then kill σ b.root else σ).setIfInBounds a.block (.cells (b.put a.off v)))
      | _ => none
    else none
  | _, _ => none

/-- The machine's own code, run over virtual memory: what has no virtual answer ends it. -/
def vrun {α : Type} (P : Program) : Sem α → VHeap → Option (α × VHeap)
  | .pure a, σ => some (a, σ)
  | .load .plain a k, σ => match cell? σ a with
    | some v => vrun P (k v) σ
    | none => none
  | .store .plain a v k, σ => match v.oneCell', setCell σ a v with
    | true, some σ' => vrun P k σ'
    | _, _ => none
  | .new (.cells c e (0, 0)) k, σ => vrun P (k σ.size) (σ.push (.cells ⟨c, e, .ex, false, σ.size, 0⟩))
  | .new (.map es 0) k, σ => match es with
    | ⟨[]⟩ => vrun P (k σ.size) (σ.push (.map #[] 0))
    | _ => none
  | .new (.stringIter s p) k, σ => vrun P (k σ.size) (σ.push (.iter s p))
  | .getObj r k, σ => match σ[r]? with
    | some (.map es c) => vrun P (k (.map es c)) σ
    | some (.rmap es c) => vrun P (k (.map es c)) σ
    | some (.iter s p) => vrun P (k (.stringIter s p)) σ
    | _ => none
  | .setObj r o k, σ => match σ[r]?, o with
    | some (.map _ _), .map es c => vrun P k (σ.setIfInBounds r (.map es c))
    | some (.iter _ _), .stringIter s p => vrun P k (σ.setIfInBounds r (.iter s p))
    | _, _ => none
  | .program k, σ => vrun P (k P) σ
  | .mark _ k, σ => vrun P k σ
  | _, _ => none

def andThen {α β : Type} (r : Option (α × VHeap)) (f : α → VHeap → Option (β × VHeap)) : Option (β × VHeap) :=
  match r with
  | some (a, σ) => f a σ
  | none => none

theorem vrun_bind {α β : Type} (P : Program) (x : Sem α) (f : α → Sem β) (σ : VHeap) :
    vrun P (x.bind f) σ = andThen (vrun P x σ) fun a σ' => vrun P (f a) σ' := by
  induction x generalizing σ with
  | pure a => rfl
  | load m a k ih =>
    cases m <;> simp only [Sem.bind, vrun]
    · split <;> simp [ih, andThen]
    · rfl
  | store m a v k ih =>
    cases m <;> simp only [Sem.bind, vrun]
    · split <;> simp [ih, andThen]
    · rfl
  | new o k ih =>
    unfold Sem.bind
    cases o with
    | cells c e f =>
      obtain ⟨lo, hi⟩ := f
      cases lo <;> cases hi <;> first | exact ih _ _ | rfl
    | map es c =>
      cases c with
      | zero =>
        obtain ⟨l⟩ := es
        cases l with
        | nil => exact ih _ _
        | cons a l => rfl
      | succ n => rfl
    | stringIter s p => exact ih _ _
    | _ => rfl
  | shape r k ih => rfl
  | freeze a n k ih => rfl
  | frozen a k ih => rfl
  | getObj r k ih =>
    simp only [Sem.bind, vrun]
    split <;> simp [ih, andThen]
  | setObj r o k ih =>
    simp only [Sem.bind, vrun]
    split <;> simp [ih, andThen]
  | choose q k ih => rfl
  | sys c k ih => rfl
  | program k ih => simp [Sem.bind, vrun, ih]
  | mark m k ih => simp [Sem.bind, vrun, ih]
  | halt h => rfl

/-- What a virtual block is in the real memory: the row, the place of its first cell there, the cells of an element and of the whole row; what is known of capacities. -/
inductive Kind where
  | ex | gr | ro
  deriving DecidableEq
structure Info where
  b : Nat
  o : Nat
  esz : Nat
  tot : Nat
  kind : Kind
abbrev Rho := Nat → Option Info
def Rho.le (ρ ρ' : Rho) : Prop := ∀ id i, ρ id = some i → ρ' id = some i
theorem Rho.le_refl (ρ : Rho) : ρ.le ρ := fun _ _ h => h
theorem Rho.le_trans {a b c : Rho} (h : a.le b) (k : b.le c) : a.le c := fun _ _ x => k _ _ (h _ _ x)

def CapOk (i : Info) (off c c' : Nat) : Prop :=
  match i.kind with
  | .ex => c = c'
  | .gr => c ≤ c' ∧ i.o + off + c' * i.esz ≤ i.tot
  | .ro => c ≤ c'

inductive VRel (ρ : Rho) : Value → Value → Prop where
  | bool (b : Bool) : VRel ρ (.bool b) (.bool b)
  | int (k : IntKind) (n : Int) : VRel ρ (.int k n) (.int k n)
  | float (k : FloatKind) (n : Nat) : VRel ρ (.float k n) (.float k n)
  | complex (k : FloatKind) (a b : Nat) : VRel ρ (.complex k a b) (.complex k a b)
  | string (s : ByteArray) : VRel ρ (.string s) (.string s)
  | ptrNil : VRel ρ (.pointer none) (.pointer none)
  | ptr {id off : Nat} {i : Info} (h : ρ id = some i) : VRel ρ (.pointer (some ⟨id, off, none⟩)) (.pointer (some ⟨i.b, i.o + off, none⟩))
  | sliceNil (n c : Nat) : VRel ρ (.slice none n c) (.slice none n c)
  | slice {id off n c c' : Nat} {i : Info} (h : ρ id = some i) (hc : CapOk i off c c') : VRel ρ (.slice (some ⟨id, off, none⟩) n c) (.slice (some ⟨i.b, i.o + off, none⟩) n c')
  | sliceOff (id off : Nat) (a : Addr) (c' : Nat) : VRel ρ (.slice (some ⟨id, off, some 0⟩) 0 0) (.slice (some a) 0 c')
  | glob (g : Nat) : VRel ρ (.chan (some g)) (.pointer (some ⟨g, 0, none⟩))
  | mapNil : VRel ρ (.map none) (.map none)
  | map {id : Nat} {i : Info} (h : ρ id = some i) : VRel ρ (.map (some id)) (.map (some i.b))
  | func (fn : Fn) {xs ys us vs : Array Value} (h1 : xs.size = ys.size) (h2 : ∀ (k : Nat) (h : k < xs.size) (h' : k < ys.size), VRel ρ xs[k] ys[k])
      (g1 : us.size = vs.size) (g2 : ∀ (k : Nat) (h : k < us.size) (h' : k < vs.size), VRel ρ us[k] vs[k]) : VRel ρ (.func fn xs us) (.func fn ys vs)
  | nilFunc : VRel ρ .nilFunc .nilFunc
  | iface (t : TypeId) {v v' : Value} (h : VRel ρ v v') : VRel ρ (.iface t v) (.iface t v')
  | nilIface : VRel ρ .nilIface .nilIface
  | agg {xs ys : Array Value} (h1 : xs.size = ys.size) (h2 : ∀ (k : Nat) (h : k < xs.size) (h' : k < ys.size), VRel ρ xs[k] ys[k]) : VRel ρ (.agg xs) (.agg ys)
  | tuple {xs ys : Array Value} (h1 : xs.size = ys.size) (h2 : ∀ (k : Nat) (h : k < xs.size) (h' : k < ys.size), VRel ρ xs[k] ys[k]) : VRel ρ (.tuple xs) (.tuple ys)

theorem VRel.mono {ρ ρ' : Rho} (hle : ρ.le ρ') {v v' : Value} (h : VRel ρ v v') : VRel ρ' v v' := by
  induction h with
  | bool b => exact .bool b
  | int k n => exact .int k n
  | float k n => exact .float k n
  | complex k a b => exact .complex k a b
  | string s => exact .string s
  | ptrNil => exact .ptrNil
  | ptr h => exact .ptr (hle _ _ h)
  | sliceNil n c => exact .sliceNil n c
  | slice h hc => exact .slice (hle _ _ h) hc
  | sliceOff id off a c' => exact .sliceOff id off a c'
  | glob g => exact .glob g
  | mapNil => exact .mapNil
  | map h => exact .map (hle _ _ h)
  | func fn h1 _ g1 _ ih ih' => exact .func fn h1 ih g1 ih'
  | nilFunc => exact .nilFunc
  | iface t _ ih => exact .iface t ih
  | nilIface => exact .nilIface
  | agg h1 _ ih => exact .agg h1 ih
  | tuple h1 _ ih => exact .tuple h1 ih

/-- Arrays of values, place by place. -/
def ARel (ρ : Rho) (xs ys : Array Value) : Prop := xs.size = ys.size ∧ ∀ (k : Nat) (h : k < xs.size) (h' : k < ys.size), VRel ρ xs[k] ys[k]
theorem ARel.mono {ρ ρ' : Rho} (hle : ρ.le ρ') {xs ys : Array Value} (h : ARel ρ xs ys) : ARel ρ' xs ys := ⟨h.1, fun k a b => (h.2 k a b).mono hle⟩
theorem ARel.nil (ρ : Rho) : ARel ρ #[] #[] := ⟨rfl, fun k h => by simp at h⟩
theorem ARel.push {ρ : Rho} {xs ys : Array Value} {v v' : Value} (h : ARel ρ xs ys) (hv : VRel ρ v v') : ARel ρ (xs.push v) (ys.push v') := by
  refine ⟨by simp [h.1], fun k a b => ?_⟩
  simp only [Array.getElem_push]
  by_cases hk : k < xs.size
  · rw [dif_pos hk, dif_pos (h.1 ▸ hk)]; exact h.2 k hk _
  · rw [dif_neg hk, dif_neg (h.1 ▸ hk)]; exact hv
theorem ARel.append {ρ : Rho} {xs ys us vs : Array Value} (h : ARel ρ xs ys) (g : ARel ρ us vs) : ARel ρ (xs ++ us) (ys ++ vs) := by
  refine ⟨by simp [h.1, g.1], fun k a b => ?_⟩
  simp only [Array.getElem_append]
  by_cases hk : k < xs.size
  · rw [dif_pos hk, dif_pos (h.1 ▸ hk)]; exact h.2 k hk _
  · rw [dif_neg hk, dif_neg (h.1 ▸ hk)]
    simp only [Array.size_append] at a b
    have h1 := h.1
    have g1 := g.1
    have e : vs[k - ys.size]'(by omega) = vs[k - xs.size]'(by omega) := getElem_congr_idx (by rw [h1])
    rw [e]
    exact g.2 _ _ _
theorem ARel.set {ρ : Rho} {xs ys : Array Value} {v v' : Value} (h : ARel ρ xs ys) (i : Nat) (hv : VRel ρ v v') : ARel ρ (xs.setIfInBounds i v) (ys.setIfInBounds i v') := by
  refine ⟨by simp [h.1], fun k a b => ?_⟩
  have a' : k < xs.size := by simpa using a
  have b' : k < ys.size := by simpa using b
  rw [Array.getElem_setIfInBounds a', Array.getElem_setIfInBounds b']
  by_cases hk : i = k
  · rw [if_pos hk, if_pos hk]; exact hv
  · rw [if_neg hk, if_neg hk]; exact h.2 k _ _
theorem ARel.extract {ρ : Rho} {xs ys : Array Value} (h : ARel ρ xs ys) (i j : Nat) : ARel ρ (xs.extract i j) (ys.extract i j) := by
  refine ⟨by simp [h.1], fun k a b => ?_⟩
  simp only [Array.getElem_extract]
  exact h.2 _ _ _
theorem ARel.get? {ρ : Rho} {xs ys : Array Value} (h : ARel ρ xs ys) {i : Nat} {v : Value} (hv : xs[i]? = some v) : ∃ v', ys[i]? = some v' ∧ VRel ρ v v' := by
  obtain ⟨hi, rfl⟩ := Array.getElem?_eq_some_iff.1 hv
  exact ⟨ys[i]'(h.1 ▸ hi), Array.getElem?_eq_getElem _, h.2 i hi _⟩
theorem ARel.get_none {ρ : Rho} {xs ys : Array Value} (h : ARel ρ xs ys) {i : Nat} (hv : xs[i]? = none) : ys[i]? = none := by
  rw [Array.getElem?_eq_none_iff] at hv ⊢; rw [← h.1]; exact hv
theorem ARel.map {ρ : Rho} {α : Type} (l : Array α) (f g : α → Value) (h : ∀ x ∈ l, VRel ρ (f x) (g x)) : ARel ρ (l.map f) (l.map g) :=
  ⟨by simp, fun k a b => by simp only [Array.getElem_map]; exact h _ (Array.getElem_mem _)⟩

theorem VRel.cells {ρ : Rho} {v v' : Value} (h : VRel ρ v v') : ARel ρ v.cells v'.cells := by
  cases h with
  | agg h1 h2 => exact ⟨h1, h2⟩
  | _ => refine ⟨rfl, fun k a b => ?_⟩; (simp only [Value.cells, List.size_toArray, List.length_singleton] at a; obtain rfl : k = 0 := by omega); simp only [Value.cells, List.getElem_toArray, List.getElem_cons_zero]; constructor <;> assumption
theorem VRel.one {ρ : Rho} {v v' : Value} (h : VRel ρ v v') : v.oneCell' = v'.oneCell' := by cases h <;> rfl

def cleanC : Value → Bool
  | .bool _ | .int _ _ | .float _ _ | .complex _ _ _ | .string _ | .pointer none | .slice none _ _ | .map none | .nilFunc | .nilIface => true
  | _ => false
/-- The entries of a map, one by one: keys without addresses. -/
def ERel (ρ : Rho) (es fs : Array MapEntry) : Prop :=
  es.size = fs.size ∧ ∀ (k : Nat) (h : k < es.size) (h' : k < fs.size), es[k].key = fs[k].key ∧ cleanC es[k].key = true ∧ VRel ρ es[k].val fs[k].val ∧ es[k].born = fs[k].born
theorem ERel.mono {ρ ρ' : Rho} (hle : ρ.le ρ') {es fs : Array MapEntry} (h : ERel ρ es fs) : ERel ρ' es fs :=
  ⟨h.1, fun k a b => ⟨(h.2 k a b).1, (h.2 k a b).2.1, (h.2 k a b).2.2.1.mono hle, (h.2 k a b).2.2.2⟩⟩

/-- Real blocks that nothing may turn, and virtual ones that have no real block yet. -/
structure Base where
  U : Nat → Prop
  H : Nat → Prop
  Ro : Nat → Prop
structure Keeps (U : Nat → Prop) (w w' : World) : Prop where
  os : w'.os = w.os
  tape : w'.tape = w.tape
  output : w'.output = w.output
  size : w.heap.size ≤ w'.heap.size
  block : ∀ k, U k → w'.heap[k]? = w.heap[k]?
theorem Keeps.refl (U : Nat → Prop) (w : World) : Keeps U w w := ⟨rfl, rfl, rfl, Nat.le_refl _, fun _ _ => rfl⟩
theorem Keeps.trans {U : Nat → Prop} {a b c : World} (h : Keeps U a b) (k : Keeps U b c) : Keeps U a c :=
  ⟨k.os.trans h.os, k.tape.trans h.tape, k.output.trans h.output, Nat.le_trans h.size k.size, fun i hi => (k.block i hi).trans (h.block i hi)⟩
theorem Keeps.mono {U V : Nat → Prop} {a b : World} (h : Keeps U a b) (hUV : ∀ k, V k → U k) : Keeps V a b := ⟨h.os, h.tape, h.output, h.size, fun k hk => h.block k (hUV k hk)⟩
theorem Keeps.of_below {U : Nat → Prop} {n : Nat} {a b : World} (h : Below n a b) (hU : ∀ k, U k → k < n) : Keeps U a b := ⟨h.os, h.tape, h.output, h.size, fun k hk => h.block k (hU k hk)⟩
theorem Keeps.setCell {U : Nat → Prop} {a w : World} (h : Keeps U a w) {p : Addr} (hp : ¬ U p.block) (u : Value) : Keeps U a (w.setCell p u) :=
  h.trans ⟨rfl, rfl, rfl, by simp [World.setCell], fun k hk => Below.heap_setCell _ _ _ _ (fun e => hp (e ▸ hk))⟩
structure BlkRel (ρ : Rho) (w : World) (B0 : Base) (b : Blk) (i : Info) (cs : Array Value) (fz : Nat × Nat) : Prop where
  at_ : w.heap[i.b]? = some (.cells cs b.elem fz)
  len : i.o + b.cells.size ≤ cs.size
  cells : ∀ (k : Nat) (h : k < b.cells.size) (h' : i.o + k < cs.size), VRel ρ b.cells[k] cs[i.o + k]
  ro : b.fl = .ro → (B0.U i.b ∧ B0.Ro i.b) ∧ i.kind = .ro ∧ (b.kin = true → i.b = b.root ∧ i.o = 0)
  mine : b.fl ≠ .ro → ¬ B0.U i.b ∧ i.tot = cs.size ∧ (b.fl ≠ .old → ∀ k, k < cs.size → ¬ (fz.1 ≤ k ∧ k < fz.2))
  ex : b.fl = .ex → i.kind = .ex ∧ i.o = 0 ∧ b.cells.size = cs.size
  gr : b.fl = .tip ∨ b.fl = .old → i.kind = .gr ∧ i.esz = b.esz

def Kin (o1 o2 : VObj) (i1 i2 : Info) : Prop :=
  match o1, o2 with
  | .cells b1, .cells b2 => b1.root = b2.root ∧ b1.fl ≠ .ex ∧ b2.fl ≠ .ex ∧ (b1.fl = .tip → b2.fl = .old ∧ b1.kin = true ∧ i2.o + b2.cells.size ≤ i1.o + b1.cells.size)
  | _, _ => False

structure WRel (ρ : Rho) (σ : VHeap) (w0 w : World) (B0 : Base) : Prop where
  dom : ∀ id, σ.size ≤ id → ρ id = none
  blk : ∀ id b, σ[id]? = some (.cells b) → b.fl ≠ .dead → ∃ i cs fz, ρ id = some i ∧ BlkRel ρ w B0 b i cs fz
  map : ∀ id es c, σ[id]? = some (.map es c) → ∃ i fs, ρ id = some i ∧ i.o = 0 ∧ ¬ B0.U i.b ∧ w.heap[i.b]? = some (.map fs c) ∧ ERel ρ es fs
  rmap : ∀ id es c, σ[id]? = some (.rmap es c) → ∃ i fs, ρ id = some i ∧ i.o = 0 ∧ (B0.U i.b ∧ B0.Ro i.b) ∧ w.heap[i.b]? = some (.map fs c) ∧ ERel ρ es fs
  iter : ∀ id s p, σ[id]? = some (.iter s p) → ∃ i, ρ id = some i ∧ i.o = 0 ∧ ¬ B0.U i.b ∧ w.heap[i.b]? = some (.stringIter s p)
  sep : ∀ id1 id2 o1 o2 i1 i2, id1 ≠ id2 → σ[id1]? = some o1 → σ[id2]? = some o2 → o1.own = true → o2.own = true → ρ id1 = some i1 → ρ id2 = some i2 → i1.b = i2.b → Kin o1 o2 i1 i2
  base : ∀ k, B0.U k → k < w.heap.size
  below : Keeps B0.U w0 w
  hole : ∀ id, B0.H id → ρ id = none ∧ id < σ.size
end Vm
end Go.Proofs.Ytodjjnklelfgfaa
