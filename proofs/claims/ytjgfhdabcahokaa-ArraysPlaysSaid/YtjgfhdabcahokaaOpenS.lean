/- A slice of texts that came in. -/
import Derived.Test.YtjgfhdabcahokaaBase
import Derived.SliceStrings
import Derived.Test.YtjgfhdabcahokaaRows
import Derived.OpenShut
namespace Go.Proofs.Ytjgfhdabcahokaa
open Go.RowKit Go.ChangeShapes Go.WideShapes

theorem add_off' (g o i : Nat) : (⟨g, o, none⟩ : Addr).add i = ⟨g, o + i, none⟩ := by unfold Addr.add; split <;> simp_all
theorem strs_open {H : Type} {enc : TypeId × Value → H} {w : World} {base : Nat} {v : Value} {d : DataW H} {p : List MemPlace} {spare : Nat → Bool} {held : Bool} {r}
    (hval : Value.okWide Try.prog w r base 25 v) (k : DataW.Trod enc Try.prog w 0 spare held 25 v d p) :
    ∃ A n cap xs, v = .slice A n cap ∧ Strs w w.heap.size A n xs ∧ n ≤ cap ∧ cap ≤ maxLen ∧ ∀ x ∈ xs, x.size ≤ maxLen := by
  obtain ⟨a0, len0, cap0, rfl⟩ := okWide_slice Try.underlying25 hval
  obtain ⟨fuel, hf⟩ := k
  rcases open_strings Try.underlying25 Try.underlying9 (by kernel_rfl) (by simpa [Value.cells] using hf) with ⟨hcs, _⟩ | ⟨a, len, cap, ss, hcs, _, hl, hm, hz, _, hcell, hws⟩
  · simp at hcs
    obtain ⟨rfl, rfl, rfl⟩ := hcs
    exact ⟨_, _, _, [], rfl, Strs.nil _ _, Nat.le_refl _, by unfold maxLen; omega, by simp⟩
  · simp at hcs
    obtain ⟨rfl, rfl, rfl⟩ := hcs
    have hlen : len0 ≤ ss.length := by rw [hz]; split <;> omega
    refine ⟨_, _, _, ss.take len0, rfl, ⟨by simp; omega, fun hn => ?_⟩, hl, hm, fun x hx => hws x (List.mem_of_mem_take hx)⟩
    obtain ⟨b, o, s⟩ := a
    have h0 := hcell 0 (by omega)
    have hs : s = none := by simpa [Addr.add] using World.cell?_spot h0
    subst hs
    have hlt : b < w.heap.size := by
      rw [add_off'] at h0
      by_cases h : b < w.heap.size
      · exact h
      · simp [World.cell?, Array.getElem?_eq_none (Nat.le_of_not_lt h)] at h0
    refine ⟨b, o, rfl, hlt, fun i hi => ?_⟩
    have hi' : i < ss.length := by simp at hi; omega
    have := hcell i hi'
    rw [add_off'] at this
    rw [this]
    simp [List.getD_eq_getElem?_getD, hi']
theorem strs_form {w : World} {base e n : Nat} {u : Value} {xs : List ByteArray} (h : w.ownsRow base e 1 u n (svals xs)) : ∃ A cap, u = .slice A n cap ∧ n ≤ cap ∧ cap ≤ maxLen ∧ Strs w w.heap.size A n xs := by
  rcases h.2 with ⟨h1, h0⟩ | ⟨g, cap, cur, h1, _, _, h4, h5, _⟩
  · subst h0
    subst h1
    exact ⟨none, 0, rfl, Nat.le_refl _, Nat.zero_le _, Strs.of_own h⟩
  · subst h1
    exact ⟨_, cap, rfl, h4, h5, Strs.of_own h⟩
end Go.Proofs.Ytjgfhdabcahokaa
