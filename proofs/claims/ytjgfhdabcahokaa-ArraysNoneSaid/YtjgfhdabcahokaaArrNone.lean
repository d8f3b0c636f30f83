/- 'ArraysNone' returns true: by computing, in the virtual machine; what comes in is looked at by nobody. -/
import Derived.Test.YtjgfhdabcahokaaVm27
import Derived.Test.YtjgfhdabcahokaaAwake
namespace Go.Proofs.Ytjgfhdabcahokaa
open Vm Go.RowKit
theorem okInt {P : Program} {w : World} {r : Reach} {base : Nat} {t : TypeId} {k : IntKind} {v : Value} (hu : P.underlying t = some (.int k)) (h : Cell.okWide P w r base t v) : ∃ n, v = .int k n := by
  unfold Cell.okWide at h
  rw [hu] at h
  unfold Cell.ok at h
  rw [hu] at h
  cases v <;> first | exact h.elim | skip
  exact ⟨_, by rw [h.1]⟩
theorem okStr {P : Program} {w : World} {r : Reach} {base : Nat} {t : TypeId} {v : Value} (hu : P.underlying t = some .string) (h : Cell.okWide P w r base t v) : ∃ n, v = .string n := by
  unfold Cell.okWide at h
  rw [hu] at h
  unfold Cell.ok at h
  rw [hu] at h
  cases v <;> first | exact h.elim | skip
  exact ⟨_, rfl⟩
theorem cell_of {P : Program} {w : World} {r : Reach} {base : Nat} {t t0 t1 t2 : TypeId} {k0 k1 : IntKind} {fs : Array Field} {v : Value} (hu : P.underlying t = some (.struct fs)) (hc : P.cellsOf t = 3) (ht : P.cellTypes P.depth t = some [t0, t1, t2])
    (h0 : P.underlying t0 = some (.int k0)) (h1 : P.underlying t1 = some (.int k1)) (h2 : P.underlying t2 = some .string) (h : Value.okWide P w r base t v) : ∃ a b s, v = .agg #[.int k0 a, .int k1 b, .string s] := by
  unfold Value.okWide at h
  rw [hu] at h
  obtain ⟨cs, rfl, hs, ts, hts, -, hall⟩ := h
  rw [ht] at hts
  cases hts
  rw [hc] at hs
  obtain ⟨l⟩ := cs
  match l, hs with
  | [x, y, z], _ =>
    obtain ⟨u0, g0, q0⟩ := hall 0 x rfl
    obtain ⟨u1, g1, q1⟩ := hall 1 y rfl
    obtain ⟨u2, g2, q2⟩ := hall 2 z rfl
    cases g0
    cases g1
    cases g2
    obtain ⟨a, rfl⟩ := okInt h0 q0
    obtain ⟨b, rfl⟩ := okInt h1 q1
    obtain ⟨s, rfl⟩ := okStr h2 q2
    exact ⟨a, b, s, rfl⟩
theorem none_true (key : ByteArray) (a b : Int) (s : ByteArray) : isTrue (xcall Try.prog (oneX 18) noP 60 6 #[.string key, .agg #[.int .u8 a, .int .u64 b, .string s]] #[]) = true := by kernel_rfl
theorem l_none {base : Nat} {r : Reach} {Q : Prop} (key : ByteArray) (v : Value) (w : World) (hsh : w.ShapedOpen Try.prog) (hk : key.size ≤ maxLen) (hval : Value.okWide Try.prog w r base 31 v) (k : Q) :
    Calls Try.prog 6 #[.string key, v] w fun e w' => e = .returned (.bool true) ∧ Below w.heap.size w w' := by
  obtain ⟨a, b, s, rfl⟩ := cell_of (t0 := 28) (t1 := 29) (t2 := 9) (k0 := .u8) (k1 := .u64) Try.underlying31 (by kernel_rfl) (by kernel_rfl) (by kernel_rfl) (by kernel_rfl) (by kernel_rfl) hval
  exact withArgs (by kernel_rfl) (oneX_ok _) (oneE_ok Awake.walk) (by kernel_rfl) (none_true key a b s) w
end Go.Proofs.Ytjgfhdabcahokaa
