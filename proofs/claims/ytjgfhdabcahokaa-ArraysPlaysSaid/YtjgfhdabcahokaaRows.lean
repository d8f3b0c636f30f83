/-
  No cell of these rows narrows 'for every input' (looked for: loops, veiled, ifaces, maps, wideKeys, modest, calm, conditions, laid).
  DERIVED. THE GIVEN ROWS OF THIS SEAT. 5 by the template 'for every input the law returns true; each argument reads behind the call as it read before'; 0 by the template 'total and deterministic' (their statements: YtjgfhdabcahokaaTotals.lean).
  GIVEN WITH THE SEED: the statements are not yours to turn. If you find one false, say at which input.
  Laid BY PROGRAM, IN A SANDBOX (cutbox-rows.mjs): the forced cells as the released guide's own fill.sh prints them over the translation f41201ab937686f1… (all of the seat's roots in one cut). By AI agents, Wed Nov 11 2026. No macro, syntax, notation, axiom, sorry.
-/
import Derived.Test.YtjgfhdabcahokaaChecked
import GoSem.Claim
import GoSem.ClaimJoined
import GoSem.ClaimMapViews
import Derived.JoinedTies
import Derived.KernelRfl
namespace Go.Proofs.Ytjgfhdabcahokaa
/- THE CELL 'sum', in the pinned program and in every row, IS THE sha256 OF THE DUMP (.gsa) THAT YtjgfhdabcahokaaProg.lean LOADS. Nothing in Lean hashes anything: it is a label: what it is worth is what the hold of that sum in a sandbox is worth. -/
noncomputable def Try.pinned : Pinned := { name := "ytjgfhdabcahokaa", sum := "f41201ab937686f14c7da847130d9cffb2978de986d0cda736c3ea3d58f0af01", checked := Try.checked }
namespace Rows
def none {H : Type} : Left H := { results := [], args := [] }

/-- 'winnowerlaw09.ArraysOrder': WHATEVER THE INPUT: true; the input reads as it did. -/
def arraysOrderSpec : ChangeSpec := { name := "arraysOrder", fn := fun _ => fun
  | [d] => { results := [.lit (.bool true)], args := [d] }
  | _ => none }
def arraysOrderRow : OpenClaim := { program := "ytjgfhdabcahokaa", sum := "f41201ab937686f14c7da847130d9cffb2978de986d0cda736c3ea3d58f0af01", func := "winnower/winnowerlaw09.ArraysOrder", spec := "arraysOrder", inPlace := ["internal/abi.NoEscape", "internal/bytealg.MakeNoZero"], apart := false }
def ArraysOrderSaid : Prop := arraysOrderRow.holds Try.pinned (OpenSpec.ofChange arraysOrderSpec)

/-- ITS FALSE NEIGHBOUR: 'it returns false'. Refute it at one input. -/
def arraysOrderWrong : ChangeSpec := { name := "arraysOrder", fn := fun _ => fun
  | [d] => { results := [.lit (.bool false)], args := [d] }
  | _ => none }
def ArraysOrderWrongFalsely : Prop := arraysOrderRow.holds Try.pinned (OpenSpec.ofChange arraysOrderWrong)

/-- 'winnowerlaw09.ArraysNumbers': WHATEVER THE INPUT: true; the input reads as it did. -/
def arraysNumbersSpec : ChangeSpec := { name := "arraysNumbers", fn := fun _ => fun
  | [] => { results := [.lit (.bool true)], args := [] }
  | _ => none }
def arraysNumbersRow : OpenClaim := { program := "ytjgfhdabcahokaa", sum := "f41201ab937686f14c7da847130d9cffb2978de986d0cda736c3ea3d58f0af01", func := "winnower/winnowerlaw09.ArraysNumbers", spec := "arraysNumbers", inPlace := ["internal/abi.NoEscape", "internal/bytealg.MakeNoZero"], apart := false }
def ArraysNumbersSaid : Prop := arraysNumbersRow.holds Try.pinned (OpenSpec.ofChange arraysNumbersSpec)

/-- ITS FALSE NEIGHBOUR: 'it returns false'. Refute it at one input. -/
def arraysNumbersWrong : ChangeSpec := { name := "arraysNumbers", fn := fun _ => fun
  | [] => { results := [.lit (.bool false)], args := [] }
  | _ => none }
def ArraysNumbersWrongFalsely : Prop := arraysNumbersRow.holds Try.pinned (OpenSpec.ofChange arraysNumbersWrong)

/-- 'winnowerlaw09.ArraysPlays': WHATEVER THE INPUT: true; the input reads as it did. -/
def arraysPlaysSpec : ChangeSpec := { name := "arraysPlays", fn := fun _ => fun
  | [d1, d2, d3] => { results := [.lit (.bool true)], args := [d1, d2, d3] }
  | _ => none }
def arraysPlaysRow : OpenClaim := { program := "ytjgfhdabcahokaa", sum := "f41201ab937686f14c7da847130d9cffb2978de986d0cda736c3ea3d58f0af01", func := "winnower/winnowerlaw09.ArraysPlays", spec := "arraysPlays", inPlace := ["internal/abi.NoEscape", "internal/bytealg.MakeNoZero"], apart := false }
def ArraysPlaysSaid : Prop := arraysPlaysRow.holds Try.pinned (OpenSpec.ofChange arraysPlaysSpec)

/-- ITS FALSE NEIGHBOUR: 'it returns false'. Refute it at one input. -/
def arraysPlaysWrong : ChangeSpec := { name := "arraysPlays", fn := fun _ => fun
  | [d1, d2, d3] => { results := [.lit (.bool false)], args := [d1, d2, d3] }
  | _ => none }
def ArraysPlaysWrongFalsely : Prop := arraysPlaysRow.holds Try.pinned (OpenSpec.ofChange arraysPlaysWrong)

/-- 'winnowerlaw09.ArraysNone': WHATEVER THE INPUT: true; the input reads as it did. -/
def arraysNoneSpec : ChangeSpec := { name := "arraysNone", fn := fun _ => fun
  | [d1, d2] => { results := [.lit (.bool true)], args := [d1, d2] }
  | _ => none }
def arraysNoneRow : OpenClaim := { program := "ytjgfhdabcahokaa", sum := "f41201ab937686f14c7da847130d9cffb2978de986d0cda736c3ea3d58f0af01", func := "winnower/winnowerlaw09.ArraysNone", spec := "arraysNone", inPlace := ["internal/abi.NoEscape", "internal/bytealg.MakeNoZero"], apart := false }
def ArraysNoneSaid : Prop := arraysNoneRow.holds Try.pinned (OpenSpec.ofChange arraysNoneSpec)

/-- ITS FALSE NEIGHBOUR: 'it returns false'. Refute it at one input. -/
def arraysNoneWrong : ChangeSpec := { name := "arraysNone", fn := fun _ => fun
  | [d1, d2] => { results := [.lit (.bool false)], args := [d1, d2] }
  | _ => none }
def ArraysNoneWrongFalsely : Prop := arraysNoneRow.holds Try.pinned (OpenSpec.ofChange arraysNoneWrong)

/-- 'winnowerlaw09.ArraysApart': WHATEVER THE INPUT: true; the input reads as it did. -/
def arraysApartSpec : ChangeSpec := { name := "arraysApart", fn := fun _ => fun
  | [d1, d2] => { results := [.lit (.bool true)], args := [d1, d2] }
  | _ => none }
def arraysApartRow : OpenClaim := { program := "ytjgfhdabcahokaa", sum := "f41201ab937686f14c7da847130d9cffb2978de986d0cda736c3ea3d58f0af01", func := "winnower/winnowerlaw09.ArraysApart", spec := "arraysApart", inPlace := ["internal/abi.NoEscape", "internal/bytealg.MakeNoZero"], apart := false }
def ArraysApartSaid : Prop := arraysApartRow.holds Try.pinned (OpenSpec.ofChange arraysApartSpec)

/-- ITS FALSE NEIGHBOUR: 'it returns false'. Refute it at one input. -/
def arraysApartWrong : ChangeSpec := { name := "arraysApart", fn := fun _ => fun
  | [d1, d2] => { results := [.lit (.bool false)], args := [d1, d2] }
  | _ => none }
def ArraysApartWrongFalsely : Prop := arraysApartRow.holds Try.pinned (OpenSpec.ofChange arraysApartWrong)

/- THE SECOND FORM. 'bulk': how many values and letters a reading holds, each counted each time it is reached (what is shared counts as often as it is met; a slice's spare places count too). A statement '..UptoSaid' is the law's where the arguments, and the package variables that the reading takes, are together of bulk at most 1048576: NARROWER than '..Said'. Prove '..Said' where nothing that the law and all that it calls make is longer than what came in: it says more and counts as full. Else prove '..UptoSaid'. A law counts once. -/
mutual
def uptoBulk {H : Type} : DataW H → Nat
  | .lit (.string bytes) => bytes.length + 1
  | .lit _ => 1
  | .nil => 1
  | .ptr d => uptoBulk d + 1
  | .slice elems spare => uptoBulkAll elems + uptoBulkAll spare + 1
  | .agg parts => uptoBulkAll parts + 1
  | .iface _ d => uptoBulk d + 1
  | .map entries => uptoBulkEntries entries + 1
  | .held _ => 1
def uptoBulkAll {H : Type} : List (DataW H) → Nat
  | [] => 0
  | d :: r => uptoBulk d + uptoBulkAll r
def uptoBulkEntries {H : Type} : List (Lit × DataW H) → Nat
  | [] => 0
  | x :: r => uptoBulkEntry x + uptoBulkEntries r
def uptoBulkEntry {H : Type} : Lit × DataW H → Nat
  | (.string bytes, d) => bytes.length + uptoBulk d + 1
  | (_, d) => uptoBulk d + 1
 end
def uptoSmall : (H : Type) → List (DataW H) → Bool := fun _ ds => decide (uptoBulkAll ds ≤ 1048576)
def OpenSpec.upto (s : _root_.Go.ChangeSpec) : _root_.Go.OpenSpec := { _root_.Go.OpenSpec.ofChange s with cond := some uptoSmall }

/-- 'winnowerlaw09.ArraysOrder', WHERE WHAT IT READS IS OF BULK AT MOST 1048576: true; the input reads as it did. -/
def arraysOrderUptoRow : OpenClaim := { program := "ytjgfhdabcahokaa", sum := "f41201ab937686f14c7da847130d9cffb2978de986d0cda736c3ea3d58f0af01", func := "winnower/winnowerlaw09.ArraysOrder", spec := "arraysOrder", inPlace := ["internal/abi.NoEscape", "internal/bytealg.MakeNoZero"], apart := false, narrowed := true }
def ArraysOrderUptoSaid : Prop := arraysOrderUptoRow.holds Try.pinned (OpenSpec.upto arraysOrderSpec)

/-- 'winnowerlaw09.ArraysNumbers', WHERE WHAT IT READS IS OF BULK AT MOST 1048576: true; the input reads as it did. -/
def arraysNumbersUptoRow : OpenClaim := { program := "ytjgfhdabcahokaa", sum := "f41201ab937686f14c7da847130d9cffb2978de986d0cda736c3ea3d58f0af01", func := "winnower/winnowerlaw09.ArraysNumbers", spec := "arraysNumbers", inPlace := ["internal/abi.NoEscape", "internal/bytealg.MakeNoZero"], apart := false, narrowed := true }
def ArraysNumbersUptoSaid : Prop := arraysNumbersUptoRow.holds Try.pinned (OpenSpec.upto arraysNumbersSpec)

/-- 'winnowerlaw09.ArraysPlays', WHERE WHAT IT READS IS OF BULK AT MOST 1048576: true; the input reads as it did. -/
def arraysPlaysUptoRow : OpenClaim := { program := "ytjgfhdabcahokaa", sum := "f41201ab937686f14c7da847130d9cffb2978de986d0cda736c3ea3d58f0af01", func := "winnower/winnowerlaw09.ArraysPlays", spec := "arraysPlays", inPlace := ["internal/abi.NoEscape", "internal/bytealg.MakeNoZero"], apart := false, narrowed := true }
def ArraysPlaysUptoSaid : Prop := arraysPlaysUptoRow.holds Try.pinned (OpenSpec.upto arraysPlaysSpec)

/-- 'winnowerlaw09.ArraysNone', WHERE WHAT IT READS IS OF BULK AT MOST 1048576: true; the input reads as it did. -/
def arraysNoneUptoRow : OpenClaim := { program := "ytjgfhdabcahokaa", sum := "f41201ab937686f14c7da847130d9cffb2978de986d0cda736c3ea3d58f0af01", func := "winnower/winnowerlaw09.ArraysNone", spec := "arraysNone", inPlace := ["internal/abi.NoEscape", "internal/bytealg.MakeNoZero"], apart := false, narrowed := true }
def ArraysNoneUptoSaid : Prop := arraysNoneUptoRow.holds Try.pinned (OpenSpec.upto arraysNoneSpec)

/-- 'winnowerlaw09.ArraysApart', WHERE WHAT IT READS IS OF BULK AT MOST 1048576: true; the input reads as it did. -/
def arraysApartUptoRow : OpenClaim := { program := "ytjgfhdabcahokaa", sum := "f41201ab937686f14c7da847130d9cffb2978de986d0cda736c3ea3d58f0af01", func := "winnower/winnowerlaw09.ArraysApart", spec := "arraysApart", inPlace := ["internal/abi.NoEscape", "internal/bytealg.MakeNoZero"], apart := false, narrowed := true }
def ArraysApartUptoSaid : Prop := arraysApartUptoRow.holds Try.pinned (OpenSpec.upto arraysApartSpec)

end Rows
end Go.Proofs.Ytjgfhdabcahokaa
