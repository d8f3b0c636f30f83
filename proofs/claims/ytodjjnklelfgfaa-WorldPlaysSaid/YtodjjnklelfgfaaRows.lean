/-
  No cell of these rows narrows 'for every input' (looked for: loops, veiled, ifaces, maps, wideKeys, modest, calm, conditions, laid).
  DERIVED. THE GIVEN ROWS OF THIS SEAT. 5 by the template 'for every input the law returns true; each argument reads behind the call as it read before'; 0 by the template 'total and deterministic' (their statements: YtodjjnklelfgfaaTotals.lean).
  GIVEN WITH THE SEED: the statements are not yours to turn. If you find one false, say at which input.
  Laid BY PROGRAM, IN A SANDBOX (cutbox-rows.mjs): the forced cells as the released guide's own fill.sh prints them over the translation 52882cdf6316b8f3… (all of the seat's roots in one cut). By AI agents, Wed Nov 11 2026. No macro, syntax, notation, axiom, sorry.
-/
import Derived.Test.YtodjjnklelfgfaaChecked
import GoSem.Claim
import GoSem.ClaimJoined
import GoSem.ClaimMapViews
import Derived.JoinedTies
import Derived.KernelRfl
namespace Go.Proofs.Ytodjjnklelfgfaa
/- THE CELL 'sum', in the pinned program and in every row, IS THE sha256 OF THE DUMP (.gsa) THAT YtodjjnklelfgfaaProg.lean LOADS. Nothing in Lean hashes anything: it is a label: what it is worth is what the hold of that sum in a sandbox is worth. -/
noncomputable def Try.pinned : Pinned := { name := "ytodjjnklelfgfaa", sum := "52882cdf6316b8f3b223df162795649aa02676dae8035487cc872f676f420aeb", checked := Try.checked }
namespace Rows
def none {H : Type} : Left H := { results := [], args := [] }

/-- 'winnowerlaw07.WorldWhole': WHATEVER THE INPUT: true; the input reads as it did. -/
def worldWholeSpec : ChangeSpec := { name := "worldWhole", fn := fun _ => fun
  | [d1, d2, d3, d4, d5] => { results := [.lit (.bool true)], args := [d1, d2, d3, d4, d5] }
  | _ => none }
def worldWholeRow : OpenClaim := { program := "ytodjjnklelfgfaa", sum := "52882cdf6316b8f3b223df162795649aa02676dae8035487cc872f676f420aeb", func := "winnower/winnowerlaw07.WorldWhole", spec := "worldWhole", unfollowed := true, recurses := true, apart := false }
def WorldWholeSaid : Prop := worldWholeRow.holds Try.pinned (OpenSpec.ofChange worldWholeSpec)

/-- ITS FALSE NEIGHBOUR: 'it returns false'. Refute it at one input. -/
def worldWholeWrong : ChangeSpec := { name := "worldWhole", fn := fun _ => fun
  | [d1, d2, d3, d4, d5] => { results := [.lit (.bool false)], args := [d1, d2, d3, d4, d5] }
  | _ => none }
def WorldWholeWrongFalsely : Prop := worldWholeRow.holds Try.pinned (OpenSpec.ofChange worldWholeWrong)

/-- 'winnowerlaw07.WorldLimits': WHATEVER THE INPUT: true; the input reads as it did. -/
def worldLimitsSpec : ChangeSpec := { name := "worldLimits", fn := fun _ => fun
  | [d1, d2] => { results := [.lit (.bool true)], args := [d1, d2] }
  | _ => none }
def worldLimitsRow : OpenClaim := { program := "ytodjjnklelfgfaa", sum := "52882cdf6316b8f3b223df162795649aa02676dae8035487cc872f676f420aeb", func := "winnower/winnowerlaw07.WorldLimits", spec := "worldLimits", unfollowed := true, recurses := true, apart := false }
def WorldLimitsSaid : Prop := worldLimitsRow.holds Try.pinned (OpenSpec.ofChange worldLimitsSpec)

/-- ITS FALSE NEIGHBOUR: 'it returns false'. Refute it at one input. -/
def worldLimitsWrong : ChangeSpec := { name := "worldLimits", fn := fun _ => fun
  | [d1, d2] => { results := [.lit (.bool false)], args := [d1, d2] }
  | _ => none }
def WorldLimitsWrongFalsely : Prop := worldLimitsRow.holds Try.pinned (OpenSpec.ofChange worldLimitsWrong)

/-- 'winnowerlaw07.WorldNumbers': WHATEVER THE INPUT: true; the input reads as it did. -/
def worldNumbersSpec : ChangeSpec := { name := "worldNumbers", fn := fun _ => fun
  | [] => { results := [.lit (.bool true)], args := [] }
  | _ => none }
def worldNumbersRow : OpenClaim := { program := "ytodjjnklelfgfaa", sum := "52882cdf6316b8f3b223df162795649aa02676dae8035487cc872f676f420aeb", func := "winnower/winnowerlaw07.WorldNumbers", spec := "worldNumbers", unfollowed := true, recurses := true, apart := false }
def WorldNumbersSaid : Prop := worldNumbersRow.holds Try.pinned (OpenSpec.ofChange worldNumbersSpec)

/-- ITS FALSE NEIGHBOUR: 'it returns false'. Refute it at one input. -/
def worldNumbersWrong : ChangeSpec := { name := "worldNumbers", fn := fun _ => fun
  | [] => { results := [.lit (.bool false)], args := [] }
  | _ => none }
def WorldNumbersWrongFalsely : Prop := worldNumbersRow.holds Try.pinned (OpenSpec.ofChange worldNumbersWrong)

/-- 'winnowerlaw07.WorldPlays': WHATEVER THE INPUT: true; the input reads as it did. -/
def worldPlaysSpec : ChangeSpec := { name := "worldPlays", fn := fun _ => fun
  | [d1, d2] => { results := [.lit (.bool true)], args := [d1, d2] }
  | _ => none }
def worldPlaysRow : OpenClaim := { program := "ytodjjnklelfgfaa", sum := "52882cdf6316b8f3b223df162795649aa02676dae8035487cc872f676f420aeb", func := "winnower/winnowerlaw07.WorldPlays", spec := "worldPlays", unfollowed := true, recurses := true, apart := false }
def WorldPlaysSaid : Prop := worldPlaysRow.holds Try.pinned (OpenSpec.ofChange worldPlaysSpec)

/-- ITS FALSE NEIGHBOUR: 'it returns false'. Refute it at one input. -/
def worldPlaysWrong : ChangeSpec := { name := "worldPlays", fn := fun _ => fun
  | [d1, d2] => { results := [.lit (.bool false)], args := [d1, d2] }
  | _ => none }
def WorldPlaysWrongFalsely : Prop := worldPlaysRow.holds Try.pinned (OpenSpec.ofChange worldPlaysWrong)

/-- 'winnowerlaw07.WorldNone': WHATEVER THE INPUT: true; the input reads as it did. -/
def worldNoneSpec : ChangeSpec := { name := "worldNone", fn := fun _ => fun
  | [d1, d2, d3] => { results := [.lit (.bool true)], args := [d1, d2, d3] }
  | _ => none }
def worldNoneRow : OpenClaim := { program := "ytodjjnklelfgfaa", sum := "52882cdf6316b8f3b223df162795649aa02676dae8035487cc872f676f420aeb", func := "winnower/winnowerlaw07.WorldNone", spec := "worldNone", unfollowed := true, recurses := true, apart := false }
def WorldNoneSaid : Prop := worldNoneRow.holds Try.pinned (OpenSpec.ofChange worldNoneSpec)

/-- ITS FALSE NEIGHBOUR: 'it returns false'. Refute it at one input. -/
def worldNoneWrong : ChangeSpec := { name := "worldNone", fn := fun _ => fun
  | [d1, d2, d3] => { results := [.lit (.bool false)], args := [d1, d2, d3] }
  | _ => none }
def WorldNoneWrongFalsely : Prop := worldNoneRow.holds Try.pinned (OpenSpec.ofChange worldNoneWrong)

/- THE SECOND FORM. 'bulk': how many values and letters a reading holds, each counted each time it is reached (what is shared counts as often as it is met; a slice's spare places count too). A statement '..UptoSaid' is the law's where the arguments, and the package variables that the reading takes, are together of bulk at most 1048576: NARROWER than '..Said'. Prove '..Said' where nothing that the law and all that it calls make is longer than what came in: it says more and counts as full. Else prove '..UptoSaid'. A law counts once. -/
mutual
def uptoBulk {H : Type} : DataW H → Nat
  | .lit (.string bytes) => bytes.length + 1
  | .lit _ => 1
  | .nil => 1
  | .ptr d => uptoBulk d + 1
  | .slice elems spare => uptoBulkAll elems + uptoBulkAll spare + 1
  | .agg parts => uptoBulkAll parts + 1
  | .iface _ d => uptoBulk d + 1
  | .map entries => uptoBulkEntries entries + 1
  | .held _ => 1
def uptoBulkAll {H : Type} : List (DataW H) → Nat
  | [] => 0
  | d :: r => uptoBulk d + uptoBulkAll r
def uptoBulkEntries {H : Type} : List (Lit × DataW H) → Nat
  | [] => 0
  | x :: r => uptoBulkEntry x + uptoBulkEntries r
def uptoBulkEntry {H : Type} : Lit × DataW H → Nat
  | (.string bytes, d) => bytes.length + uptoBulk d + 1
  | (_, d) => uptoBulk d + 1
 end
def uptoSmall : (H : Type) → List (DataW H) → Bool := fun _ ds => decide (uptoBulkAll ds ≤ 1048576)
def OpenSpec.upto (s : _root_.Go.ChangeSpec) : _root_.Go.OpenSpec := { _root_.Go.OpenSpec.ofChange s with cond := some uptoSmall }

/-- 'winnowerlaw07.WorldWhole', WHERE WHAT IT READS IS OF BULK AT MOST 1048576: true; the input reads as it did. -/
def worldWholeUptoRow : OpenClaim := { program := "ytodjjnklelfgfaa", sum := "52882cdf6316b8f3b223df162795649aa02676dae8035487cc872f676f420aeb", func := "winnower/winnowerlaw07.WorldWhole", spec := "worldWhole", unfollowed := true, recurses := true, apart := false, narrowed := true }
def WorldWholeUptoSaid : Prop := worldWholeUptoRow.holds Try.pinned (OpenSpec.upto worldWholeSpec)

/-- 'winnowerlaw07.WorldLimits', WHERE WHAT IT READS IS OF BULK AT MOST 1048576: true; the input reads as it did. -/
def worldLimitsUptoRow : OpenClaim := { program := "ytodjjnklelfgfaa", sum := "52882cdf6316b8f3b223df162795649aa02676dae8035487cc872f676f420aeb", func := "winnower/winnowerlaw07.WorldLimits", spec := "worldLimits", unfollowed := true, recurses := true, apart := false, narrowed := true }
def WorldLimitsUptoSaid : Prop := worldLimitsUptoRow.holds Try.pinned (OpenSpec.upto worldLimitsSpec)

/-- 'winnowerlaw07.WorldNumbers', WHERE WHAT IT READS IS OF BULK AT MOST 1048576: true; the input reads as it did. -/
def worldNumbersUptoRow : OpenClaim := { program := "ytodjjnklelfgfaa", sum := "52882cdf6316b8f3b223df162795649aa02676dae8035487cc872f676f420aeb", func := "winnower/winnowerlaw07.WorldNumbers", spec := "worldNumbers", unfollowed := true, recurses := true, apart := false, narrowed := true }
def WorldNumbersUptoSaid : Prop := worldNumbersUptoRow.holds Try.pinned (OpenSpec.upto worldNumbersSpec)

/-- 'winnowerlaw07.WorldPlays', WHERE WHAT IT READS IS OF BULK AT MOST 1048576: true; the input reads as it did. -/
def worldPlaysUptoRow : OpenClaim := { program := "ytodjjnklelfgfaa", sum := "52882cdf6316b8f3b223df162795649aa02676dae8035487cc872f676f420aeb", func := "winnower/winnowerlaw07.WorldPlays", spec := "worldPlays", unfollowed := true, recurses := true, apart := false, narrowed := true }
def WorldPlaysUptoSaid : Prop := worldPlaysUptoRow.holds Try.pinned (OpenSpec.upto worldPlaysSpec)

/-- 'winnowerlaw07.WorldNone', WHERE WHAT IT READS IS OF BULK AT MOST 1048576: true; the input reads as it did. -/
def worldNoneUptoRow : OpenClaim := { program := "ytodjjnklelfgfaa", sum := "52882cdf6316b8f3b223df162795649aa02676dae8035487cc872f676f420aeb", func := "winnower/winnowerlaw07.WorldNone", spec := "worldNone", unfollowed := true, recurses := true, apart := false, narrowed := true }
def WorldNoneUptoSaid : Prop := worldNoneUptoRow.holds Try.pinned (OpenSpec.upto worldNoneSpec)

end Rows
end Go.Proofs.Ytodjjnklelfgfaa
