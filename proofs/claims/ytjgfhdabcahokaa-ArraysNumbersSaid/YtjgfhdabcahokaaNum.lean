/- 'winnower/winnowerlaw09.ArraysNumbers' runs to true: by computing, in pieces, in the virtual machine of small steps (printed by steps.lean). -/
import Derived.Test.YtjgfhdabcahokaaNumG1
import Derived.Test.YtjgfhdabcahokaaNumG2
import Derived.Test.YtjgfhdabcahokaaNumG3
import Derived.Test.YtjgfhdabcahokaaNumG4
import Derived.Test.YtjgfhdabcahokaaVm37
import Derived.Test.YtjgfhdabcahokaaAwake
namespace Go.Proofs.Ytjgfhdabcahokaa
namespace Num
open Vm Vm.Lit Go.RowKit
set_option maxRecDepth 100000
set_option linter.unusedVariables false
section
theorem whole : Ok Try.prog (oneE 18) isT (C0) :=
  runG_ok (oneXF_ok 18) (subN_ok (oneXF_ok 18) 10000000 4) (q0) <| runG_ok (oneXF_ok 18) (subN_ok (oneXF_ok 18) 10000000 4) (q1) <| runG_ok (oneXF_ok 18) (subN_ok (oneXF_ok 18) 10000000 4) (q2) <| runG_ok (oneXF_ok 18) (subN_ok (oneXF_ok 18) 10000000 4) (q3) <| runG_ok (oneXF_ok 18) (subN_ok (oneXF_ok 18) 10000000 4) (q4) <| runG_ok (oneXF_ok 18) (subN_ok (oneXF_ok 18) 10000000 4) (q5) <| runG_ok (oneXF_ok 18) (subN_ok (oneXF_ok 18) 10000000 4) (q6) <| runG_ok (oneXF_ok 18) (subN_ok (oneXF_ok 18) 10000000 4) (q7) <| runG_ok (oneXF_ok 18) (subN_ok (oneXF_ok 18) 10000000 4) (q8) <| runG_ok (oneXF_ok 18) (subN_ok (oneXF_ok 18) 10000000 4) (q9) <| runG_ok (oneXF_ok 18) (subN_ok (oneXF_ok 18) 10000000 4) (q10) <| runG_ok (oneXF_ok 18) (subN_ok (oneXF_ok 18) 10000000 4) (q11) <| runG_ok (oneXF_ok 18) (subN_ok (oneXF_ok 18) 10000000 4) (q12) <| runG_ok (oneXF_ok 18) (subN_ok (oneXF_ok 18) 10000000 4) (q13) <| runG_ok (oneXF_ok 18) (subN_ok (oneXF_ok 18) 10000000 4) (q14) <| runG_ok (oneXF_ok 18) (subN_ok (oneXF_ok 18) 10000000 4) (q15) <| runG_ok (oneXF_ok 18) (subN_ok (oneXF_ok 18) 10000000 4) (q16) <| runG_ok (oneXF_ok 18) (subN_ok (oneXF_ok 18) 10000000 4) (q17) <| runG_ok (oneXF_ok 18) (subN_ok (oneXF_ok 18) 10000000 4) (q18) <| runG_ok (oneXF_ok 18) (subN_ok (oneXF_ok 18) 10000000 4) (q19) <| runG_ok (oneXF_ok 18) (subN_ok (oneXF_ok 18) 10000000 4) (q20) <| runG_ok (oneXF_ok 18) (subN_ok (oneXF_ok 18) 10000000 4) (q21) <| runG_ok (oneXF_ok 18) (subN_ok (oneXF_ok 18) 10000000 4) (q22) <| endsT_ok (oneXF_ok 18) (subN_ok (oneXF_ok 18) 10000000 4) (q23)
theorem walk (w : World) : Calls Try.prog 4 #[] w fun e w' => e = .returned (.bool true) ∧ Below w.heap.size w w' :=
  nullF (by kernel_rfl) (oneE_ok Awake.walk) (show Try.prog.funcs[4]? = some (fnOf Try.prog 4) by kernel_rfl) (show _ = some (bodyOf Try.prog 4) by kernel_rfl) (show _ = T0_0 by kernel_rfl) (by
    have h := whole
    have e1 : mkH 0 L0 = h0 := by kernel_rfl
    unfold C0 at h
    rw [e1] at h
    exact h) w
theorem walk' (w : World) (hsh : w.ShapedOpen Try.prog) : Calls Try.prog 4 #[] w fun e w' => e = .returned (.bool true) ∧ Below w.heap.size w w' := walk w
end
end Num
end Go.Proofs.Ytjgfhdabcahokaa

