/- 'ReaderNone' returns true: by computing, in the virtual machine; what comes in is looked at by nobody. -/
import Derived.Test.YtdbdmgmenojcaaaDoorVm28
import Derived.Test.YtdbdmgmenojcaaaDoorAwake
namespace Go.Proofs.YtdbdmgmenojcaaaDoor
open Vm Go.RowKit
set_option linter.unusedVariables false
theorem none_true (rs : ByteArray) (e : TypeId) (m : Int) : isTrue (xcall Tryd.prog (oneGX 10 0) noP 60 3 #[.string rs] #[g0 0 e m]) = true := by kernel_rfl
theorem l_none {A : Prop} (rs : ByteArray) (w : World) (hsh : w.ShapedOpen Tryd.prog) (_ : A) :
    Calls Tryd.prog 3 #[.string rs] w fun e w' => e = .returned (.bool true) ∧ Below w.heap.size w w' := by
  obtain ⟨m, hm⟩ := Tryd.laysM219.s1_3 w hsh
  exact withG (by kernel_rfl) (oneGX_ok _ _) (oneGE_ok fun w m hm => Awake.walk w hm) (by kernel_rfl) _ (none_true rs) w hm
end Go.Proofs.YtdbdmgmenojcaaaDoor
