/- 'WorldNone' returns true: by computing, in the virtual machine; what comes in is looked at by nobody. -/
import Derived.Test.YtodjjnklelfgfaaVm27
import Derived.Test.YtodjjnklelfgfaaAwake
namespace Go.Proofs.Ytodjjnklelfgfaa
open Vm Go.RowKit
theorem none_true (k n : Int) (name : ByteArray) : isTrue (xcall Try.prog (oneX 8) noP 60 7 #[.int .u8 k, .string name, .int .i64 n] #[]) = true := by kernel_rfl
theorem l_none {A B C : Prop} (k : Int) (name : ByteArray) (n : Int) (w : World) (hsh : w.ShapedOpen Try.prog) (_ : A) (_ : B) (_ : C) :
    Calls Try.prog 7 #[.int .u8 k, .string name, .int .i64 n] w fun e w' => e = .returned (.bool true) ∧ Below w.heap.size w w' :=
  withArgs (by kernel_rfl) (oneX_ok _) (oneE_ok Awake.walk) (by kernel_rfl) (none_true k n name) w
end Go.Proofs.Ytodjjnklelfgfaa
