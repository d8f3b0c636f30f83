/- 'ReaderNumbers' returns true: by computing, in the virtual machine. -/
import Derived.Test.YtdbdmgmenojcaaaDoorNum
import Derived.Test.YtdbdmgmenojcaaaDoorShelf
namespace Go.Proofs.YtdbdmgmenojcaaaDoor
open Vm Go.RowKit
theorem l_numbers (w : World) (hsh : w.ShapedOpen Tryd.prog) :
    Calls Tryd.prog 7 #[] w fun e w' => e = .returned (.bool true) ∧ Below w.heap.size w w' := by
  obtain ⟨m, hm⟩ := Tryd.laysM219.s1_3 w hsh
  exact Num.walk w hm
end Go.Proofs.YtdbdmgmenojcaaaDoor
