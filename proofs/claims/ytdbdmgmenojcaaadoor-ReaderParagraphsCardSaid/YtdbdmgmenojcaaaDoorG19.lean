/- 'winnower/winnowerlaw10.awake' runs to true: by computing, in pieces, in the virtual machine of small steps (printed by steps.lean). -/
import Derived.Test.YtdbdmgmenojcaaaDoorG18
import Derived.Test.YtdbdmgmenojcaaaDoorProg
import Derived.Test.YtdbdmgmenojcaaaDoorShelf
import Derived.Test.YtdbdmgmenojcaaaDoorG7
import Derived.Test.YtdbdmgmenojcaaaDoorG1
import Derived.SliceStrings
import Derived.OpenShut
set_option linter.unusedVariables false
set_option linter.unusedSimpArgs false
namespace Go.Proofs.YtdbdmgmenojcaaaDoor
namespace Awake
open Vm Vm.Lit Go.RowKit
set_option maxRecDepth 100000
set_option linter.unusedVariables false
section
noncomputable def T0_0 : List Value := [u, u, u, u, u, u, u, u, u, u, u, u, u, u, u, u, u, u, u, u, u, u, u, u, u, u, u, u, u, u, u, u, u, u, u, u, u, u, u, u, u, u, u, u, u, u, u, u, u, u, u, u, u, u, u, u, u, u, u, u, u, u, u]
noncomputable def L0 (e : TypeId) (m : Int) : List (Nat × VObj) := [(0, g0 0 e m)]
noncomputable def C0 (e : TypeId) (m : Int) : Cfg := (.code 3000 (cAt [] (bodyOf Tryd.prog 10)) T0_0 (mkH 1 (L0 e m)) [.base (fnOf Tryd.prog 10)])
noncomputable def T1_0 : List Value := [(p 43 0), (S [58]), u, u, (S []), bf, (i 0), u, u, u, u, u, u, u, u, u, u, u, u, u, u, u, u, u, u, u, u, u, u, u, u, u, u, u]
noncomputable def T1_1 : List Value := [(S [97, 58, 98, 58, 58, 99]), (S [58]), (l 29 0 4 4), u, u, u, bf, (p 32 0), (p 43 0), (i 3), (S []), bt, (i 0), u, u, u, (.tuple ⟨[(p 32 0), (p 43 0)]⟩), (S [97, 58, 98, 58, 58, 99]), (.tuple ⟨[(p 32 0), (p 43 0)]⟩), (p 32 0), (p 43 0), (i 3), (l 29 0 4 4), (i 4), bt, (i 2), (i 3), (.tuple ⟨[(S []), bt, (i 0)]⟩), (p 43 0), (S [58]), (.tuple ⟨[(S []), bt, (i 0)]⟩), (S []), bt, (i 0), (S []), (l 29 0 4 4), (i 2), (p 29 2), (S []), bf, bf, bt, bf, bf, bf, (i 0), bf, bf, u, u, u, u, u, u, u, u, u, u, u, u, u, u, u, u, u, u, u, u, u]
noncomputable def T1_2 : List Value := [bf, (p 3 0), (p 14 0), (S [97, 98]), bt, (i 0), (S [99]), bt, (i 0), (S [100]), bt, (i 0), (.tuple ⟨[(p 3 0), (p 14 0)]⟩), (.tuple ⟨[(p 3 0), (p 14 0)]⟩), (p 3 0), (p 14 0), (.tuple ⟨[(S [97, 98]), bt, (i 0)]⟩), (p 14 0), (.tuple ⟨[(S [97, 98]), bt, (i 0)]⟩), (S [97, 98]), bt, (i 0), (.tuple ⟨[(S [99]), bt, (i 0)]⟩), (p 14 0), (.tuple ⟨[(S [99]), bt, (i 0)]⟩), (S [99]), bt, (i 0), (.tuple ⟨[(S [100]), bt, (i 0)]⟩), (p 14 0), (.tuple ⟨[(S [100]), bt, (i 0)]⟩), (S [100]), bt, (i 0), (l 29 0 4 4), u, u, u, u, u, u, u, u, u, u, u, u, u, u, u, u, u, u, u, u, u, u, u, u, u, u, u, u]
noncomputable def L1 (e : TypeId) (m : Int) : List (Nat × VObj) := [(0, g0 0 e m),
  (2, .map ⟨[]⟩ 0),
  (3, x [bt, ln, (S [97, 98, 44, 99, 10, 100]), ln, ln, (i 4), (i 0), (.int .u64 (.ofNat 0)), (.map (some 2)), (S []), (l 10 0 1 1), (.int .u64 (.ofNat 0)), (l 13 0 1 1), ln, ln] 93 3),
  (8, x [(y 1), (S [45]), (S [])] 109 8),
  (10, .cells ⟨⟨[(p 8 0)]⟩, 99, .tip, false, 10, 1⟩),
  (13, .cells ⟨⟨[(y 1), (y 1), (S [45]), (S []), (i 0)]⟩, 106, .tip, false, 13, 5⟩),
  (14, x [(p 3 0), (y 1), (S [45]), (S []), bt, bf] 26 14),
  (29, x [(S [97]), (S [98]), (S []), (S [99])] 9 29),
  (31, .map ⟨[]⟩ 0),
  (32, x [bt, ln, (S [97, 58, 98, 58, 58, 99]), ln, ln, (i 4), (i 0), (.int .u64 (.ofNat 0)), (.map (some 31)), (S []), (l 39 0 1 1), (.int .u64 (.ofNat 0)), (l 42 0 1 1), ln, ln] 93 32),
  (37, x [(y 1), (S [45]), (S [])] 109 37),
  (39, .cells ⟨⟨[(p 37 0)]⟩, 99, .tip, false, 39, 1⟩),
  (42, .cells ⟨⟨[(y 1), (y 1), (S [45]), (S []), (i 0)]⟩, 106, .tip, false, 42, 5⟩),
  (43, x [(p 32 0), (y 1), (S [45]), (S [99]), bf, bf] 26 43)]
noncomputable def C1 (e : TypeId) (m : Int) : Cfg := (.code 2995 (cAt [1] (bodyOf Tryd.prog 8)) T1_0 (mkH 54 (L1 e m)) [.call 2996 (operAt (cAt [1, 1, 0, 1, 0, 0, 1, 0, 0, 0] (bodyOf Tryd.prog 29)) 2) (restAt (cAt [1, 1, 0, 1, 0, 0, 1, 0, 0, 0] (bodyOf Tryd.prog 29)) 3) (opsAt (cAt [1, 1, 0, 1, 0, 0, 1, 0, 0, 0] (bodyOf Tryd.prog 29))) T1_1 (fnOf Tryd.prog 8), .seq 2996 (cAt [1, 1, 0, 1, 0, 0, 1, 0, 0, 1] (bodyOf Tryd.prog 29)), .block 1, .seq 2996 (cAt [1, 1, 0, 1, 0, 0, 1, 1] (bodyOf Tryd.prog 29)), .loop 2996 (cAt [1, 1, 0, 1, 0, 0] (bodyOf Tryd.prog 29)), .block 0, .seq 2999 (cAt [1, 1, 1] (bodyOf Tryd.prog 29)), .call 3000 (operAt (cAt [1, 1, 1, 1, 1, 0] (bodyOf Tryd.prog 10)) 1) (restAt (cAt [1, 1, 1, 1, 1, 0] (bodyOf Tryd.prog 10)) 2) (opsAt (cAt [1, 1, 1, 1, 1, 0] (bodyOf Tryd.prog 10))) T1_2 (fnOf Tryd.prog 29), .seq 3000 (cAt [1, 1, 1, 1, 1, 1] (bodyOf Tryd.prog 10)), .base (fnOf Tryd.prog 10)])
theorem p0 (e : TypeId) (m : Int) : (fList fStr T0_0 fun t0 => mkHK 1 (L0 e m) fun h => runG Tryd.prog (orXF (idxXF 56 0) (orXF (trimXF 84) (orXF (repXF 28) (ibXF 76)))) (subN Tryd.prog (orXF (idxXF 56 0) (orXF (trimXF 84) (orXF (repXF 28) (ibXF 76)))) 10000000 4) 2510 [1, 4, 5, 6, 7, 9, 11, 12, 15, 16, 17, 18, 19, 20, 21, 22, 23, 24, 25, 26, 27, 28, 30, 33, 34, 35, 36, 38, 40, 41, 44, 45, 46, 47, 48, 49, 50, 51, 52, 53] (.code 3000 (cAt [] (bodyOf Tryd.prog 10)) t0 h [.base (fnOf Tryd.prog 10)])) = (some (.code 2995 (cAt [1] (bodyOf Tryd.prog 8)) T1_0 (mkHK 54 (L1 e m) fun h => h) [.call 2996 (operAt (cAt [1, 1, 0, 1, 0, 0, 1, 0, 0, 0] (bodyOf Tryd.prog 29)) 2) (restAt (cAt [1, 1, 0, 1, 0, 0, 1, 0, 0, 0] (bodyOf Tryd.prog 29)) 3) (opsAt (cAt [1, 1, 0, 1, 0, 0, 1, 0, 0, 0] (bodyOf Tryd.prog 29))) T1_1 (fnOf Tryd.prog 8), .seq 2996 (cAt [1, 1, 0, 1, 0, 0, 1, 0, 0, 1] (bodyOf Tryd.prog 29)), .block 1, .seq 2996 (cAt [1, 1, 0, 1, 0, 0, 1, 1] (bodyOf Tryd.prog 29)), .loop 2996 (cAt [1, 1, 0, 1, 0, 0] (bodyOf Tryd.prog 29)), .block 0, .seq 2999 (cAt [1, 1, 1] (bodyOf Tryd.prog 29)), .call 3000 (operAt (cAt [1, 1, 1, 1, 1, 0] (bodyOf Tryd.prog 10)) 1) (restAt (cAt [1, 1, 1, 1, 1, 0] (bodyOf Tryd.prog 10)) 2) (opsAt (cAt [1, 1, 1, 1, 1, 0] (bodyOf Tryd.prog 10))) T1_2 (fnOf Tryd.prog 29), .seq 3000 (cAt [1, 1, 1, 1, 1, 1] (bodyOf Tryd.prog 10)), .base (fnOf Tryd.prog 10)])) := by kernel_rfl
theorem q0 (e : TypeId) (m : Int) : runG Tryd.prog (orXF (idxXF 56 0) (orXF (trimXF 84) (orXF (repXF 28) (ibXF 76)))) (subN Tryd.prog (orXF (idxXF 56 0) (orXF (trimXF 84) (orXF (repXF 28) (ibXF 76)))) 10000000 4) 2510 [1, 4, 5, 6, 7, 9, 11, 12, 15, 16, 17, 18, 19, 20, 21, 22, 23, 24, 25, 26, 27, 28, 30, 33, 34, 35, 36, 38, 40, 41, 44, 45, 46, 47, 48, 49, 50, 51, 52, 53] (C0 e m) = some (C1 e m) := by
  have h := p0 e m
  simp only [fList_eq fStr_eq, mkHK_eq] at h
  exact h
noncomputable def T2_0 : List Value := [(p 103 0), (.func (.func 85) ⟨[]⟩ ⟨[(p 107 0)]⟩), u, u, (i 0), (S [10, 10, 97, 10, 98, 10, 10, 10, 99, 10]), (i 0), (p 103 0), (p 103 0), (p 103 4), bf, bt, bt, (.func (.func 85) ⟨[]⟩ ⟨[(p 107 0)]⟩), bt, bf, bf, (.tuple ⟨[(S [10, 10, 97, 10, 98, 10, 10, 10, 99, 10]), (i 0)]⟩), (p 103 0), (p 103 0), (p 103 0), (p 92 0), (p 103 0), (p 103 0), (p 103 1), (y 1), (p 103 0), (p 103 0), (p 103 2), (S [45]), (.tuple ⟨[(S [10, 10, 97, 10, 98, 10, 10, 10, 99, 10]), (i 0)]⟩), (S [10, 10, 97, 10, 98, 10, 10, 10, 99, 10]), (i 0), (i 0), bf, u, (p 103 0), (p 103 0), (p 103 3), (S []), (S [10, 10, 97, 10, 98, 10, 10, 10, 99, 10]), (S [10, 10, 97, 10, 98, 10, 10, 10, 99, 10]), (p 103 0), (p 103 3), (p 103 0), (S [10, 10, 97, 10, 98, 10, 10, 10, 99, 10]), bf, (p 103 0), (p 103 4)]
noncomputable def T2_1 : List Value := [(p 103 0), (p 106 0), (S []), bf, (i 0), (p 107 0), u, u, u, u, (.func (.func 83) ⟨[]⟩ ⟨[(p 106 0)]⟩), (p 103 0), (.func (.func 85) ⟨[]⟩ ⟨[(p 107 0)]⟩), u, u, u, u, u, u, u, u, u, u, u, u, u, u, u, u, u, u, u, u, u, u, u]
noncomputable def T2_2 : List Value := [(p 103 0), (S []), (p 104 0), (p 105 0), (S []), bf, (i 0), u, u, u, u, (S []), bt, (p 103 0), u, u, u, u, u, u, u, u, u, u, u, u, u, u, u, u, u, u, u, u, u, u, u, u, u, u, u, u, u, u, u]
noncomputable def T2_3 : List Value := [(p 103 0), (S []), u, u, (S []), bf, (i 0), u, u, u, (p 103 0), bf, bf, (p 103 0), (p 103 0), (p 103 0), (p 92 0), bf, bf, u, (p 103 0), (S []), u, u, u, u, u, u, u, u, u, u, u, u]
noncomputable def T2_4 : List Value := [(S [10, 10, 97, 10, 98, 10, 10, 10, 99, 10]), (S []), (l 89 0 2 2), u, u, u, bf, (p 92 0), (p 103 0), (i 0), u, u, u, u, u, u, (.tuple ⟨[(p 92 0), (p 103 0)]⟩), (S [10, 10, 97, 10, 98, 10, 10, 10, 99, 10]), (.tuple ⟨[(p 92 0), (p 103 0)]⟩), (p 92 0), (p 103 0), (i 0), (l 89 0 2 2), (i 2), bt, u, u, u, (p 103 0), (S []), u, u, u, u, u, u, u, u, u, u, u, u, u, u, u, u, u, u, u, u, u, u, u, u, u, u, u, u, u, u, u, u, u, u, u, u, u, u, u]
noncomputable def T2_5 : List Value := [bf, (p 3 0), (p 14 0), (S [97, 98]), bt, (i 0), (S [99]), bt, (i 0), (S [100]), bt, (i 0), (.tuple ⟨[(p 3 0), (p 14 0)]⟩), (.tuple ⟨[(p 3 0), (p 14 0)]⟩), (p 3 0), (p 14 0), (.tuple ⟨[(S [97, 98]), bt, (i 0)]⟩), (p 14 0), (.tuple ⟨[(S [97, 98]), bt, (i 0)]⟩), (S [97, 98]), bt, (i 0), (.tuple ⟨[(S [99]), bt, (i 0)]⟩), (p 14 0), (.tuple ⟨[(S [99]), bt, (i 0)]⟩), (S [99]), bt, (i 0), (.tuple ⟨[(S [100]), bt, (i 0)]⟩), (p 14 0), (.tuple ⟨[(S [100]), bt, (i 0)]⟩), (S [100]), bt, (i 0), (l 29 0 4 4), bt, bt, (l 62 0 1 1), bt, bt, bt, (l 89 0 2 2), u, u, u, u, u, u, u, u, u, u, u, u, u, u, u, u, u, u, u, u, u]
noncomputable def L2 (e : TypeId) (m : Int) : List (Nat × VObj) := [(0, g0 0 e m),
  (2, .map ⟨[]⟩ 0),
  (3, x [bt, ln, (S [97, 98, 44, 99, 10, 100]), ln, ln, (i 4), (i 0), (.int .u64 (.ofNat 0)), (.map (some 2)), (S []), (l 10 0 1 1), (.int .u64 (.ofNat 0)), (l 13 0 1 1), ln, ln] 93 3),
  (8, x [(y 1), (S [45]), (S [])] 109 8),
  (10, .cells ⟨⟨[(p 8 0)]⟩, 99, .tip, false, 10, 1⟩),
  (13, .cells ⟨⟨[(y 1), (y 1), (S [45]), (S []), (i 0)]⟩, 106, .tip, false, 13, 5⟩),
  (14, x [(p 3 0), (y 1), (S [45]), (S []), bt, bf] 26 14),
  (29, x [(S [97]), (S [98]), (S []), (S [99])] 9 29),
  (62, x [(S [120])] 9 62),
  (89, x [(S [97, 10, 98]), (S [99])] 9 89),
  (91, .map ⟨[]⟩ 0),
  (92, x [bt, ln, (S [10, 10, 97, 10, 98, 10, 10, 10, 99, 10]), ln, ln, (i 4), (i 0), (.int .u64 (.ofNat 0)), (.map (some 91)), (S []), (l 99 0 1 1), (.int .u64 (.ofNat 0)), (l 102 0 1 1), ln, ln] 93 92),
  (97, x [(y 1), (S [45]), (S [])] 109 97),
  (99, .cells ⟨⟨[(p 97 0)]⟩, 99, .tip, false, 99, 1⟩),
  (102, .cells ⟨⟨[(y 1), (y 1), (S [45]), (S []), (i 0)]⟩, 106, .tip, false, 102, 5⟩),
  (103, x [(p 92 0), (y 1), (S [45]), (S [10, 10, 97, 10, 98, 10, 10, 10, 99, 10]), bf, bf] 26 103),
  (104, x [(p 103 0)] 22 104),
  (105, x [(S [])] 9 105),
  (106, x [(p 103 0)] 22 106),
  (107, x [(.func (.func 83) ⟨[]⟩ ⟨[(p 106 0)]⟩)] 128 107)]
noncomputable def C2 (e : TypeId) (m : Int) : Cfg := (.code 2995 (cAt [1, 1, 1] (bodyOf Tryd.prog 61)) T2_0 (mkH 112 (L2 e m)) [.call 2996 (operAt (cAt [1, 1, 0] (bodyOf Tryd.prog 60)) 2) (restAt (cAt [1, 1, 0] (bodyOf Tryd.prog 60)) 3) (opsAt (cAt [1, 1, 0] (bodyOf Tryd.prog 60))) T2_1 (fnOf Tryd.prog 61), .seq 2996 (cAt [1, 1, 1] (bodyOf Tryd.prog 60)), .call 2997 (operAt (cAt [1, 0, 1, 0, 0] (bodyOf Tryd.prog 30)) 1) (restAt (cAt [1, 0, 1, 0, 0] (bodyOf Tryd.prog 30)) 2) (opsAt (cAt [1, 0, 1, 0, 0] (bodyOf Tryd.prog 30))) T2_2 (fnOf Tryd.prog 60), .seq 2997 (cAt [1, 0, 1, 0, 1] (bodyOf Tryd.prog 30)), .seq 2997 (cAt [1, 1] (bodyOf Tryd.prog 30)), .call 2998 (operAt (cAt [1, 1, 0] (bodyOf Tryd.prog 8)) 2) (restAt (cAt [1, 1, 0] (bodyOf Tryd.prog 8)) 3) (opsAt (cAt [1, 1, 0] (bodyOf Tryd.prog 8))) T2_3 (fnOf Tryd.prog 30), .seq 2998 (cAt [1, 1, 1] (bodyOf Tryd.prog 8)), .call 2999 (operAt (cAt [1, 1, 0, 1, 0, 0, 1, 0, 0, 0] (bodyOf Tryd.prog 29)) 2) (restAt (cAt [1, 1, 0, 1, 0, 0, 1, 0, 0, 0] (bodyOf Tryd.prog 29)) 3) (opsAt (cAt [1, 1, 0, 1, 0, 0, 1, 0, 0, 0] (bodyOf Tryd.prog 29))) T2_4 (fnOf Tryd.prog 8), .seq 2999 (cAt [1, 1, 0, 1, 0, 0, 1, 0, 0, 1] (bodyOf Tryd.prog 29)), .block 1, .seq 2999 (cAt [1, 1, 0, 1, 0, 0, 1, 1] (bodyOf Tryd.prog 29)), .loop 2999 (cAt [1, 1, 0, 1, 0, 0] (bodyOf Tryd.prog 29)), .block 0, .seq 2999 (cAt [1, 1, 1] (bodyOf Tryd.prog 29)), .call 3000 (operAt (cAt [1, 1, 1, 1, 1, 0] (bodyOf Tryd.prog 10)) 8) (restAt (cAt [1, 1, 1, 1, 1, 0] (bodyOf Tryd.prog 10)) 9) (opsAt (cAt [1, 1, 1, 1, 1, 0] (bodyOf Tryd.prog 10))) T2_5 (fnOf Tryd.prog 29), .seq 3000 (cAt [1, 1, 1, 1, 1, 1] (bodyOf Tryd.prog 10)), .base (fnOf Tryd.prog 10)])
theorem p1 (e : TypeId) (m : Int) : (fList fStr T1_0 fun t0 => fList fStr T1_1 fun t1 => fList fStr T1_2 fun t2 => mkHK 54 (L1 e m) fun h => runG Tryd.prog (orXF (idxXF 56 0) (orXF (trimXF 84) (orXF (repXF 28) (ibXF 76)))) (subN Tryd.prog (orXF (idxXF 56 0) (orXF (trimXF 84) (orXF (repXF 28) (ibXF 76)))) 10000000 4) 2495 [31, 32, 37, 39, 42, 43, 54, 55, 56, 57, 58, 59, 60, 61, 63, 64, 65, 66, 67, 68, 69, 70, 71, 72, 73, 74, 75, 76, 77, 78, 79, 80, 81, 82, 83, 84, 85, 86, 87, 88, 90, 93, 94, 95, 96, 98, 100, 101, 108, 109, 110, 111] (.code 2995 (cAt [1] (bodyOf Tryd.prog 8)) t0 h [.call 2996 (operAt (cAt [1, 1, 0, 1, 0, 0, 1, 0, 0, 0] (bodyOf Tryd.prog 29)) 2) (restAt (cAt [1, 1, 0, 1, 0, 0, 1, 0, 0, 0] (bodyOf Tryd.prog 29)) 3) (opsAt (cAt [1, 1, 0, 1, 0, 0, 1, 0, 0, 0] (bodyOf Tryd.prog 29))) t1 (fnOf Tryd.prog 8), .seq 2996 (cAt [1, 1, 0, 1, 0, 0, 1, 0, 0, 1] (bodyOf Tryd.prog 29)), .block 1, .seq 2996 (cAt [1, 1, 0, 1, 0, 0, 1, 1] (bodyOf Tryd.prog 29)), .loop 2996 (cAt [1, 1, 0, 1, 0, 0] (bodyOf Tryd.prog 29)), .block 0, .seq 2999 (cAt [1, 1, 1] (bodyOf Tryd.prog 29)), .call 3000 (operAt (cAt [1, 1, 1, 1, 1, 0] (bodyOf Tryd.prog 10)) 1) (restAt (cAt [1, 1, 1, 1, 1, 0] (bodyOf Tryd.prog 10)) 2) (opsAt (cAt [1, 1, 1, 1, 1, 0] (bodyOf Tryd.prog 10))) t2 (fnOf Tryd.prog 29), .seq 3000 (cAt [1, 1, 1, 1, 1, 1] (bodyOf Tryd.prog 10)), .base (fnOf Tryd.prog 10)])) = (some (.code 2995 (cAt [1, 1, 1] (bodyOf Tryd.prog 61)) T2_0 (mkHK 112 (L2 e m) fun h => h) [.call 2996 (operAt (cAt [1, 1, 0] (bodyOf Tryd.prog 60)) 2) (restAt (cAt [1, 1, 0] (bodyOf Tryd.prog 60)) 3) (opsAt (cAt [1, 1, 0] (bodyOf Tryd.prog 60))) T2_1 (fnOf Tryd.prog 61), .seq 2996 (cAt [1, 1, 1] (bodyOf Tryd.prog 60)), .call 2997 (operAt (cAt [1, 0, 1, 0, 0] (bodyOf Tryd.prog 30)) 1) (restAt (cAt [1, 0, 1, 0, 0] (bodyOf Tryd.prog 30)) 2) (opsAt (cAt [1, 0, 1, 0, 0] (bodyOf Tryd.prog 30))) T2_2 (fnOf Tryd.prog 60), .seq 2997 (cAt [1, 0, 1, 0, 1] (bodyOf Tryd.prog 30)), .seq 2997 (cAt [1, 1] (bodyOf Tryd.prog 30)), .call 2998 (operAt (cAt [1, 1, 0] (bodyOf Tryd.prog 8)) 2) (restAt (cAt [1, 1, 0] (bodyOf Tryd.prog 8)) 3) (opsAt (cAt [1, 1, 0] (bodyOf Tryd.prog 8))) T2_3 (fnOf Tryd.prog 30), .seq 2998 (cAt [1, 1, 1] (bodyOf Tryd.prog 8)), .call 2999 (operAt (cAt [1, 1, 0, 1, 0, 0, 1, 0, 0, 0] (bodyOf Tryd.prog 29)) 2) (restAt (cAt [1, 1, 0, 1, 0, 0, 1, 0, 0, 0] (bodyOf Tryd.prog 29)) 3) (opsAt (cAt [1, 1, 0, 1, 0, 0, 1, 0, 0, 0] (bodyOf Tryd.prog 29))) T2_4 (fnOf Tryd.prog 8), .seq 2999 (cAt [1, 1, 0, 1, 0, 0, 1, 0, 0, 1] (bodyOf Tryd.prog 29)), .block 1, .seq 2999 (cAt [1, 1, 0, 1, 0, 0, 1, 1] (bodyOf Tryd.prog 29)), .loop 2999 (cAt [1, 1, 0, 1, 0, 0] (bodyOf Tryd.prog 29)), .block 0, .seq 2999 (cAt [1, 1, 1] (bodyOf Tryd.prog 29)), .call 3000 (operAt (cAt [1, 1, 1, 1, 1, 0] (bodyOf Tryd.prog 10)) 8) (restAt (cAt [1, 1, 1, 1, 1, 0] (bodyOf Tryd.prog 10)) 9) (opsAt (cAt [1, 1, 1, 1, 1, 0] (bodyOf Tryd.prog 10))) T2_5 (fnOf Tryd.prog 29), .seq 3000 (cAt [1, 1, 1, 1, 1, 1] (bodyOf Tryd.prog 10)), .base (fnOf Tryd.prog 10)])) := by kernel_rfl
theorem q1 (e : TypeId) (m : Int) : runG Tryd.prog (orXF (idxXF 56 0) (orXF (trimXF 84) (orXF (repXF 28) (ibXF 76)))) (subN Tryd.prog (orXF (idxXF 56 0) (orXF (trimXF 84) (orXF (repXF 28) (ibXF 76)))) 10000000 4) 2495 [31, 32, 37, 39, 42, 43, 54, 55, 56, 57, 58, 59, 60, 61, 63, 64, 65, 66, 67, 68, 69, 70, 71, 72, 73, 74, 75, 76, 77, 78, 79, 80, 81, 82, 83, 84, 85, 86, 87, 88, 90, 93, 94, 95, 96, 98, 100, 101, 108, 109, 110, 111] (C1 e m) = some (C2 e m) := by
  have h := p1 e m
  simp only [fList_eq fStr_eq, mkHK_eq] at h
  exact h
theorem p2 (e : TypeId) (m : Int) : (fList fStr T2_0 fun t0 => fList fStr T2_1 fun t1 => fList fStr T2_2 fun t2 => fList fStr T2_3 fun t3 => fList fStr T2_4 fun t4 => fList fStr T2_5 fun t5 => mkHK 112 (L2 e m) fun h => endsT (runE Tryd.prog (orXF (idxXF 56 0) (orXF (trimXF 84) (orXF (repXF 28) (ibXF 76)))) (subN Tryd.prog (orXF (idxXF 56 0) (orXF (trimXF 84) (orXF (repXF 28) (ibXF 76)))) 10000000 4) 1213 (.code 2995 (cAt [1, 1, 1] (bodyOf Tryd.prog 61)) t0 h [.call 2996 (operAt (cAt [1, 1, 0] (bodyOf Tryd.prog 60)) 2) (restAt (cAt [1, 1, 0] (bodyOf Tryd.prog 60)) 3) (opsAt (cAt [1, 1, 0] (bodyOf Tryd.prog 60))) t1 (fnOf Tryd.prog 61), .seq 2996 (cAt [1, 1, 1] (bodyOf Tryd.prog 60)), .call 2997 (operAt (cAt [1, 0, 1, 0, 0] (bodyOf Tryd.prog 30)) 1) (restAt (cAt [1, 0, 1, 0, 0] (bodyOf Tryd.prog 30)) 2) (opsAt (cAt [1, 0, 1, 0, 0] (bodyOf Tryd.prog 30))) t2 (fnOf Tryd.prog 60), .seq 2997 (cAt [1, 0, 1, 0, 1] (bodyOf Tryd.prog 30)), .seq 2997 (cAt [1, 1] (bodyOf Tryd.prog 30)), .call 2998 (operAt (cAt [1, 1, 0] (bodyOf Tryd.prog 8)) 2) (restAt (cAt [1, 1, 0] (bodyOf Tryd.prog 8)) 3) (opsAt (cAt [1, 1, 0] (bodyOf Tryd.prog 8))) t3 (fnOf Tryd.prog 30), .seq 2998 (cAt [1, 1, 1] (bodyOf Tryd.prog 8)), .call 2999 (operAt (cAt [1, 1, 0, 1, 0, 0, 1, 0, 0, 0] (bodyOf Tryd.prog 29)) 2) (restAt (cAt [1, 1, 0, 1, 0, 0, 1, 0, 0, 0] (bodyOf Tryd.prog 29)) 3) (opsAt (cAt [1, 1, 0, 1, 0, 0, 1, 0, 0, 0] (bodyOf Tryd.prog 29))) t4 (fnOf Tryd.prog 8), .seq 2999 (cAt [1, 1, 0, 1, 0, 0, 1, 0, 0, 1] (bodyOf Tryd.prog 29)), .block 1, .seq 2999 (cAt [1, 1, 0, 1, 0, 0, 1, 1] (bodyOf Tryd.prog 29)), .loop 2999 (cAt [1, 1, 0, 1, 0, 0] (bodyOf Tryd.prog 29)), .block 0, .seq 2999 (cAt [1, 1, 1] (bodyOf Tryd.prog 29)), .call 3000 (operAt (cAt [1, 1, 1, 1, 1, 0] (bodyOf Tryd.prog 10)) 8) (restAt (cAt [1, 1, 1, 1, 1, 0] (bodyOf Tryd.prog 10)) 9) (opsAt (cAt [1, 1, 1, 1, 1, 0] (bodyOf Tryd.prog 10))) t5 (fnOf Tryd.prog 29), .seq 3000 (cAt [1, 1, 1, 1, 1, 1] (bodyOf Tryd.prog 10)), .base (fnOf Tryd.prog 10)]))) = true := by kernel_rfl
theorem q2 (e : TypeId) (m : Int) : endsT (runE Tryd.prog (orXF (idxXF 56 0) (orXF (trimXF 84) (orXF (repXF 28) (ibXF 76)))) (subN Tryd.prog (orXF (idxXF 56 0) (orXF (trimXF 84) (orXF (repXF 28) (ibXF 76)))) 10000000 4) 1213 (C2 e m)) = true := by
  have h := p2 e m
  simp only [fList_eq fStr_eq, mkHK_eq] at h
  exact h
theorem whole (e : TypeId) (m : Int) : Ok Tryd.prog (orE (idxE 56 0) (orE (trimE 84) (orE (repE 28) (ibE 76)))) isT (C0 e m) :=
  runG_ok (orXF_ok (idxXF_ok 56 0) (orXF_ok (trimXF_ok 84) (orXF_ok (repXF_ok 28) (ibXF_ok 76)))) (subN_ok (orXF_ok (idxXF_ok 56 0) (orXF_ok (trimXF_ok 84) (orXF_ok (repXF_ok 28) (ibXF_ok 76)))) 10000000 4) (q0 e m) <| runG_ok (orXF_ok (idxXF_ok 56 0) (orXF_ok (trimXF_ok 84) (orXF_ok (repXF_ok 28) (ibXF_ok 76)))) (subN_ok (orXF_ok (idxXF_ok 56 0) (orXF_ok (trimXF_ok 84) (orXF_ok (repXF_ok 28) (ibXF_ok 76)))) 10000000 4) (q1 e m) <| endsT_ok (orXF_ok (idxXF_ok 56 0) (orXF_ok (trimXF_ok 84) (orXF_ok (repXF_ok 28) (ibXF_ok 76)))) (subN_ok (orXF_ok (idxXF_ok 56 0) (orXF_ok (trimXF_ok 84) (orXF_ok (repXF_ok 28) (ibXF_ok 76)))) 10000000 4) (q2 e m)
theorem walk (w : World) {m : Int} (hm : w.cell? ⟨0, 0, none⟩ = some (.int .i64 m)) : Calls Tryd.prog 10 #[] w fun e w' => e = .returned (.bool true) ∧ Below w.heap.size w w' :=
  nullG (by kernel_rfl) (orE_ok (idxE_ok fun s t m w hs hm => Tryd.stringslite_Index s t m w hs hm) (orE_ok (trimE_ok fun s c w hc => Tryd.strings_TrimLeft_one s c hc w) (orE_ok (repE_ok fun s c w hc hs => Tryd.strings_Repeat s c w hc hs) (ibE_ok fun s c w => Tryd.stringslite_IndexByte s c w)))) (show Tryd.prog.funcs[10]? = some (fnOf Tryd.prog 10) by kernel_rfl) (show _ = some (bodyOf Tryd.prog 10) by kernel_rfl) (show _ = T0_0 by kernel_rfl) 0 (fun e m => by
    have h := whole e m
    have e1 : mkH 1 (L0 e m) = hG 0 e m := by kernel_rfl
    unfold C0 at h
    rw [e1] at h
    exact h) w hm
end
end Awake
end Go.Proofs.YtdbdmgmenojcaaaDoor

namespace Go.Proofs.YtdbdmgmenojcaaaDoor
open Go.RowKit Wd
theorem info_strR : (Tryd.prog.info? 9).map (fun i => (i.zero, i.size, i.bytes)) = some (some (.string ⟨#[]⟩), 1, 16) := by kernel_rfl
def mkS (t : List UInt8) : ByteArray := ⟨t.toArray⟩
theorem mkS_data (t : List UInt8) : (mkS t).data.toList = t := by simp [mkS]
theorem mkS_size (t : List UInt8) : (mkS t).size = t.length := Lib.size_mk t
theorem mkS_of (s : ByteArray) : mkS s.data.toList = s := by
  apply ByteArray.ext
  simp [mkS]
theorem svals_snocS (L : List (List UInt8)) (t : List UInt8) : svals (L.map mkS) ++ [.string (mkS t)] = svals ((L ++ [t]).map mkS) := by simp [svals]
section
variable {X : Nat → Prop} {w0 w w' : World} {rb pb : Nat} {left stdin : ByteArray} {fin ended : Bool}
/-- The blocks X have turned (or have become others, new ones). -/
theorem RdS.turned {X' : Nat → Prop} (h : RdS X w0 w rb pb left stdin fin ended) (ht : Tur X w w') (hX : ∀ g, X' g → (X g ∨ w.heap.size ≤ g) ∧ g < w'.heap.size) : RdS X' w0 w' rb pb left stdin fin ended where
  wat := by
    obtain ⟨M, F, st, h1, h2, h3, h4, r⟩ := h.wat
    refine ⟨M, F, st, h1.tur ht h3, h2, fun g hg hx => ?_, h4, r⟩
    rcases (hX g hx).1 with hx | hx
    · exact h3 g hg hx
    · have := h1.flt g hg; omega
  below := h.below.trans (ht.below _ h.below.size (fun k hk e => by have := (h.xs k e).1; omega))
  rd := h.rd.keep ht h.rbx
  rb0 := h.rb0
  rbx := fun hx => by
    rcases (hX rb hx).1 with hx | hx
    · exact h.rbx hx
    · have := h.rd.lt; omega
  xs := fun g hx => by
    obtain ⟨h1, h2⟩ := hX g hx
    refine ⟨?_, h2⟩
    rcases h1 with h1 | h1
    · exact (h.xs g h1).1
    · have := h.below.size; omega
  size := h.size
  fin0 := h.fin0
theorem RdS.awake (h : RdS X w0 w rb pb left stdin fin ended) (hsh : w0.ShapedOpen Tryd.prog) : Calls Tryd.prog 10 #[] w fun e w' => e = .returned (.bool true) ∧ Below w.heap.size w w' := by
  obtain ⟨m, hm⟩ := Tryd.laysM219.s1_3 w (shaped_below hsh h.below)
  exact Awake.walk w hm
end
def lenT (w : World) (rb pb : Nat) : Nat := strAt w rb 3 + strAt w pb 9
theorem RdS.lenT {X : Nat → Prop} {w0 w : World} {rb pb : Nat} {left stdin : ByteArray} {fin ended : Bool} (h : RdS X w0 w rb pb left stdin fin ended) : lenT w rb pb = left.size + stdin.size := by
  obtain ⟨M, F, st, h1, h2, h3, h4, rfl, h5⟩ := h.wat
  have c9 : w.cell? ⟨pb, 9, none⟩ = some (.string st.stdin) := h1.cell 9
  have c3 := h.cells.1.2.2.2.1
  unfold Proofs.YtdbdmgmenojcaaaDoor.lenT strAt
  rw [c9, c3]
/-- Where the law's loop stands. -/
def InWhole (w1 wr : World) (rb pb : Nat) (c : UInt8) (s : ByteArray) (v : Value) (L : List (List UInt8)) (left stdin : ByteArray) (fin ended : Bool) : Prop :=
  RdS (fun g => v.ownBlock = some g) w1 wr rb pb left stdin fin ended ∧ wr.ownsRow w1.heap.size 9 1 v L.length (svals (L.map mkS)) ∧ Rd.Whole c s.data.toList L (left.data.toList ++ stdin.data.toList)
theorem told1_no {b : UInt8} {T t T' : List UInt8} (h : Told1 b T t false T') : T = [] ∧ t = [] ∧ T' = [] := by
  rcases h with ⟨h1, h2, -, h4⟩ | ⟨_, _, h, _⟩
  · exact ⟨h1, h2, h4⟩
  · cases h
theorem told1_yes {b : UInt8} {T t T' : List UInt8} (h : Told1 b T t true T') : T ≠ [] ∧ t = Rd.tw b T ∧ T' = Rd.rest1 b T := by
  rcases h with ⟨_, _, h, _⟩ | ⟨h1, h2, -, h4⟩
  · cases h
  · exact ⟨h1, h2, h4⟩
theorem r_join {w : World} {B : Nat} {v : Value} {L : List (List UInt8)} (c : UInt8) (hrow : w.ownsRow B 9 1 v L.length (svals (L.map mkS))) (hL : L.length ≤ 5000) (hj : (Lib.join L [c]).length ≤ 5000) :
    Calls Tryd.prog 24 #[v, .string ⟨#[c]⟩] w fun e w' => e = .returned (.string (mkS (Lib.join L [c]))) ∧ Below w.heap.size w w' := by
  have hm : (L.map mkS).map (·.data.toList) = L := by
    rw [List.map_map]
    conv => rhs; rw [← List.map_id L]
    apply List.map_congr_left
    intro t _
    exact mkS_data t
  cases L with
  | nil =>
    obtain ⟨A, cap, rfl, -, -⟩ := own_form hrow
    refine (Tryd.strings_Join_none A cap ⟨#[c]⟩ w).mono ?_
    rintro e w' ⟨rfl, rfl⟩
    exact ⟨rfl, Below.refl _ _⟩
  | cons t L =>
    obtain ⟨g, cap, rfl, h1, h2⟩ := ownBlock_form hrow (by simp)
    have h := Tryd.strings_Join g 0 cap ((t :: L).map mkS) ⟨#[c]⟩ w (fun j x hx => by
      have hj' : j < (t :: L).length := by
        have := (List.getElem?_eq_some_iff.1 hx).1
        simpa using this
      rw [Nat.zero_add, hrow.cellAt j (by omega)]
      simp only [svals, List.getElem?_map] at *
      rw [hx]; rfl) (own_lt hrow rfl).choose_spec.2 (by simp at *; omega) (by simpa using h1) (by rw [hm]; show (Lib.join (t :: L) [c]).length ≤ _; omega)
    rw [hm, List.length_map] at h
    exact h
theorem bytes_eq {a b : ByteArray} (h : a.data.toList = b.data.toList) : a = b := ByteArray.ext (Array.ext' h)
set_option maxRecDepth 100000 in
set_option maxHeartbeats 8000000 in
theorem l_rwhole' (s : ByteArray) (c : UInt8) (w : World) (hsh : w.ShapedOpen Tryd.prog) (hs : s.size ≤ 4000) :
    Calls Tryd.prog 5 #[.string s, .int .u8 c.toNat] w fun e w' => e = .returned (.bool true) ∧ Below w.heap.size w w' := by
  have HB1 := Lib.hid ((Below.refl w.heap.size w).alloc (Nat.le_refl _) (.cells #[.int .u8 c.toNat] 5))
  have HSH := Lib.hid (shaped_below hsh HB1.out)
  have hconv := fun cap => run_convert_bytes_back (P := Tryd.prog) (w.alloc (.cells #[.int .u8 c.toNat] 5)) 70 9 5 ⟨w.heap.size, 0, none⟩ cap [c] Tryd.underlying70 Tryd.underlying5 Tryd.underlying9 (fun j hj => by
    obtain rfl : j = 0 := by simpa using hj
    rw [add_off, (Blk.new w 5 #[.int .u8 c.toNat]).cell 0]; rfl)
  have hconv1 : (convert 70 9 (.slice (some ⟨w.heap.size, 0, none⟩) 1 1)).run Tryd.prog (w.alloc (.cells #[.int .u8 c.toNat] 5)) = .ok (.string ⟨#[c]⟩) (w.alloc (.cells #[.int .u8 c.toNat] 5)) := hconv 1
  clear hconv hsh
  go_enter Tryd.func5, Tryd.ntmps5
  go_wp2_with fail
  generalize w.alloc (.cells #[.int .u8 c.toNat] 5) = w1 at *
  clear hconv1
  refine (rd_of (w := w1) (by omega)).mono ?_
  rintro e w2 ⟨rb, pb, rfl, hr⟩
  have HR2 := Lib.hid (hr.less (Y := fun g => (.slice none 0 0 : Value).ownBlock = some g) (fun g hg => by cases hg))
  clear hr
  go_wp2_with fail
  go_loopw [8] (fun v wr => ∃ L left stdin fin ended, InWhole w1 wr rb pb c s v L left stdin fin ended) (fun _ wr => lenT wr rb pb)
  case atStart => exact ⟨[], ⟨#[]⟩, s, false, false, HR2.out, World.ownsRow_nil _ _ _ _, by
    have := Rd.whole_start c s.data.toList
    simpa using this⟩
  case round =>
    obtain ⟨L, left, stdin, fin, ended, hr, hrow, hwh⟩ := hrel
    have HR := Lib.hid hr
    have HROW := Lib.hid hrow
    have HWH := Lib.hid hwh
    have HLT := Lib.hid hr.lenT
    have hLl : L.length ≤ 4000 := by have := hwh.len; have : s.data.toList.length = s.size := rfl; omega
    obtain ⟨A, cap, hv, hc1, hc2⟩ := own_form hrow
    subst hv
    clear hr hrow hwh
    go_wp2_with fail
    refine (rd_Next1 HR.out HSH.out ⟨#[c]⟩ c Nat.zero_lt_one rfl).mono ?_
    rintro e w3 ⟨l', s', fn', t, ok, rfl, hr3, ht3, htold⟩
    have HR3 := Lib.hid hr3
    have HROW3 := Lib.hid (own_of_block HROW.out (fun g hg => ht3.block g (own_lt HROW.out hg).choose_spec.2 (fun h => h hg)))
    have HTOLD := Lib.hid htold
    clear hr3 ht3 htold
    cases ok
    · have HNO := Lib.hid (told1_no HTOLD.out)
      obtain ⟨-, ht0, -⟩ := HNO.out
      subst ht0
      have HWE := Lib.hid (Rd.whole_end (show Rd.Whole c s.data.toList L [] by have := HWH.out; rw [HNO.out.1] at this; exact this))
      have hcap3 : cap < 9223372036854775808 := by unfold maxLen at hc2; omega
      go_wp2_with fail
      have hjl : (Lib.join L [c]).length ≤ 5000 := by
        have hsl : s.data.toList.length = s.size := rfl
        rcases HWE.out with ⟨-, h⟩ | ⟨-, h⟩ | ⟨-, h, -⟩
        · rw [h]; simp
        · have := congrArg List.length h; simp at this; omega
        · rw [h]; omega
      refine (r_join c HROW3.out (by omega) hjl).mono ?_
      rintro e w4 ⟨rfl, hb4⟩
      have HR4 := Lib.hid (HR3.out.pure hb4)
      have HJ : Hid ((mkS (Lib.join L [c])).data.toList = Lib.join L [c]) := mkS_data _
      have hjz : (mkS (Lib.join L [c])).size + 1 ≤ 9223372036854775807 := by rw [mkS_size]; omega
      clear hb4 hjl
      generalize mkS (Lib.join L [c]) = J at *
      have hsz : s.size ≤ 9223372036854775807 := by omega
      have HSUF : Hid (∀ w, Calls Tryd.prog 25 #[.string s, .string ⟨#[c]⟩] w fun e w' => e = .returned (.bool (Lib.hasSuffix s.data.toList [c])) ∧ w' = w) := fun w => Tryd.strings_HasSuffix s ⟨#[c]⟩ w hsz
      rcases HWE.out with ⟨h1, h2⟩ | ⟨h1, h2⟩ | ⟨h1, h2, h3⟩
      · obtain rfl : s = ⟨#[]⟩ := bytes_eq h1
        obtain rfl : J = ⟨#[]⟩ := bytes_eq (by rw [HJ.out, h2])
        clear h1 h2
        go_wp2_with fail
        refine (rd_Ended HR4.out).mono ?_
        rintro e w5 ⟨rfl, hw⟩
        obtain rfl : w4 = w5 := hw.symm
        go_wp2_with fail
        refine (HR4.out.awake HSH.out).mono ?_
        rintro e w5 ⟨rfl, hb5⟩
        have HB5 := Lib.hid (HB1.out.trans ((HR4.out.below.trans (hb5.mono HR4.out.below.size)).mono HB1.out.size))
        go_wp2_with fail
        go_ret
        exact ⟨rfl, HB5.out⟩
      · have eJ : J ++ (⟨#[c]⟩ : ByteArray) = s := bytes_eq (by rw [data_app, HJ.out]; exact h2)
        have e3 : s.toList.isEmpty = false := isEmpty_ne (fun e => h1 (data_nil e))
        have e1 : (J.toList == s.toList) = false := by
          rw [str_eq]
          refine decide_eq_false (fun e => ?_)
          have := congrArg ByteArray.size eJ
          rw [ByteArray.size_append, e] at this
          have hc1 : (⟨#[c]⟩ : ByteArray).size = 1 := rfl
          omega
        clear h1 h2
        go_wp2_with fail
        refine (rd_Ended HR4.out).mono ?_
        rintro e w5 ⟨rfl, hw⟩
        obtain rfl : w4 = w5 := hw.symm
        go_wp2_with fail
        refine (HR4.out.awake HSH.out).mono ?_
        rintro e w5 ⟨rfl, hb5⟩
        have HB5 := Lib.hid (HB1.out.trans ((HR4.out.below.trans (hb5.mono HR4.out.below.size)).mono HB1.out.size))
        go_wp2_with fail
        go_ret
        exact ⟨rfl, HB5.out⟩
      · obtain rfl : J = s := bytes_eq (by rw [HJ.out, h2])
        have e3 : J.toList.isEmpty = false := isEmpty_ne (fun e => h1 (data_nil e))
        have H3 := Lib.hid h3
        clear h1 h2 h3
        go_wp2_with fail
        refine (HSUF.out _).mono ?_
        rintro e w5 ⟨rfl, hw⟩
        obtain rfl : w4 = w5 := hw.symm
        rw [H3.out]
        go_wp2_with fail
        refine (rd_Ended HR4.out).mono ?_
        rintro e w5 ⟨rfl, hw⟩
        obtain rfl : w4 = w5 := hw.symm
        go_wp2_with fail
        refine (HR4.out.awake HSH.out).mono ?_
        rintro e w5 ⟨rfl, hb5⟩
        have HB5 := Lib.hid (HB1.out.trans ((HR4.out.below.trans (hb5.mono HR4.out.below.size)).mono HB1.out.size))
        go_wp2_with fail
        go_ret
        exact ⟨rfl, HB5.out⟩
    · have HYES := Lib.hid (told1_yes HTOLD.out)
      have HWN : Hid (Rd.Whole c s.data.toList (L ++ [t]) (l'.data.toList ++ s'.data.toList)) := by
        obtain ⟨h1, rfl, h3⟩ := HYES.out
        unfold Hid
        rw [h3]
        exact Rd.whole_step HWH.out h1
      have hcap3 : cap < 9223372036854775808 := by unfold maxLen at hc2; omega
      have HTL := Lib.hid (show lenT w3 rb pb + 1 ≤ lenT wr rb pb by
        rw [HR3.out.lenT, HLT.out]
        obtain ⟨h1, -, h3⟩ := HYES.out
        have h4 := (Rd.rest1_len c h1).2
        have e1 : ∀ x : ByteArray, x.data.toList.length = x.size := fun _ => rfl
        rw [← h3, List.length_append, List.length_append, e1, e1, e1, e1] at h4
        omega)
      have htn : (mkS t).size ≤ 4000 := by
        obtain ⟨h1, h2, -⟩ := HYES.out
        have h4 := (Rd.rest1_len c h1).1
        have h5 := HWH.out.len
        have : s.data.toList.length = s.size := rfl
        rw [mkS_size, h2]; omega
      have HCON : Hid (∀ w, Calls Tryd.prog 23 #[.string ⟨t.toArray⟩, .string ⟨#[c]⟩] w fun e w' => e = .returned (.bool false) ∧ w' = w) := by
        intro w
        have h := Tryd.strings_Contains_one ⟨t.toArray⟩ c w
        rw [show (⟨t.toArray⟩ : ByteArray).data.toList = t by simp, Rd.indexByte_one, HYES.out.2.1, decide_eq_false (Rd.tw_not c _), ← HYES.out.2.1] at h
        exact h
      have hz1 : L.length + 1 ≤ maxLen := by unfold maxLen; omega
      have hz2 : (L.length + 1) * 16 ≤ 140737488355328 := by omega
      go_wp2_with fail
      refine (HCON.out _).mono ?_
      rintro e w4 ⟨rfl, hw⟩
      obtain rfl : w3 = w4 := hw.symm
      go_wp2_with fail
      refine (rd_Ended HR3.out).mono ?_
      rintro e w4 ⟨rfl, hw⟩
      obtain rfl : w3 = w4 := hw.symm
      have HHS : Hid (w1.heap.size ≤ w3.heap.size) := HR3.out.below.size
      go_wp2_with (at_builtin; refine wp_app1_at rfl _ _ _ rfl 9 1 16 (.string ⟨#[]⟩) Tryd.underlying73 info_strR rfl (by decide) w1.heap.size (.slice A L.length cap) L.length _ rfl HROW3.out [.string ⟨t.toArray⟩] w3.heap.size rfl rfl rfl one_str hz1 hz2 HHS.out ?_; intro g2 cap2 w5 hlc2 hcm2 hown2 hgrow2 hat2)
      have HROW5 : Hid (w5.ownsRow w1.heap.size 9 1 (.slice (some ⟨g2, 0, none⟩) (L ++ [t]).length cap2) (L ++ [t]).length (svals ((L ++ [t]).map mkS))) := by
        rw [← svals_snocS, List.length_append]; exact hown2
      have HR5 : Hid (RdS (fun g => (.slice (some ⟨g2, 0, none⟩) (L ++ [t]).length cap2 : Value).ownBlock = some g) w1 w5 rb pb l' s' fn' (!true)) := by
        refine HR3.out.turned ((Tur.of_grown hgrow2).mono (fun k _ e => e.symm)) (fun g hg => ⟨?_, (own_lt HROW5.out hg).choose_spec.2⟩)
        have e : g2 = g := by injection hg
        subst e
        rcases hat2 with h | h
        · exact .inl h
        · exact .inr h
      have HLT5 : Hid (lenT w5 rb pb < lenT wr rb pb) := by
        have h1 := HR5.out.lenT
        have h2 := HR3.out.lenT
        have h3 := HTL.out
        unfold Hid
        omega
      clear hown2 hgrow2 hat2
      have hll : L.length + 1 = (L ++ [t]).length := by simp
      rw [hll]
      clear hll
      go_wp2_with fail
      go_roundw
      case rel => exact ⟨L ++ [t], l', s', fn', !true, HR5.out, HROW5.out, HWN.out⟩
      case measure => exact HLT5.out
theorem awake_of (w : World) (hsh : w.ShapedOpen Tryd.prog) : Calls Tryd.prog 10 #[] w fun e w' => e = .returned (.bool true) ∧ Below w.heap.size w w' := by
  obtain ⟨m, hm⟩ := Tryd.laysM219.s1_3 w hsh
  exact Awake.walk w hm
set_option maxRecDepth 20000 in
theorem l_rwhole (s : ByteArray) (b : Int) (w : World) (hsh : w.ShapedOpen Tryd.prog) (hs : s.size ≤ maxLen) (hb : (Lit.int .u8 b).wf = true) :
    Calls Tryd.prog 5 #[.string s, .int .u8 b] w fun e w' => e = .returned (.bool true) ∧ Below w.heap.size w w' := by
  have hb2 : 0 ≤ b ∧ b ≤ 255 := by simp [Lit.wf, IntKind.min, IntKind.max, IntKind.bits, IntKind.signed] at hb; omega
  obtain ⟨c, rfl⟩ : ∃ c : UInt8, b = (c.toNat : Int) := ⟨UInt8.ofNat b.toNat, by simp; omega⟩
  by_cases h : s.size ≤ 4000
  · exact l_rwhole' s c w hsh h
  · have hlt : 4000 < s.size := by omega
    have HA := Lib.hid (awake_of w hsh)
    unfold maxLen at hs
    clear hb hb2 h hsh
    go_enter Tryd.func5, Tryd.ntmps5
    go_wp2_with fail
    refine HA.out.mono ?_
    rintro e w8 ⟨rfl, hb8⟩
    go_wp2_with fail
    go_ret
    exact ⟨rfl, hb8⟩
end Go.Proofs.YtdbdmgmenojcaaaDoor
namespace Go.Proofs.YtdbdmgmenojcaaaDoor
open Go.RowKit Go.ChangeShapes Go.WideShapes

theorem add_off' (g o i : Nat) : (⟨g, o, none⟩ : Addr).add i = ⟨g, o + i, none⟩ := by unfold Addr.add; split <;> simp_all
set_option maxRecDepth 100000 in
theorem strs_open {H : Type} {enc : TypeId × Value → H} {w : World} {base : Nat} {v : Value} {d : DataW H} {p : List MemPlace} {spare : Nat → Bool} {held : Bool} {r}
    (hval : Value.okWide Tryd.prog w r base 73 v) (k : DataW.Trod enc Tryd.prog w 0 spare held 73 v d p) :
    ∃ A n cap xs, v = .slice A n cap ∧ Strs w w.heap.size A n xs ∧ n ≤ cap ∧ cap ≤ maxLen ∧ ∀ x ∈ xs, x.size ≤ maxLen := by
  obtain ⟨a0, len0, cap0, rfl⟩ := okWide_slice Tryd.underlying73 hval
  obtain ⟨fuel, hf⟩ := k
  rcases open_strings Tryd.underlying73 Tryd.underlying9 (by kernel_rfl) (by simpa [Value.cells] using hf) with ⟨hcs, _⟩ | ⟨a, len, cap, ss, hcs, _, hl, hm, hz, _, hcell, hws⟩
  · simp at hcs
    obtain ⟨rfl, rfl, rfl⟩ := hcs
    exact ⟨_, _, _, [], rfl, Strs.nil _ _, Nat.le_refl _, by unfold maxLen; omega, by simp⟩
  · simp at hcs
    obtain ⟨rfl, rfl, rfl⟩ := hcs
    have hlen : len0 ≤ ss.length := by rw [hz]; split <;> omega
    refine ⟨_, _, _, ss.take len0, rfl, ⟨by simp; omega, fun hn => ?_⟩, hl, hm, fun x hx => hws x (List.mem_of_mem_take hx)⟩
    obtain ⟨b, o, s⟩ := a
    have h0 := hcell 0 (by omega)
    have hs : s = none := by simpa [Addr.add] using World.cell?_spot h0
    subst hs
    have hlt : b < w.heap.size := by
      rw [add_off'] at h0
      by_cases h : b < w.heap.size
      · exact h
      · simp [World.cell?, Array.getElem?_eq_none (Nat.le_of_not_lt h)] at h0
    refine ⟨b, o, rfl, hlt, fun i hi => ?_⟩
    have hi' : i < ss.length := by simp at hi; omega
    have := hcell i hi'
    rw [add_off'] at this
    rw [this]
    simp [List.getD_eq_getElem?_getD, hi']
theorem strs_form {w : World} {base e n : Nat} {u : Value} {xs : List ByteArray} (h : w.ownsRow base e 1 u n (svals xs)) : ∃ A cap, u = .slice A n cap ∧ n ≤ cap ∧ cap ≤ maxLen ∧ Strs w w.heap.size A n xs := by
  rcases h.2 with ⟨h1, h0⟩ | ⟨g, cap, cur, h1, _, _, h4, h5, _⟩
  · subst h0
    subst h1
    exact ⟨none, 0, rfl, Nat.le_refl _, Nat.zero_le _, Strs.of_own h⟩
  · subst h1
    exact ⟨_, cap, rfl, h4, h5, Strs.of_own h⟩
end Go.Proofs.YtdbdmgmenojcaaaDoor
namespace Go.Proofs.YtdbdmgmenojcaaaDoor
open Go.RowKit Wd
theorem r_replace {w0 w : World} (hsh : w0.ShapedOpen Tryd.prog) (hb : Below w0.heap.size w0 w) (s : ByteArray) (hs : s.size ≤ 5000) :
    Calls Tryd.prog 26 #[.string s, .string ⟨#[10]⟩, .string ⟨#[]⟩] w fun e w' => e = .returned (.string (mkS (Rd.kept s.data.toList))) ∧ Below w.heap.size w w' := by
  have h := Tryd.strings_ReplaceAll_shaped s ⟨#[10]⟩ ⟨#[]⟩ w (shaped_below hsh hb) (by omega) (Nat.le_refl 1) (by show s.size + _ * 0 ≤ _; omega)
  have e : Lib.replaceAll s.data.toList (⟨#[10]⟩ : ByteArray).data.toList (⟨#[]⟩ : ByteArray).data.toList = Rd.kept s.data.toList := Rd.replace_all _
  rw [e] at h
  exact h
theorem RdS.rebase {X : Nat → Prop} {w0 w1 w : World} {rb pb : Nat} {left stdin : ByteArray} {fin ended : Bool} (h : RdS X w1 w rb pb left stdin fin ended) (hb : Below w0.heap.size w0 w1) : RdS X w0 w rb pb left stdin fin ended where
  wat := by
    obtain ⟨M, F, st, h1, h2, r⟩ := h.wat
    exact ⟨M, F, st, h1, fun g hg => Nat.le_trans hb.size (h2 g hg), r⟩
  below := hb.trans (h.below.mono hb.size)
  rd := h.rd
  rb0 := Nat.le_trans hb.size h.rb0
  rbx := h.rbx
  xs := fun g hg => ⟨Nat.le_trans hb.size (h.xs g hg).1, (h.xs g hg).2⟩
  size := h.size
  fin0 := h.fin0
theorem index_at {s : ByteArray} {pos k : Nat} {t : List UInt8} (h : Lib.index (s.data.toList.drop pos) t = (k : Int)) : Lib.index (s.extract pos s.size).data.toList (mkS t).data.toList = (k : Int) := by
  rw [Lib.extract_from, mkS_data, show (⟨(s.data.toList.drop pos).toArray⟩ : ByteArray).data.toList = s.data.toList.drop pos by simp, h]
theorem r_index {w0 w : World} (hsh : w0.ShapedOpen Tryd.prog) (hb : Below w0.heap.size w0 w) (s : ByteArray) (hs : s.size ≤ 5000) (pos k : Nat) (t : List UInt8) (h : Lib.index (s.data.toList.drop pos) t = (k : Int)) :
    Calls Tryd.prog 27 #[.string (s.extract pos s.size), .string (mkS t)] w fun e w' => e = .returned (.int .i64 k) ∧ w' = w := by
  have h2 := Tryd.strings_Index_shaped (s.extract pos s.size) (mkS t) w (shaped_below hsh hb) (by rw [ByteArray.size_extract]; omega)
  rw [index_at h] at h2
  exact h2
theorem len_data (x : ByteArray) : x.data.toList.length = x.size := rfl
/-- Where the first loop stands. -/
def InPara (w0 wr : World) (rb pb : Nat) (s told left stdin : ByteArray) (fin ended : Bool) : Prop :=
  RdS (fun _ => False) w0 wr rb pb left stdin fin ended ∧ Rd.kept told.data.toList ++ Rd.kept (left.data.toList ++ stdin.data.toList) = Rd.kept s.data.toList ∧ told.size + (left.data.toList ++ stdin.data.toList).length ≤ s.size
theorem first_byte {t : List UInt8} (h : t.head? ≠ some 10) (hn : 0 < (mkS t).size) : (((mkS t)[0].toNat : Int) == 10) = false := by
  rw [beq_eq_false_iff_ne]
  intro e
  apply h
  cases t with
  | nil => exact absurd hn (by simp [mkS_size])
  | cons x t =>
    have e2 : (mkS (x :: t))[0] = x := rfl
    rw [e2] at e
    have : x = 10 := UInt8.toNat_inj.1 (by show x.toNat = 10; omega)
    rw [this]; rfl
theorem last_byte {t : List UInt8} (h : t.getLast? ≠ some 10) (hn : (mkS t).size - 1 < (mkS t).size) : (((mkS t)[(mkS t).size - 1].toNat : Int) == 10) = false := by
  rw [beq_eq_false_iff_ne]
  intro e
  apply h
  have hs := mkS_size t
  have h1 : (mkS t)[(mkS t).size - 1] = t[t.length - 1]'(by omega) := by
    show t.toArray[(mkS t).size - 1]'_ = _
    simp [hs]
  rw [h1] at e
  have h2 : t[t.length - 1]'(by omega) = 10 := UInt8.toNat_inj.1 (by show (t[t.length - 1]'(by omega)).toNat = 10; omega)
  rw [List.getLast?_eq_getElem?, List.getElem?_eq_getElem (by omega), h2]
set_option maxRecDepth 100000 in
set_option maxHeartbeats 8000000 in
theorem l_rpara' (s : ByteArray) (A : Option Addr) (n cap : Nat) (xs : List ByteArray) (w : World) (hsh : w.ShapedOpen Tryd.prog) (hs : s.size ≤ 2000) (hn : n ≤ 100) (hx : Strs w w.heap.size A n xs) (hxs : ∀ x ∈ xs, x.size ≤ maxLen) (hc : n ≤ cap) (hcm : cap ≤ maxLen) :
    Calls Tryd.prog 6 #[.string s, .slice A n cap] w fun e w' => e = .returned (.bool true) ∧ Below w.heap.size w w' := by
  have HSH := Lib.hid hsh
  have HX := Lib.hid hx
  have HXS := Lib.hid hxs
  have hcap3 : cap < 9223372036854775808 := by unfold maxLen at hcm; omega
  clear hsh hx hxs
  go_enter Tryd.func6, Tryd.ntmps6
  go_wp2_with fail
  refine (rd_of (w := w) (by omega)).mono ?_
  rintro e w2 ⟨rb, pb, rfl, hr⟩
  have HR2 := Lib.hid hr
  clear hr
  go_wp2_with fail
  go_loopw [7] (fun v wr => ∃ told left stdin fin ended, v = .string told ∧ InPara w wr rb pb s told left stdin fin ended) (fun _ wr => lenT wr rb pb)
  case atStart => exact ⟨⟨#[]⟩, ⟨#[]⟩, s, false, false, rfl, HR2.out, rfl, by show 0 + s.data.toList.length ≤ s.size; rw [len_data]; omega⟩
  case round =>
    obtain ⟨told, left, stdin, fin, ended, rfl, hr, hk, hl⟩ := hrel
    have HR := Lib.hid hr
    have HK := Lib.hid hk
    have HLT := Lib.hid hr.lenT
    have htl : told.size ≤ s.size := by omega
    have HL := Lib.hid hl
    clear hr hk hl
    go_wp2_with fail
    refine (rd_Next2 HR.out HSH.out).mono ?_
    rintro e w3 ⟨l', s', fn', t, ok, rfl, hr3, ht3, htold⟩
    have HR3 := Lib.hid hr3
    have HTOLD := Lib.hid htold
    clear hr3 ht3 htold
    have htli : ¬ (s.size : Int) < (told.size : Int) := by omega
    cases ok
    · have HEND : Hid (Rd.kept told.data.toList = Rd.kept s.data.toList) := by
        obtain ⟨h1, h2, -⟩ := HTOLD.out
        have ht0 : t = [] := by simpa using h2.symm
        unfold Hid
        rw [← HK.out, Rd.rec_end (h1.symm.trans ht0), List.append_nil]
      go_wp2_with fail
      refine (r_replace HSH.out HR3.out.below told (by omega)).mono ?_
      rintro e w4 ⟨rfl, hb4⟩
      have HB4 := Lib.hid (HR3.out.below.trans (hb4.mono HR3.out.below.size))
      clear hb4
      go_wp2_with fail
      refine (r_replace HSH.out HB4.out s (by omega)).mono ?_
      rintro e w5 ⟨rfl, hb5⟩
      have HB5 := Lib.hid (HB4.out.trans (hb5.mono HB4.out.size))
      clear hb5
      rw [HEND.out]
      go_wp2_with fail
      refine (rd_of (w := w5) (by omega)).mono ?_
      rintro e w6 ⟨rc, pc, rfl, hr⟩
      have HR6 := Lib.hid hr
      clear hr
      go_wp2_with fail
      have HR7 := Lib.hid (HR6.out.rebase HB5.out)
      clear HR6 HR3 HTOLD HEND HR HK HLT HL
      generalize wr = wz at *
      go_loopw [11, 12] (fun v i wr => ∃ (k pos : Nat) (left stdin : ByteArray) (fin ended : Bool), k ≤ n ∧ i = .int .i64 k ∧ v = .int .i64 pos ∧ RdS (fun _ => False) w wr rc pc left stdin fin ended ∧ Rd.Ahead s.data.toList pos (left.data.toList ++ stdin.data.toList)) (fun _ i _ => n - (intOf i).toNat)
      case atStart => exact ⟨0, 0, ⟨#[]⟩, s, false, false, Nat.zero_le _, rfl, rfl, HR7.out, Rd.ahead_start _⟩
      case round =>
        clear HR7
        obtain ⟨k, pos, left, stdin, fin, ended, hkn, rfl, rfl, hr, hah⟩ := hrel
        have HR := Lib.hid hr
        have HAH := Lib.hid hah
        have hpos : pos ≤ s.size := by have := hah.1; rw [len_data] at this; exact this
        clear hr hah
        by_cases hlt : k < n
        · obtain ⟨hol, hocell⟩ := HX.out
          have hko : k < xs.length := by omega
          obtain ⟨ob, oo, rfl, hobl, hoc⟩ := hocell (by omega)
          have ck := hoc k hko
          have hxk := HXS.out _ (List.getElem_mem hko)
          generalize xs[k] = x at *
          have ck' := (HR.out.below.cell (p := ⟨ob, oo + k, none⟩) hobl).trans ck
          clear ck hol hocell hoc
          have HTELL : Hid (∃ P : List UInt8 → Bool → List UInt8 → Prop, Calls Tryd.prog 8 #[.pointer (some ⟨rc, 0, none⟩), .string x] wr (NextPost (fun _ => False) w rc pc (fun ok => !ok) wr P) ∧
              (∀ t T', P t false T' → Rd.Ahead s.data.toList pos T') ∧ (∀ t T', P t true T' → ∃ k : Nat, Lib.index (s.data.toList.drop pos) t = (k : Int) ∧ pos + k + t.length ≤ s.size ∧ Rd.Ahead s.data.toList (pos + k + t.length) T')) := by
            by_cases hx0 : x.size = 0
            · obtain rfl : x = ⟨#[]⟩ := bytes_eq (data_nil hx0)
              refine ⟨_, rd_Next2 HR.out HSH.out, ?_, ?_⟩
              · rintro t T' ⟨-, -, rfl⟩
                obtain ⟨q, m, h⟩ := Rd.para_in (left.data.toList ++ stdin.data.toList)
                exact Rd.ahead_less HAH.out ⟨_, h⟩
              · rintro t T' ⟨rfl, -, rfl⟩
                obtain ⟨k, h1, h2, h3⟩ := Rd.ahead_step HAH.out (Rd.para_in (left.data.toList ++ stdin.data.toList))
                exact ⟨k, h1, h2, h3⟩
            · refine ⟨_, rd_Next1 HR.out HSH.out x x[0] (by omega) rfl, ?_, ?_⟩
              · intro t T' h
                obtain ⟨h1, -, h3⟩ := told1_no h
                rw [h3, ← h1]
                exact HAH.out
              · intro t T' h
                obtain ⟨-, rfl, rfl⟩ := told1_yes h
                obtain ⟨k, h1, h2, h3⟩ := Rd.ahead_step HAH.out (Rd.one_in x[0] (left.data.toList ++ stdin.data.toList))
                exact ⟨k, h1, h2, h3⟩
          have hkni : (k : Int) < (n : Int) := by omega
          go_wp2_with fail
          obtain ⟨P, hcall, hno, hyes⟩ := HTELL.out
          have HNO := Lib.hid hno
          have HYES := Lib.hid hyes
          refine hcall.mono ?_
          clear hcall hno hyes HTELL ck'
          rintro e w7 ⟨l', s', fn', t, ok, rfl, hr8, -, hp⟩
          have HR8 := Lib.hid hr8
          have HP := Lib.hid hp
          clear hr8 hp
          cases ok
          · go_wp2_with fail
            go_roundw
            case rel => exact ⟨k + 1, pos, l', s', fn', _, by omega, by go_num, rfl, HR8.out, HNO.out t _ HP.out⟩
            case measure => simp [intOf]; omega
          · obtain ⟨q, hq, hql, hah⟩ := HYES.out t _ HP.out
            have HAH8 := Lib.hid hah
            have HIX := Lib.hid (fun hb => r_index HSH.out (w := w7) hb s (by omega) pos q t hq)
            have htz : (⟨t.toArray⟩ : ByteArray).size = t.length := Lib.size_mk t
            have HTZ := Lib.hid htz
            have hsum1 : ((pos + q + t.length : Nat) : Int) = (pos : Int) + q + t.length := by omega
            have HSUM := Lib.hid hsum1
            clear hq hah htz hsum1
            go_wp2_with fail
            refine (HIX.out HR8.out.below).mono ?_
            rintro e w8 ⟨rfl, hw⟩
            obtain rfl : w7 = w8 := hw.symm
            go_wp2_with fail
            go_roundw
            case rel => exact ⟨k + 1, pos + q + t.length, l', s', fn', _, by omega, by go_num, by rw [HSUM.out], HR8.out, HAH8.out⟩
            case measure => simp [intOf]; omega
        · have hkni : ¬ (k : Int) < (n : Int) := by omega
          have hposi : (pos : Int) ≤ (s.size : Int) := by omega
          go_wp2_with fail
          refine (HR.out.awake HSH.out).mono ?_
          rintro e w8 ⟨rfl, hb8⟩
          have HB8 := Lib.hid (HR.out.below.trans (hb8.mono HR.out.below.size))
          go_wp2_with fail
          go_ret
          exact ⟨rfl, HB8.out⟩
    · obtain ⟨-, hh, hl, hcon, -⟩ := Rd.rec_spec (left.data.toList ++ stdin.data.toList)
      have HTD := Lib.hid (show t ≠ [] ∧ t.head? ≠ some 10 ∧ t.getLast? ≠ some 10 ∧ Lib.contains t [10, 10] = false by
        obtain ⟨h1, h2, -⟩ := HTOLD.out
        rw [← h1] at hh hl hcon
        exact ⟨fun e => by rw [e] at h2; simp at h2, hh, hl, hcon⟩)
      have HLEN := Lib.hid (show t.length + (l'.data.toList ++ s'.data.toList).length ≤ (left.data.toList ++ stdin.data.toList).length by
        obtain ⟨h1, -, h3⟩ := HTOLD.out
        rw [h1, h3]; exact Rd.rec_len _)
      have HKN := Lib.hid (show Rd.kept (told ++ mkS t).data.toList ++ Rd.kept (l'.data.toList ++ s'.data.toList) = Rd.kept s.data.toList by
        obtain ⟨h1, -, h3⟩ := HTOLD.out
        rw [data_app, mkS_data, Rd.kept_app, List.append_assoc, h1, h3, ← Rd.kept_rec, HK.out])
      have htp : 0 < (mkS t).size := by rw [mkS_size]; exact List.length_pos_iff.2 HTD.out.1
      have hb0 := first_byte HTD.out.2.1 htp
      have hb1 := last_byte HTD.out.2.2.1 (Nat.sub_lt htp Nat.zero_lt_one)
      have he0 : (mkS t).toList.isEmpty = false := isEmpty_ne (by omega)
      have HCON : Hid (∀ w', Below w.heap.size w w' → Calls Tryd.prog 23 #[.string (mkS t), .string ⟨#[10, 10]⟩] w' fun e w'' => e = .returned (.bool false) ∧ w'' = w') := by
        intro w' hb
        have h := Tryd.strings_Contains_shaped (mkS t) ⟨#[10, 10]⟩ w' (shaped_below HSH.out hb) (by rw [mkS_size]; have h1 := HLEN.out; have h2 := HL.out; omega)
        rw [mkS_data] at h
        have e : Lib.contains t (⟨#[10, 10]⟩ : ByteArray).data.toList = false := HTD.out.2.2.2
        rw [e] at h
        exact h
      have htz := mkS_size t
      have hcat : told.size + (mkS t).size ≤ 5000 := by have h1 := HLEN.out; have h2 := HL.out; omega
      have HMS : Hid (lenT w3 rb pb < lenT wr rb pb) := by
        unfold Hid
        rw [HR3.out.lenT, HLT.out]
        have h1 := HLEN.out
        rw [List.length_append, List.length_append, len_data, len_data, len_data, len_data] at h1
        omega
      have HTLN := Lib.hid (show (told ++ mkS t).size + (l'.data.toList ++ s'.data.toList).length ≤ s.size by
        rw [ByteArray.size_append, htz]; have h1 := HLEN.out; have h2 := HL.out; omega)
      clear hh hl hcon htz
      rw [show (⟨t.toArray⟩ : ByteArray) = mkS t from rfl]
      go_wp2_with fail
      refine (HCON.out _ HR3.out.below).mono ?_
      rintro e w4 ⟨rfl, hw⟩
      obtain rfl : w3 = w4 := hw.symm
      go_wp2_with fail
      go_roundw
      case rel => exact ⟨told ++ mkS t, l', s', fn', _, rfl, HR3.out, HKN.out, HTLN.out⟩
      case measure => exact HMS.out
set_option maxRecDepth 20000 in
theorem l_rpara_big (s : ByteArray) (A : Option Addr) (n cap : Nat) (w : World) (hsh : w.ShapedOpen Tryd.prog) (hs : s.size ≤ maxLen) (h : 2000 < s.size ∨ 100 < n) (hc : n ≤ cap) (hcm : cap ≤ maxLen) :
    Calls Tryd.prog 6 #[.string s, .slice A n cap] w fun e w' => e = .returned (.bool true) ∧ Below w.heap.size w w' := by
  have HA := Lib.hid (awake_of w hsh)
  unfold maxLen at hs hcm
  clear hsh
  have h' : (2000 < s.size) ∨ (¬ 2000 < s.size ∧ 100 < n) := by omega
  clear h
  rcases h' with h | ⟨h, h2⟩
  all_goals
    go_enter Tryd.func6, Tryd.ntmps6
    go_wp2_with fail
    refine HA.out.mono ?_
    rintro e w8 ⟨rfl, hb8⟩
    go_wp2_with fail
    go_ret
    exact ⟨rfl, hb8⟩
set_option maxRecDepth 100000 in
theorem l_rpara {H : Type} {enc : TypeId × Value → H} {base : Nat} {d1 : DataW H} {p1 : List MemPlace} {spare : Nat → Bool} {held : Bool} {r} (s : ByteArray) (v1 : Value) (w : World) (hsh : w.ShapedOpen Tryd.prog) (hs : s.size ≤ maxLen)
    (hv1 : Value.okWide Tryd.prog w r base 73 v1) (k1 : DataW.Trod enc Tryd.prog w 0 spare held 73 v1 d1 p1) :
    Calls Tryd.prog 6 #[.string s, v1] w fun e w' => e = .returned (.bool true) ∧ Below w.heap.size w w' := by
  obtain ⟨A, n, cap, xs, rfl, hx, hc, hcm, hz⟩ := strs_open hv1 k1
  by_cases h : 2000 < s.size ∨ 100 < n
  · exact l_rpara_big s A n cap w hsh hs h hc hcm
  · exact l_rpara' s A n cap xs w hsh (by omega) (by omega) hx hz hc hcm
end Go.Proofs.YtdbdmgmenojcaaaDoor
