/- 'winnower/winnowerlaw09.awake' runs to true: by computing, in pieces, in the virtual machine (printed by pieces.lean). -/
import Derived.Test.YtjgfhdabcahokaaVm28
import Derived.Test.YtjgfhdabcahokaaProg
namespace Go.Proofs.Ytjgfhdabcahokaa
namespace Awake
open Vm Vm.Lit Go.RowKit
set_option maxRecDepth 100000
set_option linter.unusedVariables false
section
noncomputable def t0 : Array Value := Array.replicate 79 undef
noncomputable def s0 : VHeap := #[]
noncomputable def c0 : Code := bodyOf Try.prog 18
noncomputable def t1 : Array Value := ⟨[bf, u, u, u, u, u, u, u, u, u, u, u, u, u, u, u, u, u, u, u, u, u, u, u, u, u, u, u, u, u, u, u, u, u, u, u, u, u, u, u, u, u, u, u, u, u, u, u, u, u, u, u, u, u, u, u, u, u, u, u, u, u, u, u, u, u, u, u, u, u, u, u, u, u, u, u, u, u, u]⟩
noncomputable def s1 : VHeap := ⟨[]⟩
noncomputable def c1 : Code := seqR c0
theorem p0 : runC Try.prog noX 9999 (seqL c0) t0 (s0) = some ⟨.normal, t1, s1⟩ := by kernel_rfl
noncomputable def t2 : Array Value := ⟨[bf, (p 1 0), u, u, u, u, u, u, u, u, u, (p 1 0), u, u, u, u, u, u, u, u, u, u, u, u, u, u, u, u, u, u, u, u, u, u, u, u, u, u, u, u, u, u, u, u, u, u, u, u, u, u, u, u, u, u, u, u, u, u, u, u, u, u, u, u, u, u, u, u, u, u, u, u, u, u, u, u, u, u, u]⟩
noncomputable def s2 : VHeap := ⟨[.map ⟨[]⟩ 0,
  x [(.map (some 0)), ln] 61 1]⟩
noncomputable def c2 : Code := seqR c1
theorem p1 : runC Try.prog noX 9999 (seqL c1) t1 (s1) = some ⟨.normal, t2, s2⟩ := by kernel_rfl
noncomputable def t3 : Array Value := ⟨[bf, (p 1 0), (i 0), (i 0), u, u, u, u, u, u, u, (p 1 0), (p 1 0), (.agg ⟨[(y 1), (.int .u64 (.ofNat 1)), (S [])]⟩), (i 0), (p 1 0), (.agg ⟨[(y 1), (.int .u64 (.ofNat 2)), (S [])]⟩), (i 0), u, u, u, u, u, u, u, u, u, u, u, u, u, u, u, u, u, u, u, u, u, u, u, u, u, u, u, u, u, u, u, u, u, u, u, u, u, u, u, u, u, u, u, u, u, u, u, u, u, u, u, u, u, u, u, u, u, u, u, u, u]⟩
noncomputable def s3 : VHeap := ⟨[.map ⟨[⟨(S [98]), (i 0), 0⟩, ⟨(S [97]), (i 1), 1⟩]⟩ 2,
  x [(.map (some 0)), (l 9 0 2 2)] 61 1,
  x [(y 1), (.int .u64 (.ofNat 1)), (S [])] 31 2,
  x [(y 1), (.int .u64 (.ofNat 1)), (S [])] 31 3,
  x [(S [98]), (y 0), (.int .u64 (.ofNat 0)), (S []), bf] 66 4,
  .cells ⟨⟨[(S [98]), (y 1), (.int .u64 (.ofNat 1)), (S []), bf]⟩, 66, .dead, false, 5, 5⟩,
  x [(y 1), (.int .u64 (.ofNat 2)), (S [])] 31 6,
  x [(y 1), (.int .u64 (.ofNat 2)), (S [])] 31 7,
  x [(S [97]), (y 0), (.int .u64 (.ofNat 0)), (S []), bf] 66 8,
  .cells ⟨⟨[(S [98]), (y 1), (.int .u64 (.ofNat 1)), (S []), bf, (S [97]), (y 1), (.int .u64 (.ofNat 2)), (S []), bf]⟩, 66, .tip, false, 5, 5⟩]⟩
noncomputable def c3 : Code := seqR c2
theorem p2 : runC Try.prog noX 9999 (seqL c2) t2 (s2) = some ⟨.normal, t3, s3⟩ := by kernel_rfl
noncomputable def t4 : Array Value := ⟨[bf, (p 1 0), (i 0), (i 0), (p 13 0), u, u, u, u, u, u, (p 1 0), (p 1 0), (.agg ⟨[(y 1), (.int .u64 (.ofNat 1)), (S [])]⟩), (i 0), (p 1 0), (.agg ⟨[(y 1), (.int .u64 (.ofNat 2)), (S [])]⟩), (i 0), (p 1 0), (.agg ⟨[(y 0), (.int .u64 (.ofNat 0)), (S [])]⟩), u, u, u, u, u, u, u, u, u, u, u, u, u, u, u, u, u, u, u, u, u, u, u, u, u, u, u, u, u, u, u, u, u, u, u, u, u, u, u, u, u, u, u, u, u, u, u, u, u, u, u, u, u, u, u, u, u, u, u]⟩
noncomputable def s4 : VHeap := ⟨[.map ⟨[⟨(S [98]), (i 0), 0⟩, ⟨(S [97]), (i 1), 1⟩, ⟨(S [99]), (i 2), 2⟩]⟩ 3,
  x [(.map (some 0)), (l 12 0 3 3)] 61 1,
  x [(y 1), (.int .u64 (.ofNat 1)), (S [])] 31 2,
  x [(y 1), (.int .u64 (.ofNat 1)), (S [])] 31 3,
  x [(S [98]), (y 0), (.int .u64 (.ofNat 0)), (S []), bf] 66 4,
  .cells ⟨⟨[(S [98]), (y 1), (.int .u64 (.ofNat 1)), (S []), bf]⟩, 66, .dead, false, 5, 5⟩,
  x [(y 1), (.int .u64 (.ofNat 2)), (S [])] 31 6,
  x [(y 1), (.int .u64 (.ofNat 2)), (S [])] 31 7,
  x [(S [97]), (y 0), (.int .u64 (.ofNat 0)), (S []), bf] 66 8,
  .cells ⟨⟨[(S [98]), (y 1), (.int .u64 (.ofNat 1)), (S []), bf, (S [97]), (y 1), (.int .u64 (.ofNat 2)), (S []), bf]⟩, 66, .old, false, 5, 5⟩,
  x [(y 0), (.int .u64 (.ofNat 0)), (S [])] 31 10,
  x [(S [99]), (y 0), (.int .u64 (.ofNat 0)), (S []), bf] 66 11,
  .cells ⟨⟨[(S [98]), (y 1), (.int .u64 (.ofNat 1)), (S []), bf, (S [97]), (y 1), (.int .u64 (.ofNat 2)), (S []), bf, (S [99]), (y 0), (.int .u64 (.ofNat 0)), (S []), bf]⟩, 66, .tip, true, 5, 5⟩,
  x [(y 0), (.int .u64 (.ofNat 0)), (S [])] 31 13]⟩
noncomputable def c4 : Code := seqR c3
theorem p3 : runC Try.prog noX 9999 (seqL c3) t3 (s3) = some ⟨.normal, t4, s4⟩ := by kernel_rfl
noncomputable def t5 : Array Value := ⟨[bf, (p 1 0), (i 0), (i 0), (p 13 0), (i 0), u, u, u, u, u, (p 1 0), (p 1 0), (.agg ⟨[(y 1), (.int .u64 (.ofNat 1)), (S [])]⟩), (i 0), (p 1 0), (.agg ⟨[(y 1), (.int .u64 (.ofNat 2)), (S [])]⟩), (i 0), (p 1 0), (.agg ⟨[(y 0), (.int .u64 (.ofNat 0)), (S [])]⟩), (p 1 0), (.agg ⟨[(y 1), (.int .u64 (.ofNat 3)), (S [])]⟩), (i 0), u, u, u, u, u, u, u, u, u, u, u, u, u, u, u, u, u, u, u, u, u, u, u, u, u, u, u, u, u, u, u, u, u, u, u, u, u, u, u, u, u, u, u, u, u, u, u, u, u, u, u, u, u, u, u, u]⟩
noncomputable def s5 : VHeap := ⟨[.map ⟨[⟨(S [98]), (i 0), 0⟩, ⟨(S [97]), (i 1), 1⟩, ⟨(S [99]), (i 2), 2⟩]⟩ 3,
  x [(.map (some 0)), (l 12 0 3 3)] 61 1,
  x [(y 1), (.int .u64 (.ofNat 1)), (S [])] 31 2,
  x [(y 1), (.int .u64 (.ofNat 1)), (S [])] 31 3,
  x [(S [98]), (y 0), (.int .u64 (.ofNat 0)), (S []), bf] 66 4,
  .cells ⟨⟨[(S [98]), (y 1), (.int .u64 (.ofNat 1)), (S []), bf]⟩, 66, .dead, false, 5, 5⟩,
  x [(y 1), (.int .u64 (.ofNat 2)), (S [])] 31 6,
  x [(y 1), (.int .u64 (.ofNat 2)), (S [])] 31 7,
  x [(S [97]), (y 0), (.int .u64 (.ofNat 0)), (S []), bf] 66 8,
  .cells ⟨⟨[(S [98]), (y 1), (.int .u64 (.ofNat 1)), (S []), bf, (S [97]), (y 1), (.int .u64 (.ofNat 2)), (S []), bf]⟩, 66, .dead, false, 5, 5⟩,
  x [(y 0), (.int .u64 (.ofNat 0)), (S [])] 31 10,
  x [(S [99]), (y 0), (.int .u64 (.ofNat 0)), (S []), bf] 66 11,
  .cells ⟨⟨[(S [98]), (y 1), (.int .u64 (.ofNat 3)), (S []), bf, (S [97]), (y 1), (.int .u64 (.ofNat 2)), (S []), bf, (S [99]), (y 0), (.int .u64 (.ofNat 0)), (S []), bf]⟩, 66, .tip, false, 5, 5⟩,
  x [(y 0), (.int .u64 (.ofNat 0)), (S [])] 31 13,
  x [(y 1), (.int .u64 (.ofNat 3)), (S [])] 31 14,
  x [(y 1), (.int .u64 (.ofNat 3)), (S [])] 31 15]⟩
noncomputable def c5 : Code := seqR c4
theorem p4 : runC Try.prog noX 9999 (seqL c4) t4 (s4) = some ⟨.normal, t5, s5⟩ := by kernel_rfl
noncomputable def t6 : Array Value := ⟨[bf, (p 1 0), (i 0), (i 0), (p 13 0), (i 0), bt, u, u, u, u, (p 1 0), (p 1 0), (.agg ⟨[(y 1), (.int .u64 (.ofNat 1)), (S [])]⟩), (i 0), (p 1 0), (.agg ⟨[(y 1), (.int .u64 (.ofNat 2)), (S [])]⟩), (i 0), (p 1 0), (.agg ⟨[(y 0), (.int .u64 (.ofNat 0)), (S [])]⟩), (p 1 0), (.agg ⟨[(y 1), (.int .u64 (.ofNat 3)), (S [])]⟩), (i 0), (p 1 0), (l 24 0 3 3), (l 25 0 3 3), bt, u, u, u, u, u, u, u, u, u, u, u, u, u, u, u, u, u, u, u, u, u, u, u, u, u, u, u, u, u, u, u, u, u, u, u, u, u, u, u, u, u, u, u, u, u, u, u, u, u, u, u, u]⟩
noncomputable def s6 : VHeap := ⟨[.map ⟨[⟨(S [98]), (i 0), 0⟩, ⟨(S [97]), (i 1), 1⟩, ⟨(S [99]), (i 2), 2⟩]⟩ 3,
  x [(.map (some 0)), (l 12 0 3 3)] 61 1,
  x [(y 1), (.int .u64 (.ofNat 1)), (S [])] 31 2,
  x [(y 1), (.int .u64 (.ofNat 1)), (S [])] 31 3,
  x [(S [98]), (y 0), (.int .u64 (.ofNat 0)), (S []), bf] 66 4,
  .cells ⟨⟨[(S [98]), (y 1), (.int .u64 (.ofNat 1)), (S []), bf]⟩, 66, .dead, false, 5, 5⟩,
  x [(y 1), (.int .u64 (.ofNat 2)), (S [])] 31 6,
  x [(y 1), (.int .u64 (.ofNat 2)), (S [])] 31 7,
  x [(S [97]), (y 0), (.int .u64 (.ofNat 0)), (S []), bf] 66 8,
  .cells ⟨⟨[(S [98]), (y 1), (.int .u64 (.ofNat 1)), (S []), bf, (S [97]), (y 1), (.int .u64 (.ofNat 2)), (S []), bf]⟩, 66, .dead, false, 5, 5⟩,
  x [(y 0), (.int .u64 (.ofNat 0)), (S [])] 31 10,
  x [(S [99]), (y 0), (.int .u64 (.ofNat 0)), (S []), bf] 66 11,
  .cells ⟨⟨[(S [98]), (y 1), (.int .u64 (.ofNat 3)), (S []), bf, (S [97]), (y 1), (.int .u64 (.ofNat 2)), (S []), bf, (S [99]), (y 0), (.int .u64 (.ofNat 0)), (S []), bf]⟩, 66, .tip, false, 5, 5⟩,
  x [(y 0), (.int .u64 (.ofNat 0)), (S [])] 31 13,
  x [(y 1), (.int .u64 (.ofNat 3)), (S [])] 31 14,
  x [(y 1), (.int .u64 (.ofNat 3)), (S [])] 31 15,
  x [(S [98]), (y 1), (.int .u64 (.ofNat 3)), (S []), bf] 66 16,
  x [(S [98])] 9 17,
  .cells ⟨⟨[(S [98])]⟩, 9, .old, false, 18, 1⟩,
  x [(S [97]), (y 1), (.int .u64 (.ofNat 2)), (S []), bf] 66 19,
  x [(S [97])] 9 20,
  .cells ⟨⟨[(S [98]), (S [97])]⟩, 9, .old, true, 18, 1⟩,
  x [(S [99]), (y 0), (.int .u64 (.ofNat 0)), (S []), bf] 66 22,
  x [(S [99])] 9 23,
  .cells ⟨⟨[(S [98]), (S [97]), (S [99])]⟩, 9, .tip, true, 18, 1⟩,
  x [(S [98]), (S [97]), (S [99])] 9 25]⟩
noncomputable def c6 : Code := seqR c5
theorem p5 : runC Try.prog noX 9999 (seqL c5) t5 (s5) = some ⟨.normal, t6, s6⟩ := by kernel_rfl
noncomputable def t7 : Array Value := ⟨[bf, (p 1 0), (i 0), (i 0), (p 13 0), (i 0), bt, bt, u, u, u, (p 1 0), (p 1 0), (.agg ⟨[(y 1), (.int .u64 (.ofNat 1)), (S [])]⟩), (i 0), (p 1 0), (.agg ⟨[(y 1), (.int .u64 (.ofNat 2)), (S [])]⟩), (i 0), (p 1 0), (.agg ⟨[(y 0), (.int .u64 (.ofNat 0)), (S [])]⟩), (p 1 0), (.agg ⟨[(y 1), (.int .u64 (.ofNat 3)), (S [])]⟩), (i 0), (p 1 0), (l 24 0 3 3), (l 25 0 3 3), bt, (p 1 0), bt, u, u, u, u, u, u, u, u, u, u, u, u, u, u, u, u, u, u, u, u, u, u, u, u, u, u, u, u, u, u, u, u, u, u, u, u, u, u, u, u, u, u, u, u, u, u, u, u, u, u]⟩
noncomputable def s7 : VHeap := ⟨[.map ⟨[⟨(S [97]), (i 1), 1⟩, ⟨(S [99]), (i 2), 2⟩]⟩ 3,
  x [(.map (some 0)), (l 12 0 3 3)] 61 1,
  x [(y 1), (.int .u64 (.ofNat 1)), (S [])] 31 2,
  x [(y 1), (.int .u64 (.ofNat 1)), (S [])] 31 3,
  x [(S [98]), (y 0), (.int .u64 (.ofNat 0)), (S []), bf] 66 4,
  .cells ⟨⟨[(S [98]), (y 1), (.int .u64 (.ofNat 1)), (S []), bf]⟩, 66, .dead, false, 5, 5⟩,
  x [(y 1), (.int .u64 (.ofNat 2)), (S [])] 31 6,
  x [(y 1), (.int .u64 (.ofNat 2)), (S [])] 31 7,
  x [(S [97]), (y 0), (.int .u64 (.ofNat 0)), (S []), bf] 66 8,
  .cells ⟨⟨[(S [98]), (y 1), (.int .u64 (.ofNat 1)), (S []), bf, (S [97]), (y 1), (.int .u64 (.ofNat 2)), (S []), bf]⟩, 66, .dead, false, 5, 5⟩,
  x [(y 0), (.int .u64 (.ofNat 0)), (S [])] 31 10,
  x [(S [99]), (y 0), (.int .u64 (.ofNat 0)), (S []), bf] 66 11,
  .cells ⟨⟨[(S []), (y 0), (.int .u64 (.ofNat 0)), (S []), bt, (S [97]), (y 1), (.int .u64 (.ofNat 2)), (S []), bf, (S [99]), (y 0), (.int .u64 (.ofNat 0)), (S []), bf]⟩, 66, .tip, false, 5, 5⟩,
  x [(y 0), (.int .u64 (.ofNat 0)), (S [])] 31 13,
  x [(y 1), (.int .u64 (.ofNat 3)), (S [])] 31 14,
  x [(y 1), (.int .u64 (.ofNat 3)), (S [])] 31 15,
  x [(S [98]), (y 1), (.int .u64 (.ofNat 3)), (S []), bf] 66 16,
  x [(S [98])] 9 17,
  .cells ⟨⟨[(S [98])]⟩, 9, .old, false, 18, 1⟩,
  x [(S [97]), (y 1), (.int .u64 (.ofNat 2)), (S []), bf] 66 19,
  x [(S [97])] 9 20,
  .cells ⟨⟨[(S [98]), (S [97])]⟩, 9, .old, true, 18, 1⟩,
  x [(S [99]), (y 0), (.int .u64 (.ofNat 0)), (S []), bf] 66 22,
  x [(S [99])] 9 23,
  .cells ⟨⟨[(S [98]), (S [97]), (S [99])]⟩, 9, .tip, true, 18, 1⟩,
  x [(S [98]), (S [97]), (S [99])] 9 25,
  x [(y 1), (.int .u64 (.ofNat 3)), (S [])] 31 26,
  x [(y 1), (.int .u64 (.ofNat 3)), (S [])] 31 27]⟩
noncomputable def c7 : Code := seqR c6
theorem p6 : runC Try.prog noX 9999 (seqL c6) t6 (s6) = some ⟨.normal, t7, s7⟩ := by kernel_rfl
noncomputable def t8 : Array Value := ⟨[bf, (p 1 0), (i 0), (i 0), (p 13 0), (i 0), bt, bt, (i 0), u, u, (p 1 0), (p 1 0), (.agg ⟨[(y 1), (.int .u64 (.ofNat 1)), (S [])]⟩), (i 0), (p 1 0), (.agg ⟨[(y 1), (.int .u64 (.ofNat 2)), (S [])]⟩), (i 0), (p 1 0), (.agg ⟨[(y 0), (.int .u64 (.ofNat 0)), (S [])]⟩), (p 1 0), (.agg ⟨[(y 1), (.int .u64 (.ofNat 3)), (S [])]⟩), (i 0), (p 1 0), (l 24 0 3 3), (l 25 0 3 3), bt, (p 1 0), bt, (p 1 0), (.agg ⟨[(y 1), (.int .u64 (.ofNat 4)), (S [])]⟩), (i 0), u, u, u, u, u, u, u, u, u, u, u, u, u, u, u, u, u, u, u, u, u, u, u, u, u, u, u, u, u, u, u, u, u, u, u, u, u, u, u, u, u, u, u, u, u, u, u]⟩
noncomputable def s8 : VHeap := ⟨[.map ⟨[⟨(S [97]), (i 1), 1⟩, ⟨(S [99]), (i 2), 2⟩, ⟨(S [98]), (i 3), 3⟩]⟩ 4,
  x [(.map (some 0)), (l 31 0 4 4)] 61 1,
  x [(y 1), (.int .u64 (.ofNat 1)), (S [])] 31 2,
  x [(y 1), (.int .u64 (.ofNat 1)), (S [])] 31 3,
  x [(S [98]), (y 0), (.int .u64 (.ofNat 0)), (S []), bf] 66 4,
  .cells ⟨⟨[(S [98]), (y 1), (.int .u64 (.ofNat 1)), (S []), bf]⟩, 66, .dead, false, 5, 5⟩,
  x [(y 1), (.int .u64 (.ofNat 2)), (S [])] 31 6,
  x [(y 1), (.int .u64 (.ofNat 2)), (S [])] 31 7,
  x [(S [97]), (y 0), (.int .u64 (.ofNat 0)), (S []), bf] 66 8,
  .cells ⟨⟨[(S [98]), (y 1), (.int .u64 (.ofNat 1)), (S []), bf, (S [97]), (y 1), (.int .u64 (.ofNat 2)), (S []), bf]⟩, 66, .dead, false, 5, 5⟩,
  x [(y 0), (.int .u64 (.ofNat 0)), (S [])] 31 10,
  x [(S [99]), (y 0), (.int .u64 (.ofNat 0)), (S []), bf] 66 11,
  .cells ⟨⟨[(S []), (y 0), (.int .u64 (.ofNat 0)), (S []), bt, (S [97]), (y 1), (.int .u64 (.ofNat 2)), (S []), bf, (S [99]), (y 0), (.int .u64 (.ofNat 0)), (S []), bf]⟩, 66, .dead, false, 5, 5⟩,
  x [(y 0), (.int .u64 (.ofNat 0)), (S [])] 31 13,
  x [(y 1), (.int .u64 (.ofNat 3)), (S [])] 31 14,
  x [(y 1), (.int .u64 (.ofNat 3)), (S [])] 31 15,
  x [(S [98]), (y 1), (.int .u64 (.ofNat 3)), (S []), bf] 66 16,
  x [(S [98])] 9 17,
  .cells ⟨⟨[(S [98])]⟩, 9, .old, false, 18, 1⟩,
  x [(S [97]), (y 1), (.int .u64 (.ofNat 2)), (S []), bf] 66 19,
  x [(S [97])] 9 20,
  .cells ⟨⟨[(S [98]), (S [97])]⟩, 9, .old, true, 18, 1⟩,
  x [(S [99]), (y 0), (.int .u64 (.ofNat 0)), (S []), bf] 66 22,
  x [(S [99])] 9 23,
  .cells ⟨⟨[(S [98]), (S [97]), (S [99])]⟩, 9, .tip, true, 18, 1⟩,
  x [(S [98]), (S [97]), (S [99])] 9 25,
  x [(y 1), (.int .u64 (.ofNat 3)), (S [])] 31 26,
  x [(y 1), (.int .u64 (.ofNat 3)), (S [])] 31 27,
  x [(y 1), (.int .u64 (.ofNat 4)), (S [])] 31 28,
  x [(y 1), (.int .u64 (.ofNat 4)), (S [])] 31 29,
  x [(S [98]), (y 0), (.int .u64 (.ofNat 0)), (S []), bf] 66 30,
  .cells ⟨⟨[(S []), (y 0), (.int .u64 (.ofNat 0)), (S []), bt, (S [97]), (y 1), (.int .u64 (.ofNat 2)), (S []), bf, (S [99]), (y 0), (.int .u64 (.ofNat 0)), (S []), bf, (S [98]), (y 1), (.int .u64 (.ofNat 4)), (S []), bf]⟩, 66, .tip, false, 5, 5⟩]⟩
noncomputable def c8 : Code := seqR c7
theorem p7 : runC Try.prog noX 9999 (seqL c7) t7 (s7) = some ⟨.normal, t8, s8⟩ := by kernel_rfl
noncomputable def t9 : Array Value := ⟨[bf, (p 1 0), (i 0), (i 0), (p 13 0), (i 0), bt, bt, (i 0), (p 33 0), bt, (p 1 0), (p 1 0), (.agg ⟨[(y 1), (.int .u64 (.ofNat 1)), (S [])]⟩), (i 0), (p 1 0), (.agg ⟨[(y 1), (.int .u64 (.ofNat 2)), (S [])]⟩), (i 0), (p 1 0), (.agg ⟨[(y 0), (.int .u64 (.ofNat 0)), (S [])]⟩), (p 1 0), (.agg ⟨[(y 1), (.int .u64 (.ofNat 3)), (S [])]⟩), (i 0), (p 1 0), (l 24 0 3 3), (l 25 0 3 3), bt, (p 1 0), bt, (p 1 0), (.agg ⟨[(y 1), (.int .u64 (.ofNat 4)), (S [])]⟩), (i 0), (.tuple ⟨[(.agg ⟨[(y 1), (.int .u64 (.ofNat 4)), (S [])]⟩), bt]⟩), (p 1 0), (.tuple ⟨[(.agg ⟨[(y 1), (.int .u64 (.ofNat 4)), (S [])]⟩), bt]⟩), (.agg ⟨[(y 1), (.int .u64 (.ofNat 4)), (S [])]⟩), bt, u, u, u, u, u, u, u, u, u, u, u, u, u, u, u, u, u, u, u, u, u, u, u, u, u, u, u, u, u, u, u, u, u, u, u, u, u, u, u, u, u, u]⟩
noncomputable def s9 : VHeap := ⟨[.map ⟨[⟨(S [97]), (i 1), 1⟩, ⟨(S [99]), (i 2), 2⟩, ⟨(S [98]), (i 3), 3⟩]⟩ 4,
  x [(.map (some 0)), (l 31 0 4 4)] 61 1,
  x [(y 1), (.int .u64 (.ofNat 1)), (S [])] 31 2,
  x [(y 1), (.int .u64 (.ofNat 1)), (S [])] 31 3,
  x [(S [98]), (y 0), (.int .u64 (.ofNat 0)), (S []), bf] 66 4,
  .cells ⟨⟨[(S [98]), (y 1), (.int .u64 (.ofNat 1)), (S []), bf]⟩, 66, .dead, false, 5, 5⟩,
  x [(y 1), (.int .u64 (.ofNat 2)), (S [])] 31 6,
  x [(y 1), (.int .u64 (.ofNat 2)), (S [])] 31 7,
  x [(S [97]), (y 0), (.int .u64 (.ofNat 0)), (S []), bf] 66 8,
  .cells ⟨⟨[(S [98]), (y 1), (.int .u64 (.ofNat 1)), (S []), bf, (S [97]), (y 1), (.int .u64 (.ofNat 2)), (S []), bf]⟩, 66, .dead, false, 5, 5⟩,
  x [(y 0), (.int .u64 (.ofNat 0)), (S [])] 31 10,
  x [(S [99]), (y 0), (.int .u64 (.ofNat 0)), (S []), bf] 66 11,
  .cells ⟨⟨[(S []), (y 0), (.int .u64 (.ofNat 0)), (S []), bt, (S [97]), (y 1), (.int .u64 (.ofNat 2)), (S []), bf, (S [99]), (y 0), (.int .u64 (.ofNat 0)), (S []), bf]⟩, 66, .dead, false, 5, 5⟩,
  x [(y 0), (.int .u64 (.ofNat 0)), (S [])] 31 13,
  x [(y 1), (.int .u64 (.ofNat 3)), (S [])] 31 14,
  x [(y 1), (.int .u64 (.ofNat 3)), (S [])] 31 15,
  x [(S [98]), (y 1), (.int .u64 (.ofNat 3)), (S []), bf] 66 16,
  x [(S [98])] 9 17,
  .cells ⟨⟨[(S [98])]⟩, 9, .old, false, 18, 1⟩,
  x [(S [97]), (y 1), (.int .u64 (.ofNat 2)), (S []), bf] 66 19,
  x [(S [97])] 9 20,
  .cells ⟨⟨[(S [98]), (S [97])]⟩, 9, .old, true, 18, 1⟩,
  x [(S [99]), (y 0), (.int .u64 (.ofNat 0)), (S []), bf] 66 22,
  x [(S [99])] 9 23,
  .cells ⟨⟨[(S [98]), (S [97]), (S [99])]⟩, 9, .tip, true, 18, 1⟩,
  x [(S [98]), (S [97]), (S [99])] 9 25,
  x [(y 1), (.int .u64 (.ofNat 3)), (S [])] 31 26,
  x [(y 1), (.int .u64 (.ofNat 3)), (S [])] 31 27,
  x [(y 1), (.int .u64 (.ofNat 4)), (S [])] 31 28,
  x [(y 1), (.int .u64 (.ofNat 4)), (S [])] 31 29,
  x [(S [98]), (y 0), (.int .u64 (.ofNat 0)), (S []), bf] 66 30,
  .cells ⟨⟨[(S []), (y 0), (.int .u64 (.ofNat 0)), (S []), bt, (S [97]), (y 1), (.int .u64 (.ofNat 2)), (S []), bf, (S [99]), (y 0), (.int .u64 (.ofNat 0)), (S []), bf, (S [98]), (y 1), (.int .u64 (.ofNat 4)), (S []), bf]⟩, 66, .tip, false, 5, 5⟩,
  x [(y 1), (.int .u64 (.ofNat 4)), (S [])] 31 32,
  x [(y 1), (.int .u64 (.ofNat 4)), (S [])] 31 33]⟩
noncomputable def c9 : Code := seqR c8
theorem p8 : runC Try.prog noX 9999 (seqL c8) t8 (s8) = some ⟨.normal, t9, s9⟩ := by kernel_rfl
noncomputable def t10 : Array Value := ⟨[bt, (p 1 0), (i 0), (i 0), (p 13 0), (i 0), bt, bt, (i 0), (p 33 0), bt, (p 1 0), (p 1 0), (.agg ⟨[(y 1), (.int .u64 (.ofNat 1)), (S [])]⟩), (i 0), (p 1 0), (.agg ⟨[(y 1), (.int .u64 (.ofNat 2)), (S [])]⟩), (i 0), (p 1 0), (.agg ⟨[(y 0), (.int .u64 (.ofNat 0)), (S [])]⟩), (p 1 0), (.agg ⟨[(y 1), (.int .u64 (.ofNat 3)), (S [])]⟩), (i 0), (p 1 0), (l 24 0 3 3), (l 25 0 3 3), bt, (p 1 0), bt, (p 1 0), (.agg ⟨[(y 1), (.int .u64 (.ofNat 4)), (S [])]⟩), (i 0), (.tuple ⟨[(.agg ⟨[(y 1), (.int .u64 (.ofNat 4)), (S [])]⟩), bt]⟩), (p 1 0), (.tuple ⟨[(.agg ⟨[(y 1), (.int .u64 (.ofNat 4)), (S [])]⟩), bt]⟩), (.agg ⟨[(y 1), (.int .u64 (.ofNat 4)), (S [])]⟩), bt, (i 0), (i 0), (i 0), (i 0), (i 0), (i 0), (i 0), bt, bt, (.agg ⟨[(y 0), (.int .u64 (.ofNat 0)), (S [])]⟩), (.agg ⟨[(y 0), (.int .u64 (.ofNat 0)), (S [])]⟩), bt, bt, bt, bt, bt, bt, bt, bt, bt, (.agg ⟨[(y 1), (.int .u64 (.ofNat 4)), (S [])]⟩), (.agg ⟨[(y 1), (.int .u64 (.ofNat 4)), (S [])]⟩), bt, bt, bt, bt, bt, bt, (p 1 0), (l 45 0 3 3), (l 35 0 3 3), bt, bt, bt, (l 46 0 2 2), (S [49, 45, 50]), bt, bt, bt, (S []), bt, bt]⟩
noncomputable def s10 : VHeap := ⟨[.map ⟨[⟨(S [97]), (i 1), 1⟩, ⟨(S [99]), (i 2), 2⟩, ⟨(S [98]), (i 3), 3⟩]⟩ 4,
  x [(.map (some 0)), (l 31 0 4 4)] 61 1,
  x [(y 1), (.int .u64 (.ofNat 1)), (S [])] 31 2,
  x [(y 1), (.int .u64 (.ofNat 1)), (S [])] 31 3,
  x [(S [98]), (y 0), (.int .u64 (.ofNat 0)), (S []), bf] 66 4,
  .cells ⟨⟨[(S [98]), (y 1), (.int .u64 (.ofNat 1)), (S []), bf]⟩, 66, .dead, false, 5, 5⟩,
  x [(y 1), (.int .u64 (.ofNat 2)), (S [])] 31 6,
  x [(y 1), (.int .u64 (.ofNat 2)), (S [])] 31 7,
  x [(S [97]), (y 0), (.int .u64 (.ofNat 0)), (S []), bf] 66 8,
  .cells ⟨⟨[(S [98]), (y 1), (.int .u64 (.ofNat 1)), (S []), bf, (S [97]), (y 1), (.int .u64 (.ofNat 2)), (S []), bf]⟩, 66, .dead, false, 5, 5⟩,
  x [(y 0), (.int .u64 (.ofNat 0)), (S [])] 31 10,
  x [(S [99]), (y 0), (.int .u64 (.ofNat 0)), (S []), bf] 66 11,
  .cells ⟨⟨[(S []), (y 0), (.int .u64 (.ofNat 0)), (S []), bt, (S [97]), (y 1), (.int .u64 (.ofNat 2)), (S []), bf, (S [99]), (y 0), (.int .u64 (.ofNat 0)), (S []), bf]⟩, 66, .dead, false, 5, 5⟩,
  x [(y 0), (.int .u64 (.ofNat 0)), (S [])] 31 13,
  x [(y 1), (.int .u64 (.ofNat 3)), (S [])] 31 14,
  x [(y 1), (.int .u64 (.ofNat 3)), (S [])] 31 15,
  x [(S [98]), (y 1), (.int .u64 (.ofNat 3)), (S []), bf] 66 16,
  x [(S [98])] 9 17,
  .cells ⟨⟨[(S [98])]⟩, 9, .old, false, 18, 1⟩,
  x [(S [97]), (y 1), (.int .u64 (.ofNat 2)), (S []), bf] 66 19,
  x [(S [97])] 9 20,
  .cells ⟨⟨[(S [98]), (S [97])]⟩, 9, .old, true, 18, 1⟩,
  x [(S [99]), (y 0), (.int .u64 (.ofNat 0)), (S []), bf] 66 22,
  x [(S [99])] 9 23,
  .cells ⟨⟨[(S [98]), (S [97]), (S [99])]⟩, 9, .tip, true, 18, 1⟩,
  x [(S [98]), (S [97]), (S [99])] 9 25,
  x [(y 1), (.int .u64 (.ofNat 3)), (S [])] 31 26,
  x [(y 1), (.int .u64 (.ofNat 3)), (S [])] 31 27,
  x [(y 1), (.int .u64 (.ofNat 4)), (S [])] 31 28,
  x [(y 1), (.int .u64 (.ofNat 4)), (S [])] 31 29,
  x [(S [98]), (y 0), (.int .u64 (.ofNat 0)), (S []), bf] 66 30,
  .cells ⟨⟨[(S []), (y 0), (.int .u64 (.ofNat 0)), (S []), bt, (S [97]), (y 1), (.int .u64 (.ofNat 2)), (S []), bf, (S [99]), (y 0), (.int .u64 (.ofNat 0)), (S []), bf, (S [98]), (y 1), (.int .u64 (.ofNat 4)), (S []), bf]⟩, 66, .tip, false, 5, 5⟩,
  x [(y 1), (.int .u64 (.ofNat 4)), (S [])] 31 32,
  x [(y 1), (.int .u64 (.ofNat 4)), (S [])] 31 33,
  x [(y 1), (.int .u64 (.ofNat 4)), (S [])] 31 34,
  x [(S [97]), (S [99]), (S [98])] 9 35,
  x [(S []), (y 0), (.int .u64 (.ofNat 0)), (S []), bt] 66 36,
  x [(S [97]), (y 1), (.int .u64 (.ofNat 2)), (S []), bf] 66 37,
  x [(S [97])] 9 38,
  .cells ⟨⟨[(S [97])]⟩, 9, .old, false, 39, 1⟩,
  x [(S [99]), (y 0), (.int .u64 (.ofNat 0)), (S []), bf] 66 40,
  x [(S [99])] 9 41,
  .cells ⟨⟨[(S [97]), (S [99])]⟩, 9, .old, true, 39, 1⟩,
  x [(S [98]), (y 1), (.int .u64 (.ofNat 4)), (S []), bf] 66 43,
  x [(S [98])] 9 44,
  .cells ⟨⟨[(S [97]), (S [99]), (S [98])]⟩, 9, .tip, true, 39, 1⟩,
  x [(S [49]), (S [50])] 9 46,
  x [(p 47 0), (l 51 0 3 3)] 75 47,
  .cells ⟨⟨[]⟩, 5, .old, false, 48, 1⟩,
  .cells ⟨⟨[(y 49)]⟩, 5, .old, true, 48, 1⟩,
  .cells ⟨⟨[(y 49), (y 45)]⟩, 5, .old, true, 48, 1⟩,
  .cells ⟨⟨[(y 49), (y 45), (y 50)]⟩, 5, .old, true, 48, 1⟩]⟩
noncomputable def c10 : Code := seqR c9
theorem p9 : runC Try.prog noX 9999 (seqL c9) t9 (s9) = some ⟨.normal, t10, s10⟩ := by kernel_rfl
noncomputable def tz : Array Value := ⟨[bt, (p 1 0), (i 0), (i 0), (p 13 0), (i 0), bt, bt, (i 0), (p 33 0), bt, (p 1 0), (p 1 0), (.agg ⟨[(y 1), (.int .u64 (.ofNat 1)), (S [])]⟩), (i 0), (p 1 0), (.agg ⟨[(y 1), (.int .u64 (.ofNat 2)), (S [])]⟩), (i 0), (p 1 0), (.agg ⟨[(y 0), (.int .u64 (.ofNat 0)), (S [])]⟩), (p 1 0), (.agg ⟨[(y 1), (.int .u64 (.ofNat 3)), (S [])]⟩), (i 0), (p 1 0), (l 24 0 3 3), (l 25 0 3 3), bt, (p 1 0), bt, (p 1 0), (.agg ⟨[(y 1), (.int .u64 (.ofNat 4)), (S [])]⟩), (i 0), (.tuple ⟨[(.agg ⟨[(y 1), (.int .u64 (.ofNat 4)), (S [])]⟩), bt]⟩), (p 1 0), (.tuple ⟨[(.agg ⟨[(y 1), (.int .u64 (.ofNat 4)), (S [])]⟩), bt]⟩), (.agg ⟨[(y 1), (.int .u64 (.ofNat 4)), (S [])]⟩), bt, (i 0), (i 0), (i 0), (i 0), (i 0), (i 0), (i 0), bt, bt, (.agg ⟨[(y 0), (.int .u64 (.ofNat 0)), (S [])]⟩), (.agg ⟨[(y 0), (.int .u64 (.ofNat 0)), (S [])]⟩), bt, bt, bt, bt, bt, bt, bt, bt, bt, (.agg ⟨[(y 1), (.int .u64 (.ofNat 4)), (S [])]⟩), (.agg ⟨[(y 1), (.int .u64 (.ofNat 4)), (S [])]⟩), bt, bt, bt, bt, bt, bt, (p 1 0), (l 45 0 3 3), (l 35 0 3 3), bt, bt, bt, (l 46 0 2 2), (S [49, 45, 50]), bt, bt, bt, (S []), bt, bt]⟩
noncomputable def sz : VHeap := ⟨[.map ⟨[⟨(S [97]), (i 1), 1⟩, ⟨(S [99]), (i 2), 2⟩, ⟨(S [98]), (i 3), 3⟩]⟩ 4,
  x [(.map (some 0)), (l 31 0 4 4)] 61 1,
  x [(y 1), (.int .u64 (.ofNat 1)), (S [])] 31 2,
  x [(y 1), (.int .u64 (.ofNat 1)), (S [])] 31 3,
  x [(S [98]), (y 0), (.int .u64 (.ofNat 0)), (S []), bf] 66 4,
  .cells ⟨⟨[(S [98]), (y 1), (.int .u64 (.ofNat 1)), (S []), bf]⟩, 66, .dead, false, 5, 5⟩,
  x [(y 1), (.int .u64 (.ofNat 2)), (S [])] 31 6,
  x [(y 1), (.int .u64 (.ofNat 2)), (S [])] 31 7,
  x [(S [97]), (y 0), (.int .u64 (.ofNat 0)), (S []), bf] 66 8,
  .cells ⟨⟨[(S [98]), (y 1), (.int .u64 (.ofNat 1)), (S []), bf, (S [97]), (y 1), (.int .u64 (.ofNat 2)), (S []), bf]⟩, 66, .dead, false, 5, 5⟩,
  x [(y 0), (.int .u64 (.ofNat 0)), (S [])] 31 10,
  x [(S [99]), (y 0), (.int .u64 (.ofNat 0)), (S []), bf] 66 11,
  .cells ⟨⟨[(S []), (y 0), (.int .u64 (.ofNat 0)), (S []), bt, (S [97]), (y 1), (.int .u64 (.ofNat 2)), (S []), bf, (S [99]), (y 0), (.int .u64 (.ofNat 0)), (S []), bf]⟩, 66, .dead, false, 5, 5⟩,
  x [(y 0), (.int .u64 (.ofNat 0)), (S [])] 31 13,
  x [(y 1), (.int .u64 (.ofNat 3)), (S [])] 31 14,
  x [(y 1), (.int .u64 (.ofNat 3)), (S [])] 31 15,
  x [(S [98]), (y 1), (.int .u64 (.ofNat 3)), (S []), bf] 66 16,
  x [(S [98])] 9 17,
  .cells ⟨⟨[(S [98])]⟩, 9, .old, false, 18, 1⟩,
  x [(S [97]), (y 1), (.int .u64 (.ofNat 2)), (S []), bf] 66 19,
  x [(S [97])] 9 20,
  .cells ⟨⟨[(S [98]), (S [97])]⟩, 9, .old, true, 18, 1⟩,
  x [(S [99]), (y 0), (.int .u64 (.ofNat 0)), (S []), bf] 66 22,
  x [(S [99])] 9 23,
  .cells ⟨⟨[(S [98]), (S [97]), (S [99])]⟩, 9, .tip, true, 18, 1⟩,
  x [(S [98]), (S [97]), (S [99])] 9 25,
  x [(y 1), (.int .u64 (.ofNat 3)), (S [])] 31 26,
  x [(y 1), (.int .u64 (.ofNat 3)), (S [])] 31 27,
  x [(y 1), (.int .u64 (.ofNat 4)), (S [])] 31 28,
  x [(y 1), (.int .u64 (.ofNat 4)), (S [])] 31 29,
  x [(S [98]), (y 0), (.int .u64 (.ofNat 0)), (S []), bf] 66 30,
  .cells ⟨⟨[(S []), (y 0), (.int .u64 (.ofNat 0)), (S []), bt, (S [97]), (y 1), (.int .u64 (.ofNat 2)), (S []), bf, (S [99]), (y 0), (.int .u64 (.ofNat 0)), (S []), bf, (S [98]), (y 1), (.int .u64 (.ofNat 4)), (S []), bf]⟩, 66, .tip, false, 5, 5⟩,
  x [(y 1), (.int .u64 (.ofNat 4)), (S [])] 31 32,
  x [(y 1), (.int .u64 (.ofNat 4)), (S [])] 31 33,
  x [(y 1), (.int .u64 (.ofNat 4)), (S [])] 31 34,
  x [(S [97]), (S [99]), (S [98])] 9 35,
  x [(S []), (y 0), (.int .u64 (.ofNat 0)), (S []), bt] 66 36,
  x [(S [97]), (y 1), (.int .u64 (.ofNat 2)), (S []), bf] 66 37,
  x [(S [97])] 9 38,
  .cells ⟨⟨[(S [97])]⟩, 9, .old, false, 39, 1⟩,
  x [(S [99]), (y 0), (.int .u64 (.ofNat 0)), (S []), bf] 66 40,
  x [(S [99])] 9 41,
  .cells ⟨⟨[(S [97]), (S [99])]⟩, 9, .old, true, 39, 1⟩,
  x [(S [98]), (y 1), (.int .u64 (.ofNat 4)), (S []), bf] 66 43,
  x [(S [98])] 9 44,
  .cells ⟨⟨[(S [97]), (S [99]), (S [98])]⟩, 9, .tip, true, 39, 1⟩,
  x [(S [49]), (S [50])] 9 46,
  x [(p 47 0), (l 51 0 3 3)] 75 47,
  .cells ⟨⟨[]⟩, 5, .old, false, 48, 1⟩,
  .cells ⟨⟨[(y 49)]⟩, 5, .old, true, 48, 1⟩,
  .cells ⟨⟨[(y 49), (y 45)]⟩, 5, .old, true, 48, 1⟩,
  .cells ⟨⟨[(y 49), (y 45), (y 50)]⟩, 5, .old, true, 48, 1⟩]⟩
theorem pz : runC Try.prog noX 9999 c10 t10 (s10) = some ⟨.ret, tz, sz⟩ := by kernel_rfl
theorem whole : runC Try.prog noX 9999 c0 t0 (s0) = some ⟨.ret, tz, sz⟩ :=
  seq_step (by kernel_rfl) (p0) <| seq_step (by kernel_rfl) (p1) <| seq_step (by kernel_rfl) (p2) <| seq_step (by kernel_rfl) (p3) <| seq_step (by kernel_rfl) (p4) <| seq_step (by kernel_rfl) (p5) <| seq_step (by kernel_rfl) (p6) <| seq_step (by kernel_rfl) (p7) <| seq_step (by kernel_rfl) (p8) <| seq_step (by kernel_rfl) (p9) <| pz
theorem isTrue' : isTrue (xcall Try.prog noX noP (9999 + 1) 18 #[] #[]) = true := by
  have hf : ∃ fn, Try.prog.funcs[18]? = some fn ∧ fn.body = some c0 ∧ Array.replicate fn.ntmps undef = t0 ∧ (match vrun Try.prog (results fn tz) (sz) with | some (.bool b, _) => b | _ => false) = true := ⟨_, rfl, by kernel_rfl, by kernel_rfl, by kernel_rfl⟩
  obtain ⟨fn, h1, h2, h3, h4⟩ := hf
  exact xcall_of rfl h1 h2 h3 whole h4
theorem walk (w : World) : Calls Try.prog 18 #[] w fun e w' => e = .returned (.bool true) ∧ Below w.heap.size w w' :=
  nullary (by kernel_rfl) noX_ok (noE_ok _) isTrue' w
theorem walk' (w : World) (hsh : w.ShapedOpen Try.prog) : Calls Try.prog 18 #[] w fun e w' => e = .returned (.bool true) ∧ Below w.heap.size w w' := walk w
end
end Awake
end Go.Proofs.Ytjgfhdabcahokaa

