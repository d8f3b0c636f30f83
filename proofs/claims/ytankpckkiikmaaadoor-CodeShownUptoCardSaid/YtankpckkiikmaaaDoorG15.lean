/- Code: Ins on both sides, as a whole: one plain law. -/
import Derived.Test.YtankpckkiikmaaaDoorG6
import Derived.Test.YtankpckkiikmaaaDoorG13
import Derived.Test.YtankpckkiikmaaaDoorG14
import Derived.Test.YtankpckkiikmaaaDoorG4
import Derived.Deep.QuietTactic
import Derived.BigQuiet
import Derived.Test.YtankpckkiikmaaaDoorG12
set_option linter.unusedVariables false
set_option linter.unusedSimpArgs false
namespace Go.Proofs.YtankpckkiikmaaaDoor
open Go.RowKit Cod
theorem insB_out {C : CV} {w : World} {B : Nat} (hC : CodeAt w B C) (k : Int) (i : IV) (hno : k < 0 ∨ (C.n2 : Int) ≤ k) : insB C k i = false := by
  unfold insB at?
  rcases hno with h | h
  · rw [if_neg (by omega)]
  · split
    · rfl
    · rename_i p hp
      rw [if_pos (by omega), List.getElem?_eq_none (by rw [hC.plen]; omega)] at hp
      cases hp
theorem insB_in {C : CV} {k : Nat} {q : PV} (i : IV) (hq : C.parts[k]? = some q) : insB C k i = insP C q i := by
  unfold insB at?
  rw [if_pos (by omega), Int.toNat_natCast, hq]
theorem kind_row {op : Int} {r : RowM} (h : rowsM.find? (fun r => op == r.op) = some r) : r.kind = 0 ∨ r.kind = 1 ∨ r.kind = 2 :=
  (show ∀ r ∈ rowsM, r.kind = 0 ∨ r.kind = 1 ∨ r.kind = 2 by decide) r (List.mem_of_find?_eq_some h)
theorem listed_ops {C : CV} {q : PV} {i : IV} (o5 : (i.op == 5) = false) (o6 : (i.op == 6) = false) (o9 : (i.op == 9) = false) (o26 : (i.op == 26) = false) (h : (i.op == 25 || (i.op == 27 || (i.op == 28 || (i.op == 29 || i.op == 30)))) = true) : insP C q i = (empB i.s && listedB C q i) := by
  unfold insP
  rw [o5, o6, o9, o26, h]; rfl
theorem p_ins {C : CV} {w : World} {B : Nat} (hC : CodeAt w B C) (k : Int) (hk : (Lit.int .i64 k).wf = true) (i : IV) (hi : IOk i) (hl : Ints w B i.A i.n i.args) :
    Calls Tryd.prog 7 #[.agg #[.slice C.A0 C.n0 C.c0, .slice C.A1 C.n1 C.c1, .slice C.A2 C.n2 C.c2, .slice C.A3 C.n3 C.c3, .slice C.A4 C.n4 C.c4, .slice C.A5 C.n5 C.c5, .slice C.A6 C.n6 C.c6], .int .i64 k, .agg #[.int .u8 i.op, .int .i64 i.a, .int .i64 i.b, .int .i64 i.c, .string i.s, .slice i.A i.n i.cap]] w fun e w' => e = .returned (.bool (insB C k i)) ∧ Below w.heap.size w w' := by
  by_cases hno : k < 0 ∨ (C.n2 : Int) ≤ k
  · rw [insB_out hC k i hno]; exact p_ins_out hC k hk i hno
  obtain ⟨j, rfl⟩ : ∃ j : Nat, k = j := ⟨k.toNat, by omega⟩
  have hj : j < C.n2 := by omega
  obtain ⟨_, _, q, _, _, hq, _⟩ := hC.part hj
  rw [insB_in i hq]
  cases o5 : i.op == 5
  case true => rw [show insP C q i = _ by unfold insP; rw [o5, Bool.true_or]]; exact p_ins5 hC j hj i q hq hi hl o5
  cases o6 : i.op == 6
  case true => rw [show insP C q i = _ by unfold insP; rw [o5, o6, Bool.or_true]]; exact p_ins6 hC j hj i q hq hi hl o5 o6
  cases o9 : i.op == 9
  case true => rw [show insP C q i = _ by unfold insP; rw [o5, o6, o9]]; exact p_ins9 hC j hj i q hq hi hl o5 o6 o9
  cases o26 : i.op == 26
  case true => rw [show insP C q i = _ by unfold insP; rw [o5, o6, o9, o26]]; exact p_ins26 hC j hj i q hq hi hl o5 o6 o9 o26
  cases o25 : i.op == 25
  case true => rw [listed_ops o5 o6 o9 o26 (by rw [o25]; rfl)]; exact p_ins25 hC j hj i q hq hi hl o5 o6 o9 o26 o25
  cases o27 : i.op == 27
  case true => rw [listed_ops o5 o6 o9 o26 (by rw [o25, o27]; rfl)]; exact p_ins27 hC j hj i q hq hi hl o5 o6 o9 o26 o25 o27
  cases o28 : i.op == 28
  case true => rw [listed_ops o5 o6 o9 o26 (by rw [o25, o27, o28]; rfl)]; exact p_ins28 hC j hj i q hq hi hl o5 o6 o9 o26 o25 o27 o28
  cases o29 : i.op == 29
  case true => rw [listed_ops o5 o6 o9 o26 (by rw [o25, o27, o28, o29]; rfl)]; exact p_ins29 hC j hj i q hq hi hl o5 o6 o9 o26 o25 o27 o28 o29
  cases o30 : i.op == 30
  case true => rw [listed_ops o5 o6 o9 o26 (by rw [o25, o27, o28, o29, o30]; rfl)]; exact p_ins30 hC j hj i q hq hi hl o5 o6 o9 o26 o25 o27 o28 o29 o30
  cases hf : rowsM.find? (fun r => i.op == r.op) with
  | none =>
    rw [show insP C q i = false by unfold insP; rw [o5, o6, o9, o26, o25, o27, o28, o29, o30, hf]; rfl]
    exact p_ins_none hC j hj i q hq hi hl o5 o6 o9 o26 o25 o27 o28 o29 o30 hf
  | some r =>
    have hE : insP C q i = (decide (i.n = 0) && (abcB C q [r.u0, r.u1, r.u2] i && (bif r.kind == 0 then empB i.s else Lib.containsS (saysOf r.kind) i.s))) := by
      unfold insP; rw [o5, o6, o9, o26, o25, o27, o28, o29, o30, hf]; rfl
    rcases kind_row hf with hk | hk | hk <;> rw [hk] at hE <;> rw [hE]
    · exact p_ins_row0 hC j hj i q hq hi hl r o5 o6 o9 o26 o25 o27 o28 o29 o30 hf hk
    · exact p_ins_row1 hC j hj i q hq hi hl r o5 o6 o9 o26 o25 o27 o28 o29 o30 hf hk
    · exact p_ins_row2 hC j hj i q hq hi hl r o5 o6 o9 o26 o25 o27 o28 o29 o30 hf hk
set_option maxRecDepth 20000 in
set_option maxHeartbeats 4000000 in
theorem q_ins_out {C : CV} {w : World} {B : Nat} (hC : CodeAt w B C) (k : Int) (hk : (Lit.int .i64 k).wf = true) (i : IV) (hno : k < 0 ∨ (C.n2 : Int) ≤ k) :
    Calls Tryd.prog 13 #[.agg #[.slice C.A0 C.n0 C.c0, .slice C.A1 C.n1 C.c1, .slice C.A2 C.n2 C.c2, .slice C.A3 C.n3 C.c3, .slice C.A4 C.n4 C.c4, .slice C.A5 C.n5 C.c5, .slice C.A6 C.n6 C.c6], .int .i64 k, .agg #[.int .u8 i.op, .int .i64 i.a, .int .i64 i.b, .int .i64 i.c, .string i.s, .slice i.A i.n i.cap]] w fun e w' => e = .returned (.bool false) ∧ Below w.heap.size w w' := by
  have h2 := hC.n2
  unfold maxLen at h2
  clear hC
  rcases hno with h | h
  · go_enter Tryd.func13, Tryd.ntmps13
    go_wp2_with fail
    go_ret
    exact ⟨rfl, ((Below.refl _ _).alloc (Nat.le_refl _) _).alloc (by simp) _⟩
  · have h0 : ¬ k < 0 := by omega
    go_enter Tryd.func13, Tryd.ntmps13
    go_wp2_with fail
    go_ret
    exact ⟨rfl, ((Below.refl _ _).alloc (Nat.le_refl _) _).alloc (by simp) _⟩
theorem many_bi {q : PV} {i : IV} : (builtin0B q i && decide (i.n = 0)) = builtinB q i := by
  unfold builtin0B builtinB
  cases manyM.find? (fun r => i.s == r.name) with
  | none => rfl
  | some r => simp only [Bool.and_assoc]; congr 3; exact Bool.and_comm _ _
theorem q_ins {C : CV} {w : World} {B : Nat} (hC : CodeAt w B C) (k : Int) (hk : (Lit.int .i64 k).wf = true) (i : IV) (hi : IOk i) (hl : Ints w B i.A i.n i.args) :
    Calls Tryd.prog 13 #[.agg #[.slice C.A0 C.n0 C.c0, .slice C.A1 C.n1 C.c1, .slice C.A2 C.n2 C.c2, .slice C.A3 C.n3 C.c3, .slice C.A4 C.n4 C.c4, .slice C.A5 C.n5 C.c5, .slice C.A6 C.n6 C.c6], .int .i64 k, .agg #[.int .u8 i.op, .int .i64 i.a, .int .i64 i.b, .int .i64 i.c, .string i.s, .slice i.A i.n i.cap]] w fun e w' => e = .returned (.bool (insB C k i)) ∧ Below w.heap.size w w' := by
  by_cases hno : k < 0 ∨ (C.n2 : Int) ≤ k
  · rw [insB_out hC k i hno]; exact q_ins_out hC k hk i hno
  obtain ⟨j, rfl⟩ : ∃ j : Nat, k = j := ⟨k.toNat, by omega⟩
  have hj : j < C.n2 := by omega
  obtain ⟨_, _, q, _, _, hq, _⟩ := hC.part hj
  rw [insB_in i hq]
  cases o5 : i.op == 5
  case true => rw [show insP C q i = ((regB q i.a && (i.b == 0 && i.c == 0)) && (specB i.s && decide (i.n = 0))) by unfold insP; rw [o5, Bool.true_or]; rfl]; exact q_ins5 hC j hj i q hq hi hl o5
  cases o6 : i.op == 6
  case true => rw [show insP C q i = ((regB q i.a && (i.b == 0 && i.c == 0)) && (specB i.s && decide (i.n = 0))) by unfold insP; rw [o5, o6, Bool.or_true]; rfl]; exact q_ins6 hC j hj i q hq hi hl o5 o6
  cases o16 : i.op == 16
  case true =>
    have e := of_decide_eq_true o16
    have hE : insP C q i = (decide (i.n = 0) && ((regB q i.a && (regB q i.b && regB q i.c)) && Lib.containsS arithS i.s)) := by unfold insP; rw [e]; rfl
    have hE2 : insP C q i = (regB q i.a && (regB q i.b && (regB q i.c && (Lib.containsS arithS i.s && decide (i.n = 0))))) := by
      rw [hE]; cases decide (i.n = 0) <;> cases regB q i.a <;> cases regB q i.b <;> cases regB q i.c <;> cases Lib.containsS arithS i.s <;> rfl
    rw [hE2]
    exact q_ins16 hC j hj i q hq hi hl o5 o6 o16
  cases o17 : i.op == 17
  case true =>
    have e := of_decide_eq_true o17
    have hE : insP C q i = (decide (i.n = 0) && ((regB q i.a && (regB q i.b && regB q i.c)) && Lib.containsS cmpS i.s)) := by unfold insP; rw [e]; rfl
    have hE2 : insP C q i = (regB q i.a && (regB q i.b && (regB q i.c && (Lib.containsS cmpS i.s && decide (i.n = 0))))) := by
      rw [hE]; cases decide (i.n = 0) <;> cases regB q i.a <;> cases regB q i.b <;> cases regB q i.c <;> cases Lib.containsS cmpS i.s <;> rfl
    rw [hE2]
    exact q_ins17 hC j hj i q hq hi hl o5 o6 o16 o17
  cases o26 : i.op == 26
  case true =>
    have e := of_decide_eq_true o26
    rw [show insP C q i = (builtin0B q i && decide (i.n = 0)) by rw [many_bi]; unfold insP; rw [e]; rfl]
    exact q_ins26 hC j hj i q hq hi hl o5 o6 o16 o17 o26
  cases he : empB i.s
  case false =>
    have hE : insP C q i = false := by
      unfold insP
      rw [o5, o6, o26, he]
      cases (i.op == 9) <;> cases (i.op == 25 || (i.op == 27 || (i.op == 28 || (i.op == 29 || i.op == 30)))) <;> try rfl
      cases hf : rowsM.find? (fun r => i.op == r.op) with
      | none => rfl
      | some r =>
        have hop := List.find?_some hf
        have hm := List.mem_of_find?_eq_some hf
        have h0 : r.kind = 0 := (show ∀ r ∈ rowsM, r.op ≠ 16 → r.op ≠ 17 → r.kind = 0 by decide) r hm (fun h => by rw [h] at hop; rw [hop] at o16; cases o16) (fun h => by rw [h] at hop; rw [hop] at o17; cases o17)
        show (decide (i.n = 0) && (abcB C q [r.u0, r.u1, r.u2] i && (bif r.kind == 0 then false else Lib.containsS (saysOf r.kind) i.s))) = false
        rw [h0]; simp
    rw [hE]
    exact q_ins_text hC j hj i q hq hi he hl o5 o6 o16 o17 o26
  cases o25 : i.op == 25
  case true =>
    have e := of_decide_eq_true o25
    rw [show insP C q i = argsB C q i by unfold insP listedB; rw [he, e]; rfl]; exact q_ins25 hC j hj i q hq hi he hl o5 o6 o16 o17 o26 o25
  cases o27 : i.op == 27
  case true =>
    have e := of_decide_eq_true o27
    rw [show insP C q i = splitB C q i by unfold insP listedB; rw [he, e]; rfl]; exact q_ins27 hC j hj i q hq hi he hl o5 o6 o16 o17 o26 o25 o27
  cases o28 : i.op == 28
  case true =>
    have e := of_decide_eq_true o28
    rw [show insP C q i = subB q i by unfold insP listedB; rw [he, e]; rfl]
    unfold subB
    cases hra : regB q i.a
    · exact q_ins28a hC j hj i q hq hi hra he hl o5 o6 o16 o17 o26 o25 o27 o28
    cases hrb : regB q i.b
    · exact q_ins28b hC j hj i q hq hi hra hrb he hl o5 o6 o16 o17 o26 o25 o27 o28
    exact q_ins28c hC j hj i q hq hi hra hrb he hl o5 o6 o16 o17 o26 o25 o27 o28
  cases o29 : i.op == 29
  case true =>
    have e := of_decide_eq_true o29
    rw [show insP C q i = getlB q i by unfold insP listedB; rw [he, e]; rfl]; exact q_ins29 hC j hj i q hq hi he hl o5 o6 o16 o17 o26 o25 o27 o28 o29
  cases o30 : i.op == 30
  case true =>
    have e := of_decide_eq_true o30
    rw [show insP C q i = printB q i by unfold insP listedB; rw [he, e]; rfl]; exact q_ins30 hC j hj i q hq hi he hl o5 o6 o16 o17 o26 o25 o27 o28 o29 o30
  have hE : insP C q i = (decide (i.n = 0) && plainB C q i) := by
    unfold insP plainB
    rw [o5, o6, o26, he, o25, o27, o28, o29, o30]
    cases o9 : i.op == 9
    case true => rfl
    cases hf : rowsM.find? (fun r => i.op == r.op) with
    | none => cases decide (i.n = 0) <;> rfl
    | some r =>
      have hop := List.find?_some hf
      have hm := List.mem_of_find?_eq_some hf
      have h0 : r.kind = 0 := (show ∀ r ∈ rowsM, r.op ≠ 16 → r.op ≠ 17 → r.kind = 0 by decide) r hm (fun h => by rw [h] at hop; rw [hop] at o16; cases o16) (fun h => by rw [h] at hop; rw [hop] at o17; cases o17)
      show (decide (i.n = 0) && (abcB C q [r.u0, r.u1, r.u2] i && (bif r.kind == 0 then true else Lib.containsS (saysOf r.kind) i.s))) = _
      rw [h0]; simp
  rw [hE]
  by_cases hn : i.n = 0
  · rw [show (decide (i.n = 0) && plainB C q i) = plainB C q i by simp [hn]]
    exact q_ins_else0 hC j hj i q hq hi hn he hl o5 o6 o16 o17 o26 o25 o27 o28 o29 o30
  · rw [show (decide (i.n = 0) && plainB C q i) = false by simp [hn]]
    exact q_ins_elseN hC j hj i q hq hi hn he hl o5 o6 o16 o17 o26 o25 o27 o28 o29 o30
end Go.Proofs.YtankpckkiikmaaaDoor
namespace Go.Proofs.YtankpckkiikmaaaDoor
open Go.RowKit Cod
def Cod.sumW (l : List PV) : Int := l.foldl (fun n q => wrap64 (n + (q.n' : Int))) 0
theorem sumW_snoc {l : List PV} {k : Nat} {q : PV} (h : l[k]? = some q) : sumW (l.take (k + 1)) = wrap64 (sumW (l.take k) + (q.n' : Int)) := by
  rw [take_snoc' h]
  simp [sumW]
/-- Code in a box. -/
structure BoxC (W : World) (b B : Nat) (C : CV) : Prop where
  cl : W.heap[b]? = some (.cells #[.slice C.A0 C.n0 C.c0, .slice C.A1 C.n1 C.c1, .slice C.A2 C.n2 C.c2, .slice C.A3 C.n3 C.c3, .slice C.A4 C.n4 C.c4, .slice C.A5 C.n5 C.c5, .slice C.A6 C.n6 C.c6] 28 (0, 0))
  at_ : CodeAt W B C
theorem BoxC.keep {W W' : World} {b B : Nat} {C : CV} (h : BoxC W b B C) (hb : Below W.heap.size W W') : BoxC W' b B C :=
  ⟨(hb.block b (Array.getElem?_eq_some_iff.1 h.cl).1).trans h.cl, h.at_.keep hb⟩
theorem BoxC.made {w : World} {B : Nat} {C : CV} (h : CodeAt w B C) : BoxC (w.alloc (.cells #[.slice C.A0 C.n0 C.c0, .slice C.A1 C.n1 C.c1, .slice C.A2 C.n2 C.c2, .slice C.A3 C.n3 C.c3, .slice C.A4 C.n4 C.c4, .slice C.A5 C.n5 C.c5, .slice C.A6 C.n6 C.c6] 28)) w.heap.size B C :=
  ⟨(MapKept.heap_alloc w _).1, h.keep ((Below.refl _ _).alloc (Nat.le_refl _) _)⟩
theorem BoxC.cells {w' : World} {b B : Nat} {C : CV} (h : BoxC w' b B C) : (w'.cell? ⟨b, 0, none⟩ = some (.slice C.A0 C.n0 C.c0) ∧ w'.cell? ⟨b, 1, none⟩ = some (.slice C.A1 C.n1 C.c1) ∧ w'.cell? ⟨b, 2, none⟩ = some (.slice C.A2 C.n2 C.c2) ∧ w'.cell? ⟨b, 3, none⟩ = some (.slice C.A3 C.n3 C.c3) ∧ w'.cell? ⟨b, 4, none⟩ = some (.slice C.A4 C.n4 C.c4) ∧ w'.cell? ⟨b, 5, none⟩ = some (.slice C.A5 C.n5 C.c5) ∧ w'.cell? ⟨b, 6, none⟩ = some (.slice C.A6 C.n6 C.c6)) := ccells h.cl
def SizePost (C : CV) (w : World) (e : Ending) (w' : World) : Prop := e = .returned (.tuple #[.int .i64 C.n2, .int .i64 (sumW C.parts)]) ∧ Below w.heap.size w w'
set_option maxRecDepth 20000 in
set_option maxHeartbeats 4000000 in
theorem p_sizes {C : CV} {w : World} {B : Nat} (hC : CodeAt w B C) : Calls Tryd.prog 10 #[.agg #[.slice C.A0 C.n0 C.c0, .slice C.A1 C.n1 C.c1, .slice C.A2 C.n2 C.c2, .slice C.A3 C.n3 C.c3, .slice C.A4 C.n4 C.c4, .slice C.A5 C.n5 C.c5, .slice C.A6 C.n6 C.c6]] w (SizePost C w) := by
  have hn2 := hC.n2
  have hpl := hC.plen
  unfold maxLen at hn2
  have HX := Lib.hid (BoxC.made hC)
  have HW : Hid (Below w.heap.size w (w.alloc (.cells #[.slice C.A0 C.n0 C.c0, .slice C.A1 C.n1 C.c1, .slice C.A2 C.n2 C.c2, .slice C.A3 C.n3 C.c3, .slice C.A4 C.n4 C.c4, .slice C.A5 C.n5 C.c5, .slice C.A6 C.n6 C.c6] 28))) := (Below.refl _ _).alloc (Nat.le_refl _) _
  have HPL := Lib.hid hpl
  have hcs := HX.out.cells
  clear hC hpl
  go_enter Tryd.func10, Tryd.ntmps10
  go_wp2_with fail
  go_loopw [4, 10] (fun s i0 wr => ∃ k : Nat, k ≤ C.n2 ∧ i0 = .int .i64 k ∧ s = .int .i64 (sumW (C.parts.take k)) ∧ Below w.heap.size w wr ∧ BoxC wr w.heap.size B C) (fun s i0 wr => C.n2 - (intOf i0).toNat)
  case atStart => exact ⟨0, Nat.zero_le _, rfl, rfl, HW.out, HX.out⟩
  case round =>
    obtain ⟨k, hk, rfl, rfl, hb, hX⟩ := hrel
    have HB := Lib.hid hb
    have HX2 := Lib.hid hX
    have hcs2 := hX.cells
    clear hb hX hcs
    by_cases hlt : k < C.n2
    · obtain ⟨pb, po, q, hpA, hpb, hq, hqp, r0, r1, r2, r3⟩ := HX2.out.at_.part hlt
      have HS := Lib.hid (sumW_snoc hq)
      have hqn := hqp.n'
      unfold maxLen at hqn
      generalize sumW (C.parts.take k) = x at HS ⊢
      clear hq hqp
      go_wp2_with fail
      (try rw [← hpA])
      go_roundw
      case rel => exact ⟨k + 1, by omega, by go_num, by rw [HS.out], Gr.trans HB.out ((Below.refl _ _).alloc (Nat.le_refl _) _), HX2.out.keep ((Below.refl _ _).alloc (Nat.le_refl _) _)⟩
      case measure => simp [intOf]; omega
    · obtain rfl : k = C.n2 := by omega
      have HT : Hid (sumW (C.parts.take C.n2) = sumW C.parts) := by unfold Hid; rw [List.take_of_length_le (by rw [HPL.out]; exact Nat.le_refl _)]
      rw [HT.out]
      go_wp2_with fail
      go_ret2
      exact ⟨rfl, HB.out⟩
set_option maxRecDepth 20000 in
set_option maxHeartbeats 4000000 in
theorem q_sizes {C : CV} {w : World} {B : Nat} (hC : CodeAt w B C) : Calls Tryd.prog 11 #[.agg #[.slice C.A0 C.n0 C.c0, .slice C.A1 C.n1 C.c1, .slice C.A2 C.n2 C.c2, .slice C.A3 C.n3 C.c3, .slice C.A4 C.n4 C.c4, .slice C.A5 C.n5 C.c5, .slice C.A6 C.n6 C.c6]] w (SizePost C w) := by
  have hn2 := hC.n2
  have hpl := hC.plen
  unfold maxLen at hn2
  have HX := Lib.hid (BoxC.made hC)
  have HW : Hid (Below w.heap.size w (w.alloc (.cells #[.slice C.A0 C.n0 C.c0, .slice C.A1 C.n1 C.c1, .slice C.A2 C.n2 C.c2, .slice C.A3 C.n3 C.c3, .slice C.A4 C.n4 C.c4, .slice C.A5 C.n5 C.c5, .slice C.A6 C.n6 C.c6] 28))) := (Below.refl _ _).alloc (Nat.le_refl _) _
  have HPL := Lib.hid hpl
  have hcs := HX.out.cells
  clear hC hpl
  go_enter Tryd.func11, Tryd.ntmps11
  go_wp2_with fail
  go_loopw [4, 5] (fun s i0 wr => ∃ k : Nat, k ≤ C.n2 ∧ i0 = .int .i64 k ∧ s = .int .i64 (sumW (C.parts.take k)) ∧ Below w.heap.size w wr ∧ BoxC wr w.heap.size B C) (fun s i0 wr => C.n2 - (intOf i0).toNat)
  case atStart => exact ⟨0, Nat.zero_le _, rfl, rfl, HW.out, HX.out⟩
  case round =>
    obtain ⟨k, hk, rfl, rfl, hb, hX⟩ := hrel
    have HB := Lib.hid hb
    have HX2 := Lib.hid hX
    have hcs2 := hX.cells
    clear hb hX hcs
    by_cases hlt : k < C.n2
    · obtain ⟨pb, po, q, hpA, hpb, hq, hqp, r0, r1, r2, r3⟩ := HX2.out.at_.part hlt
      have HS := Lib.hid (sumW_snoc hq)
      have hqn := hqp.n'
      unfold maxLen at hqn
      generalize sumW (C.parts.take k) = x at HS ⊢
      clear hq hqp
      go_wp2_with fail
      (try rw [← hpA])
      go_roundw
      case rel => exact ⟨k + 1, by omega, by go_num, by rw [HS.out], HB.out, HX2.out⟩
      case measure => simp [intOf]; omega
    · obtain rfl : k = C.n2 := by omega
      have HT : Hid (sumW (C.parts.take C.n2) = sumW C.parts) := by unfold Hid; rw [List.take_of_length_le (by rw [HPL.out]; exact Nat.le_refl _)]
      rw [HT.out]
      go_wp2_with fail
      go_ret2
      exact ⟨rfl, HB.out⟩
def SomeBool (w : World) (e : Ending) (w' : World) : Prop := ∃ b : Bool, e = .returned (.bool b) ∧ Below w.heap.size w w'
set_option maxRecDepth 20000 in
set_option maxHeartbeats 4000000 in
theorem l_great {C : CV} {w : World} {B : Nat} (hC : CodeAt w B C) : Calls Tryd.prog 5 #[.agg #[.slice C.A0 C.n0 C.c0, .slice C.A1 C.n1 C.c1, .slice C.A2 C.n2 C.c2, .slice C.A3 C.n3 C.c3, .slice C.A4 C.n4 C.c4, .slice C.A5 C.n5 C.c5, .slice C.A6 C.n6 C.c6]] w (SomeBool w) := by
  have hn2 := hC.n2
  have hpl := hC.plen
  unfold maxLen at hn2
  have HX := Lib.hid (BoxC.made hC)
  have HW : Hid (Below w.heap.size w (w.alloc (.cells #[.slice C.A0 C.n0 C.c0, .slice C.A1 C.n1 C.c1, .slice C.A2 C.n2 C.c2, .slice C.A3 C.n3 C.c3, .slice C.A4 C.n4 C.c4, .slice C.A5 C.n5 C.c5, .slice C.A6 C.n6 C.c6] 28))) := (Below.refl _ _).alloc (Nat.le_refl _) _
  have hcs := HX.out.cells
  clear hC hpl
  go_enter Tryd.func5, Tryd.ntmps5
  go_wp2_with fail
  go_loopw [3, 4] (fun s i0 wr => ∃ (k : Nat) (x : Int), k ≤ C.n2 ∧ i0 = .int .i64 k ∧ s = .int .i64 x ∧ Below w.heap.size w wr ∧ BoxC wr w.heap.size B C) (fun s i0 wr => C.n2 - (intOf i0).toNat)
  case atStart => exact ⟨0, _, Nat.zero_le _, rfl, rfl, HW.out, HX.out⟩
  case round =>
    obtain ⟨k, x, hk, rfl, rfl, hb, hX⟩ := hrel
    have HB := Lib.hid hb
    have HX2 := Lib.hid hX
    have hcs2 := hX.cells
    clear hb hX hcs
    by_cases hlt : k < C.n2
    · obtain ⟨pb, po, q, hpA, hpb, hq, hqp, r0, r1, r2, r3⟩ := HX2.out.at_.part hlt
      clear hq hqp
      go_wp2_with fail
      go_quiet (fail)
      go_wp2_with fail
      (try rw [← hpA])
      go_roundw
      case rel => exact ⟨k + 1, _, by omega, by go_num, rfl, below_drewN HB.out _, HX2.out.keep (below_drewN (Below.refl _ _) _)⟩
      case measure => simp [intOf]; omega
    · obtain rfl : k = C.n2 := by omega
      go_wp2_with fail
      go_ret
      exact ⟨_, rfl, HB.out⟩
set_option maxRecDepth 20000 in
set_option maxHeartbeats 2000000 in
theorem l_same {w : World} {B B' : Nat} {A A' : Option Addr} {n cap cap' : Nat} {l : List Int} (h1 : Ints w B A n l) (h2 : Ints w B' A' n l) (hB : B ≤ w.heap.size) (hB' : B' ≤ w.heap.size) :
    Calls Tryd.prog 9 #[.slice A n cap, .slice A' n cap'] w fun e w' => e = .returned (.bool true) ∧ Below w.heap.size w w' := by
  have hm := h1.2.1
  unfold maxLen at hm
  have H1 := Lib.hid h1
  have H2 := Lib.hid h2
  clear h1 h2
  go_enter Tryd.func9, Tryd.ntmps9
  go_wp2_with fail
  go_loopw [5] (fun i0 wr => ∃ k : Nat, k ≤ n ∧ i0 = .int .i64 k ∧ Below w.heap.size w wr) (fun i0 wr => n - (intOf i0).toNat)
  case atStart => exact ⟨0, Nat.zero_le _, rfl, Below.refl _ _⟩
  case round =>
    obtain ⟨k, hk, rfl, hb⟩ := hrel
    have HB := Lib.hid hb
    by_cases hlt : k < n
    · obtain ⟨b1, o1, hA1, hb1, x, hx, -, hc1⟩ := (H1.out.keep hB hb).at hlt
      obtain ⟨b2, o2, hA2, hb2, y, hy, -, hc2⟩ := (H2.out.keep hB' hb).at hlt
      obtain rfl : x = y := Option.some.inj (hx.symm.trans hy)
      clear hx hy hb
      go_wp2_with fail
      go_quiet (fail)
      go_wp2_with fail
      (try rw [← hA1, ← hA2])
      go_roundw
      case rel => exact ⟨k + 1, by omega, by go_num, below_drewN HB.out _⟩
      case measure => simp [intOf]; omega
    · obtain rfl : k = n := by omega
      clear hb
      go_wp2_with fail
      go_ret
      exact ⟨rfl, HB.out⟩
theorem info_int : (Tryd.prog.info? 3).map (fun i => (i.zero, i.size, i.bytes)) = some (some (.int .i64 0), 1, 8) := by kernel_rfl
def ivals (l : List Int) : List Value := l.map (Value.int .i64)
def CopyPost (l : List Int) (n : Nat) (w : World) (e : Ending) (w' : World) : Prop := ∃ A cap, e = .returned (.slice A n cap) ∧ Ints w' w'.heap.size A n l ∧ Below w.heap.size w w'
theorem ints_own {w : World} {base e n : Nat} {u : Value} {l : List Int} (h : w.ownsRow base e 1 u n (ivals l)) (hn : n ≤ 1000) (hwf : ∀ x ∈ l, (Lit.int .i64 x).wf = true) : ∃ A cap, u = .slice A n cap ∧ Ints w w.heap.size A n l := by
  have hl : l.length = n := by have := h.1; simpa [ivals] using this
  rcases h.2 with ⟨h1, h0⟩ | ⟨g, cap, cur, h1, _, hg, h4, h5, _⟩
  · subst h0
    subst h1
    exact ⟨none, 0, rfl, hl, by unfold maxLen; omega, hwf, fun h => by omega⟩
  · subst h1
    refine ⟨_, cap, rfl, hl, by unfold maxLen; omega, hwf, fun hn => ⟨g, 0, rfl, (Array.getElem?_eq_some_iff.1 hg).1, fun i hi => ?_⟩⟩
    rw [Nat.zero_add, h.cellAt i (by omega)]
    simp [ivals, hi]
set_option maxRecDepth 20000 in
set_option maxHeartbeats 2000000 in
theorem l_copy {w : World} {B : Nat} {A : Option Addr} {n cap : Nat} {l : List Int} (h1 : Ints w B A n l) (hB : B ≤ w.heap.size) (hn : n ≤ 1000) :
    Calls Tryd.prog 12 #[.slice A n cap] w (CopyPost l n w) := by
  have H1 := Lib.hid h1
  clear h1
  go_enter Tryd.func12, Tryd.ntmps12
  go_wp2_with fail
  go_loopw [3, 4] (fun v i0 wr => ∃ k : Nat, k ≤ n ∧ i0 = .int .i64 k ∧ wr.ownsRow w.heap.size 3 1 v k (ivals (l.take k)) ∧ Below w.heap.size w wr) (fun v i0 wr => n - (intOf i0).toNat)
  case atStart => exact ⟨0, Nat.zero_le _, rfl, ⟨rfl, .inl ⟨rfl, rfl⟩⟩, Below.refl _ _⟩
  case round =>
    obtain ⟨k, hk, rfl, howk, hb⟩ := hrel
    have HB := Lib.hid hb
    have hbs := hb.size
    by_cases hlt : k < n
    · obtain ⟨b1, o1, hA1, hb1, x, hx, -, hc1⟩ := (H1.out.keep hB hb).at hlt
      have HX := Lib.hid hx
      have hz3 : k + 1 ≤ maxLen := by unfold maxLen; omega
      have hz4 : (k + 1) * 8 ≤ 140737488355328 := by omega
      clear hx hb
      go_wp2_with (at_builtin; refine wp_app1 rfl _ _ _ rfl 3 1 8 _ Tryd.underlying25 info_int rfl (by decide) w.heap.size _ _ _ rfl howk [_] rfl rfl one_int hz3 hz4 hbs ?_; intro v7 w7 how7 hgrow7 hne7; have hb7 := HB.out.trans (below_grown howk hgrow7 hbs); clear hgrow7 hne7)
      have how8 : w7.ownsRow w.heap.size 3 1 v7 (k + 1) (ivals (l.take (k + 1))) := by
        rw [take_snoc' HX.out]; simpa [ivals] using how7
      clear how7 howk
      (try rw [← hA1])
      go_roundw
      case rel => exact ⟨k + 1, by omega, by go_num, how8, hb7⟩
      case measure => simp [intOf]; omega
    · obtain rfl : k = n := by omega
      rw [List.take_of_length_le (by rw [H1.out.1]; exact Nat.le_refl _)] at howk
      obtain ⟨AQ, capQ, rfl, hQ⟩ := ints_own howk hn H1.out.2.2.1
      have HQ := Lib.hid hQ
      clear howk hQ hb
      go_wp2_with fail
      go_ret
      exact ⟨AQ, capQ, rfl, HQ.out, HB.out⟩
end Go.Proofs.YtankpckkiikmaaaDoor
namespace Go.Proofs.YtankpckkiikmaaaDoor
open Go.RowKit Cod
def Cod.digB (x : Nat) : ByteArray := ⟨#[UInt8.ofNat (48 + x % 10)]⟩
theorem conv_dig (x : Int) (m : Nat) (h : x = m) (wz : World) : (convert 73 9 (.slice (some ⟨wz.heap.size, 0, none⟩) 1 1)).run Tryd.prog (wz.alloc (.cells #[.int .u8 (48 + x % 10)] 5)) = .ok (.string (digB m)) (wz.alloc (.cells #[.int .u8 (48 + x % 10)] 5)) := by
  subst h
  refine run_convert_bytes_back _ 73 9 5 ⟨wz.heap.size, 0, none⟩ 1 [UInt8.ofNat (48 + m % 10)] Tryd.underlying73 Tryd.underlying5 Tryd.underlying9 (fun j hj => ?_)
  have hj0 : j = 0 := by simp at hj; omega
  subst hj0
  rw [add_off, World.cell?_alloc_at _ _ _ _ rfl]
  simp
  omega
/-- What is done with: N's digits are those of m / 10, if there are any, and s. -/
def Cod.DecAt (N m : Nat) (s : ByteArray) : Prop := Lib.decDigits N = (if m < 10 then [] else Lib.decDigits (m / 10)) ++ s.data.toList
theorem dec_start (N : Nat) : DecAt N N (digB N) := by
  unfold DecAt
  rw [Lib.decDigits]
  by_cases h : N < 10
  · rw [dif_pos h, if_pos h]; simp [digB, Nat.mod_eq_of_lt h]
  · rw [dif_neg h, if_neg h]; rfl
theorem dec_step {N m : Nat} {s : ByteArray} (h : DecAt N m s) (hm : 10 ≤ m) : DecAt N (m / 10) (digB (m / 10) ++ s) := by
  unfold DecAt at *
  rw [h, if_neg (by omega)]
  rw [Lib.decDigits]
  by_cases h2 : m / 10 < 10
  · rw [dif_pos h2, if_pos h2]; simp [digB, Nat.mod_eq_of_lt h2]
  · rw [dif_neg h2, if_neg h2]; simp [digB]
theorem dec_end {N m : Nat} {s : ByteArray} (h : DecAt N m s) (hm : m < 10) : s.data.toList = Lib.decDigits N := by
  unfold DecAt at h
  rw [h, if_pos hm]; rfl
theorem dec_size {N m : Nat} {s : ByteArray} (h : DecAt N m s) (hN : N < 18446744073709551616) : s.size ≤ 20 := by
  unfold DecAt at h
  have h1 : (Lib.decDigits N).length ≤ 20 := by rw [Lib.decDigits_length]; exact Lib.nDigits_le20 N hN
  rw [h, List.length_append] at h1
  have : s.data.toList.length = s.size := rfl
  omega
set_option maxRecDepth 100000 in
set_option maxHeartbeats 2000000 in
theorem q_dec_pos (n : Nat) (hn : (n : Int) ≤ 9223372036854775807) (w : World) : Calls Tryd.prog 36 #[.int .i64 n] w fun e w' => e = .returned (.string (itB n)) ∧ Below w.heap.size w w' := by
  have hc := conv_dig n n rfl
  have hN : n < 18446744073709551616 := by omega
  have HN := Lib.hid hN
  have HS := Lib.hid (dec_start n)
  have HR : Hid (∀ s : ByteArray, s.data.toList = Lib.decDigits n → (⟨#[]⟩ : ByteArray) ++ s = itB n) := fun s h => by
    apply bytes_ext
    simp [itB, Lib.itoa, h]
  clear hN
  go_enter Tryd.func36, Tryd.ntmps36
  go_wp2_with fail
  go_loopw [4, 5] (fun u s wr => ∃ (m : Nat) (sb : ByteArray), u = .int .u64 m ∧ s = .string sb ∧ m ≤ n ∧ DecAt n m sb ∧ Below w.heap.size w wr) (fun u s wr => (intOf u).toNat)
  case atStart => exact ⟨n, _, rfl, rfl, Nat.le_refl _, HS.out, (Below.refl _ _).alloc (Nat.le_refl _) _⟩
  case round =>
    obtain ⟨m, sb, rfl, rfl, hm, hd, hb⟩ := hrel
    have hsz := dec_size hd HN.out
    have HD := Lib.hid hd
    have HB := Lib.hid hb
    clear hd hb hc
    by_cases h10 : 10 ≤ m
    · have h10' : ¬ (m : Int) < 10 := by omega
      have hc2 := conv_dig ((m : Int) / 10) (m / 10) (by omega)
      have hds : (digB (m / 10)).size = 1 := rfl
      go_wp2_with fail
      go_roundw
      case rel => exact ⟨m / 10, _, by go_num, rfl, by omega, dec_step HD.out h10, Gr.trans HB.out ((Below.refl _ _).alloc (Nat.le_refl _) _)⟩
      case measure => simp [intOf]; omega
    · have hr := HR.out sb (dec_end HD.out (by omega))
      go_wp2_with fail
      go_ret
      exact ⟨ret_str (by first | exact hr | (rw [← hr])), HB.out⟩
set_option maxRecDepth 100000 in
set_option maxHeartbeats 2000000 in
theorem q_dec_neg (n : Int) (h0 : n < 0) (h1 : -9223372036854775808 ≤ n) (w : World) : Calls Tryd.prog 36 #[.int .i64 n] w fun e w' => e = .returned (.string (itB n)) ∧ Below w.heap.size w w' := by
  obtain ⟨M, hM⟩ : ∃ M : Nat, M = n.natAbs := ⟨_, rfl⟩
  have hneg : IntKind.u64.wrap (-IntKind.u64.wrap n) = (M : Int) := by
    simp [IntKind.wrap, IntKind.bits, IntKind.signed]
    omega
  have hMb : (M : Int) ≤ 9223372036854775808 := by omega
  have hc := conv_dig M M rfl
  have hN : M < 18446744073709551616 := by omega
  have HN := Lib.hid hN
  have HS := Lib.hid (dec_start M)
  have HR : Hid (∀ s : ByteArray, s.data.toList = Lib.decDigits M → (⟨#[45]⟩ : ByteArray) ++ s = itB n) := fun s h => by
    apply bytes_ext
    simp [itB, Lib.itoa, h, h0, hM]
  clear hN hM
  go_enter Tryd.func36, Tryd.ntmps36
  go_wp2_with fail
  go_loopw [4, 5] (fun u s wr => ∃ (m : Nat) (sb : ByteArray), u = .int .u64 m ∧ s = .string sb ∧ m ≤ M ∧ DecAt M m sb ∧ Below w.heap.size w wr) (fun u s wr => (intOf u).toNat)
  case atStart => exact ⟨M, _, rfl, rfl, Nat.le_refl _, HS.out, (Below.refl _ _).alloc (Nat.le_refl _) _⟩
  case round =>
    obtain ⟨m, sb, rfl, rfl, hm, hd, hb⟩ := hrel
    have hsz := dec_size hd HN.out
    have HD := Lib.hid hd
    have HB := Lib.hid hb
    have hmb : (m : Int) ≤ 9223372036854775808 := by omega
    clear hd hb hc
    by_cases h10 : 10 ≤ m
    · have h10' : ¬ (m : Int) < 10 := by omega
      have hc2 := conv_dig ((m : Int) / 10) (m / 10) (by omega)
      have hds : (digB (m / 10)).size = 1 := rfl
      go_wp2_with fail
      go_roundw
      case rel => exact ⟨m / 10, _, by go_num, rfl, by omega, dec_step HD.out h10, Gr.trans HB.out ((Below.refl _ _).alloc (Nat.le_refl _) _)⟩
      case measure => simp [intOf]; omega
    · have hr := HR.out sb (dec_end HD.out (by omega))
      go_wp2_with fail
      go_ret
      exact ⟨ret_str (by first | exact hr | (rw [← hr])), HB.out⟩
theorem q_dec (n : Int) (hn : (Lit.int .i64 n).wf = true) (w : World) : Calls Tryd.prog 36 #[.int .i64 n] w fun e w' => e = .returned (.string (itB n)) ∧ Below w.heap.size w w' := by
  obtain ⟨n1, n2⟩ := i64_bd hn
  by_cases h : n < 0
  · exact q_dec_neg n h n1 w
  · obtain ⟨k, rfl⟩ : ∃ k : Nat, n = k := ⟨n.toNat, by omega⟩
    exact q_dec_pos k n2 w
end Go.Proofs.YtankpckkiikmaaaDoor
