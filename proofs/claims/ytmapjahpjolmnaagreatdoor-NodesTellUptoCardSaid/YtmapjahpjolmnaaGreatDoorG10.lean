/- The virtual answer of every operation, and that it is sound. -/
import Derived.Test.YtmapjahpjolmnaaGreatDoorG9
import Derived.Laws.Externs
import Derived.Deep.Quiet
import Derived.LoopN
set_option linter.unusedVariables false
set_option linter.unusedSimpArgs false
namespace Go.Proofs.YtmapjahpjolmnaaGreatDoor
namespace Vm
set_option linter.unusedSimpArgs false
set_option linter.unusedVariables false
open Go.RowKit

inductive VN where
  | val (v : Value) (σ : VHeap)
  | skip (σ : VHeap)
  | enter (f : FuncId) (args : Array Value) (σ : VHeap)
  | pan (v : Value) (σ : VHeap)
def vv (r : Option (Value × VHeap)) : Option VN :=
  match r with
  | some (v, σ) => some (.val v σ)
  | none => none
def vu (r : Option (Unit × VHeap)) : Option VN :=
  match r with
  | some (_, σ) => some (.skip σ)
  | none => none
def pureOp (P : Program) (o : Oper) (ev : Operand → Value) : Option Value :=
  match o.op with
  | .select _ _ => none
  | _ =>
    bif o.op.operands.all (fun x => clean (ev x)) then
      match pv P (execOp ev o) with
      | some (.value v) => bif clean v then some v else none
      | _ => none
    else none
def vcall (P : Program) (ev : Operand → Value) (c : Call) (type : TypeId) (σ : VHeap) : Option VN :=
  match c.callee with
  | .value f =>
    match ev f with
    | .func (.func g) first captured =>
      match P.funcs[g]? with
      | some fn => if fn.body.isSome = true ∧ fn.name ≠ "runtime.NumGoroutine" then some (.enter g (first ++ c.args.map ev ++ captured) σ)
        else if fn.name = "internal/abi.NoEscape" ∧ fn.body.isNone = true ∧ (Extern.findNext fn).isNone = true then match first ++ c.args.map ev ++ captured with
          | ⟨[x]⟩ => some (.val x σ)
          | _ => none
        else if fn.name = "internal/bytealg.MakeNoZero" ∧ fn.body.isNone = true ∧ (Extern.findNext fn).isNone = true then vv (vmnz P fn (first ++ c.args.map ev ++ captured) σ)
        else none
      | none => none
    | _ => none
  | .invoke _ _ => none
  | .builtin b =>
    match b, c.args.map ev with
    | .append, ⟨[s, x]⟩ => vv (vappend P σ c.argTypes s x)
    | .len, ⟨[x]⟩ => match x with
      | .chan _ => none
      | x => vv (vrun P (Builtin.len_ c.argTypes type #[x]) σ)
    | .copy, ⟨[x, y]⟩ => vv (vrun P (Builtin.copy_ c.argTypes type #[x, y]) σ)
    | .delete, ⟨[m, k]⟩ => bif ((c.argTypes[0]?).all (basicKey P)) && cleanC k then vv (vrun P (Builtin.delete_ c.argTypes type #[m, k]) σ) else none
    | .clear, ⟨[x]⟩ => bif ((c.argTypes[0]?).all (elemZeroOk P)) then vv (vrun P (Builtin.clear_ c.argTypes type #[x]) σ) else none
    | .unsafeSliceData, ⟨[x]⟩ => match vsdata x with
      | some v => some (.val v σ)
      | none => none
    | .unsafeString, ⟨[x, y]⟩ => vv (vustr P σ c.argTypes x y)
    | _, _ => none
def vop (P : Program) (o : Oper) (ev : Operand → Value) (σ : VHeap) : Option VN :=
  match pureOp P o ev with
  | some v => some (.val v σ)
  | none =>
    match o.op with
    | .move x | .assign x => some (.val (ev x) σ)
    | .pick c a b => match ev c with
      | .bool t => some (.val (bif t then ev a else ev b) σ)
      | _ => none
    | .alloc e => bif zeroOk P e then vv (vrun P (Instr.alloc e true (.tuple #[])) σ) else none
    | .box e x => vv (vrun P (Instr.box e (ev x)) σ)
    | .build t parts => bif zeroOk P t then vv (vrun P (Instr.build t (parts.map fun (i, x) => (i, ev x))) σ) else none
    | .buildSlice t n parts => bif elemZeroOk P t then vv (vrun P (Instr.buildSlice t n (parts.map fun (i, x) => (i, ev x))) σ) else none
    | .load t a => vv (vrun P (Instr.loadAt t (gres σ (ev a))) σ)
    | .store t a x => vu (vrun P (Instr.storeAt t (ev a) (ev x)) σ)
    | .nilCheck x => match ev x with
      | .pointer (some a) => some (.val (.pointer (some a)) σ)
      | .func (.func f) xs ys => some (.val (.func (.func f) xs ys) σ)
      | _ => none
    | .binOp op t x y _ => bif vNil P t (ev x) (ev y) then (match op with
        | .eql => some (.val (.bool false) σ)
        | .neq => some (.val (.bool true) σ)
        | _ => none) else bif vSame P t (ev x) (ev y) then (match op with
        | .eql => some (.val (.bool true) σ)
        | .neq => some (.val (.bool false) σ)
        | _ => none) else none
    | .convert src dst x => vv (vconvert P σ src dst (ev x))
    | .makeInterface t x => vv (vrun P (Instr.makeInterface t (ev x)) σ)
    | .makeFunc fn xs ys => some (.val (.func fn (xs.map ev) (ys.map ev)) σ)
    | .makeMap t r => vv (vrun P (Instr.makeMap t (r.map ev)) σ)
    | .makeSlice t l c => bif elemZeroOk P t then vv (vrun P (Instr.makeSlice t (ev l) (ev c)) σ) else none
    | .slice t x lo hi mx => match vslice P σ t (gres σ (ev x)) (lo.map ev) (hi.map ev) (mx.map ev) with
      | some v => some (.val v σ)
      | none => none
    | .fieldAddr s x f => vv (vrun P (Instr.fieldAt s (gres σ (ev x)) f) σ)
    | .field t x f => vv (vrun P (Instr.field t (ev x) f) σ)
    | .indexAddr t x i => vv (vrun P (Instr.indexAt t (gres σ (ev x)) (ev i)) σ)
    | .index t x i => vv (vrun P (Instr.index t (ev x) (ev i)) σ)
    | .lookup t m k ok => bif basicKey P t && elemZeroOk P t && cleanC (ev k) then vv (vrun P (Instr.lookup t (ev m) (ev k) ok) σ) else none
    | .mapUpdate t m k x | .insert t m k x => bif basicKey P t && cleanC (ev k) then vu (vrun P (Instr.mapUpdate t (ev m) (ev k) (ev x)) σ) else none
    | .mapEntry t m k => bif basicKey P t && elemZeroOk P t && cleanC (ev k) then vv (vrun P (Instr.mapEntry t (ev m) (ev k)) σ) else none
    | .entryStore t m s x => vu (vrun P (Instr.entryStore t (ev m) (ev s) (ev x)) σ)
    | .range t x => match ev x with
      | .string s => vv (vrun P (Instr.range t (.string s)) σ)
      | _ => none
    | .next it true => vv (vrun P (Instr.next (ev it) true o.type) σ)
    | .extract t i => vv (vrun P (Instr.extract (ev t) i) σ)
    | .panic x => match ev x with
      | .iface t v => some (.pan (.iface t v) σ)
      | _ => none
    | .call c => vcall P ev c o.type σ
    | _ => none

theorem find_noEscape {fn : Func} (h : fn.name = "internal/abi.NoEscape") : Extern.find fn = some Extern.AbiNoEscape.same := by
  unfold Extern.find
  have e1 : Extern.allGenericRows.lookup "internal/abi.NoEscape" = none := by kernel_rfl
  have e2 : Extern.allTypedRows.lookup "internal/abi.NoEscape" = none := by kernel_rfl
  have e3 : Extern.allRows.lookup "internal/abi.NoEscape" = some Extern.AbiNoEscape.same := by kernel_rfl
  simp only [h, e1, e2, e3]
  rfl
section
variable {P : Program} {w0 w : World} {B0 : Base} {ρ : Rho} {σ : VHeap}
def OpOk (w0 : World) (B0 : Base) (ρ : Rho) : VN → Result Next → Prop
  | .val v σ', r => ∃ ρ2 v' w', ρ.le ρ2 ∧ r = .ok (.value v') w' ∧ VRel ρ2 v v' ∧ WRel ρ2 σ' w0 w' B0
  | .skip σ', r => ∃ ρ2 w', ρ.le ρ2 ∧ r = .ok .skip w' ∧ WRel ρ2 σ' w0 w' B0
  | .enter f args σ', r => ∃ ρ2 args' w', ρ.le ρ2 ∧ r = .ok (.enter f args') w' ∧ ARel ρ2 args args' ∧ WRel ρ2 σ' w0 w' B0
  | .pan v σ', r => ∃ ρ2 v' w', ρ.le ρ2 ∧ r = .halt (.panic v') w' ∧ VRel ρ2 v v' ∧ WRel ρ2 σ' w0 w' B0
theorem vv_ok {s t : Sem Value} {r : VN} (hw : WRel ρ σ w0 w B0) (hs : SR P w0 B0 ρ VRel s t) (h : vv (vrun P s σ) = some r) : OpOk w0 B0 ρ r ((do pure (.value (← t)) : Sem Next).run P w) := by
  unfold vv at h
  split at h
  case h_2 => cases h
  rename_i v σ' hv
  cases h
  obtain ⟨ρ2, y, w', h1, h2, h3, h4⟩ := hs ρ σ w v σ' (Rho.le_refl _) hw hv
  exact ⟨ρ2, y, w', h1, by rw [Sem.run_bind, h2]; rfl, h3, h4⟩
theorem vu_ok {s t : Sem Unit} {r : VN} (hw : WRel ρ σ w0 w B0) (hs : SR P w0 B0 ρ TrueR s t) (h : vu (vrun P s σ) = some r) : OpOk w0 B0 ρ r ((do t; pure .skip : Sem Next).run P w) := by
  unfold vu at h
  split at h
  case h_2 => cases h
  rename_i v σ' hv
  cases h
  obtain ⟨ρ2, y, w', h1, h2, h3, h4⟩ := hs ρ σ w v σ' (Rho.le_refl _) hw hv
  exact ⟨ρ2, w', h1, by rw [Sem.run_bind, h2]; rfl, h4⟩
theorem val_ok {v v' : Value} (hw : WRel ρ σ w0 w B0) (hv : VRel ρ v v') : OpOk w0 B0 ρ (.val v σ) (.ok (.value v') w) := ⟨ρ, v', w, Rho.le_refl _, rfl, hv, hw⟩
theorem pureOp_ok {o : Oper} {ev er : Operand → Value} {v : Value} (hE : ∀ x ∈ o.op.operands, VRel ρ (ev x) (er x)) (h : pureOp P o ev = some v) : clean v = true ∧ (execOp er o).run P w = .ok (.value v) w := by
  unfold pureOp at h
  split at h
  · cases h
  · rename_i hs
    cases hc : o.op.operands.all (fun x => clean (ev x)) with
    | false => rw [hc] at h; cases h
    | true =>
      rw [hc] at h
      simp only [cond_true] at h
      split at h
      case h_2 => cases h
      rename_i v' hp
      cases hv : clean v' with
      | false => rw [hv] at h; cases h
      | true =>
        rw [hv] at h
        cases h
        refine ⟨hv, ?_⟩
        have : execOp er o = execOp ev o := execOp_congr o (fun cs b e => hs cs b e) (fun x hx => clean_eq (by
          obtain ⟨k, hk, rfl⟩ := Array.getElem_of_mem hx
          exact Array.all_eq_true.1 hc k hk) (hE x hx))
        rw [this]
        exact pv_run hp w
theorem parts_rel {ev er : Operand → Value} (parts : Array (Nat × Operand)) (h : ∀ p ∈ parts, VRel ρ (ev p.2) (er p.2)) :
    PartsRel ρ (parts.map fun (i, x) => (i, ev x)).toList (parts.map fun (i, x) => (i, er x)).toList := by
  obtain ⟨l⟩ := parts
  simp only [List.map_toArray]
  have h' : ∀ p ∈ l, VRel ρ (ev p.2) (er p.2) := fun p hp => h p (by simpa using hp)
  clear h
  induction l with
  | nil => exact .nil
  | cons p l ih => exact .cons ⟨rfl, h' p (by simp)⟩ (ih fun q hq => h' q (by simp [hq]))
theorem omap_rel {ev er : Operand → Value} (x : Option Operand) (h : ∀ y, x = some y → VRel ρ (ev y) (er y)) : ORel ρ (x.map ev) (x.map er) := by
  cases x with
  | none => trivial
  | some y => exact h y rfl
theorem vcall_ok {c : Call} {type : TypeId} {ev er : Operand → Value} {r : VN} (hw : WRel ρ σ w0 w B0) (hE : ∀ x ∈ c.operands, VRel ρ (ev x) (er x)) (h : vcall P ev c type σ = some r) :
    OpOk w0 B0 ρ r ((do let d ← resolve er c type; invoke d.target d.args : Sem Next).run P w) := by
  have hargs : ARel ρ (c.args.map ev) (c.args.map er) := ARel.map _ _ _ fun x hx => hE x (by simp [Call.operands, hx])
  unfold vcall at h
  unfold resolve
  cases hc : c.callee with
  | invoke a b => simp [hc] at h
  | value f =>
    simp only [hc] at h ⊢
    have hf := hE f (by simp [Call.operands, hc])
    split at h
    case h_2 => cases h
    rename_i g first captured hev
    rw [hev] at hf
    split at h
    case h_2 => cases h
    rename_i fn hfn
    split at h
    case isFalse =>
      split at h
      case isFalse =>
        split at h
        case isFalse => cases h
        rename_i hx
        unfold vv at h
        split at h
        case h_2 => cases h
        rename_i v σ' hv
        cases h
        generalize er f = ef at hf
        cases hf with
        | func _ h1 h2 g1 g2 =>
          have hall := ARel.append (ARel.append ⟨h1, h2⟩ hargs) ⟨g1, g2⟩
          obtain ⟨ρ2, v', w', q1, q2, q3, q4⟩ := vmnz_ok hw hall hv
          refine ⟨ρ2, v', w', q1, ?_, q3, q4⟩
          unfold Deferred.ofValue
          simp only [Sem.run_bind, Sem.run_pure, Result.andThen_ok]
          unfold invoke
          simp only [Sem.run_bind]
          rw [run_callFunc_extern hfn (by rw [hx.1]; decide) hx.2.1 (Option.isNone_iff_eq_none.1 hx.2.2) (find_mnz hx.1), q2]
          rfl
      rename_i hx
      split at h
      case h_2 => cases h
      rename_i x hxs
      cases h
      generalize er f = ef at hf
      cases hf with
      | func _ h1 h2 g1 g2 =>
        have hall := ARel.append (ARel.append ⟨h1, h2⟩ hargs) ⟨g1, g2⟩
        rw [hxs] at hall
        unfold Deferred.ofValue
        simp only [Sem.run_bind, Sem.run_pure, Result.andThen_ok]
        unfold invoke
        simp only [Sem.run_bind]
        rw [run_callFunc_extern hfn (by rw [hx.1]; decide) hx.2.1 (Option.isNone_iff_eq_none.1 hx.2.2) (find_noEscape hx.1)]
        generalize first ++ c.args.map ev ++ captured = l0 at hxs hall
        rename_i ys vs
        generalize hL : ys ++ c.args.map er ++ vs = l at hall ⊢
        obtain ⟨l⟩ := l
        match l, hall with
        | [x'], hall => exact ⟨ρ, x', w, Rho.le_refl _, rfl, hall.2 0 (by simp) (by simp), hw⟩
        | [], hall => exact absurd hall.1 (by simp)
        | _ :: _ :: _, hall => exact absurd hall.1 (by simp)
    rename_i hb
    cases h
    generalize er f = ef at hf
    cases hf with
    | func _ h1 h2 g1 g2 =>
      refine ⟨ρ, _, w, Rho.le_refl _, ?_, (ARel.append (ARel.append ⟨h1, h2⟩ hargs) ⟨g1, g2⟩), hw⟩
      unfold Deferred.ofValue
      simp only [Sem.run_bind, Sem.run_pure, Result.andThen_ok]
      unfold invoke callFunc
      simp only [Sem.run_bind, run_program, Result.andThen_ok, hfn]
      have hnb : fn.body.isNone = false := by cases hbo : fn.body with | none => simp [hbo] at hb | some b => rfl
      have hnm : (fn.name == "runtime.NumGoroutine") = false := by simpa using hb.2
      simp only [hnm, hnb, Bool.false_eq_true, if_false]
      rfl
  | builtin b =>
    simp only [hc] at h ⊢
    simp only [Sem.run_bind, Sem.run_pure, Result.andThen_ok]
    unfold invoke
    split at h
    · rename_i s x hxs
      rw [hxs] at hargs
      unfold vv at h
      split at h
      case h_2 => cases h
      rename_i v σ' hv
      cases h
      have hsz := hargs.1
      obtain ⟨s', x', he⟩ : ∃ s' x', c.args.map er = #[s', x'] := by
        generalize c.args.map er = l at hsz
        obtain ⟨l⟩ := l
        match l, hsz with
        | [a, b], _ => exact ⟨a, b, rfl⟩
      rw [he] at hargs ⊢
      obtain ⟨ρ2, v', w', g1, g2, g3, g4⟩ := vappend_ok (t := type) hw (hargs.2 0 (by simp) (by simp)) (hargs.2 1 (by simp) (by simp)) hv
      refine ⟨ρ2, v', w', g1, ?_, g3, g4⟩
      unfold builtin
      rw [Sem.run_bind]
      simp only [List.getElem_toArray, List.getElem_cons_zero, List.getElem_cons_succ] at g2
      rw [g2]
      rfl
    · rename_i x hxs
      rw [hxs] at hargs
      have hsz := hargs.1
      obtain ⟨x', he⟩ : ∃ x', c.args.map er = #[x'] := by
        generalize c.args.map er = l at hsz
        obtain ⟨l⟩ := l
        match l, hsz with
        | [a], _ => exact ⟨a, rfl⟩
      rw [he] at hargs ⊢
      split at h
      · cases h
      · rename_i hnc
        exact vv_ok hw (SR.len (hargs.2 0 (by simp) (by simp)) c.argTypes type (fun r e => hnc r e)) h
    · rename_i x y hxs
      rw [hxs] at hargs
      have hsz := hargs.1
      obtain ⟨x', y', he⟩ : ∃ s' x', c.args.map er = #[s', x'] := by
        generalize c.args.map er = l at hsz
        obtain ⟨l⟩ := l
        match l, hsz with
        | [a, b], _ => exact ⟨a, b, rfl⟩
      rw [he] at hargs ⊢
      exact vv_ok hw (SR.copy (hargs.2 0 (by simp) (by simp)) (hargs.2 1 (by simp) (by simp))) h
    · rename_i m k hxs
      rw [hxs] at hargs
      have hsz := hargs.1
      obtain ⟨m', k', he⟩ : ∃ s' x', c.args.map er = #[s', x'] := by
        generalize c.args.map er = l at hsz
        obtain ⟨l⟩ := l
        match l, hsz with
        | [a, b], _ => exact ⟨a, b, rfl⟩
      rw [he] at hargs ⊢
      cases hcond : ((c.argTypes[0]?).all (basicKey P)) && cleanC k with
      | false => rw [hcond] at h; cases h
      | true =>
        rw [hcond] at h
        simp only [Bool.and_eq_true] at hcond
        obtain rfl : k' = k := cleanC_eq hcond.2 (hargs.2 1 (by simp) (by simp))
        exact vv_ok hw (SR.delete (fun mt hmt => by have := hcond.1; rw [hmt] at this; simpa using this) hcond.2 (hargs.2 0 (by simp) (by simp))) h
    · rename_i x hxs
      rw [hxs] at hargs
      have hsz := hargs.1
      obtain ⟨x', he⟩ : ∃ x', c.args.map er = #[x'] := by
        generalize c.args.map er = l at hsz
        obtain ⟨l⟩ := l
        match l, hsz with
        | [a], _ => exact ⟨a, rfl⟩
      rw [he] at hargs ⊢
      cases hcond : ((c.argTypes[0]?).all (elemZeroOk P)) with
      | false => rw [hcond] at h; cases h
      | true =>
        rw [hcond] at h
        exact vv_ok hw (SR.clear (fun mt hmt => by rw [hmt] at hcond; simpa using hcond) (hargs.2 0 (by simp) (by simp))) h
    · rename_i x hxs
      rw [hxs] at hargs
      have hsz := hargs.1
      obtain ⟨x', he⟩ : ∃ x', c.args.map er = #[x'] := by
        generalize c.args.map er = l at hsz
        obtain ⟨l⟩ := l
        match l, hsz with
        | [a], _ => exact ⟨a, rfl⟩
      rw [he] at hargs ⊢
      split at h
      case h_2 => cases h
      rename_i v hv
      cases h
      obtain ⟨v', q1, q2⟩ := vsdata_ok (P := P) (ts := c.argTypes) (t := type) (hargs.2 0 (by simp) (by simp)) hv w
      refine ⟨ρ, v', w, Rho.le_refl _, ?_, q2, hw⟩
      unfold builtin
      simp only [List.getElem_toArray, List.getElem_cons_zero] at q1
      rw [Sem.run_bind, q1]
      rfl
    · rename_i x y hxs
      rw [hxs] at hargs
      have hsz := hargs.1
      obtain ⟨x', y', he⟩ : ∃ s' x', c.args.map er = #[s', x'] := by
        generalize c.args.map er = l at hsz
        obtain ⟨l⟩ := l
        match l, hsz with
        | [a, b], _ => exact ⟨a, b, rfl⟩
      rw [he] at hargs ⊢
      unfold vv at h
      split at h
      case h_2 => cases h
      rename_i v σ' hv
      cases h
      obtain ⟨w', q1, q2, q3⟩ := vustr_ok (t := type) hw (hargs.2 0 (by simp) (by simp)) (hargs.2 1 (by simp) (by simp)) hv
      refine ⟨ρ, v, w', Rho.le_refl _, ?_, q2, q3⟩
      unfold builtin
      simp only [List.getElem_toArray, List.getElem_cons_zero, List.getElem_cons_succ] at q1
      rw [Sem.run_bind, q1]
      rfl
    · cases h
theorem vop_ok {o : Oper} {ev er : Operand → Value} {r : VN} (hw : WRel ρ σ w0 w B0) (hE : ∀ x ∈ o.op.operands, VRel ρ (ev x) (er x)) (h : vop P o ev σ = some r) :
    OpOk w0 B0 ρ r ((execOp er o).run P w) := by
  unfold vop at h
  split at h
  · rename_i v hv
    cases h
    obtain ⟨hc, hrun⟩ := pureOp_ok (w := w) hE hv
    rw [hrun]
    exact val_ok hw (clean_rel hc ρ)
  · rename_i hnp
    clear hnp
    unfold execOp
    obtain ⟨dst, op, type, pos, after, guard⟩ := o
    simp only at h hE ⊢
    cases op <;> dsimp only at h ⊢ <;> first | (cases h; done) | skip
    case move x => cases h; exact val_ok hw (hE x (by simp [Op.operands]))
    case assign x => cases h; exact val_ok hw (hE x (by simp [Op.operands]))
    case pick c a b =>
      have hc := hE c (by simp [Op.operands])
      have ha := hE a (by simp [Op.operands])
      have hb := hE b (by simp [Op.operands])
      split at h
      case h_2 => cases h
      rename_i t he
      rw [he] at hc
      generalize er c = ec at hc
      cases hc
      cases h
      simp only [asBool, Sem.run_bind, Sem.run_pure, Result.andThen_ok]
      cases t
      · exact val_ok hw hb
      · exact val_ok hw ha
    case alloc e =>
      cases hz : zeroOk P e with
      | false => rw [hz] at h; cases h
      | true => rw [hz] at h; exact vv_ok hw (SR.alloc hz) h
    case box e x => exact vv_ok hw (SR.box (hE x (by simp [Op.operands])) e) h
    case build t parts =>
      cases hz : zeroOk P t with
      | false => rw [hz] at h; cases h
      | true => rw [hz] at h; exact vv_ok hw (SR.build hz (parts_rel parts fun p hp => hE p.2 (by simp only [Op.operands]; simpa using ⟨p.1, hp⟩))) h
    case buildSlice t n parts =>
      cases hz : elemZeroOk P t with
      | false => rw [hz] at h; cases h
      | true => rw [hz] at h; exact vv_ok hw (SR.buildSlice hz (parts_rel parts fun p hp => hE p.2 (by simp only [Op.operands]; simpa using ⟨p.1, hp⟩))) h
    case load t a => exact vv_ok hw (SR.loadAt (gres_ok hw (hE a (by simp [Op.operands]))) t) h
    case store t a x => exact vu_ok hw (SR.storeAt (hE a (by simp [Op.operands])) (hE x (by simp [Op.operands])) t) h
    case nilCheck x =>
      have hx := hE x (by simp [Op.operands])
      split at h
      · rename_i a he
        rw [he] at hx
        cases h
        generalize er x = ex at hx
        cases hx with
        | ptr hi => exact val_ok hw (.ptr hi)
      · rename_i f xs ys he
        rw [he] at hx
        cases h
        generalize er x = ex at hx
        cases hx with
        | func fn h1 h2 g1 g2 => exact val_ok hw (.func _ h1 h2 g1 g2)
      · cases h
    case binOp op t x y yt =>
      cases hn : vNil P t (ev x) (ev y) with
      | false =>
        rw [hn] at h
        simp only [cond_false] at h
        cases hs : vSame P t (ev x) (ev y) with
        | false => rw [hs] at h; cases h
        | true =>
          rw [hs] at h
          simp only [cond_true] at h
          have hok := fun op => vSame_ok (hE x (by simp [Op.operands])) (hE y (by simp [Op.operands])) hs w op x y
          split at h
          · cases h
            simp only [Sem.run_bind, pv_run (hok _).1, Result.andThen_ok, (hok .eql).2.1]
            exact val_ok hw (.bool _)
          · cases h
            simp only [Sem.run_bind, pv_run (hok _).1, Result.andThen_ok, (hok .neq).2.2]
            exact val_ok hw (.bool _)
          · cases h
      | true =>
        rw [hn] at h
        have hx := hE x (by simp [Op.operands])
        have hy := hE y (by simp [Op.operands])
        have hg := fun op => vNil_guard (op := op) (a := x) (b := y) hx hy hn
        obtain ⟨h1, h2⟩ := vNil_bin hx hy hn
        simp only [cond_true] at h
        split at h
        · cases h
          simp only [Sem.run_bind, pv_run (hg _), Result.andThen_ok, pv_run h1]
          exact val_ok hw (.bool _)
        · cases h
          simp only [Sem.run_bind, pv_run (hg _), Result.andThen_ok, pv_run h2]
          exact val_ok hw (.bool _)
        · cases h
    case convert src dst x =>
      unfold vv at h
      split at h
      case h_2 => cases h
      rename_i v σ' hv
      cases h
      obtain ⟨ρ2, v', w', g1, g2, g3, g4⟩ := vconvert_ok hw (hE x (by simp [Op.operands])) hv
      exact ⟨ρ2, v', w', g1, by rw [Sem.run_bind, g2]; rfl, g3, g4⟩
    case makeInterface t x => exact vv_ok hw (SR.makeInterface (hE x (by simp [Op.operands])) t) h
    case makeFunc fn xs ys =>
      cases h
      have h1 : ARel ρ (xs.map ev) (xs.map er) := ARel.map _ _ _ fun x hx => hE x (by simp [Op.operands, hx])
      have h2 : ARel ρ (ys.map ev) (ys.map er) := ARel.map _ _ _ fun x hx => hE x (by simp [Op.operands, hx])
      exact ⟨ρ, _, w, Rho.le_refl _, rfl, .func fn h1.1 h1.2 h2.1 h2.2, hw⟩
    case makeMap t r =>
      refine vv_ok hw (SR.makeMap t ?_) h
      cases r with
      | none => trivial
      | some x => exact hE x (by simp [Op.operands])
    case makeSlice t l c =>
      cases hz : elemZeroOk P t with
      | false => rw [hz] at h; cases h
      | true => rw [hz] at h; exact vv_ok hw (SR.makeSlice hz (hE l (by simp [Op.operands])) (hE c (by simp [Op.operands]))) h
    case slice t x lo hi mx =>
      split at h
      case h_2 => cases h
      rename_i v hv
      cases h
      obtain ⟨v', h1, h2⟩ := vslice_ok hw (gres_ok hw (hE x (by simp [Op.operands]))) (omap_rel lo fun y e => hE y (by subst e; simp [Op.operands])) (omap_rel hi fun y e => hE y (by subst e; simp [Op.operands])) (omap_rel mx fun y e => hE y (by subst e; simp [Op.operands])) hv
      exact ⟨ρ, v', w, Rho.le_refl _, by rw [Sem.run_bind, pv_run h1]; rfl, h2, hw⟩
    case fieldAddr s x f => exact vv_ok hw (SR.fieldAt (gres_ok hw (hE x (by simp [Op.operands]))) s f) h
    case field t x f => exact vv_ok hw (SR.field (hE x (by simp [Op.operands])) t f) h
    case indexAddr t x i => exact vv_ok hw (SR.indexAt (gres_ok hw (hE x (by simp [Op.operands]))) (hE i (by simp [Op.operands])) t) h
    case index t x i => exact vv_ok hw (SR.index (hE x (by simp [Op.operands])) (hE i (by simp [Op.operands])) t) h
    case lookup t m k ok =>
      cases hc : (basicKey P t && elemZeroOk P t && cleanC (ev k)) with
      | false => rw [hc] at h; cases h
      | true =>
        rw [hc] at h
        simp only [Bool.and_eq_true] at hc
        rw [cleanC_eq hc.2 (hE k (by simp [Op.operands]))]
        exact vv_ok hw (SR.lookup hc.1.1 hc.1.2 hc.2 (hE m (by simp [Op.operands])) ok) h
    case mapUpdate t m k x =>
      cases hc : (basicKey P t && cleanC (ev k)) with
      | false => rw [hc] at h; cases h
      | true =>
        rw [hc] at h
        simp only [Bool.and_eq_true] at hc
        rw [cleanC_eq hc.2 (hE k (by simp [Op.operands]))]
        exact vu_ok hw (SR.mapUpdate hc.1 hc.2 (hE m (by simp [Op.operands])) (hE x (by simp [Op.operands]))) h
    case insert t m k x =>
      cases hc : (basicKey P t && cleanC (ev k)) with
      | false => rw [hc] at h; cases h
      | true =>
        rw [hc] at h
        simp only [Bool.and_eq_true] at hc
        rw [cleanC_eq hc.2 (hE k (by simp [Op.operands]))]
        exact vu_ok hw (SR.mapUpdate hc.1 hc.2 (hE m (by simp [Op.operands])) (hE x (by simp [Op.operands]))) h
    case mapEntry t m k =>
      cases hc : (basicKey P t && elemZeroOk P t && cleanC (ev k)) with
      | false => rw [hc] at h; cases h
      | true =>
        rw [hc] at h
        simp only [Bool.and_eq_true] at hc
        rw [cleanC_eq hc.2 (hE k (by simp [Op.operands]))]
        exact vv_ok hw (SR.mapEntry hc.1.1 hc.1.2 hc.2 (hE m (by simp [Op.operands]))) h
    case entryStore t m s x => exact vu_ok hw (SR.entryStore (hE m (by simp [Op.operands])) (hE s (by simp [Op.operands])) (hE x (by simp [Op.operands]))) h
    case range t x =>
      have hx := hE x (by simp [Op.operands])
      split at h
      case h_2 => cases h
      rename_i s he
      rw [he] at hx
      exact vv_ok hw (SR.range hx ⟨s, rfl⟩ t) h
    case next it b =>
      cases b with
      | false => cases h
      | true => exact vv_ok hw (SR.next (hE it (by simp [Op.operands])) type) h
    case extract t i => exact vv_ok hw (SR.extract (hE t (by simp [Op.operands])) i) h
    case call c => exact vcall_ok hw (fun x hx => hE x (by simpa [Op.operands] using hx)) h
    case panic x =>
      have hx := hE x (by simp [Op.operands])
      split at h
      case h_2 => cases h
      rename_i t v he
      rw [he] at hx
      cases h
      generalize er x = ex at hx
      cases hx with
      | iface _ hv => exact ⟨ρ, _, w, Rho.le_refl _, rfl, .iface t hv, hw⟩
end
end Vm
end Go.Proofs.YtmapjahpjolmnaaGreatDoor
namespace Go.Proofs.YtmapjahpjolmnaaGreatDoor
namespace Vm
set_option linter.unusedSimpArgs false
set_option linter.unusedVariables false
open Go.RowKit

/-- Code that writes nothing. -/
def noW {α : Type} : Sem α → Prop
  | .pure _ => True
  | .load _ _ k => ∀ v, noW (k v)
  | .program k => ∀ P, noW (k P)
  | .mark _ k => noW k
  | .halt _ => True
  | _ => False
theorem noW_bind {α β : Type} : ∀ (s : Sem α) (k : α → Sem β), noW s → (∀ a, noW (k a)) → noW (s.bind k)
  | .pure a, k, _, h => h a
  | .load m a f, k, h, g => fun v => noW_bind (f v) k (h v) g
  | .program f, k, h, g => fun P => noW_bind (f P) k (h P) g
  | .mark m f, k, h, g => noW_bind f k h g
  | .halt x, k, _, _ => trivial
  | .store .., _, h, _ | .new .., _, h, _ | .shape .., _, h, _ | .freeze .., _, h, _ | .frozen .., _, h, _ | .getObj .., _, h, _ | .setObj .., _, h, _ | .choose .., _, h, _ | .sys .., _, h, _ => h.elim
theorem noW_run {α : Type} (P : Program) (s : Sem α) : ∀ (w : World) (a : α) (w' : World), noW s → s.run P w = .ok a w' → w' = w := by
  induction s with
  | pure b => intro w a w' _ h; cases h; rfl
  | load m ad f ih =>
    intro w a w' g h
    simp only [Sem.run] at h
    cases hc : w.cell? ad with
    | some v => rw [hc] at h; exact ih v w a w' (g v) h
    | none =>
      simp only [hc] at h
      cases hf : w.farLoad P ad (m == .atomic) with
      | error x => simp [hf] at h
      | ok r => simp only [hf] at h; exact ih r.1 w a w' (g r.1) h
  | program f ih => intro w a w' g h; exact ih P w a w' (g P) h
  | mark m f ih => intro w a w' g h; exact ih w a w' g h
  | halt x => intro w a w' _ h; cases h
  | _ => intro w a w' g h; exact g.elim
theorem noW_underlying (t : TypeId) : noW (underlying t) := noW_bind _ _ (fun P => trivial) fun p => by cases p.underlying t <;> exact trivial
theorem noW_sizeOf (t : TypeId) : noW (sizeOf t) := noW_bind _ _ (noW_bind _ _ (fun P => trivial) fun p => by cases p.info? t <;> exact trivial) fun _ => trivial
theorem noW_isAgg (t : TypeId) : noW (isAgg t) := noW_bind _ _ (noW_underlying t) fun d => by cases d <;> exact trivial
theorem noW_loadFrom (a : Addr) : ∀ (n i : Nat) (acc : Array Value), noW (loadCellsFrom a i n acc)
  | 0, i, acc => trivial
  | n + 1, i, acc => noW_bind _ _ (fun v => trivial) fun v => noW_loadFrom a n (i + 1) _
theorem noW_loadVar (t : TypeId) (a : Addr) : noW (loadVar t a) := noW_bind _ _ (noW_isAgg t) fun b => by
  cases b
  · exact fun v => trivial
  · exact noW_bind _ _ (noW_sizeOf t) fun n => noW_bind _ _ (noW_loadFrom a n 0 _) fun _ => trivial
theorem noW_asAddr (v : Value) : noW (asAddr v) := by
  cases v <;> first | exact trivial | skip
  rename_i a
  cases a
  · exact noW_bind _ _ (fun P => trivial) fun P => trivial
  · exact trivial
def oneResult (tmps : Array Value) : ResultVar → Sem Value
  | .tmp t => pure (tmps.getD t undef)
  | .cell a t => do loadVar t (← asAddr (tmps.getD a undef))
theorem results_eq (fn : Func) (tmps : Array Value) : results fn tmps = (fn.results.mapM (oneResult tmps) >>= fun vs => pure (if h : vs.size = 1 then vs[0] else .tuple vs)) := by
  unfold results
  congr 1
theorem noW_one (tmps : Array Value) (r : ResultVar) : noW (oneResult tmps r) := by
  cases r with
  | tmp t => exact trivial
  | cell a t => exact noW_bind _ _ (noW_asAddr _) fun _ => noW_loadVar t _
theorem noW_results (fn : Func) (tmps : Array Value) : noW (results fn tmps) := by
  rw [results_eq]
  refine noW_bind _ _ ?_ fun _ => trivial
  rw [Array.mapM_eq_mapM_toList]
  refine noW_bind _ _ ?_ fun _ => trivial
  induction fn.results.toList with
  | nil => exact trivial
  | cons r l ih =>
    rw [List.mapM_cons]
    exact noW_bind _ _ (noW_one _ _) fun _ => noW_bind _ _ ih fun _ => trivial

section
variable {P : Program} {w0 w : World} {B0 : Base} {ρ : Rho} {σ : VHeap}
theorem ARel.getD {xs ys : Array Value} (h : ARel ρ xs ys) (t : Nat) : VRel ρ (xs.getD t undef) (ys.getD t undef) := by
  simp only [Array.getD_eq_getD_getElem?]
  cases hx : xs[t]? with
  | none => rw [h.get_none hx]; exact clean_rel (by simp [undef, clean]) ρ
  | some v =>
    obtain ⟨v', h1, h2⟩ := h.get? hx
    rw [h1]; exact h2
theorem SR.asAddr {v v' : Value} (h : VRel ρ v v') : SR P w0 B0 ρ PRel (asAddr v) (asAddr v') := by
  cases h <;> unfold Go.asAddr <;> first | exact SR.stuck | exact SR.panics | skip
  case ptr id off i h => exact SR.pure fun ρ1 hle => ⟨i, hle _ _ h, rfl, rfl⟩
theorem SR.one {tv tr : Array Value} (h : ARel ρ tv tr) (r : ResultVar) : SR P w0 B0 ρ VRel (oneResult tv r) (oneResult tr r) := by
  cases r with
  | tmp t => exact SR.pure fun _ hle => (h.mono hle).getD t
  | cell a t => exact SR.bind (SR.asAddr (h.getD a)) fun ρ1 _ _ _ hx => SR.loadVar hx t
def LRel (ρ : Rho) (xs ys : List Value) : Prop := ARel ρ xs.toArray ys.toArray
theorem SR.ones (l : List ResultVar) : ∀ {ρ : Rho} {tv tr : Array Value}, ARel ρ tv tr → SR P w0 B0 ρ LRel (l.mapM (oneResult tv)) (l.mapM (oneResult tr)) := by
  induction l with
  | nil => intro ρ tv tr h; exact SR.pure fun _ _ => ARel.nil _
  | cons r l ih =>
    intro ρ tv tr h
    rw [List.mapM_cons, List.mapM_cons]
    refine SR.bind (SR.one h r) fun ρ1 x y hle hx => SR.bind (ih (h.mono hle)) fun ρ2 xs ys hle2 hxs => SR.pure fun ρ3 hle3 => ?_
    refine ⟨by simpa using hxs.1, fun k hk hk' => ?_⟩
    cases k with
    | zero => exact (hx.mono hle2).mono hle3
    | succ k =>
      have := (hxs.mono hle3).2 k (by simpa using hk) (by simpa using hk')
      simpa using this
theorem SR.results (fn : Func) {tv tr : Array Value} (h : ARel ρ tv tr) : SR P w0 B0 ρ VRel (results fn tv) (results fn tr) := by
  rw [results_eq, results_eq]
  refine SR.bind (A := ARel) ?_ fun ρ1 xs ys hle hx => SR.pure fun ρ2 hle2 => ?_
  · rw [Array.mapM_eq_mapM_toList, Array.mapM_eq_mapM_toList]
    exact SR.bind (SR.ones _ h) fun ρ1 xs ys _ hx => SR.pure fun ρ2 hle2 => hx.mono hle2
  · have h2 := hx.mono hle2
    by_cases h1 : xs.size = 1
    · rw [dif_pos h1, dif_pos (h2.1 ▸ h1)]
      exact h2.2 0 _ _
    · rw [dif_neg h1, dif_neg (h2.1 ▸ h1)]
      exact .tuple h2.1 h2.2
theorem results_ok {fn : Func} {tv tr : Array Value} {v : Value} {σ' : VHeap} (hw : WRel ρ σ w0 w B0) (h : ARel ρ tv tr) (hv : vrun P (results fn tv) σ = some (v, σ')) :
    ∃ ρ2 v', ρ.le ρ2 ∧ (results fn tr).run P w = .ok v' w ∧ VRel ρ2 v v' ∧ WRel ρ2 σ' w0 w B0 := by
  obtain ⟨ρ2, y, w', h1, h2, h3, h4⟩ := SR.results (P := P) (w0 := w0) (B0 := B0) fn h ρ σ w v σ' (Rho.le_refl _) hw hv
  obtain rfl := noW_run P _ w y w' (noW_results fn tr) h2
  exact ⟨ρ2, y, h1, h2, h3, h4⟩

/-- All that a caller has is only looked at. -/
def frz : VObj → VObj
  | .cells b => if b.fl = .dead then .cells b else .cells { b with fl := .ro, kin := false }
  | .map es c => .rmap es c
  | .rmap es c => .rmap es c
  | .iter _ _ => .cells ⟨#[], 0, .dead, false, 0, 0⟩
def frozenHeap (σ : VHeap) : VHeap := σ.map frz
def Rho.frz (ρ : Rho) : Rho := fun id => (ρ id).map fun i => { i with kind := .ro }
theorem VRel.frz {v v' : Value} (h : VRel ρ v v') : VRel ρ.frz v v' := by
  have hf : ∀ {id i}, ρ id = some i → ρ.frz id = some { i with kind := .ro } := fun {id i} h => by simp [Rho.frz, h]
  induction h with
  | bool b => exact .bool b
  | int k n => exact .int k n
  | float k n => exact .float k n
  | complex k a b => exact .complex k a b
  | string s => exact .string s
  | ptrNil => exact .ptrNil
  | @ptr id off i h => exact .ptr (i := { i with kind := .ro }) (hf h)
  | sliceNil n c => exact .sliceNil n c
  | @slice id off n c c' i h hc =>
    refine .slice (i := { i with kind := .ro }) (hf h) ?_
    unfold CapOk at hc ⊢
    split at hc <;> first | (subst hc; exact Nat.le_refl _) | exact hc.1 | exact hc
  | sliceOff id off a c' => exact .sliceOff id off a c'
  | glob g => exact .glob g
  | mapNil => exact .mapNil
  | @map id i h => exact .map (i := { i with kind := .ro }) (hf h)
  | func fn h1 _ g1 _ ih ih' => exact .func fn h1 ih g1 ih'
  | nilFunc => exact .nilFunc
  | iface t _ ih => exact .iface t ih
  | nilIface => exact .nilIface
  | agg h1 _ ih => exact .agg h1 ih
  | tuple h1 _ ih => exact .tuple h1 ih
theorem ARel.frz {xs ys : Array Value} (h : ARel ρ xs ys) : ARel ρ.frz xs ys := ⟨h.1, fun k a b => (h.2 k a b).frz⟩
def Base.froz (B0 : Base) (w : World) : Base := ⟨(· < w.heap.size), B0.H, (· < w.heap.size)⟩
theorem WRel.freeze (h : WRel ρ σ w0 w B0) : WRel ρ.frz (frozenHeap σ) w w (B0.froz w) := by
  have hf : ∀ {id i}, ρ id = some i → ρ.frz id = some { i with kind := .ro } := fun {id i} h => by simp [Rho.frz, h]
  have hget : ∀ {id : Nat} {o : VObj}, (frozenHeap σ)[id]? = some o → ∃ o' : VObj, σ[id]? = some o' ∧ o = Vm.frz o' := by
    intro id o ho
    simp only [frozenHeap, Array.getElem?_map] at ho
    cases hs : σ[id]? with
    | none => simp [hs] at ho
    | some o' => simp only [hs, Option.map_some, Option.some.injEq] at ho; exact ⟨o', rfl, ho.symm⟩
  constructor
  · intro id hid
    simp [Rho.frz, h.dom id (by simpa [frozenHeap] using hid)]
  · intro id b hb hd
    obtain ⟨o', ho, e⟩ := hget hb
    cases o' with
    | map es c => cases e
    | rmap es c => cases e
    | iter s p => cases e; exact absurd rfl hd
    | cells b' =>
      by_cases hd' : b'.fl = .dead
      · simp only [Vm.frz, hd', if_true] at e; cases e; exact absurd hd' hd
      · simp only [Vm.frz, hd', if_false] at e
        cases e
        obtain ⟨i, cs, fz, hi, hr⟩ := h.blk id b' ho hd'
        refine ⟨_, cs, fz, hf hi, hr.at_, hr.len, fun k a b => (hr.cells k a b).frz, fun _ => ⟨⟨(Array.getElem?_eq_some_iff.1 hr.at_).1, (Array.getElem?_eq_some_iff.1 hr.at_).1⟩, rfl, fun x => by cases x⟩, by simp, by simp, by simp⟩
  · intro id es c hg
    obtain ⟨o', ho, e⟩ := hget hg
    cases o' <;> simp only [Vm.frz] at e <;> first | (cases e; done) | (split at e <;> cases e)
  · intro id es c hg
    obtain ⟨o', ho, e⟩ := hget hg
    cases o' with
    | cells b => simp only [Vm.frz] at e; split at e <;> cases e
    | iter s p => cases e
    | map es' c' =>
      cases e
      obtain ⟨i, fs, h1, h2, h3, h4, h5⟩ := h.map id es c ho
      exact ⟨_, fs, hf h1, h2, ⟨(Array.getElem?_eq_some_iff.1 h4).1, (Array.getElem?_eq_some_iff.1 h4).1⟩, h4, ⟨h5.1, fun k a b => ⟨(h5.2 k a b).1, (h5.2 k a b).2.1, (h5.2 k a b).2.2.1.frz, (h5.2 k a b).2.2.2⟩⟩⟩
    | rmap es' c' =>
      cases e
      obtain ⟨i, fs, h1, h2, h3, h4, h5⟩ := h.rmap id es c ho
      exact ⟨_, fs, hf h1, h2, ⟨(Array.getElem?_eq_some_iff.1 h4).1, (Array.getElem?_eq_some_iff.1 h4).1⟩, h4, ⟨h5.1, fun k a b => ⟨(h5.2 k a b).1, (h5.2 k a b).2.1, (h5.2 k a b).2.2.1.frz, (h5.2 k a b).2.2.2⟩⟩⟩
  · intro id s p hg
    obtain ⟨o', ho, e⟩ := hget hg
    cases o' <;> simp only [Vm.frz] at e <;> first | (cases e; done) | (split at e <;> cases e)
  · intro id1 id2 o1 o2 i1 i2 h12 g1 g2 w1 w2 r1 r2 hb12
    obtain ⟨o', ho, e⟩ := hget g1
    exfalso
    subst e
    cases o' with
    | cells b =>
      simp only [Vm.frz] at w1
      split at w1
      · rename_i hd; simp [VObj.own, hd] at w1
      · simp [VObj.own] at w1
    | map es c => simp [Vm.frz, VObj.own] at w1
    | rmap es c => simp [Vm.frz, VObj.own] at w1
    | iter s p => simp [Vm.frz, VObj.own] at w1
  · exact fun k hk => hk
  · exact Keeps.refl _ _
  · intro k hk
    have := h.hole k hk
    exact ⟨by simp [Rho.frz, this.1], by simpa [frozenHeap] using this.2⟩
/-- Nothing of what was there has turned. -/
theorem WRel.later (h : WRel ρ σ w0 w B0) {w' : World} (hb : Below w.heap.size w w') : WRel ρ σ w0 w' B0 := by
  have hB := h.base
  constructor
  · exact h.dom
  · intro id b hg hd
    obtain ⟨i, cs, fz, hi, hr⟩ := h.blk id b hg hd
    exact ⟨i, cs, fz, hi, hr.keep (Rho.le_refl _) (hb.block _ (Array.getElem?_eq_some_iff.1 hr.at_).1)⟩
  · intro id es c hg
    obtain ⟨i, fs, h1, h2, h3, h4, h5⟩ := h.map id es c hg
    exact ⟨i, fs, h1, h2, h3, (hb.block _ (Array.getElem?_eq_some_iff.1 h4).1).trans h4, h5⟩
  · intro id es c hg
    obtain ⟨i, fs, h1, h2, h3, h4, h5⟩ := h.rmap id es c hg
    exact ⟨i, fs, h1, h2, h3, (hb.block _ (Array.getElem?_eq_some_iff.1 h4).1).trans h4, h5⟩
  · intro id s p hg
    obtain ⟨i, h1, h2, h3, h4⟩ := h.iter id s p hg
    exact ⟨i, h1, h2, h3, (hb.block _ (Array.getElem?_eq_some_iff.1 h4).1).trans h4⟩
  · exact h.sep
  · exact fun k hk => Nat.lt_of_lt_of_le (h.base k hk) hb.size
  · exact h.below.trans (Keeps.of_below hb h.base)
  · exact h.hole
end
end Vm
end Go.Proofs.YtmapjahpjolmnaaGreatDoor
namespace Go.Proofs.YtmapjahpjolmnaaGreatDoor
namespace Vm
set_option linter.unusedSimpArgs false
set_option linter.unusedVariables false
open Go.RowKit

inductive VExit where
  | normal
  | exit (id : Nat)
  | ret
  | pan (v : Value)
abbrev VPost := VExit → Array Value → VHeap → Prop
inductive VC where
  | ret (v : Value) (σ : VHeap)
  | pan (v : Value) (σ : VHeap)
abbrev VCall := FuncId → Array Value → VHeap → (VC → Prop) → Prop
def vev (t : Array Value) : Operand → Value
  | .tmp i => t.getD i undef
  | .const v => v
  | .global g => .chan (some g)
  | .func f => .func (.func f) #[] #[]
def vput (t : Array Value) (dst : Option Tmp) (v : Value) : Array Value :=
  match dst with
  | some d => t.setIfInBounds d v
  | none => t
def constOk : Operand → Bool
  | .const v => clean v
  | _ => true
def vwpOps (P : Program) (cl : VCall) (ops : Array Oper) (Q : VPost) : List Nat → Array Value → VHeap → Prop
  | [], t, σ => Q .normal t σ
  | i :: l, t, σ =>
    match ops[i]? with
    | none => vwpOps P cl ops Q l t σ
    | some o =>
      if Region.wanted o (yielded ops t) = true then
        o.op.operands.all constOk = true ∧
        match vop P o (vev t) σ with
        | some (.val v σ') => vwpOps P cl ops Q l (vput t o.dst v) σ'
        | some (.skip σ') => vwpOps P cl ops Q l (vput t o.dst undef) σ'
        | some (.enter f args σ') => cl f args σ' fun r => match r with
            | .ret v σ'' => vwpOps P cl ops Q l (vput t o.dst v) σ''
            | .pan v σ'' => Q (.pan v) t σ''
        | some (.pan v σ') => Q (.pan v) t σ'
        | none => False
      else vwpOps P cl ops Q l (vput t o.dst undef) σ
def CPost (ρ : Rho) (w0 : World) (B0 : Base) (R : VC → Prop) : Ending → World → Prop
  | .returned v', w' => ∃ ρ2 v σ', ρ.le ρ2 ∧ R (.ret v σ') ∧ VRel ρ2 v v' ∧ WRel ρ2 σ' w0 w' B0
  | .panicked ch, w' => ∃ ρ2 v v' σ', ρ.le ρ2 ∧ ch = [{ v := v', recovered := false }] ∧ R (.pan v σ') ∧ VRel ρ2 v v' ∧ WRel ρ2 σ' w0 w' B0
  | .outgrown, _ => False
def ClOk (P : Program) (cl : VCall) : Prop := ∀ f args args' σ R ρ w0 w B0, cl f args σ R → ARel ρ args args' → WRel ρ σ w0 w B0 → Calls P f args' w (CPost ρ w0 B0 R)
def EndOk (Qr : Exit → Act → World → Prop) (ρ : Rho) (a : Act) (w : World) : VExit → Prop
  | .normal => Qr .normal a w
  | .exit id => Qr (.exit id) a w
  | .ret => Qr .ret a w
  | .pan v => ∀ v', VRel ρ v v' → Qr (.panic [{ v := v', recovered := false }]) a w
def PostOk (Q : VPost) (Qr : Exit → Act → World → Prop) (ρ : Rho) (w0 : World) (B0 : Base) : Prop :=
  ∀ ρ2 e t σ a w, ρ.le ρ2 → Q e t σ → ARel ρ2 t a.tmps → a.defers = [] → WRel ρ2 σ w0 w B0 → EndOk Qr ρ2 a w e
theorem PostOk.up {Q : VPost} {Qr : Exit → Act → World → Prop} {ρ ρ' : Rho} {w0 : World} {B0 : Base} (h : PostOk Q Qr ρ w0 B0) (hle : ρ.le ρ') : PostOk Q Qr ρ' w0 B0 :=
  fun ρ2 e t σ a w hle2 => h ρ2 e t σ a w (Rho.le_trans hle hle2)

section
variable {P : Program} {w0 : World} {B0 : Base}
theorem vev_rel {ρ : Rho} {t tr : Array Value} {ds : List Deferred} (h : ARel ρ t tr) (x : Operand) (hc : constOk x = true) : VRel ρ (vev t x) ((⟨tr, ds⟩ : Act).eval x) := by
  cases x with
  | tmp i => exact h.getD i
  | const v => exact clean_rel hc ρ
  | global g => exact .glob g
  | func f => exact .func _ rfl (fun k hk => by simp at hk) rfl (fun k hk => by simp at hk)
theorem vput_rel {ρ : Rho} {t tr : Array Value} {v v' : Value} {ds : List Deferred} (h : ARel ρ t tr) (dst : Option Tmp) (hv : VRel ρ v v') : ARel ρ (vput t dst v) ((⟨tr, ds⟩ : Act).put dst v').tmps := by
  cases dst with
  | none => exact h
  | some d => exact h.set d hv
theorem vput_rel' {ρ : Rho} {t : Array Value} {v v' : Value} {a : Act} (h : ARel ρ t a.tmps) (dst : Option Tmp) (hv : VRel ρ v v') : ARel ρ (vput t dst v) (a.put dst v').tmps := by
  obtain ⟨tr, ds⟩ := a
  exact vput_rel h dst hv
theorem put_defers' {a : Act} (h : a.defers = []) (dst : Option Tmp) (v : Value) : (a.put dst v).defers = [] := by cases dst <;> exact h
theorem yielded_rel {ρ : Rho} {ops : Array Oper} {t tr : Array Value} (h : ARel ρ t tr) : yielded ops t = yielded ops tr := by
  funext j
  unfold yielded
  cases (ops[j]?).bind (·.dst) with
  | none => rfl
  | some d =>
    simp only [Option.bind_some]
    cases hx : t[d]? with
    | none => rw [h.get_none hx]
    | some v =>
      obtain ⟨v', h1, h2⟩ := h.get? hx
      rw [h1]
      cases h2 <;> rfl
theorem undef_rel (ρ : Rho) : VRel ρ undef undef := clean_rel (by simp [undef, clean]) ρ
theorem ops_ok {cl : VCall} (hcl : ClOk P cl) (ops : Array Oper) (Q : VPost) (Qr : Exit → Act → World → Prop) : ∀ (l : List Nat) (ρ : Rho) (t : Array Value) (σ : VHeap) (a : Act) (w : World),
    vwpOps P cl ops Q l t σ → ARel ρ t a.tmps → a.defers = [] → WRel ρ σ w0 w B0 → PostOk Q Qr ρ w0 B0 → wpOps P ops Qr l a w := by
  intro l
  induction l with
  | nil => intro ρ t σ a w h ha hd hw hq; exact hq ρ .normal t σ a w (Rho.le_refl _) h ha hd hw
  | cons i l ih =>
    intro ρ t σ a w h ha hd hw hq
    unfold vwpOps at h
    unfold wpOps
    cases ho : ops[i]? with
    | none => simp only [ho] at h ⊢; exact ih ρ t σ a w h ha hd hw hq
    | some o =>
      simp only [ho] at h ⊢
      rw [← yielded_rel ha]
      by_cases hwant : Region.wanted o (yielded ops t) = true
      · rw [if_pos hwant] at h ⊢
        obtain ⟨hc, h⟩ := h
        left
        unfold Oper.wp
        have hE : ∀ x ∈ o.op.operands, VRel ρ (vev t x) (a.eval x) := fun x hx => by
          obtain ⟨tr, ds⟩ := a
          obtain ⟨k, hk, rfl⟩ := Array.getElem_of_mem hx
          exact vev_rel ha _ (Array.all_eq_true.1 hc k hk)
        cases hv : vop P o (vev t) σ with
        | none => rw [hv] at h; exact h.elim
        | some r =>
          rw [hv] at h
          have hop := vop_ok hw hE hv
          cases r with
          | val v σ' =>
            obtain ⟨ρ2, v', w', g1, g2, g3, g4⟩ := hop
            rw [g2, Oper.upon_value]
            exact ih ρ2 _ σ' _ w' h (vput_rel' (ha.mono g1) _ g3) (put_defers' hd _ _) g4 (hq.up g1)
          | skip σ' =>
            obtain ⟨ρ2, w', g1, g2, g4⟩ := hop
            rw [g2, Oper.upon_skip]
            exact ih ρ2 _ σ' _ w' h (vput_rel' (ha.mono g1) _ (undef_rel _)) (put_defers' hd _ _) g4 (hq.up g1)
          | pan v σ' =>
            obtain ⟨ρ2, v', w', g1, g2, g3, g4⟩ := hop
            rw [g2, Oper.upon_panic]
            exact hq ρ2 (.pan v) t σ' a w' g1 h (ha.mono g1) hd g4 v' g3
          | enter f args σ' =>
            obtain ⟨ρ2, args', w', g1, g2, g3, g4⟩ := hop
            rw [g2, Oper.upon_enter]
            refine (hcl f args args' σ' _ ρ2 w0 w' B0 h g3 g4).mono fun e w2 he => ?_
            cases e with
            | returned v' =>
              obtain ⟨ρ3, v, σ3, k1, k2, k3, k4⟩ := he
              exact ih ρ3 _ σ3 _ w2 k2 (vput_rel' (ha.mono (Rho.le_trans g1 k1)) _ k3) (put_defers' hd _ _) k4 (hq.up (Rho.le_trans g1 k1))
            | panicked ch =>
              obtain ⟨ρ3, v, v', σ3, k1, rfl, k2, k3, k4⟩ := he
              exact hq ρ3 (.pan v) t σ3 a w2 (Rho.le_trans g1 k1) k2 (ha.mono (Rho.le_trans g1 k1)) hd k4 v' k3
            | outgrown => exact he.elim
      · rw [if_neg hwant] at h ⊢
        exact ih ρ _ σ _ w h (vput_rel' ha _ (undef_rel _)) (put_defers' hd _ _) hw hq
end
end Vm
end Go.Proofs.YtmapjahpjolmnaaGreatDoor
