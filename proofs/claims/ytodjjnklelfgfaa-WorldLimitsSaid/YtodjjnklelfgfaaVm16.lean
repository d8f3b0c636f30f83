/- The virtual answer of every operation, and that it is sound. -/
import Derived.Test.YtodjjnklelfgfaaVm15
import Derived.Test.YtodjjnklelfgfaaVm19
import Derived.Laws.Externs
namespace Go.Proofs.Ytodjjnklelfgfaa
namespace Vm
set_option linter.unusedSimpArgs false
set_option linter.unusedVariables false
open Go.RowKit

inductive VN where
  | val (v : Value) (σ : VHeap)
  | skip (σ : VHeap)
  | enter (f : FuncId) (args : Array Value) (σ : VHeap)
  | pan (v : Value) (σ : VHeap)
def vv (r : Option (Value × VHeap)) : Option VN :=
  match r with
  | some (v, σ) => some (.val v σ)
  | none => none
def vu (r : Option (Unit × VHeap)) : Option VN :=
  match r with
  | some (_, σ) => some (.skip σ)
  | none => none
def pureOp (P : Program) (o : Oper) (ev : Operand → Value) : Option Value :=
  match o.op with
  | .select _ _ => none
  | _ =>
    bif o.op.operands.all (fun x => clean (ev x)) then
      match pv P (execOp ev o) with
      | some (.value v) => bif clean v then some v else none
      | _ => none
    else none
def vcall (P : Program) (ev : Operand → Value) (c : Call) (type : TypeId) (σ : VHeap) : Option VN :=
  match c.callee with
  | .value f =>
    match ev f with
    | .func (.func g) first captured =>
      match P.funcs[g]? with
      | some fn => if fn.body.isSome = true ∧ fn.name ≠ "runtime.NumGoroutine" then some (.enter g (first ++ c.args.map ev ++ captured) σ)
        else if fn.name = "internal/abi.NoEscape" ∧ fn.body.isNone = true ∧ (Extern.findNext fn).isNone = true then match first ++ c.args.map ev ++ captured with
          | ⟨[x]⟩ => some (.val x σ)
          | _ => none
        else if fn.name = "internal/bytealg.MakeNoZero" ∧ fn.body.isNone = true ∧ (Extern.findNext fn).isNone = true then vv (vmnz P fn (first ++ c.args.map ev ++ captured) σ)
        else none
      | none => none
    | _ => none
  | .invoke _ _ => none
  | .builtin b =>
    match b, c.args.map ev with
    | .append, ⟨[s, x]⟩ => vv (vappend P σ c.argTypes s x)
    | .len, ⟨[x]⟩ => match x with
      | .chan _ => none
      | x => vv (vrun P (Builtin.len_ c.argTypes type #[x]) σ)
    | .copy, ⟨[x, y]⟩ => vv (vrun P (Builtin.copy_ c.argTypes type #[x, y]) σ)
    | .delete, ⟨[m, k]⟩ => bif ((c.argTypes[0]?).all (basicKey P)) && cleanC k then vv (vrun P (Builtin.delete_ c.argTypes type #[m, k]) σ) else none
    | .clear, ⟨[x]⟩ => bif ((c.argTypes[0]?).all (elemZeroOk P)) then vv (vrun P (Builtin.clear_ c.argTypes type #[x]) σ) else none
    | .unsafeSliceData, ⟨[x]⟩ => match vsdata x with
      | some v => some (.val v σ)
      | none => none
    | .unsafeString, ⟨[x, y]⟩ => vv (vustr P σ c.argTypes x y)
    | _, _ => none
def vop (P : Program) (o : Oper) (ev : Operand → Value) (σ : VHeap) : Option VN :=
  match pureOp P o ev with
  | some v => some (.val v σ)
  | none =>
    match o.op with
    | .move x | .assign x => some (.val (ev x) σ)
    | .pick c a b => match ev c with
      | .bool t => some (.val (bif t then ev a else ev b) σ)
      | _ => none
    | .alloc e => bif zeroOk P e then vv (vrun P (Instr.alloc e true (.tuple #[])) σ) else none
    | .box e x => vv (vrun P (Instr.box e (ev x)) σ)
    | .build t parts => bif zeroOk P t then vv (vrun P (Instr.build t (parts.map fun (i, x) => (i, ev x))) σ) else none
    | .buildSlice t n parts => bif elemZeroOk P t then vv (vrun P (Instr.buildSlice t n (parts.map fun (i, x) => (i, ev x))) σ) else none
    | .load t a => vv (vrun P (Instr.loadAt t (gres σ (ev a))) σ)
    | .store t a x => vu (vrun P (Instr.storeAt t (ev a) (ev x)) σ)
    | .nilCheck x => match ev x with
      | .pointer (some a) => some (.val (.pointer (some a)) σ)
      | .func (.func f) xs ys => some (.val (.func (.func f) xs ys) σ)
      | _ => none
    | .binOp op t x y _ => bif vNil P t (ev x) (ev y) then (match op with
        | .eql => some (.val (.bool false) σ)
        | .neq => some (.val (.bool true) σ)
        | _ => none) else bif vSame P t (ev x) (ev y) then (match op with
        | .eql => some (.val (.bool true) σ)
        | .neq => some (.val (.bool false) σ)
        | _ => none) else none
    | .convert src dst x => vv (vconvert P σ src dst (ev x))
    | .makeInterface t x => vv (vrun P (Instr.makeInterface t (ev x)) σ)
    | .makeFunc fn xs ys => some (.val (.func fn (xs.map ev) (ys.map ev)) σ)
    | .makeMap t r => vv (vrun P (Instr.makeMap t (r.map ev)) σ)
    | .makeSlice t l c => bif elemZeroOk P t then vv (vrun P (Instr.makeSlice t (ev l) (ev c)) σ) else none
    | .slice t x lo hi mx => match vslice P σ t (gres σ (ev x)) (lo.map ev) (hi.map ev) (mx.map ev) with
      | some v => some (.val v σ)
      | none => none
    | .fieldAddr s x f => vv (vrun P (Instr.fieldAt s (gres σ (ev x)) f) σ)
    | .field t x f => vv (vrun P (Instr.field t (ev x) f) σ)
    | .indexAddr t x i => vv (vrun P (Instr.indexAt t (gres σ (ev x)) (ev i)) σ)
    | .index t x i => vv (vrun P (Instr.index t (ev x) (ev i)) σ)
    | .lookup t m k ok => bif basicKey P t && elemZeroOk P t && cleanC (ev k) then vv (vrun P (Instr.lookup t (ev m) (ev k) ok) σ) else none
    | .mapUpdate t m k x | .insert t m k x => bif basicKey P t && cleanC (ev k) then vu (vrun P (Instr.mapUpdate t (ev m) (ev k) (ev x)) σ) else none
    | .mapEntry t m k => bif basicKey P t && elemZeroOk P t && cleanC (ev k) then vv (vrun P (Instr.mapEntry t (ev m) (ev k)) σ) else none
    | .entryStore t m s x => vu (vrun P (Instr.entryStore t (ev m) (ev s) (ev x)) σ)
    | .range t x => match ev x with
      | .string s => vv (vrun P (Instr.range t (.string s)) σ)
      | _ => none
    | .next it true => vv (vrun P (Instr.next (ev it) true o.type) σ)
    | .extract t i => vv (vrun P (Instr.extract (ev t) i) σ)
    | .panic x => match ev x with
      | .iface t v => some (.pan (.iface t v) σ)
      | _ => none
    | .call c => vcall P ev c o.type σ
    | _ => none

theorem find_noEscape {fn : Func} (h : fn.name = "internal/abi.NoEscape") : Extern.find fn = some Extern.AbiNoEscape.same := by
  unfold Extern.find
  have e1 : Extern.allGenericRows.lookup "internal/abi.NoEscape" = none := by kernel_rfl
  have e2 : Extern.allTypedRows.lookup "internal/abi.NoEscape" = none := by kernel_rfl
  have e3 : Extern.allRows.lookup "internal/abi.NoEscape" = some Extern.AbiNoEscape.same := by kernel_rfl
  simp only [h, e1, e2, e3]
  rfl
section
variable {P : Program} {w0 w : World} {B0 : Base} {ρ : Rho} {σ : VHeap}
def OpOk (w0 : World) (B0 : Base) (ρ : Rho) : VN → Result Next → Prop
  | .val v σ', r => ∃ ρ2 v' w', ρ.le ρ2 ∧ r = .ok (.value v') w' ∧ VRel ρ2 v v' ∧ WRel ρ2 σ' w0 w' B0
  | .skip σ', r => ∃ ρ2 w', ρ.le ρ2 ∧ r = .ok .skip w' ∧ WRel ρ2 σ' w0 w' B0
  | .enter f args σ', r => ∃ ρ2 args' w', ρ.le ρ2 ∧ r = .ok (.enter f args') w' ∧ ARel ρ2 args args' ∧ WRel ρ2 σ' w0 w' B0
  | .pan v σ', r => ∃ ρ2 v' w', ρ.le ρ2 ∧ r = .halt (.panic v') w' ∧ VRel ρ2 v v' ∧ WRel ρ2 σ' w0 w' B0
theorem vv_ok {s t : Sem Value} {r : VN} (hw : WRel ρ σ w0 w B0) (hs : SR P w0 B0 ρ VRel s t) (h : vv (vrun P s σ) = some r) : OpOk w0 B0 ρ r ((do pure (.value (← t)) : Sem Next).run P w) := by
  unfold vv at h
  split at h
  case h_2 => cases h
  rename_i v σ' hv
  cases h
  obtain ⟨ρ2, y, w', h1, h2, h3, h4⟩ := hs ρ σ w v σ' (Rho.le_refl _) hw hv
  exact ⟨ρ2, y, w', h1, by rw [Sem.run_bind, h2]; rfl, h3, h4⟩
theorem vu_ok {s t : Sem Unit} {r : VN} (hw : WRel ρ σ w0 w B0) (hs : SR P w0 B0 ρ TrueR s t) (h : vu (vrun P s σ) = some r) : OpOk w0 B0 ρ r ((do t; pure .skip : Sem Next).run P w) := by
  unfold vu at h
  split at h
  case h_2 => cases h
  rename_i v σ' hv
  cases h
  obtain ⟨ρ2, y, w', h1, h2, h3, h4⟩ := hs ρ σ w v σ' (Rho.le_refl _) hw hv
  exact ⟨ρ2, w', h1, by rw [Sem.run_bind, h2]; rfl, h4⟩
theorem val_ok {v v' : Value} (hw : WRel ρ σ w0 w B0) (hv : VRel ρ v v') : OpOk w0 B0 ρ (.val v σ) (.ok (.value v') w) := ⟨ρ, v', w, Rho.le_refl _, rfl, hv, hw⟩
theorem pureOp_ok {o : Oper} {ev er : Operand → Value} {v : Value} (hE : ∀ x ∈ o.op.operands, VRel ρ (ev x) (er x)) (h : pureOp P o ev = some v) : clean v = true ∧ (execOp er o).run P w = .ok (.value v) w := by
  unfold pureOp at h
  split at h
  · cases h
  · rename_i hs
    cases hc : o.op.operands.all (fun x => clean (ev x)) with
    | false => rw [hc] at h; cases h
    | true =>
      rw [hc] at h
      simp only [cond_true] at h
      split at h
      case h_2 => cases h
      rename_i v' hp
      cases hv : clean v' with
      | false => rw [hv] at h; cases h
      | true =>
        rw [hv] at h
        cases h
        refine ⟨hv, ?_⟩
        have : execOp er o = execOp ev o := execOp_congr o (fun cs b e => hs cs b e) (fun x hx => clean_eq (by
          obtain ⟨k, hk, rfl⟩ := Array.getElem_of_mem hx
          exact Array.all_eq_true.1 hc k hk) (hE x hx))
        rw [this]
        exact pv_run hp w
theorem parts_rel {ev er : Operand → Value} (parts : Array (Nat × Operand)) (h : ∀ p ∈ parts, VRel ρ (ev p.2) (er p.2)) :
    PartsRel ρ (parts.map fun (i, x) => (i, ev x)).toList (parts.map fun (i, x) => (i, er x)).toList := by
  obtain ⟨l⟩ := parts
  simp only [List.map_toArray]
  have h' : ∀ p ∈ l, VRel ρ (ev p.2) (er p.2) := fun p hp => h p (by simpa using hp)
  clear h
  induction l with
  | nil => exact .nil
  | cons p l ih => exact .cons ⟨rfl, h' p (by simp)⟩ (ih fun q hq => h' q (by simp [hq]))
theorem omap_rel {ev er : Operand → Value} (x : Option Operand) (h : ∀ y, x = some y → VRel ρ (ev y) (er y)) : ORel ρ (x.map ev) (x.map er) := by
  cases x with
  | none => trivial
  | some y => exact h y rfl
theorem vcall_ok {c : Call} {type : TypeId} {ev er : Operand → Value} {r : VN} (hw : WRel ρ σ w0 w B0) (hE : ∀ x ∈ c.operands, VRel ρ (ev x) (er x)) (h : vcall P ev c type σ = some r) :
    OpOk w0 B0 ρ r ((do let d ← resolve er c type; invoke d.target d.args : Sem Next).run P w) := by
  have hargs : ARel ρ (c.args.map ev) (c.args.map er) := ARel.map _ _ _ fun x hx => hE x (by simp [Call.operands, hx])
  unfold vcall at h
  unfold resolve
  cases hc : c.callee with
  | invoke a b => simp [hc] at h
  | value f =>
    simp only [hc] at h ⊢
    have hf := hE f (by simp [Call.operands, hc])
    split at h
    case h_2 => cases h
    rename_i g first captured hev
    rw [hev] at hf
    split at h
    case h_2 => cases h
    rename_i fn hfn
    split at h
    case isFalse =>
      split at h
      case isFalse =>
        split at h
        case isFalse => cases h
        rename_i hx
        unfold vv at h
        split at h
        case h_2 => cases h
        rename_i v σ' hv
        cases h
        generalize er f = ef at hf
        cases hf with
        | func _ h1 h2 g1 g2 =>
          have hall := ARel.append (ARel.append ⟨h1, h2⟩ hargs) ⟨g1, g2⟩
          obtain ⟨ρ2, v', w', q1, q2, q3, q4⟩ := vmnz_ok hw hall hv
          refine ⟨ρ2, v', w', q1, ?_, q3, q4⟩
          unfold Deferred.ofValue
          simp only [Sem.run_bind, Sem.run_pure, Result.andThen_ok]
          unfold invoke
          simp only [Sem.run_bind]
          rw [run_callFunc_extern hfn (by rw [hx.1]; decide) hx.2.1 (Option.isNone_iff_eq_none.1 hx.2.2) (find_mnz hx.1), q2]
          rfl
      rename_i hx
      split at h
      case h_2 => cases h
      rename_i x hxs
      cases h
      generalize er f = ef at hf
      cases hf with
      | func _ h1 h2 g1 g2 =>
        have hall := ARel.append (ARel.append ⟨h1, h2⟩ hargs) ⟨g1, g2⟩
        rw [hxs] at hall
        unfold Deferred.ofValue
        simp only [Sem.run_bind, Sem.run_pure, Result.andThen_ok]
        unfold invoke
        simp only [Sem.run_bind]
        rw [run_callFunc_extern hfn (by rw [hx.1]; decide) hx.2.1 (Option.isNone_iff_eq_none.1 hx.2.2) (find_noEscape hx.1)]
        generalize first ++ c.args.map ev ++ captured = l0 at hxs hall
        rename_i ys vs
        generalize hL : ys ++ c.args.map er ++ vs = l at hall ⊢
        obtain ⟨l⟩ := l
        match l, hall with
        | [x'], hall => exact ⟨ρ, x', w, Rho.le_refl _, rfl, hall.2 0 (by simp) (by simp), hw⟩
        | [], hall => exact absurd hall.1 (by simp)
        | _ :: _ :: _, hall => exact absurd hall.1 (by simp)
    rename_i hb
    cases h
    generalize er f = ef at hf
    cases hf with
    | func _ h1 h2 g1 g2 =>
      refine ⟨ρ, _, w, Rho.le_refl _, ?_, (ARel.append (ARel.append ⟨h1, h2⟩ hargs) ⟨g1, g2⟩), hw⟩
      unfold Deferred.ofValue
      simp only [Sem.run_bind, Sem.run_pure, Result.andThen_ok]
      unfold invoke callFunc
      simp only [Sem.run_bind, run_program, Result.andThen_ok, hfn]
      have hnb : fn.body.isNone = false := by cases hbo : fn.body with | none => simp [hbo] at hb | some b => rfl
      have hnm : (fn.name == "runtime.NumGoroutine") = false := by simpa using hb.2
      simp only [hnm, hnb, Bool.false_eq_true, if_false]
      rfl
  | builtin b =>
    simp only [hc] at h ⊢
    simp only [Sem.run_bind, Sem.run_pure, Result.andThen_ok]
    unfold invoke
    split at h
    · rename_i s x hxs
      rw [hxs] at hargs
      unfold vv at h
      split at h
      case h_2 => cases h
      rename_i v σ' hv
      cases h
      have hsz := hargs.1
      obtain ⟨s', x', he⟩ : ∃ s' x', c.args.map er = #[s', x'] := by
        generalize c.args.map er = l at hsz
        obtain ⟨l⟩ := l
        match l, hsz with
        | [a, b], _ => exact ⟨a, b, rfl⟩
      rw [he] at hargs ⊢
      obtain ⟨ρ2, v', w', g1, g2, g3, g4⟩ := vappend_ok (t := type) hw (hargs.2 0 (by simp) (by simp)) (hargs.2 1 (by simp) (by simp)) hv
      refine ⟨ρ2, v', w', g1, ?_, g3, g4⟩
      unfold builtin
      rw [Sem.run_bind]
      simp only [List.getElem_toArray, List.getElem_cons_zero, List.getElem_cons_succ] at g2
      rw [g2]
      rfl
    · rename_i x hxs
      rw [hxs] at hargs
      have hsz := hargs.1
      obtain ⟨x', he⟩ : ∃ x', c.args.map er = #[x'] := by
        generalize c.args.map er = l at hsz
        obtain ⟨l⟩ := l
        match l, hsz with
        | [a], _ => exact ⟨a, rfl⟩
      rw [he] at hargs ⊢
      split at h
      · cases h
      · rename_i hnc
        exact vv_ok hw (SR.len (hargs.2 0 (by simp) (by simp)) c.argTypes type (fun r e => hnc r e)) h
    · rename_i x y hxs
      rw [hxs] at hargs
      have hsz := hargs.1
      obtain ⟨x', y', he⟩ : ∃ s' x', c.args.map er = #[s', x'] := by
        generalize c.args.map er = l at hsz
        obtain ⟨l⟩ := l
        match l, hsz with
        | [a, b], _ => exact ⟨a, b, rfl⟩
      rw [he] at hargs ⊢
      exact vv_ok hw (SR.copy (hargs.2 0 (by simp) (by simp)) (hargs.2 1 (by simp) (by simp))) h
    · rename_i m k hxs
      rw [hxs] at hargs
      have hsz := hargs.1
      obtain ⟨m', k', he⟩ : ∃ s' x', c.args.map er = #[s', x'] := by
        generalize c.args.map er = l at hsz
        obtain ⟨l⟩ := l
        match l, hsz with
        | [a, b], _ => exact ⟨a, b, rfl⟩
      rw [he] at hargs ⊢
      cases hcond : ((c.argTypes[0]?).all (basicKey P)) && cleanC k with
      | false => rw [hcond] at h; cases h
      | true =>
        rw [hcond] at h
        simp only [Bool.and_eq_true] at hcond
        obtain rfl : k' = k := cleanC_eq hcond.2 (hargs.2 1 (by simp) (by simp))
        exact vv_ok hw (SR.delete (fun mt hmt => by have := hcond.1; rw [hmt] at this; simpa using this) hcond.2 (hargs.2 0 (by simp) (by simp))) h
    · rename_i x hxs
      rw [hxs] at hargs
      have hsz := hargs.1
      obtain ⟨x', he⟩ : ∃ x', c.args.map er = #[x'] := by
        generalize c.args.map er = l at hsz
        obtain ⟨l⟩ := l
        match l, hsz with
        | [a], _ => exact ⟨a, rfl⟩
      rw [he] at hargs ⊢
      cases hcond : ((c.argTypes[0]?).all (elemZeroOk P)) with
      | false => rw [hcond] at h; cases h
      | true =>
        rw [hcond] at h
        exact vv_ok hw (SR.clear (fun mt hmt => by rw [hmt] at hcond; simpa using hcond) (hargs.2 0 (by simp) (by simp))) h
    · rename_i x hxs
      rw [hxs] at hargs
      have hsz := hargs.1
      obtain ⟨x', he⟩ : ∃ x', c.args.map er = #[x'] := by
        generalize c.args.map er = l at hsz
        obtain ⟨l⟩ := l
        match l, hsz with
        | [a], _ => exact ⟨a, rfl⟩
      rw [he] at hargs ⊢
      split at h
      case h_2 => cases h
      rename_i v hv
      cases h
      obtain ⟨v', q1, q2⟩ := vsdata_ok (P := P) (ts := c.argTypes) (t := type) (hargs.2 0 (by simp) (by simp)) hv w
      refine ⟨ρ, v', w, Rho.le_refl _, ?_, q2, hw⟩
      unfold builtin
      simp only [List.getElem_toArray, List.getElem_cons_zero] at q1
      rw [Sem.run_bind, q1]
      rfl
    · rename_i x y hxs
      rw [hxs] at hargs
      have hsz := hargs.1
      obtain ⟨x', y', he⟩ : ∃ s' x', c.args.map er = #[s', x'] := by
        generalize c.args.map er = l at hsz
        obtain ⟨l⟩ := l
        match l, hsz with
        | [a, b], _ => exact ⟨a, b, rfl⟩
      rw [he] at hargs ⊢
      unfold vv at h
      split at h
      case h_2 => cases h
      rename_i v σ' hv
      cases h
      obtain ⟨w', q1, q2, q3⟩ := vustr_ok (t := type) hw (hargs.2 0 (by simp) (by simp)) (hargs.2 1 (by simp) (by simp)) hv
      refine ⟨ρ, v, w', Rho.le_refl _, ?_, q2, q3⟩
      unfold builtin
      simp only [List.getElem_toArray, List.getElem_cons_zero, List.getElem_cons_succ] at q1
      rw [Sem.run_bind, q1]
      rfl
    · cases h
theorem vop_ok {o : Oper} {ev er : Operand → Value} {r : VN} (hw : WRel ρ σ w0 w B0) (hE : ∀ x ∈ o.op.operands, VRel ρ (ev x) (er x)) (h : vop P o ev σ = some r) :
    OpOk w0 B0 ρ r ((execOp er o).run P w) := by
  unfold vop at h
  split at h
  · rename_i v hv
    cases h
    obtain ⟨hc, hrun⟩ := pureOp_ok (w := w) hE hv
    rw [hrun]
    exact val_ok hw (clean_rel hc ρ)
  · rename_i hnp
    clear hnp
    unfold execOp
    obtain ⟨dst, op, type, pos, after, guard⟩ := o
    simp only at h hE ⊢
    cases op <;> dsimp only at h ⊢ <;> first | (cases h; done) | skip
    case move x => cases h; exact val_ok hw (hE x (by simp [Op.operands]))
    case assign x => cases h; exact val_ok hw (hE x (by simp [Op.operands]))
    case pick c a b =>
      have hc := hE c (by simp [Op.operands])
      have ha := hE a (by simp [Op.operands])
      have hb := hE b (by simp [Op.operands])
      split at h
      case h_2 => cases h
      rename_i t he
      rw [he] at hc
      generalize er c = ec at hc
      cases hc
      cases h
      simp only [asBool, Sem.run_bind, Sem.run_pure, Result.andThen_ok]
      cases t
      · exact val_ok hw hb
      · exact val_ok hw ha
    case alloc e =>
      cases hz : zeroOk P e with
      | false => rw [hz] at h; cases h
      | true => rw [hz] at h; exact vv_ok hw (SR.alloc hz) h
    case box e x => exact vv_ok hw (SR.box (hE x (by simp [Op.operands])) e) h
    case build t parts =>
      cases hz : zeroOk P t with
      | false => rw [hz] at h; cases h
      | true => rw [hz] at h; exact vv_ok hw (SR.build hz (parts_rel parts fun p hp => hE p.2 (by simp only [Op.operands]; simpa using ⟨p.1, hp⟩))) h
    case buildSlice t n parts =>
      cases hz : elemZeroOk P t with
      | false => rw [hz] at h; cases h
      | true => rw [hz] at h; exact vv_ok hw (SR.buildSlice hz (parts_rel parts fun p hp => hE p.2 (by simp only [Op.operands]; simpa using ⟨p.1, hp⟩))) h
    case load t a => exact vv_ok hw (SR.loadAt (gres_ok hw (hE a (by simp [Op.operands]))) t) h
    case store t a x => exact vu_ok hw (SR.storeAt (hE a (by simp [Op.operands])) (hE x (by simp [Op.operands])) t) h
    case nilCheck x =>
      have hx := hE x (by simp [Op.operands])
      split at h
      · rename_i a he
        rw [he] at hx
        cases h
        generalize er x = ex at hx
        cases hx with
        | ptr hi => exact val_ok hw (.ptr hi)
      · rename_i f xs ys he
        rw [he] at hx
        cases h
        generalize er x = ex at hx
        cases hx with
        | func fn h1 h2 g1 g2 => exact val_ok hw (.func _ h1 h2 g1 g2)
      · cases h
    case binOp op t x y yt =>
      cases hn : vNil P t (ev x) (ev y) with
      | false =>
        rw [hn] at h
        simp only [cond_false] at h
        cases hs : vSame P t (ev x) (ev y) with
        | false => rw [hs] at h; cases h
        | true =>
          rw [hs] at h
          simp only [cond_true] at h
          have hok := fun op => vSame_ok (hE x (by simp [Op.operands])) (hE y (by simp [Op.operands])) hs w op x y
          split at h
          · cases h
            simp only [Sem.run_bind, pv_run (hok _).1, Result.andThen_ok, (hok .eql).2.1]
            exact val_ok hw (.bool _)
          · cases h
            simp only [Sem.run_bind, pv_run (hok _).1, Result.andThen_ok, (hok .neq).2.2]
            exact val_ok hw (.bool _)
          · cases h
      | true =>
        rw [hn] at h
        have hx := hE x (by simp [Op.operands])
        have hy := hE y (by simp [Op.operands])
        have hg := fun op => vNil_guard (op := op) (a := x) (b := y) hx hy hn
        obtain ⟨h1, h2⟩ := vNil_bin hx hy hn
        simp only [cond_true] at h
        split at h
        · cases h
          simp only [Sem.run_bind, pv_run (hg _), Result.andThen_ok, pv_run h1]
          exact val_ok hw (.bool _)
        · cases h
          simp only [Sem.run_bind, pv_run (hg _), Result.andThen_ok, pv_run h2]
          exact val_ok hw (.bool _)
        · cases h
    case convert src dst x =>
      unfold vv at h
      split at h
      case h_2 => cases h
      rename_i v σ' hv
      cases h
      obtain ⟨ρ2, v', w', g1, g2, g3, g4⟩ := vconvert_ok hw (hE x (by simp [Op.operands])) hv
      exact ⟨ρ2, v', w', g1, by rw [Sem.run_bind, g2]; rfl, g3, g4⟩
    case makeInterface t x => exact vv_ok hw (SR.makeInterface (hE x (by simp [Op.operands])) t) h
    case makeFunc fn xs ys =>
      cases h
      have h1 : ARel ρ (xs.map ev) (xs.map er) := ARel.map _ _ _ fun x hx => hE x (by simp [Op.operands, hx])
      have h2 : ARel ρ (ys.map ev) (ys.map er) := ARel.map _ _ _ fun x hx => hE x (by simp [Op.operands, hx])
      exact ⟨ρ, _, w, Rho.le_refl _, rfl, .func fn h1.1 h1.2 h2.1 h2.2, hw⟩
    case makeMap t r =>
      refine vv_ok hw (SR.makeMap t ?_) h
      cases r with
      | none => trivial
      | some x => exact hE x (by simp [Op.operands])
    case makeSlice t l c =>
      cases hz : elemZeroOk P t with
      | false => rw [hz] at h; cases h
      | true => rw [hz] at h; exact vv_ok hw (SR.makeSlice hz (hE l (by simp [Op.operands])) (hE c (by simp [Op.operands]))) h
    case slice t x lo hi mx =>
      split at h
      case h_2 => cases h
      rename_i v hv
      cases h
      obtain ⟨v', h1, h2⟩ := vslice_ok hw (gres_ok hw (hE x (by simp [Op.operands]))) (omap_rel lo fun y e => hE y (by subst e; simp [Op.operands])) (omap_rel hi fun y e => hE y (by subst e; simp [Op.operands])) (omap_rel mx fun y e => hE y (by subst e; simp [Op.operands])) hv
      exact ⟨ρ, v', w, Rho.le_refl _, by rw [Sem.run_bind, pv_run h1]; rfl, h2, hw⟩
    case fieldAddr s x f => exact vv_ok hw (SR.fieldAt (gres_ok hw (hE x (by simp [Op.operands]))) s f) h
    case field t x f => exact vv_ok hw (SR.field (hE x (by simp [Op.operands])) t f) h
    case indexAddr t x i => exact vv_ok hw (SR.indexAt (gres_ok hw (hE x (by simp [Op.operands]))) (hE i (by simp [Op.operands])) t) h
    case index t x i => exact vv_ok hw (SR.index (hE x (by simp [Op.operands])) (hE i (by simp [Op.operands])) t) h
    case lookup t m k ok =>
      cases hc : (basicKey P t && elemZeroOk P t && cleanC (ev k)) with
      | false => rw [hc] at h; cases h
      | true =>
        rw [hc] at h
        simp only [Bool.and_eq_true] at hc
        rw [cleanC_eq hc.2 (hE k (by simp [Op.operands]))]
        exact vv_ok hw (SR.lookup hc.1.1 hc.1.2 hc.2 (hE m (by simp [Op.operands])) ok) h
    case mapUpdate t m k x =>
      cases hc : (basicKey P t && cleanC (ev k)) with
      | false => rw [hc] at h; cases h
      | true =>
        rw [hc] at h
        simp only [Bool.and_eq_true] at hc
        rw [cleanC_eq hc.2 (hE k (by simp [Op.operands]))]
        exact vu_ok hw (SR.mapUpdate hc.1 hc.2 (hE m (by simp [Op.operands])) (hE x (by simp [Op.operands]))) h
    case insert t m k x =>
      cases hc : (basicKey P t && cleanC (ev k)) with
      | false => rw [hc] at h; cases h
      | true =>
        rw [hc] at h
        simp only [Bool.and_eq_true] at hc
        rw [cleanC_eq hc.2 (hE k (by simp [Op.operands]))]
        exact vu_ok hw (SR.mapUpdate hc.1 hc.2 (hE m (by simp [Op.operands])) (hE x (by simp [Op.operands]))) h
    case mapEntry t m k =>
      cases hc : (basicKey P t && elemZeroOk P t && cleanC (ev k)) with
      | false => rw [hc] at h; cases h
      | true =>
        rw [hc] at h
        simp only [Bool.and_eq_true] at hc
        rw [cleanC_eq hc.2 (hE k (by simp [Op.operands]))]
        exact vv_ok hw (SR.mapEntry hc.1.1 hc.1.2 hc.2 (hE m (by simp [Op.operands]))) h
    case entryStore t m s x => exact vu_ok hw (SR.entryStore (hE m (by simp [Op.operands])) (hE s (by simp [Op.operands])) (hE x (by simp [Op.operands]))) h
    case range t x =>
      have hx := hE x (by simp [Op.operands])
      split at h
      case h_2 => cases h
      rename_i s he
      rw [he] at hx
      exact vv_ok hw (SR.range hx ⟨s, rfl⟩ t) h
    case next it b =>
      cases b with
      | false => cases h
      | true => exact vv_ok hw (SR.next (hE it (by simp [Op.operands])) type) h
    case extract t i => exact vv_ok hw (SR.extract (hE t (by simp [Op.operands])) i) h
    case call c => exact vcall_ok hw (fun x hx => hE x (by simpa [Op.operands] using hx)) h
    case panic x =>
      have hx := hE x (by simp [Op.operands])
      split at h
      case h_2 => cases h
      rename_i t v he
      rw [he] at hx
      cases h
      generalize er x = ex at hx
      cases hx with
      | iface _ hv => exact ⟨ρ, _, w, Rho.le_refl _, rfl, .iface t hv, hw⟩
end
end Vm
end Go.Proofs.Ytodjjnklelfgfaa
