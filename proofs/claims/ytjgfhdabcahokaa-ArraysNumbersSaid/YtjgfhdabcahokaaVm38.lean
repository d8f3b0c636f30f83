/- Maps with texts for keys, run quickly: vopY. -/
import Derived.Test.YtjgfhdabcahokaaVm36
namespace Go.Proofs.Ytjgfhdabcahokaa
namespace Vm
set_option linter.unusedSimpArgs false
set_option linter.unusedVariables false
open Go.RowKit
section
variable {P : Program} {h h' : HF} {σ : VHeap}
theorem vrun_underlying {α : Type} {t : TypeId} {d : TypeDesc} (hu : P.underlying t = some d) (k : TypeDesc → Sem α) (σ : VHeap) : vrun P (underlying t >>= k) σ = vrun P (k d) σ := by
  show vrun P ((underlying t).bind k) σ = _
  rw [vrun_bind, pv_vrun0 (pv_underlying hu)]
  rfl
theorem vrun_checkKey {α : Type} {kt : TypeId} (hk : P.underlying kt = some .string) (b : Bool) (s : ByteArray) (k : Unit → Sem α) (σ : VHeap) : vrun P (Instr.checkKey b 10000 kt (.string s) >>= k) σ = vrun P (k ()) σ := by
  show vrun P ((Instr.checkKey b (9999 + 1) kt (.string s)).bind k) σ = _
  rw [vrun_bind]
  unfold Instr.checkKey
  rw [vrun_underlying hk]
  rfl
theorem vrun_findKey {α : Type} {kt : TypeId} (hk : P.underlying kt = some .string) {s : ByteArray} {es : List MapEntry} {q : Option (Nat × Value)} (hf : Instr.findNow .string (.string s) es 0 = some q) (k : Option (Nat × Value) → Sem α) (σ : VHeap) :
    vrun P (Instr.findKey kt (.string s) es >>= k) σ = vrun P (k q) σ := by
  show vrun P ((Instr.findKey kt (.string s) es).bind k) σ = _
  rw [vrun_bind]
  unfold Instr.findKey
  rw [vrun_underlying hk, hf]
  rfl
theorem delete_run {ts : Array TypeId} {ty mt kt et : TypeId} {r : Nat} {s : ByteArray} {es : Array MapEntry} {c i : Nat} {v : Value} (h0 : ts[0]? = some mt) (hu : P.underlying mt = some (.map kt et)) (hk : P.underlying kt = some .string)
    (hg : σ[r]? = some (.map es c)) (hf : Instr.findNow .string (.string s) es.toList 0 = some (some (i, v))) :
    vrun P (Builtin.delete_ ts ty #[.map (some r), .string s]) σ = some (.tuple #[], σ.setIfInBounds r (.map (es.eraseIdxIfInBounds i) c)) := by
  unfold Builtin.delete_
  simp only [h0, List.getElem?_toArray, List.getElem?_cons_zero, List.getElem?_cons_succ]
  rw [vrun_underlying hu]
  dsimp only
  show vrun P (Sem.getObj r _) σ = _
  simp only [vrun, hg]
  show vrun P (Instr.checkKey es.isEmpty 10000 kt (.string s) >>= fun _ => _) σ = _
  rw [vrun_checkKey hk]
  show vrun P (Instr.findKey kt (.string s) es.toList >>= fun _ => _) σ = _
  rw [vrun_findKey hk hf]
  dsimp only
  show vrun P (Sem.setObj r (.map (es.eraseIdxIfInBounds i) c) _) σ = _
  simp only [vrun, hg]
  rfl
theorem update_run {mt kt et : TypeId} {r : Nat} {s : ByteArray} {val : Value} {es : Array MapEntry} {c : Nat} (hu : P.underlying mt = some (.map kt et)) (hk : P.underlying kt = some .string)
    (hg : σ[r]? = some (.map es c)) (hf : Instr.findNow .string (.string s) es.toList 0 = some none) :
    vrun P (Instr.mapUpdate mt (.map (some r)) (.string s) val) σ = some ((), σ.setIfInBounds r (.map (es.push ⟨.string s, val, c⟩) (c + 1))) := by
  unfold Instr.mapUpdate
  rw [vrun_underlying hu]
  dsimp only
  show vrun P (Sem.getObj r _) σ = _
  simp only [vrun, hg]
  show vrun P (Instr.checkKey false 10000 kt (.string s) >>= fun _ => _) σ = _
  rw [vrun_checkKey hk]
  show vrun P (Instr.findKey kt (.string s) es.toList >>= fun _ => _) σ = _
  rw [vrun_findKey hk hf]
  dsimp only
  show vrun P (Sem.setObj r (.map (es.push ⟨.string s, val, c⟩) (c + 1)) _) σ = _
  simp only [vrun, hg]
theorem lookup_run {mt kt et : TypeId} {r : Nat} {s : ByteArray} {z : Value} {es : Array MapEntry} {c : Nat} {q : Option (Nat × Value)} (hu : P.underlying mt = some (.map kt et)) (hk : P.underlying kt = some .string) (hz : pv P (zeroValue et) = some z)
    (hg : σ[r]? = some (.map es c)) (hf : Instr.findNow .string (.string s) es.toList 0 = some q) (ok : Bool) :
    vrun P (Instr.lookup mt (.map (some r)) (.string s) ok) σ = some (match q with | some (_, v) => (if ok then .tuple #[v, .bool true] else v) | none => (if ok then .tuple #[z, .bool false] else z), σ) := by
  unfold Instr.lookup
  rw [vrun_underlying hu]
  dsimp only
  show vrun P (Sem.getObj r _) σ = _
  simp only [vrun, hg]
  show vrun P (Instr.checkKey es.isEmpty 10000 kt (.string s) >>= fun _ => _) σ = _
  rw [vrun_checkKey hk]
  show vrun P (Instr.findKey kt (.string s) es.toList >>= fun _ => _) σ = _
  rw [vrun_findKey hk hf]
  cases q with
  | some p => rfl
  | none =>
    dsimp only
    show vrun P ((zeroValue et).bind _) σ = _
    rw [vrun_bind, pv_vrun0 hz]
    rfl
/-- A key among the entries, quickly. -/
noncomputable def findS (s : List UInt8) (es : List MapEntry) : Nat → Option (Option (Nat × Value)) := List.rec (motive := fun _ => Nat → Option (Option (Nat × Value))) (fun _ => some none)
  (fun e _ ih i => match e.key with
    | .string a => Bool.rec (motive := fun _ => Option (Option (Nat × Value))) (fNat (Nat.succ i) ih) (some (some (i, e.val))) (eqS s a.data.toList)
    | _ => none) es
theorem findS_ok (s : ByteArray) : ∀ (es : List MapEntry) (i : Nat) (q : Option (Nat × Value)), findS s.data.toList es i = some q → Instr.findNow .string (.string s) es i = some q
  | [], i, q, h => h
  | e :: es, i, q, h => by
    have h : (match e.key with
      | .string a => Bool.rec (motive := fun _ => Option (Option (Nat × Value))) (fNat (Nat.succ i) (findS s.data.toList es)) (some (some (i, e.val))) (eqS s.data.toList a.data.toList)
      | _ => none) = some q := h
    unfold Instr.findNow
    split at h
    case h_2 => cases h
    rename_i a ha
    have hs : Instr.sameNow .string (.string s) e.key = some (eqS s.data.toList a.data.toList) := by
      rw [ha, eqS_eq]
      show some (s == a) = _
      congr 1
      obtain ⟨⟨x⟩⟩ := s
      obtain ⟨⟨y⟩⟩ := a
      show ((⟨x⟩ : Array UInt8) == ⟨y⟩) = (x == y)
      simp
    rw [hs]
    cases he : eqS s.data.toList a.data.toList with
    | true => rw [he] at h; exact h
    | false =>
      rw [he, fNat_eq] at h
      exact findS_ok s es (i + 1) q h
noncomputable def eraseK {α γ : Type} (l : List γ) : Nat → (List γ → α) → α := List.rec (motive := fun _ => Nat → (List γ → α) → α) (fun _ k => k []) (fun a l ih n k => Nat.rec (motive := fun _ => α) (k l) (fun m _ => ih m fun l => k (a :: l)) n) l
theorem eraseK_eq {α γ : Type} (l : List γ) : ∀ (n : Nat) (k : List γ → α), eraseK l n k = k (l.eraseIdx n) := by
  induction l with
  | nil => intro n k; rfl
  | cons a l ih =>
    intro n k
    cases n with
    | zero => rfl
    | succ n => exact ih n fun l => k (a :: l)
def mapTy (P : Program) (t : TypeId) : Option (TypeId × TypeId) := match P.underlying t with
  | some (.map kt et) => match P.underlying kt with
    | some .string => some (kt, et)
    | _ => none
  | _ => none
theorem mapTy_ok {t kt et : TypeId} (h : mapTy P t = some (kt, et)) : P.underlying t = some (.map kt et) ∧ P.underlying kt = some .string := by
  unfold mapTy at h
  split at h
  case h_2 => cases h
  rename_i kt' et' hu
  split at h
  case h_2 => cases h
  rename_i hk
  cases h
  exact ⟨hu, hk⟩
noncomputable def mapQ (P : Program) (o : Oper) (ev : Operand → Value) (h : HF) : Option VNF := match o.op with
  | .lookup t m k ok => match mapTy P t, ev m, ev k with
    | some (_, et), .map (some r), .string s => match h.get r, pv P (zeroValue et) with
      | some (.map es c), some z => bif basicKey P t && elemZeroOk P t then (match findS s.data.toList es.toList 0 with
        | some (some (_, v)) => some (.val (Bool.rec (motive := fun _ => Value) v (.tuple #[v, .bool true]) ok) h)
        | some none => some (.val (Bool.rec (motive := fun _ => Value) z (.tuple #[z, .bool false]) ok) h)
        | none => none) else none
      | _, _ => none
    | _, _, _ => none
  | .mapUpdate t m k x => match mapTy P t, ev m, ev k with
    | some (_, _), .map (some r), .string s => match h.get r with
      | some (.map es c) => bif basicKey P t then (match findS s.data.toList es.toList 0 with
        | some none => fVal (ev x) fun val => appK [⟨.string s, val, c⟩] es.toList fun l => h.set r (.map ⟨l⟩ (Nat.succ c)) fun h' => some (.skip h')
        | _ => none) else none
      | _ => none
    | _, _, _ => none
  | .call c => match c.callee with
    | .builtin .delete => match c.args.map ev, c.argTypes[0]? with
      | ⟨[.map (some r), .string s]⟩, some mt => match mapTy P mt, h.get r with
        | some (_, _), some (.map es cl) => bif basicKey P mt then (match findS s.data.toList es.toList 0 with
          | some (some (i, _)) => eraseK es.toList i fun l => h.set r (.map ⟨l⟩ cl) fun h' => some (.val (.tuple #[]) h')
          | _ => none) else none
        | _, _ => none
      | _, _ => none
    | _ => none
  | _ => none
theorem mapQ_ok (r : HRep h σ) {o : Oper} {ev : Operand → Value} {x : VNF} (hx : mapQ P o ev h = some x) : ∃ y, vop P o ev σ = some y ∧ NRep x y := by
  unfold mapQ at hx
  obtain ⟨dst, op, type, pos, after, guard⟩ := o
  dsimp only at hx
  split at hx
  · rename_i t m k ok
    split at hx
    case h_2 => cases hx
    rename_i kt et q s hm hem hek
    obtain ⟨hu, hk⟩ := mapTy_ok hm
    rw [r.look] at hx
    split at hx
    case h_2 => cases hx
    rename_i es c z hg hz
    obtain ⟨hb, hx2⟩ := bif_some hx
    clear hx
    have hpn : pureOp P ⟨dst, .lookup t m k ok, type, pos, after, guard⟩ ev = none := by
      unfold pureOp
      dsimp only
      have : (Op.lookup t m k ok).operands.all (fun x => clean (ev x)) = false := by simp [Op.operands, hem, clean, cleanC]
      rw [this]
      rfl
    have hv : ∀ v, vrun P (Instr.lookup t (.map (some q)) (.string s) ok) σ = some (v, σ) → vop P ⟨dst, .lookup t m k ok, type, pos, after, guard⟩ ev σ = some (.val v σ) := fun v hv => by
      unfold vop
      simp only [hpn, hem, hek]
      rw [show cleanC (.string s) = true from rfl, Bool.and_true, hb]
      simp only [cond_true, hv, vv]
    split at hx2
    · rename_i i v hf
      cases hx2
      have := lookup_run hu hk hz hg (findS_ok s _ _ _ hf) ok
      refine ⟨_, hv _ this, ?_, r⟩
      cases ok <;> rfl
    · rename_i hf
      cases hx2
      have := lookup_run hu hk hz hg (findS_ok s _ _ _ hf) ok
      refine ⟨_, hv _ this, ?_, r⟩
      cases ok <;> rfl
    · cases hx2
  · rename_i t m k y
    split at hx
    case h_2 => cases hx
    rename_i kt et q s hm hem hek
    obtain ⟨hu, hk⟩ := mapTy_ok hm
    rw [r.look] at hx
    split at hx
    case h_2 => cases hx
    rename_i es c hg
    obtain ⟨hb, hx2⟩ := bif_some hx
    clear hx
    split at hx2
    case h_2 => cases hx2
    rename_i hf
    rw [fVal_eq, appK_eq] at hx2
    obtain ⟨h1, r1, hx3⟩ := r.set hx2
    cases hx3
    have hpn : pureOp P ⟨dst, .mapUpdate t m k y, type, pos, after, guard⟩ ev = none := by
      unfold pureOp
      dsimp only
      have : (Op.mapUpdate t m k y).operands.all (fun x => clean (ev x)) = false := by simp [Op.operands, hem, clean, cleanC]
      rw [this]
      rfl
    have hrun := update_run (val := ev y) hu hk hg (findS_ok s _ _ _ hf)
    refine ⟨.skip _, ?_, r1⟩
    unfold vop
    simp only [hpn, hem, hek]
    rw [show cleanC (.string s) = true from rfl, Bool.and_true, hb]
    simp only [cond_true, hrun, vu]
    have e : (⟨es.toList ++ [⟨.string s, ev y, c⟩]⟩ : Array MapEntry) = es.push ⟨.string s, ev y, c⟩ := by apply Array.ext'; simp
    rw [e]
  · rename_i c
    split at hx
    case h_2 => cases hx
    rename_i hcal
    split at hx
    case h_2 => cases hx
    rename_i q s mt hargs hty
    rw [r.look] at hx
    split at hx
    case h_2 => cases hx
    rename_i kt et es cl hm hg
    obtain ⟨hu, hk⟩ := mapTy_ok hm
    obtain ⟨hb, hx2⟩ := bif_some hx
    clear hx
    split at hx2
    case h_2 => cases hx2
    rename_i i v hf
    rw [eraseK_eq] at hx2
    obtain ⟨h1, r1, hx3⟩ := r.set hx2
    cases hx3
    have hrun := delete_run (ts := c.argTypes) (ty := type) hty hu hk hg (findS_ok s _ _ _ hf)
    have e : (⟨es.toList.eraseIdx i⟩ : Array MapEntry) = es.eraseIdxIfInBounds i := by apply Array.ext'; simp
    have hpn : pureOp P ⟨dst, .call c, type, pos, after, guard⟩ ev = none := by
      unfold pureOp
      dsimp only
      have : (Op.call c).operands.all (fun x => clean (ev x)) = false := by
        have hsz : c.args.size = 2 := by have := congrArg Array.size hargs; simpa using this
        rw [← Bool.not_eq_true, Array.all_eq_true']
        intro hall
        have h0 : ev (c.args[0]'(by omega)) = .map (some q) := by
          have := congrArg (fun l : Array Value => l[0]?) hargs
          simpa [Array.getElem?_eq_getElem (show 0 < c.args.size by omega)] using this
        have := hall (c.args[0]'(by omega)) (by simp [Op.operands, Call.operands])
        rw [h0] at this
        cases this
      rw [this]
      rfl
    rw [e] at r1
    refine ⟨.val (.tuple #[]) (σ.setIfInBounds q (.map (es.eraseIdxIfInBounds i) cl)), ?_, rfl, r1⟩
    unfold vop
    simp only [hpn]
    unfold vcall
    simp only [hcal, hargs, hty, Option.all_some, hb, show cleanC (.string s) = true from rfl, Bool.and_true, cond_true, hrun, vv]
  · cases hx
noncomputable def vopY (P : Program) (o : Oper) (ev : Operand → Value) (h : HF) : Option VNF := match mapQ P o ev h with
  | some r => some r
  | none => vopX P o ev h
theorem vopY_ok (r : HRep h σ) {o : Oper} {ev : Operand → Value} {x : VNF} (hx : vopY P o ev h = some x) : ∃ y, vop P o ev σ = some y ∧ NRep x y := by
  unfold vopY at hx
  split at hx
  · rename_i q hq; cases hx; exact mapQ_ok r hq
  · exact vopX_ok r hx
end
end Vm
end Go.Proofs.Ytjgfhdabcahokaa
