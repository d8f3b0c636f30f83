/- Every operation over the quick memory. -/
import Derived.Test.YtjgfhdabcahokaaVm31
namespace Go.Proofs.Ytjgfhdabcahokaa
namespace Vm
set_option linter.unusedSimpArgs false
set_option linter.unusedVariables false
open Go.RowKit

inductive VNF where
  | val (v : Value) (h : HF)
  | skip (h : HF)
  | enter (f : FuncId) (args : Array Value) (h : HF)
  | pan (v : Value) (h : HF)
def vvF (r : Option (Value × HF)) : Option VNF :=
  match r with
  | some (v, h) => some (.val v h)
  | none => none
def vuF (r : Option (Unit × HF)) : Option VNF :=
  match r with
  | some (_, h) => some (.skip h)
  | none => none
noncomputable def vcallF (P : Program) (ev : Operand → Value) (c : Call) (type : TypeId) (h : HF) : Option VNF :=
  match c.callee with
  | .value f =>
    match ev f with
    | .func (.func g) first captured =>
      match P.funcs[g]? with
      | some fn => if fn.body.isSome = true ∧ fn.name ≠ "runtime.NumGoroutine" then some (.enter g (first ++ c.args.map ev ++ captured) h)
        else if fn.name = "internal/abi.NoEscape" ∧ fn.body.isNone = true ∧ (Extern.findNext fn).isNone = true then match first ++ c.args.map ev ++ captured with
          | ⟨[x]⟩ => some (.val x h)
          | _ => none
        else if fn.name = "internal/bytealg.MakeNoZero" ∧ fn.body.isNone = true ∧ (Extern.findNext fn).isNone = true then vvF (vmnzF P fn (first ++ c.args.map ev ++ captured) h)
        else none
      | none => none
    | _ => none
  | .invoke _ _ => none
  | .builtin b =>
    match b, c.args.map ev with
    | .append, ⟨[s, x]⟩ => match vappendQ P h c.argTypes s x with
      | some (v, h') => some (.val v h')
      | none => vvF (vappendF P h c.argTypes s x)
    | .len, ⟨[x]⟩ => match x with
      | .chan _ => none
      | x => vvF (vrunF P (Builtin.len_ c.argTypes type #[x]) h)
    | .copy, ⟨[x, y]⟩ => vvF (vrunF P (Builtin.copy_ c.argTypes type #[x, y]) h)
    | .delete, ⟨[m, k]⟩ => bif ((c.argTypes[0]?).all (basicKey P)) && cleanC k then vvF (vrunF P (Builtin.delete_ c.argTypes type #[m, k]) h) else none
    | .clear, ⟨[x]⟩ => bif ((c.argTypes[0]?).all (elemZeroOk P)) then vvF (vrunF P (Builtin.clear_ c.argTypes type #[x]) h) else none
    | .unsafeSliceData, ⟨[x]⟩ => match vsdata x with
      | some v => some (.val v h)
      | none => none
    | .unsafeString, ⟨[x, y]⟩ => vvF (vustrF P h c.argTypes x y)
    | _, _ => none
noncomputable def vopF (P : Program) (o : Oper) (ev : Operand → Value) (h : HF) : Option VNF :=
  match pureOp P o ev with
  | some v => some (.val v h)
  | none =>
    match o.op with
    | .move x | .assign x => some (.val (ev x) h)
    | .pick c a b => match ev c with
      | .bool t => some (.val (bif t then ev a else ev b) h)
      | _ => none
    | .alloc e => bif zeroOk P e then vvF (vrunF P (Instr.alloc e true (.tuple #[])) h) else none
    | .box e x => vvF (vrunF P (Instr.box e (ev x)) h)
    | .build t parts => bif zeroOk P t then vvF (vrunF P (Instr.build t (parts.map fun (i, x) => (i, ev x))) h) else none
    | .buildSlice t n parts => bif elemZeroOk P t then vvF (vrunF P (Instr.buildSlice t n (parts.map fun (i, x) => (i, ev x))) h) else none
    | .load t a => vvF (vrunF P (Instr.loadAt t (gresF h (ev a))) h)
    | .store t a x => vuF (vrunF P (Instr.storeAt t (ev a) (ev x)) h)
    | .nilCheck x => match ev x with
      | .pointer (some a) => some (.val (.pointer (some a)) h)
      | .func (.func f) xs ys => some (.val (.func (.func f) xs ys) h)
      | _ => none
    | .binOp op t x y _ => bif vNil P t (ev x) (ev y) then (match op with
        | .eql => some (.val (.bool false) h)
        | .neq => some (.val (.bool true) h)
        | _ => none) else bif vSame P t (ev x) (ev y) then (match op with
        | .eql => some (.val (.bool true) h)
        | .neq => some (.val (.bool false) h)
        | _ => none) else none
    | .convert src dst x => vvF (vconvertF P h src dst (ev x))
    | .makeInterface t x => vvF (vrunF P (Instr.makeInterface t (ev x)) h)
    | .makeFunc fn xs ys => some (.val (.func fn (xs.map ev) (ys.map ev)) h)
    | .makeMap t r => vvF (vrunF P (Instr.makeMap t (r.map ev)) h)
    | .makeSlice t l c => bif elemZeroOk P t then vvF (vrunF P (Instr.makeSlice t (ev l) (ev c)) h) else none
    | .slice t x lo hi mx => match vsliceF P h t (gresF h (ev x)) (lo.map ev) (hi.map ev) (mx.map ev) with
      | some v => some (.val v h)
      | none => none
    | .fieldAddr s x f => vvF (vrunF P (Instr.fieldAt s (gresF h (ev x)) f) h)
    | .field t x f => vvF (vrunF P (Instr.field t (ev x) f) h)
    | .indexAddr t x i => vvF (vrunF P (Instr.indexAt t (gresF h (ev x)) (ev i)) h)
    | .index t x i => vvF (vrunF P (Instr.index t (ev x) (ev i)) h)
    | .lookup t m k ok => bif basicKey P t && elemZeroOk P t && cleanC (ev k) then vvF (vrunF P (Instr.lookup t (ev m) (ev k) ok) h) else none
    | .mapUpdate t m k x | .insert t m k x => bif basicKey P t && cleanC (ev k) then vuF (vrunF P (Instr.mapUpdate t (ev m) (ev k) (ev x)) h) else none
    | .mapEntry t m k => bif basicKey P t && elemZeroOk P t && cleanC (ev k) then vvF (vrunF P (Instr.mapEntry t (ev m) (ev k)) h) else none
    | .entryStore t m s x => vuF (vrunF P (Instr.entryStore t (ev m) (ev s) (ev x)) h)
    | .range t x => match ev x with
      | .string s => vvF (vrunF P (Instr.range t (.string s)) h)
      | _ => none
    | .next it true => vvF (vrunF P (Instr.next (ev it) true o.type) h)
    | .extract t i => vvF (vrunF P (Instr.extract (ev t) i) h)
    | .panic x => match ev x with
      | .iface t v => some (.pan (.iface t v) h)
      | _ => none
    | .call c => vcallF P ev c o.type h
    | _ => none
section
variable {P : Program} {h : HF} {σ : VHeap}
def NRep : VNF → VN → Prop
  | .val v h, .val v' σ => v = v' ∧ HRep h σ
  | .skip h, .skip σ => HRep h σ
  | .enter f a h, .enter f' a' σ => f = f' ∧ a = a' ∧ HRep h σ
  | .pan v h, .pan v' σ => v = v' ∧ HRep h σ
  | _, _ => False
theorem vvF_ok (r : HRep h σ) {s : Sem Value} {x : VNF} (hx : vvF (vrunF P s h) = some x) : ∃ y, vv (vrun P s σ) = some y ∧ NRep x y := by
  unfold vvF at hx
  split at hx
  case h_2 => cases hx
  rename_i v h1 hv
  cases hx
  obtain ⟨σ', e, r'⟩ := vrunF_ok _ r hv
  exact ⟨.val v σ', by simp only [e, vv], rfl, r'⟩
theorem vuF_ok (r : HRep h σ) {s : Sem Unit} {x : VNF} (hx : vuF (vrunF P s h) = some x) : ∃ y, vu (vrun P s σ) = some y ∧ NRep x y := by
  unfold vuF at hx
  split at hx
  case h_2 => cases hx
  rename_i v h1 hv
  cases hx
  obtain ⟨σ', e, r'⟩ := vrunF_ok _ r hv
  exact ⟨.skip σ', by simp only [e, vu], r'⟩
theorem vpF_ok {s : Option (Value × HF)} {t : Option (Value × VHeap)} (hs : ∀ v h', s = some (v, h') → ∃ σ', t = some (v, σ') ∧ HRep h' σ') {x : VNF} (hx : vvF s = some x) : ∃ y, vv t = some y ∧ NRep x y := by
  unfold vvF at hx
  split at hx
  case h_2 => cases hx
  rename_i v h1
  cases hx
  obtain ⟨σ', e, r'⟩ := hs _ _ rfl
  exact ⟨.val v σ', by simp only [e, vv], rfl, r'⟩
theorem val_rep (r : HRep h σ) (v : Value) : ∃ y, some (VN.val v σ) = some y ∧ NRep (.val v h) y := ⟨_, rfl, rfl, r⟩
theorem bif_rep {b : Bool} {x : VNF} {s : Option VNF} {t : Option VN} (ht : s = some x → ∃ y, t = some y ∧ NRep x y) (hx : (bif b then s else none) = some x) : ∃ y, (bif b then t else none) = some y ∧ NRep x y := by
  cases b
  · cases hx
  · exact ht hx
theorem vcallF_ok (r : HRep h σ) {ev : Operand → Value} {c : Call} {type : TypeId} {x : VNF} (hx : vcallF P ev c type h = some x) : ∃ y, vcall P ev c type σ = some y ∧ NRep x y := by
  unfold vcallF at hx
  unfold vcall
  cases hc : c.callee with
  | invoke a b => rw [hc] at hx; cases hx
  | value f =>
    rw [hc] at hx
    dsimp only at hx ⊢
    split at hx
    case h_2 => cases hx
    rename_i g first captured he
    simp only [he]
    split at hx
    case h_2 => cases hx
    rename_i fn hfn
    simp only [hfn]
    split at hx
    · rename_i h1; rw [if_pos h1]; cases hx; exact ⟨_, rfl, rfl, rfl, r⟩
    · rename_i h1
      rw [if_neg h1]
      split at hx
      · rename_i h2
        rw [if_pos h2]
        split at hx
        case h_2 => cases hx
        rename_i y hy
        cases hx
        simp only [hy]
        exact val_rep r y
      · rename_i h2
        rw [if_neg h2]
        split at hx
        case isFalse => cases hx
        rename_i h3
        rw [if_pos h3]
        exact vpF_ok (fun v h' e => vmnzF_ok r e) hx
  | builtin b =>
    rw [hc] at hx
    dsimp only at hx ⊢
    split at hx
    · rename_i s y hxs
      simp only [hxs]
      split at hx
      · rename_i v h1 hq
        cases hx
        obtain ⟨σ', e, r'⟩ := vappendQ_ok r hq
        exact ⟨.val v σ', by simp only [e, vv], rfl, r'⟩
      · exact vpF_ok (fun v h' e => vappendF_ok r e) hx
    · rename_i y hxs
      simp only [hxs]
      split at hx
      · cases hx
      · rename_i hnc
        split
        · rename_i q; exact absurd rfl (hnc q)
        · exact vvF_ok r hx
    · rename_i y z hxs; simp only [hxs]; exact vvF_ok r hx
    · rename_i m k hxs; simp only [hxs]; exact bif_rep (vvF_ok r) hx
    · rename_i y hxs; simp only [hxs]; exact bif_rep (vvF_ok r) hx
    · rename_i y hxs
      simp only [hxs]
      split at hx
      case h_2 => cases hx
      rename_i v hv
      cases hx
      simp only [hv]
      exact val_rep r v
    · rename_i y z hxs; simp only [hxs]; exact vpF_ok (fun v h' e => vustrF_ok r e) hx
    · cases hx
theorem vopF_ok (r : HRep h σ) {o : Oper} {ev : Operand → Value} {x : VNF} (hx : vopF P o ev h = some x) : ∃ y, vop P o ev σ = some y ∧ NRep x y := by
  unfold vopF at hx
  unfold vop
  split at hx
  · rename_i v hv; cases hx; simp only [hv]; exact val_rep r v
  · rename_i hn
    simp only [hn]
    obtain ⟨dst, op, type, pos, after, guard⟩ := o
    dsimp only at hx ⊢
    cases op <;> (try dsimp only at hx ⊢) <;> first | (cases hx; done) | skip
    case move y => cases hx; exact val_rep r _
    case assign y => cases hx; exact val_rep r _
    case pick c a b =>
      split at hx
      case h_2 => cases hx
      rename_i t ht
      cases hx
      simp only [ht]
      exact val_rep r _
    case alloc e => exact bif_rep (vvF_ok r) hx
    case box e y => exact vvF_ok r hx
    case build t ps => exact bif_rep (vvF_ok r) hx
    case buildSlice t n ps => exact bif_rep (vvF_ok r) hx
    case load t a => rw [gresF_eq r] at hx; exact vvF_ok r hx
    case store t a y => exact vuF_ok r hx
    case nilCheck y =>
      split at hx
      · rename_i a ha; cases hx; simp only [ha]; exact val_rep r _
      · rename_i f xs ys ha; cases hx; simp only [ha]; exact val_rep r _
      · cases hx
    case binOp op t y z yt =>
      cases h1 : vNil P t (ev y) (ev z) with
      | true =>
        rw [h1] at hx
        simp only [cond_true] at hx ⊢
        split at hx <;> first | (cases hx; done) | (cases hx; exact val_rep r _)
      | false =>
        rw [h1] at hx
        simp only [cond_false] at hx ⊢
        refine bif_rep (fun hx => ?_) hx
        split at hx <;> first | (cases hx; done) | (cases hx; exact val_rep r _)
    case convert src dst y => exact vpF_ok (fun v h' e => vconvertF_ok r e) hx
    case makeInterface t y => exact vvF_ok r hx
    case makeFunc fn xs ys => cases hx; exact val_rep r _
    case makeMap t q => exact vvF_ok r hx
    case makeSlice t l c => exact bif_rep (vvF_ok r) hx
    case slice t y lo hi mx =>
      rw [gresF_eq r, vsliceF_eq r] at hx
      split at hx
      case h_2 => cases hx
      rename_i v hv
      cases hx
      simp only [hv]
      exact val_rep r v
    case fieldAddr s y f => rw [gresF_eq r] at hx; exact vvF_ok r hx
    case field t y f => exact vvF_ok r hx
    case indexAddr t y i => rw [gresF_eq r] at hx; exact vvF_ok r hx
    case index t y i => exact vvF_ok r hx
    case lookup t m k ok => exact bif_rep (vvF_ok r) hx
    case mapUpdate t m k y => exact bif_rep (vuF_ok r) hx
    case insert t m k y => exact bif_rep (vuF_ok r) hx
    case mapEntry t m k => exact bif_rep (vvF_ok r) hx
    case entryStore t m s y => exact vuF_ok r hx
    case range t y =>
      split at hx
      case h_2 => cases hx
      rename_i s hs
      simp only [hs]
      exact vvF_ok r hx
    case next it b =>
      cases b with
      | false => cases hx
      | true => exact vvF_ok r hx
    case extract t i => exact vvF_ok r hx
    case panic y =>
      split at hx
      case h_2 => cases hx
      rename_i t v hv
      cases hx
      simp only [hv]
      exact ⟨_, rfl, rfl, r⟩
    case call c => exact vcallF_ok r hx
/-- Quick ways for what is met most. -/
noncomputable def fastF (o : Oper) (ev : Operand → Value) (h : HF) : Option VNF := match o.op with
  | .move x | .assign x => some (.val (ev x) h)
  | .nilCheck x => match ev x with
    | .pointer (some a) => some (.val (.pointer (some a)) h)
    | _ => none
  | .pick c a b => match ev c with
    | .bool t => some (.val (Bool.rec (motive := fun _ => Value) (ev b) (ev a) t) h)
    | _ => none
  | _ => none
theorem pureOp_move {o : Oper} {ev : Operand → Value} {x : Operand} (ho : o.op = .move x ∨ o.op = .assign x) {v : Value} (h : pureOp P o ev = some v) : v = ev x := by
  obtain ⟨dst, op, type, pos, after, guard⟩ := o
  unfold pureOp at h
  rcases ho with rfl | rfl <;> dsimp only at h
  all_goals
    cases hc : (Op.operands (_ : Op)).all (fun x => clean (ev x)) with
    | false => rw [hc] at h; cases h
    | true =>
      rw [hc] at h
      simp only [cond_true] at h
      split at h
      case h_2 => cases h
      rename_i u hu
      have hu : some (Next.value (ev x)) = some (.value u) := hu
      cases hu
      cases hv : clean (ev x) with
      | false => rw [hv] at h; cases h
      | true => rw [hv] at h; cases h; rfl
theorem pureOp_pick {o : Oper} {ev : Operand → Value} {c a b : Operand} {t : Bool} (ho : o.op = .pick c a b) (ht : ev c = .bool t) {v : Value} (h : pureOp P o ev = some v) : v = bif t then ev a else ev b := by
  obtain ⟨dst, op, type, pos, after, guard⟩ := o
  unfold pureOp at h
  dsimp only at ho
  subst ho
  dsimp only at h
  cases hc : (Op.pick c a b).operands.all (fun x => clean (ev x)) with
  | false => rw [hc] at h; cases h
  | true =>
    rw [hc] at h
    simp only [cond_true] at h
    split at h
    case h_2 => cases h
    rename_i u hu
    have he : pv P (execOp ev ⟨dst, .pick c a b, type, pos, after, guard⟩) = some (.value (if t then ev a else ev b)) := by
      unfold execOp
      dsimp only
      rw [ht]
      rfl
    rw [he] at hu
    cases hu
    cases hv : clean (if t then ev a else ev b) with
    | false => rw [hv] at h; cases h
    | true => rw [hv] at h; cases h; cases t <;> rfl
theorem fastF_ok (r : HRep h σ) {o : Oper} {ev : Operand → Value} {x : VNF} (hx : fastF o ev h = some x) : ∃ y, vop P o ev σ = some y ∧ NRep x y := by
  unfold fastF at hx
  split at hx
  · rename_i y ho
    cases hx
    refine ⟨.val (ev y) σ, ?_, rfl, r⟩
    unfold vop
    cases hp : pureOp P o ev with
    | some v => rw [pureOp_move (.inl ho) hp]
    | none => simp only [ho]
  · rename_i y ho
    cases hx
    refine ⟨.val (ev y) σ, ?_, rfl, r⟩
    unfold vop
    cases hp : pureOp P o ev with
    | some v => rw [pureOp_move (.inr ho) hp]
    | none => simp only [ho]
  · rename_i y ho
    split at hx
    case h_2 => cases hx
    rename_i a ha
    cases hx
    refine ⟨.val (.pointer (some a)) σ, ?_, rfl, r⟩
    have hp : pureOp P o ev = none := by
      unfold pureOp
      simp only [ho]
      have : (Op.nilCheck y).operands.all (fun x => clean (ev x)) = false := by simp [Op.operands, ha, clean, cleanC]
      rw [this]
      rfl
    unfold vop
    simp only [hp, ho, ha]
  · rename_i c a b ho
    split at hx
    case h_2 => cases hx
    rename_i t ht
    cases hx
    have e : (Bool.rec (motive := fun _ => Value) (ev b) (ev a) t) = bif t then ev a else ev b := by cases t <;> rfl
    refine ⟨.val (bif t then ev a else ev b) σ, ?_, e, r⟩
    unfold vop
    cases hp : pureOp P o ev with
    | some v => rw [pureOp_pick ho ht hp]
    | none => simp only [ho, ht]
  · cases hx
noncomputable def vopQ (P : Program) (o : Oper) (ev : Operand → Value) (h : HF) : Option VNF := match fastF o ev h with
  | some r => some r
  | none => vopF P o ev h
theorem vopQ_ok (r : HRep h σ) {o : Oper} {ev : Operand → Value} {x : VNF} (hx : vopQ P o ev h = some x) : ∃ y, vop P o ev σ = some y ∧ NRep x y := by
  unfold vopQ at hx
  split at hx
  · rename_i q hq; cases hx; exact fastF_ok r hq
  · exact vopF_ok r hx
end
end Vm
end Go.Proofs.Ytjgfhdabcahokaa
