/- A machine of small steps over the quick memory: it can be stopped, and gone on with, anywhere. -/
import Derived.Test.YtdbdmgmenojcaaaDoorG17
import Derived.Lib.TrimByte
import Derived.Lib.Repeat
import Derived.Lib.Bytealg
set_option linter.unusedVariables false
set_option linter.unusedSimpArgs false
namespace Go.Proofs.YtdbdmgmenojcaaaDoor
namespace Vm
set_option linter.unusedSimpArgs false
set_option linter.unusedVariables false
open Go.RowKit

/-- Operations, one by one, as a list. -/
def vwpOpsL (P : Program) (cl : VCall) (ops : Array Oper) (Q : VPost) : List Oper → Array Value → VHeap → Prop
  | [], t, σ => Q .normal t σ
  | o :: l, t, σ =>
      if Region.wanted o (yielded ops t) = true then
        o.op.operands.all constOk = true ∧
        match vop P o (vev t) σ with
        | some (.val v σ') => vwpOpsL P cl ops Q l (vput t o.dst v) σ'
        | some (.skip σ') => vwpOpsL P cl ops Q l (vput t o.dst undef) σ'
        | some (.enter f args σ') => cl f args σ' fun r => match r with
            | .ret v σ'' => vwpOpsL P cl ops Q l (vput t o.dst v) σ''
            | .pan v σ'' => Q (.pan v) t σ''
        | some (.pan v σ') => Q (.pan v) t σ'
        | none => False
      else vwpOpsL P cl ops Q l (vput t o.dst undef) σ
theorem opsL_range (P : Program) (cl : VCall) (ops : Array Oper) (Q : VPost) : ∀ (n k : Nat), k + n = ops.size → vwpOpsL P cl ops Q (ops.toList.drop k) = vwpOps P cl ops Q (List.range' k n)
  | 0, k, hk => by
    have : ops.toList.drop k = [] := List.drop_eq_nil_of_le (by simp; omega)
    rw [this]
    rfl
  | n + 1, k, hk => by
    have hlt : k < ops.toList.length := by simp; omega
    have hlt' : k < ops.size := by omega
    rw [List.drop_eq_getElem_cons hlt, List.range'_succ]
    have ih := opsL_range P cl ops Q n (k + 1) (by omega)
    have hget : ops[k]? = some ops.toList[k] := by simp [hlt']
    funext t σ
    unfold vwpOpsL vwpOps
    simp only [hget, ih]
    rfl
theorem opsL_eq (P : Program) (cl : VCall) (ops : Array Oper) (Q : VPost) : vwpOps P cl ops Q (List.range ops.size) = vwpOpsL P cl ops Q ops.toList := by
  have := opsL_range P cl ops Q ops.size 0 (by omega)
  rw [List.drop_zero] at this
  rw [this, List.range_eq_range']
/-- What waits behind the code that is run. -/
inductive Fr where
  | seq (m : Nat) (c : Code)
  | block (id : Nat)
  | loop (m : Nat) (b : Code)
  | call (m : Nat) (o : Oper) (rest : List Oper) (ops : Array Oper) (t : List Value) (fn : Func)
  | base (fn : Func)
inductive Cfg where
  | code (m : Nat) (c : Code) (t : List Value) (h : HF) (K : List Fr)
  | ops (m : Nat) (ops : Array Oper) (rest : List Oper) (t : List Value) (h : HF) (K : List Fr)
  | out (e : VExit) (t : List Value) (h : HF) (K : List Fr)
  | fin (v : Value) (h : HF)
section
variable {α β : Type} (P : Program) (E : VCall) (R : VC → Prop)
def postK : List Fr → VPost
  | [], _, _, _ => False
  | .seq m c :: K, e, t, σ => match e with
    | .normal => ∃ σ', Forget σ σ' ∧ vwp P E (m + 1) c (postK K) t σ'
    | e => postK K e t σ
  | .block id :: K, e, t, σ => match e with
    | .exit j => if j = id then postK K .normal t σ else postK K (.exit j) t σ
    | e => postK K e t σ
  | .loop m b :: K, e, t, σ => match e with
    | .normal => vwp P E m (.loop b) (postK K) t σ
    | e => postK K e t σ
  | .call m o rest ops t0 fn :: K, e, t, σ => match e with
    | .normal | .ret => ∃ v σ'', vrun P (results fn t) σ = some (v, σ'') ∧ vwpOpsL P (vcallOf P E (vwp P E m)) ops (postK K) rest (vput ⟨t0⟩ o.dst v) σ''
    | .pan v => postK K (.pan v) ⟨t0⟩ σ
    | .exit _ => False
  | .base fn :: _, e, t, σ => match e with
    | .normal | .ret => ∃ v σ'', vrun P (results fn t) σ = some (v, σ'') ∧ R (.ret v σ'')
    | .pan v => R (.pan v σ)
    | .exit _ => False
def Ok : Cfg → Prop
  | .code m c t h K => ∀ σ, HRep h σ → vwp P E (m + 1) c (postK P E R K) ⟨t⟩ σ
  | .ops m ops rest t h K => ∀ σ, HRep h σ → vwpOpsL P (vcallOf P E (vwp P E m)) ops (postK P E R K) rest ⟨t⟩ σ
  | .out e t h K => ∀ σ, HRep h σ → postK P E R K e ⟨t⟩ σ
  | .fin v h => ∀ σ, HRep h σ → R (.ret v σ)
/-- Results, quickly. -/
noncomputable def resT (t : List Value) (l : List ResultVar) : Option (List Value) := List.rec (motive := fun _ => Option (List Value)) (some []) (fun r _ ih => match r with
  | .tmp i => match ih with
    | some l => some (nthD t i :: l)
    | none => none
  | _ => none) l
noncomputable def resF (fn : Func) (t : List Value) (h : HF) : Option (Value × HF) := match resT t fn.results.toList with
  | some [v] => some (v, h)
  | some l => some (.tuple ⟨l⟩, h)
  | none => vrunF P (results fn ⟨t⟩) h
theorem resT_ok (t : List Value) : ∀ (rs : List ResultVar) (l : List Value), resT t rs = some l → (rs.mapM (oneResult ⟨t⟩) : Sem (List Value)) = pure l
  | [], l, h => by cases h; rfl
  | r :: rs, l, h => by
    cases r with
    | cell a ty => cases h
    | tmp i =>
      have h : (match resT t rs with | some l => some (nthD t i :: l) | none => none) = some l := h
      split at h
      case h_2 => cases h
      rename_i l' hl
      cases h
      rw [List.mapM_cons, resT_ok t rs l' hl]
      show (Pure.pure _ : Sem Value) >>= _ = _
      rw [nthD_eq]
      rfl
variable {P}
theorem resF_ok {fn : Func} {t : List Value} {h h' : HF} {σ : VHeap} {v : Value} (r : HRep h σ) (hx : resF P fn t h = some (v, h')) : ∃ σ', vrun P (results fn ⟨t⟩) σ = some (v, σ') ∧ HRep h' σ' := by
  unfold resF at hx
  split at hx
  · rename_i u hu
    cases hx
    rw [results_eq, Array.mapM_eq_mapM_toList, resT_ok t _ _ hu]
    exact ⟨σ, rfl, r⟩
  · rename_i l hl hu
    cases hx
    rw [results_eq, Array.mapM_eq_mapM_toList, resT_ok t _ _ hu]
    refine ⟨σ, ?_, r⟩
    show vrun P (pure (if h : (⟨l⟩ : Array Value).size = 1 then (⟨l⟩ : Array Value)[0] else .tuple ⟨l⟩)) σ = _
    rw [dif_neg]
    · rfl
    · intro h1
      match l, h1 with
      | [v], _ => exact hl v rfl
  · exact vrunF_ok _ r hx
variable (P)
noncomputable def repF (n : Nat) (l : List Value) : List Value := Nat.rec (motive := fun _ => List Value) l (fun _ ih => undef :: ih) n
theorem repF_eq (n : Nat) (l : List Value) : repF n l = List.replicate n undef ++ l := by
  induction n with
  | zero => rfl
  | succ n ih => show undef :: repF n l = _; rw [ih]; rfl
/-- The temporaries of a call that begins. -/
noncomputable def tmps0 (fn : Func) (args : Array Value) (k : List Value → α) : α := fList fVal args.toList fun l => fNat (lenA l 0) fun n => fList fVal (appF l (repF (fn.ntmps - n) [])) k
theorem tmps0_eq (fn : Func) (args : Array Value) (k : List Value → α) : ∃ l, tmps0 fn args k = k l ∧ (⟨l⟩ : Array Value) = args ++ Array.replicate (fn.ntmps - args.size) undef := by
  refine ⟨args.toList ++ List.replicate (fn.ntmps - args.size) undef, ?_, ?_⟩
  · unfold tmps0
    rw [fList_eq fVal_eq, fNat_eq, fList_eq fVal_eq, appF_eq, repF_eq, lenA_eq, List.append_nil, Nat.zero_add, Array.length_toList]
  · apply Array.ext'; simp
abbrev XFCall := FuncId → Array Value → HF → Option (Value × HF)
def XFOk (E : VCall) (X : XFCall) : Prop := ∀ f args h v h' σ, X f args h = some (v, h') → HRep h σ → ∃ σ', HRep h' σ' ∧ ∀ R : VC → Prop, R (.ret v σ') → E f args σ R
noncomputable def step (X : XFCall) (sub : SubF) : Cfg → Option Cfg
  | .fin _ _ => none
  | .code m c t h K => match c with
    | .skip => some (.out .normal t h K)
    | .region _ ops draw => bif draw then
        fList fNat (asap P ops ops.size []) fun pl => fList fNat (masksOf ops pl) fun ms =>
        bif planOk ops pl ms (effAt P ops) then
          match planF P (sub m) ops (preOf ms) (effAt P ops) pl [] [] t h with
          | some (t', h') => some (.out .normal t' h' K)
          | none => none
        else none
      else some (.ops m ops ops.toList t h K)
    | .seq a b => some (.code m a t h (.seq m b :: K))
    | .cond c a b => match vevF t c with
      | .bool x => bif x then some (.code m a t h K) else some (.code m b t h K)
      | _ => none
    | .block id b => some (.code m b t h (.block id :: K))
    | .loop b => some (.code m b t h (.loop m b :: K))
    | .exit id => some (.out (.exit id) t h K)
    | .ret => some (.out .ret t h K)
    | .label _ => some (.out .normal t h K)
    | _ => none
  | .out e t h K => match K with
    | [] => none
    | .seq m c :: K => match e with
      | .normal => some (.code m c t h K)
      | e => some (.out e t h K)
    | .block id :: K => match e with
      | .exit j => bif Nat.beq j id then some (.out .normal t h K) else some (.out (.exit j) t h K)
      | e => some (.out e t h K)
    | .loop m b :: K => match e with
      | .normal => match m with
        | 0 => none
        | m + 1 => some (.code m (.loop b) t h K)
      | e => some (.out e t h K)
    | .call m o rest ops t0 fn :: K => match e with
      | .exit _ => none
      | .pan v => some (.out (.pan v) t0 h K)
      | _ => match resF P fn t h with
        | some (v, h') => putF o t0 v fun t1 => some (.ops m ops rest t1 h' K)
        | none => none
    | .base fn :: _ => match e with
      | .exit _ => none
      | .pan _ => none
      | _ => match resF P fn t h with
        | some (v, h') => fVal v fun v => some (.fin v h')
        | none => none
  | .ops m ops rest t h K => match rest with
    | [] => some (.out .normal t h K)
    | o :: l =>
      bif Region.wanted o (yielded ops ⟨t⟩) then
        bif o.op.operands.all constOk then
          match vopY P o (vevF t) h with
          | some (.val v h') => putF o t v fun t' => some (.ops m ops l t' h' K)
          | some (.skip h') => putF o t undef fun t' => some (.ops m ops l t' h' K)
          | some (.pan v h') => some (.out (.pan v) t h' K)
          | some (.enter f args h') => match X f args h' with
            | some (v, h'') => putF o t v fun t' => some (.ops m ops l t' h'' K)
            | none => match m with
              | 0 => none
              | m' + 1 => match P.funcs[f]? with
                | some fn => match fn.body with
                  | some c => tmps0 fn args fun t' => some (.code m' c t' h' (.call (m' + 1) o l ops t fn :: K))
                  | none => none
                | none => none
          | none => none
        else none
      else putF o t undef fun t' => some (.ops m ops l t' h K)
variable {P E R}
theorem step_ok {X : XFCall} {sub : SubF} (hX : XFOk E X) (hsub : SubOk P E sub) {c c' : Cfg} (hs : step P X sub c = some c') (h' : Ok P E R c') : Ok P E R c := by
  cases c with
  | fin v h => cases hs
  | code m c t h K =>
    intro σ r
    show vwpC P (vwp P E m) (vcallOf P E (vwp P E m)) c (postK P E R K) ⟨t⟩ σ
    cases c <;> simp only [step] at hs <;> first | (cases hs; done) | skip
    case skip => cases hs; exact h' σ r
    case region id ops draw =>
      cases draw with
      | false =>
        cases hs
        simp only [vwpC]
        rw [opsL_eq]
        exact h' σ r
      | true =>
        simp only [cond_true, fList_eq fNat_eq] at hs
        obtain ⟨hp, hs⟩ := bif_some hs
        split at hs
        case h_2 => cases hs
        rename_i t1 h1 hpl
        cases hs
        exact .inr ⟨_, _, _, planOk_ok hp, planF_ok hsub _ _ _ _ _ _ _ _ hpl r _ fun σ' r' => h' σ' r'⟩
    case seq a b =>
      cases hs
      simp only [vwpC]
      exact h' σ r
    case cond x a b =>
      simp only [vwpC]
      rw [vevF_eq] at hs
      split at hs
      case h_2 => cases hs
      rename_i y hy
      simp only [hy]
      cases y
      · cases hs; exact h' σ r
      · cases hs; exact h' σ r
    case block id b => cases hs; exact h' σ r
    case loop b => cases hs; exact h' σ r
    case exit id => cases hs; exact h' σ r
    case ret => cases hs; exact h' σ r
    case label l => cases hs; exact h' σ r
  | out e t h K =>
    intro σ r
    cases K with
    | nil => cases hs
    | cons fr K =>
      cases fr with
      | seq m c =>
        simp only [step] at hs
        simp only [postK]
        split at hs
        · cases hs; exact ⟨σ, Forget.refl σ, h' σ r⟩
        · rename_i hne
          cases hs
          have := h' σ r
          cases e with
          | normal => exact absurd rfl hne
          | _ => exact this
      | block id =>
        simp only [step] at hs
        simp only [postK]
        split at hs
        · rename_i j
          cases hb : Nat.beq j id with
          | true =>
            rw [hb] at hs
            cases hs
            rw [if_pos (Nat.eq_of_beq_eq_true hb)]
            exact h' σ r
          | false =>
            rw [hb] at hs
            cases hs
            rw [if_neg (Nat.ne_of_beq_eq_false hb)]
            exact h' σ r
        · rename_i hne
          cases hs
          have := h' σ r
          cases e with
          | exit j => exact absurd rfl (hne j)
          | _ => exact this
      | loop m b =>
        simp only [step] at hs
        simp only [postK]
        split at hs
        · cases m with
          | zero => cases hs
          | succ m => cases hs; exact h' σ r
        · rename_i hne
          cases hs
          have := h' σ r
          cases e with
          | normal => exact absurd rfl hne
          | _ => exact this
      | call m o rest ops t0 fn =>
        simp only [step] at hs
        simp only [postK]
        cases e with
        | exit j => cases hs
        | pan v => cases hs; exact h' σ r
        | normal =>
          dsimp only at hs ⊢
          split at hs
          case h_2 => cases hs
          rename_i v h1 hv
          obtain ⟨σ1, e1, r1⟩ := resF_ok r hv
          obtain ⟨t1, e2, hs⟩ := putF_ok hs
          cases hs
          exact ⟨v, σ1, e1, by rw [e2]; exact h' σ1 r1⟩
        | ret =>
          dsimp only at hs ⊢
          split at hs
          case h_2 => cases hs
          rename_i v h1 hv
          obtain ⟨σ1, e1, r1⟩ := resF_ok r hv
          obtain ⟨t1, e2, hs⟩ := putF_ok hs
          cases hs
          exact ⟨v, σ1, e1, by rw [e2]; exact h' σ1 r1⟩
      | base fn =>
        simp only [step] at hs
        simp only [postK]
        cases e with
        | exit j => cases hs
        | pan v => cases hs
        | normal =>
          dsimp only at hs ⊢
          split at hs
          case h_2 => cases hs
          rename_i v h1 hv
          obtain ⟨σ1, e1, r1⟩ := resF_ok r hv
          rw [fVal_eq] at hs
          cases hs
          exact ⟨v, σ1, e1, h' σ1 r1⟩
        | ret =>
          dsimp only at hs ⊢
          split at hs
          case h_2 => cases hs
          rename_i v h1 hv
          obtain ⟨σ1, e1, r1⟩ := resF_ok r hv
          rw [fVal_eq] at hs
          cases hs
          exact ⟨v, σ1, e1, h' σ1 r1⟩
  | ops m ops rest t h K =>
    intro σ r
    cases rest with
    | nil => cases hs; exact h' σ r
    | cons o l =>
      simp only [step] at hs
      unfold vwpOpsL
      cases hw : Region.wanted o (yielded ops ⟨t⟩) with
      | false =>
        rw [hw] at hs
        rw [if_neg (by simp)]
        obtain ⟨t1, e, hs⟩ := putF_ok hs
        cases hs
        rw [e]
        exact h' σ r
      | true =>
        rw [hw] at hs
        rw [if_pos rfl]
        simp only [cond_true] at hs
        obtain ⟨hc, hs⟩ := bif_some hs
        refine ⟨hc, ?_⟩
        split at hs
        · rename_i v h1 hv
          obtain ⟨y, e1, e2⟩ := vopY_ok r hv
          rw [vevF_eq] at e1
          cases y <;> simp only [NRep] at e2
          obtain ⟨rfl, r1⟩ := e2
          obtain ⟨t1, e, hs⟩ := putF_ok hs
          cases hs
          simp only [e1, e]
          exact h' _ r1
        · rename_i h1 hv
          obtain ⟨y, e1, e2⟩ := vopY_ok r hv
          rw [vevF_eq] at e1
          cases y <;> simp only [NRep] at e2
          obtain ⟨t1, e, hs⟩ := putF_ok hs
          cases hs
          simp only [e1, e]
          exact h' _ e2
        · rename_i v h1 hv
          obtain ⟨y, e1, e2⟩ := vopY_ok r hv
          rw [vevF_eq] at e1
          cases y <;> simp only [NRep] at e2
          obtain ⟨rfl, r1⟩ := e2
          cases hs
          simp only [e1]
          exact h' _ r1
        · rename_i f args h1 hv
          obtain ⟨y, e1, e2⟩ := vopY_ok r hv
          rw [vevF_eq] at e1
          cases y <;> simp only [NRep] at e2
          obtain ⟨rfl, rfl, r1⟩ := e2
          simp only [e1]
          split at hs
          · rename_i v h2 hx
            obtain ⟨σ2, r2, hE⟩ := hX _ _ _ _ _ _ hx r1
            obtain ⟨t1, e, hs⟩ := putF_ok hs
            cases hs
            refine .inr (.inr (hE _ ?_))
            simp only [e]
            exact h' _ r2
          · cases m with
            | zero => cases hs
            | succ m =>
              dsimp only at hs
              split at hs
              case h_2 => cases hs
              rename_i fn hfn
              split at hs
              case h_2 => cases hs
              rename_i c hcb
              obtain ⟨l0, e3, e4⟩ := tmps0_eq fn args (fun t' => some (Cfg.code m c t' h1 (.call (m + 1) o l ops t fn :: K)))
              rw [e3] at hs
              cases hs
              refine .inl ?_
              unfold vbody
              simp only [hfn, hcb]
              have := h' _ r1
              rw [e4] at this
              have hpost : (fun (e : VExit) (t2 : Array Value) (σ' : VHeap) => postK P E R (.call (m + 1) o l ops t fn :: K) e t2 σ') = (fun e t2 σ' => match e with
                | .normal | .ret => ∃ v σ'', vrun P (results fn t2) σ' = some (v, σ'') ∧ vwpOpsL P (vcallOf P E (vwp P E (m + 1))) ops (postK P E R K) l (vput ⟨t⟩ o.dst v) σ''
                | .pan v => postK P E R K (.pan v) ⟨t⟩ σ'
                | .exit _ => False) := by
                funext e t2 σ'
                cases e <;> rfl
              have h2 : vwp P E (m + 1) c (fun e t2 σ' => postK P E R (.call (m + 1) o l ops t fn :: K) e t2 σ') (args ++ Array.replicate (fn.ntmps - args.size) undef) _ := this
              rw [hpost] at h2
              exact h2
        · cases hs
/-- Some steps. -/
noncomputable def runF (P : Program) (X : XFCall) (sub : SubF) (n : Nat) : Cfg → Option Cfg := Nat.rec (motive := fun _ => Cfg → Option Cfg) (fun c => some c) (fun _ ih c => match step P X sub c with
  | some c' => ih c'
  | none => none) n
theorem runF_ok {X : XFCall} {sub : SubF} (hX : XFOk E X) (hsub : SubOk P E sub) : ∀ (n : Nat) {c c' : Cfg}, runF P X sub n c = some c' → Ok P E R c' → Ok P E R c
  | 0, c, c', h, hk => by cases h; exact hk
  | n + 1, c, c', h, hk => by
    have h : (match step P X sub c with | some c' => runF P X sub n c' | none => none) = some c' := h
    split at h
    · rename_i c1 h1; exact step_ok hX hsub h1 (runF_ok hX hsub n h hk)
    · cases h
end
end Vm
end Go.Proofs.YtdbdmgmenojcaaaDoor
namespace Go.Proofs.YtdbdmgmenojcaaaDoor
namespace Vm
set_option linter.unusedSimpArgs false
set_option linter.unusedVariables false
open Go.RowKit

section
variable {P : Program} {E : VCall}
/-- Until it ends. -/
noncomputable def runE (P : Program) (X : XFCall) (sub : SubF) (n : Nat) : Cfg → Option (Value × HF) := Nat.rec (motive := fun _ => Cfg → Option (Value × HF)) (fun _ => none) (fun _ ih c => match c with
  | .fin v h => some (v, h)
  | c => match step P X sub c with
    | some c' => ih c'
    | none => none) n
theorem runE_succ (X : XFCall) (sub : SubF) (n : Nat) (c : Cfg) : runE P X sub (n + 1) c = match c with
      | .fin v h => some (v, h)
      | c => match step P X sub c with
        | some c' => runE P X sub n c'
        | none => none := rfl
theorem runE_ok {R : VC → Prop} {X : XFCall} {sub : SubF} (hX : XFOk E X) (hsub : SubOk P E sub) : ∀ (n : Nat) {c : Cfg} {v : Value} {h : HF}, runE P X sub n c = some (v, h) → (∀ σ, HRep h σ → R (.ret v σ)) → Ok P E R c
  | 0, c, v, h, hx, hk => by cases hx
  | n + 1, c, v, h, hx, hk => by
    rw [runE_succ] at hx
    split at hx
    · cases hx; exact hk
    · split at hx
      · rename_i c1 h1; exact step_ok hX hsub h1 (runE_ok hX hsub n hx hk)
      · cases hx
noncomputable def subN (P : Program) (X : XFCall) (N : Nat) : Nat → SubF
  | 0 => fun _ _ _ _ => none
  | k + 1 => fun m f args h => match X f args h with
    | some r => some r
    | none => match m with
      | 0 => none
      | m + 1 => match P.funcs[f]? with
        | some fn => match fn.body with
          | some c => tmps0 fn args fun t => runE P X (subN P X N k) N (.code m c t h [.base fn])
          | none => none
        | none => none
theorem base_post (R : VC → Prop) (fn : Func) : postK P E R [.base fn] = fun e t σ' => match e with
        | .normal | .ret => ∃ v σ'', vrun P (results fn t) σ' = some (v, σ'') ∧ R (.ret v σ'')
        | .pan v => R (.pan v σ')
        | .exit _ => False := by
  funext e t σ'
  cases e <;> rfl
theorem body_of {R : VC → Prop} {m : Nat} {f : FuncId} {fn : Func} {c : Code} {args : Array Value} {t : List Value} {h : HF} {σ : VHeap} (hfn : P.funcs[f]? = some fn) (hc : fn.body = some c) (ht : (⟨t⟩ : Array Value) = args ++ Array.replicate (fn.ntmps - args.size) undef)
    (hk : Ok P E R (.code m c t h [.base fn])) (r : HRep h σ) : vcallOf P E (vwp P E (m + 1)) f args σ R := by
  refine .inl ?_
  unfold vbody
  simp only [hfn, hc]
  have := hk σ r
  rw [base_post, ht] at this
  exact this
theorem subN_ok {X : XFCall} (hX : XFOk E X) (N : Nat) : ∀ k, SubOk P E (subN P X N k)
  | 0 => fun m f args h v h' σ hx => by cases hx
  | k + 1 => fun m f args h v h' σ hx r R hR => by
    unfold subN at hx
    split at hx
    · rename_i q hq
      cases hx
      obtain ⟨σ', r', hE⟩ := hX _ _ _ _ _ _ hq r
      exact .inr (.inr (hE R (hR σ' r')))
    · cases m with
      | zero => cases hx
      | succ m =>
        dsimp only at hx
        split at hx
        case h_2 => cases hx
        rename_i fn hfn
        split at hx
        case h_2 => cases hx
        rename_i c hc
        obtain ⟨l0, e3, e4⟩ := tmps0_eq fn args (fun t => runE P X (subN P X N k) N (.code m c t h [.base fn]))
        rw [e3] at hx
        exact body_of hfn hc e4 (runE_ok hX (subN_ok hX N k) N hx hR) r
/- Blocks that are given up. -/
theorem gc_ok {R : VC → Prop} {m : Nat} {c : Code} {t : List Value} {h h' : HF} {K : List Fr} (ids : List Nat) (hg : mskF ids h some = some h') (hk : Ok P E R (.code m c t h' K)) : Ok P E R (.out .normal t h (.seq m c :: K)) := by
  intro σ r
  obtain ⟨h1, r1, e⟩ := mskF_ok r hg
  cases e
  refine ⟨mskL σ ids, ⟨by rw [mskL_eq, msk_size], fun id => ?_⟩, hk _ r1⟩
  rw [mskL_eq, msk_get]
  cases σ[id]? with
  | none => exact .inl rfl
  | some o =>
    cases hb : ids.contains id with
    | true => exact .inr rfl
    | false => exact .inl rfl
/- Known calls. -/
def noXF : XFCall := fun _ _ _ => none
theorem noXF_ok : XFOk noE noXF := fun _ _ _ _ _ _ h => by cases h
def orXF (X Y : XFCall) : XFCall := fun f args h => match X f args h with
  | some r => some r
  | none => Y f args h
theorem orXF_ok {X Y : XFCall} {C D : VCall} (hx : XFOk C X) (hy : XFOk D Y) : XFOk (orE C D) (orXF X Y) := by
  intro f args h v h' σ hh r
  unfold orXF at hh
  split at hh
  · rename_i q hq; cases hh
    obtain ⟨σ', r', hE⟩ := hx _ _ _ _ _ _ hq r
    exact ⟨σ', r', fun R hR => .inl (hE R hR)⟩
  · obtain ⟨σ', r', hE⟩ := hy _ _ _ _ _ _ hh r
    exact ⟨σ', r', fun R hR => .inr (hE R hR)⟩
def oneXF (g : FuncId) : XFCall := fun f args h => match Nat.beq f g, args with
  | true, ⟨[]⟩ => some (.bool true, h)
  | _, _ => none
theorem oneXF_ok (g : FuncId) : XFOk (oneE g) (oneXF g) := by
  intro f args h v h' σ hx r
  unfold oneXF at hx
  split at hx
  · rename_i hf
    cases hx
    exact ⟨σ, r, fun R hR => ⟨Nat.eq_of_beq_eq_true hf, rfl, hR⟩⟩
  · cases hx
noncomputable def globIntF (h : HF) (g : Nat) : Bool := match gfindF h g 16 0 with
  | some id => match h.get id with
    | some (.cells b) => match b.cells with
      | ⟨[.int .i64 _]⟩ => true
      | _ => false
    | _ => false
  | none => false
theorem globIntF_eq {h : HF} {σ : VHeap} (r : HRep h σ) (g : Nat) : globIntF h g = globInt σ g := by
  unfold globIntF globInt
  simp only [gfindF_eq r, r.look]
  rfl
noncomputable def oneGXF (f0 : FuncId) (g : Nat) : XFCall := fun f args h => match Nat.beq f f0, args with
  | true, ⟨[]⟩ => bif globIntF h g then some (.bool true, h) else none
  | _, _ => none
theorem oneGXF_ok (f0 : FuncId) (g : Nat) : XFOk (oneGE f0 g) (oneGXF f0 g) := by
  intro f args h v h' σ hx r
  unfold oneGXF at hx
  split at hx
  · rename_i hf
    obtain ⟨hg, hx⟩ := bif_some hx
    cases hx
    rw [globIntF_eq r] at hg
    exact ⟨σ, r, fun R hR => ⟨Nat.eq_of_beq_eq_true hf, rfl, hg, hR⟩⟩
  · cases hx
noncomputable def idxXF (f0 : FuncId) (g : Nat) : XFCall := fun f args h => match Nat.beq f f0, args with
  | true, ⟨[.string s, .string t]⟩ => bif Nat.blt (lenA s.data.toList 0) 4294967281 && globIntF h g then some (.int .i64 (idx t.data.toList s.data.toList 0), h) else none
  | _, _ => none
theorem idxXF_ok (f0 : FuncId) (g : Nat) : XFOk (idxE f0 g) (idxXF f0 g) := by
  intro f args h v h' σ hx r
  unfold idxXF at hx
  split at hx
  · rename_i s t hf
    obtain ⟨hg, hx⟩ := bif_some hx
    cases hx
    simp only [Bool.and_eq_true] at hg
    obtain ⟨h1, h2⟩ := hg
    rw [globIntF_eq r] at h2
    rw [lenA_eq] at h1
    refine ⟨σ, r, fun R hR => ⟨Nat.eq_of_beq_eq_true hf, s, t, rfl, ?_, h2, ?_⟩⟩
    · have h1 : 0 + s.data.toList.length + 1 ≤ 4294967281 := Nat.le_of_ble_eq_true h1
      have h3 : s.data.size = s.size := rfl
      rw [Array.length_toList] at h1
      omega
    · have : idx t.data.toList s.data.toList 0 = Lib.index s.data.toList t.data.toList := by
        rw [idx_eq]
        split
        · rename_i h1; rw [beq_iff_eq] at h1; rw [h1]
        · simp
      rw [← this]
      exact hR
  · cases hx
/- The beginning. -/
def isT : VC → Prop
  | .ret v _ => v = .bool true
  | .pan _ _ => False
theorem ends {h : HF} : Ok P E isT (.fin (.bool true) h) := fun _ _ => rfl
def h0 : HF := ⟨0, .e⟩
theorem h0_rep : HRep h0 #[] := ⟨rfl, Tr.wf_e _, Nat.zero_le _, fun i hi => absurd hi (Nat.not_lt_zero i)⟩
/-- A call, by what is shown of its beginning. -/
theorem calls_of {ρ : Rho} {σ : VHeap} {B0 : Base} (hm : P.follows .mixedOrders = true) (hE : ClOk P E) {m : Nat} {f : FuncId} {fn : Func} {c : Code} {args : Array Value} {t : List Value} {h : HF} (hfn : P.funcs[f]? = some fn) (hc : fn.body = some c)
    (ht : (⟨t⟩ : Array Value) = args ++ Array.replicate (fn.ntmps - args.size) undef) (ha : args.all clean = true) (r : HRep h σ) {w : World} (hw : WRel ρ σ w w B0) (hU : ∀ k, k < w.heap.size → B0.U k)
    (hk : Ok P E isT (.code m c t h [.base fn])) : Calls P f args w fun e w' => e = .returned (.bool true) ∧ Below w.heap.size w w' := by
  refine (calls_ok hm hE (show vcallW P E (m + 1) f args σ isT from body_of hfn hc ht hk r) (clean_args ha _) hw).mono fun e w' he => ?_
  cases e with
  | returned v' =>
    obtain ⟨ρ2, v, σ2, -, h2, h3, h4⟩ := he
    have h2 : v = .bool true := h2
    subst h2
    cases h3
    exact ⟨rfl, h4.below.os, h4.below.tape, h4.below.output, h4.below.size, fun k hk => h4.below.block k (hU k hk)⟩
  | panicked ch =>
    obtain ⟨ρ2, v, v', σ2, -, -, h2, -⟩ := he
    exact h2.elim
  | outgrown => exact he.elim
theorem nullF (hm : P.follows .mixedOrders = true) (hE : ClOk P E) {m : Nat} {f : FuncId} {fn : Func} {c : Code} {t : List Value} (hfn : P.funcs[f]? = some fn) (hc : fn.body = some c) (ht : List.replicate fn.ntmps undef = t)
    (hk : Ok P E isT (.code m c t h0 [.base fn])) (w : World) : Calls P f #[] w fun e w' => e = .returned (.bool true) ∧ Below w.heap.size w w' :=
  calls_of hm hE hfn hc (by subst ht; apply Array.ext'; simp) (by simp) h0_rep (start w) (fun _ h => h) hk
noncomputable def hG (g : Nat) (e : TypeId) (m : Int) : HF := ⟨1, .n (.n (.n (.n (.n (.n (.n (.n (.n (.n (.n (.n (.n (.l (g0 g e m)) .e) .e) .e) .e) .e) .e) .e) .e) .e) .e) .e) .e) .e⟩
theorem hG_rep (g : Nat) (e : TypeId) (m : Int) : HRep (hG g e m) #[g0 g e m] := by
  have h := h0_rep
  obtain ⟨h', r', hx⟩ := h.push (o := g0 g e m) (k := some) (x := hG g e m) (by
    unfold HF.push
    show (fObj (g0 g e m) fun o => Tr.setF o 13 .e 0 fun t => some (HF.mk 1 t)) = some (hG g e m)
    rw [fObj_eq, Tr.setF_eq]
    rfl)
  cases hx
  exact r'
theorem nullG (hm : P.follows .mixedOrders = true) (hE : ClOk P E) {m : Nat} {f : FuncId} {fn : Func} {c : Code} {t : List Value} (hfn : P.funcs[f]? = some fn) (hc : fn.body = some c) (ht : List.replicate fn.ntmps undef = t) (g : Nat)
    (hk : ∀ e n, Ok P E isT (.code m c t (hG g e n) [.base fn])) (w : World) {n : Int} (hcell : w.cell? ⟨g, 0, none⟩ = some (.int .i64 n)) : Calls P f #[] w fun e w' => e = .returned (.bool true) ∧ Below w.heap.size w w' := by
  obtain ⟨e, ρ, hw⟩ := startG w g n hcell
  exact calls_of hm hE hfn hc (by subst ht; apply Array.ext'; simp) (by simp) (hG_rep g e n) hw (fun _ h => h) (hk e n)
end
/- Heaps that are written down: so many blocks, all of them given up but these. -/
noncomputable def fStrObj {α : Type} (o : VObj) (k : VObj → α) : α := match o with
  | .cells ⟨⟨l⟩, e, f, kn, r, z⟩ => match f with
    | .ro => k (.cells ⟨⟨l⟩, e, .ro, kn, r, z⟩)
    | f => fList fStr l fun l => k (.cells ⟨⟨l⟩, e, f, kn, r, z⟩)
  | o => fObj o k
theorem fStrObj_eq {α : Type} (o : VObj) (k : VObj → α) : fStrObj o k = k o := by
  unfold fStrObj
  split
  · split
    · rfl
    · rw [fList_eq fStr_eq]
  · rw [fObj_eq]
noncomputable def setsK {α : Type} (l : List (Nat × VObj)) : Tr → (Tr → α) → α := List.rec (motive := fun _ => Tr → (Tr → α) → α) (fun t k => k t) (fun x _ ih t k => fStrObj x.2 fun o => t.setF o 13 x.1 fun t => ih t k) l
noncomputable def sets (l : List (Nat × VObj)) (t : Tr) : Tr := l.foldl (fun t x => t.setP x.2 13 x.1) t
theorem setsK_eq {α : Type} (l : List (Nat × VObj)) : ∀ (t : Tr) (k : Tr → α), setsK l t k = k (sets l t) := by
  induction l with
  | nil => intro t k; rfl
  | cons x l ih =>
    intro t k
    show (fStrObj x.2 fun o => t.setF o 13 x.1 fun t => setsK l t k) = _
    rw [fStrObj_eq, Tr.setF_eq, ih]
    rfl
noncomputable def mkHK {α : Type} (n : Nat) (l : List (Nat × VObj)) (k : HF → α) : α := setsK l .e fun t => k ⟨n, t⟩
noncomputable def mkH (n : Nat) (l : List (Nat × VObj)) : HF := ⟨n, sets l .e⟩
theorem mkHK_eq {α : Type} (n : Nat) (l : List (Nat × VObj)) (k : HF → α) : mkHK n l k = k (mkH n l) := by
  unfold mkHK mkH
  rw [setsK_eq]
/-- Some steps, and what is given up then. -/
noncomputable def gcC (ids : List Nat) : Cfg → Option Cfg
  | .out .normal t h (.seq m c :: K) => mskF ids h fun h' => some (.code m c t h' K)
  | _ => none
theorem gcC_ok {P : Program} {E : VCall} {R : VC → Prop} {ids : List Nat} {c c' : Cfg} (hg : gcC ids c = some c') (hk : Ok P E R c') : Ok P E R c := by
  unfold gcC at hg
  split at hg
  case h_2 => cases hg
  rename_i t h m c K
  cases hm : mskF ids h some with
  | none =>
    exfalso
    have : ∀ (ids : List Nat) (h : HF) (k : HF → Option Cfg), mskF ids h some = none → mskF ids h k = none := by
      intro ids
      induction ids with
      | nil => intro h k e; cases e
      | cons i ids ih =>
        intro h k e
        unfold mskF at e ⊢
        unfold HF.del at e ⊢
        cases hb : Nat.ble (i + 1) h.n with
        | false => rfl
        | true =>
          rw [hb] at e
          have e : (h.t.delF 13 i fun t => mskF ids ⟨h.n, t⟩ some) = none := e
          show (h.t.delF 13 i fun t => mskF ids ⟨h.n, t⟩ k) = none
          rw [Tr.delF_eq] at e ⊢
          exact ih _ _ e
    rw [this ids h _ hm] at hg
    cases hg
  | some h1 =>
    have : ∀ (ids : List Nat) (h h1 : HF) (k : HF → Option Cfg), mskF ids h some = some h1 → mskF ids h k = k h1 := by
      intro ids
      induction ids with
      | nil => intro h h1 k e; cases e; rfl
      | cons i ids ih =>
        intro h h1 k e
        unfold mskF at e ⊢
        unfold HF.del at e ⊢
        cases hb : Nat.ble (i + 1) h.n with
        | false => rw [hb] at e; cases e
        | true =>
          rw [hb] at e
          have e : (h.t.delF 13 i fun t => mskF ids ⟨h.n, t⟩ some) = some h1 := e
          show (h.t.delF 13 i fun t => mskF ids ⟨h.n, t⟩ k) = _
          rw [Tr.delF_eq] at e ⊢
          exact ih _ _ _ e
    rw [this ids h h1 _ hm] at hg
    cases hg
    exact gc_ok ids hm hk
noncomputable def runG (P : Program) (X : XFCall) (sub : SubF) (n : Nat) (ids : List Nat) (c : Cfg) : Option Cfg := match runF P X sub n c with
  | some c' => gcC ids c'
  | none => none
theorem runG_ok {P : Program} {E : VCall} {R : VC → Prop} {X : XFCall} {sub : SubF} (hX : XFOk E X) (hsub : SubOk P E sub) {n : Nat} {ids : List Nat} {c c' : Cfg} (h : runG P X sub n ids c = some c') (hk : Ok P E R c') : Ok P E R c := by
  unfold runG at h
  split at h
  case h_2 => cases h
  rename_i c1 h1
  exact runF_ok hX hsub n h1 (gcC_ok h hk)
def endsT : Option (Value × HF) → Bool
  | some (.bool b, _) => b
  | _ => false
theorem endsT_ok {P : Program} {E : VCall} {X : XFCall} {sub : SubF} (hX : XFOk E X) (hsub : SubOk P E sub) {n : Nat} {c : Cfg} (h : endsT (runE P X sub n c) = true) : Ok P E isT c := by
  unfold endsT at h
  split at h
  case h_2 => cases h
  rename_i b h1 hb
  subst h
  exact runE_ok hX hsub n hb fun _ _ => rfl
/- Code, by its place. -/
def cAt : List Nat → Code → Code
  | [], c => c
  | 0 :: p, .seq a _ => cAt p a
  | _ :: p, .seq _ b => cAt p b
  | 0 :: p, .cond _ a _ => cAt p a
  | _ :: p, .cond _ _ b => cAt p b
  | _ :: p, .block _ b => cAt p b
  | _ :: p, .loop b => cAt p b
  | _, _ => .skip
def opsAt (c : Code) : Array Oper := match c with
  | .region _ ops _ => ops
  | _ => #[]
def fnOf (P : Program) (f : FuncId) : Func := (P.funcs[f]?).getD default
def operAt (c : Code) (i : Nat) : Oper := ((opsAt c)[i]?).getD default
def restAt (c : Code) (i : Nat) : List Oper := (opsAt c).toList.drop i
end Vm
end Go.Proofs.YtdbdmgmenojcaaaDoor
namespace Go.Proofs.YtdbdmgmenojcaaaDoor
namespace Vm
set_option linter.unusedSimpArgs false
set_option linter.unusedVariables false
open Go.RowKit

noncomputable def dwK {α : Type} (c : Nat) (l : List UInt8) : (List UInt8 → α) → α := List.rec (motive := fun _ => (List UInt8 → α) → α) (fun k => k []) (fun a l ih k => Bool.rec (motive := fun _ => α) (k (a :: l)) (ih k) (Nat.beq a.toNat c)) l
theorem dwK_eq {α : Type} (c : UInt8) (l : List UInt8) : ∀ k : List UInt8 → α, dwK c.toNat l k = k (Lib.trimLeftB l c) := by
  unfold Lib.trimLeftB
  induction l with
  | nil => intro k; rfl
  | cons a l ih =>
    intro k
    show Bool.rec (motive := fun _ => α) (k (a :: l)) (dwK c.toNat l k) (Nat.beq a.toNat c.toNat) = _
    have h1 : Nat.beq a.toNat c.toNat = (a == c) := by
      rw [Bool.eq_iff_iff, Nat.beq_eq]
      simp [UInt8.toNat_inj]
    rw [h1, List.dropWhile_cons]
    cases (a == c) with
    | true => exact ih k
    | false => rfl
def trimE (f0 : FuncId) : VCall := fun f args σ R => f = f0 ∧ ∃ (s : ByteArray) (c : UInt8), args = #[.string s, .string ⟨#[c]⟩] ∧ c.toNat < 128 ∧ R (.ret (.string ⟨(Lib.trimLeftB s.data.toList c).toArray⟩) σ)
noncomputable def trimXF (f0 : FuncId) : XFCall := fun f args h => match Nat.beq f f0, args with
  | true, ⟨[.string s, .string ⟨⟨[c]⟩⟩]⟩ => bif Nat.blt c.toNat 128 then dwK c.toNat s.data.toList fun l => some (.string ⟨⟨l⟩⟩, h) else none
  | _, _ => none
theorem trimXF_ok (f0 : FuncId) : XFOk (trimE f0) (trimXF f0) := by
  intro f args h v h' σ hx r
  unfold trimXF at hx
  split at hx
  · rename_i s c hf
    obtain ⟨hc, hx2⟩ := bif_some hx
    rw [dwK_eq] at hx2
    cases hx2
    exact ⟨σ, r, fun R hR => ⟨Nat.eq_of_beq_eq_true hf, s, c, rfl, Nat.le_of_ble_eq_true hc, hR⟩⟩
  · cases hx
theorem trimE_ok {P : Program} {f0 : FuncId}
    (hg : ∀ (s : ByteArray) (c : UInt8) (w : World), c.toNat < 128 → Calls P f0 #[.string s, .string ⟨#[c]⟩] w fun e w' => e = .returned (.string ⟨(Lib.trimLeftB s.data.toList c).toArray⟩) ∧ w' = w) :
    ClOk P (trimE f0) := by
  rintro f args args' σ R ρ w0 w B0 ⟨rfl, s, c, rfl, hc, hR⟩ ha hw
  have : args' = #[.string s, .string ⟨#[c]⟩] := clean_arr (by simp [clean, cleanC]) ha
  subst this
  refine (hg s c w hc).mono fun e w' ⟨he, hb⟩ => ?_
  subst he
  subst hb
  exact ⟨ρ, _, σ, Rho.le_refl _, hR, .string _, hw⟩
noncomputable def repK {α : Type} (l : List UInt8) (n : Nat) : (List UInt8 → α) → α := Nat.rec (motive := fun _ => (List UInt8 → α) → α) (fun k => k []) (fun _ ih k => ih fun m => appK m l k) n
theorem repK_eq {α : Type} (l : List UInt8) (n : Nat) : ∀ k : List UInt8 → α, repK l n k = k (Lib.repeatL l n) := by
  induction n with
  | zero => intro k; rfl
  | succ n ih =>
    intro k
    show repK l n (fun m => appK m l k) = _
    rw [ih, appK_eq]; rfl
def repE (f0 : FuncId) : VCall := fun f args σ R => f = f0 ∧ ∃ (s : ByteArray) (c : Nat), args = #[.string s, .int .i64 c] ∧ c ≤ 9223372036854775807 ∧ s.size * c ≤ 140737488355328 ∧ R (.ret (.string ⟨(Lib.repeatL s.data.toList c).toArray⟩) σ)
noncomputable def repXF (f0 : FuncId) : XFCall := fun f args h => match Nat.beq f f0, args with
  | true, ⟨[.string s, .int .i64 (.ofNat c)]⟩ => bif Nat.ble c 9223372036854775807 && Nat.ble (lenA s.data.toList 0 * c) 140737488355328 then repK s.data.toList c fun l => some (.string ⟨⟨l⟩⟩, h) else none
  | _, _ => none
theorem repXF_ok (f0 : FuncId) : XFOk (repE f0) (repXF f0) := by
  intro f args h v h' σ hx r
  unfold repXF at hx
  split at hx
  · rename_i s c hf
    obtain ⟨hc, hx2⟩ := bif_some hx
    rw [repK_eq] at hx2
    cases hx2
    rw [Bool.and_eq_true, lenA_eq, Nat.zero_add, Array.length_toList] at hc
    exact ⟨σ, r, fun R hR => ⟨Nat.eq_of_beq_eq_true hf, s, c, rfl, Nat.le_of_ble_eq_true hc.1, Nat.le_of_ble_eq_true hc.2, hR⟩⟩
  · cases hx
theorem repE_ok {P : Program} {f0 : FuncId}
    (hg : ∀ (s : ByteArray) (c : Nat) (w : World), c ≤ 9223372036854775807 → s.size * c ≤ 140737488355328 → Calls P f0 #[.string s, .int .i64 c] w fun e w' => e = .returned (.string ⟨(Lib.repeatL s.data.toList c).toArray⟩) ∧ Below w.heap.size w w') :
    ClOk P (repE f0) := by
  rintro f args args' σ R ρ w0 w B0 ⟨rfl, s, c, rfl, hc, hs, hR⟩ ha hw
  have : args' = #[.string s, .int .i64 c] := clean_arr (by simp [clean, cleanC]) ha
  subst this
  refine (hg s c w hc hs).mono fun e w' ⟨he, hb⟩ => ?_
  subst he
  exact ⟨ρ, _, σ, Rho.le_refl _, hR, .string _, hw.later hb⟩
/-- Lib.indexByte, quickly. -/
noncomputable def ibF (c : Nat) (l : List UInt8) : Nat → Int := List.rec (motive := fun _ => Nat → Int) (fun _ => .negSucc 0) (fun a _ ih k => Bool.rec (motive := fun _ => Int) (fNat (Nat.succ k) ih) (.ofNat k) (Nat.beq a.toNat c)) l
theorem ibF_eq (c : Nat) (hc : c < 256) (l : List UInt8) : ∀ k : Nat, ibF c l k = if Lib.indexByte l c.toUInt8 == -1 then -1 else Lib.indexByte l c.toUInt8 + k := by
  induction l with
  | nil => intro k; rfl
  | cons a l ih =>
    intro k
    show Bool.rec (motive := fun _ => Int) (fNat (Nat.succ k) (ibF c l)) (.ofNat k) (Nat.beq a.toNat c) = _
    have h1 : Nat.beq a.toNat c = (a == c.toUInt8) := by
      have h2 : c.toUInt8.toNat = c := by simp [Nat.toUInt8]; omega
      rw [Bool.eq_iff_iff, Nat.beq_eq, beq_iff_eq, ← UInt8.toNat_inj, h2]
    unfold Lib.indexByte
    rw [h1, fNat_eq]
    cases hb : (a == c.toUInt8) with
    | true => simp
    | false =>
      simp only [Bool.false_eq_true, if_false]
      rw [ih]
      by_cases h : Lib.indexByte l c.toUInt8 = -1
      · simp [h]
      · have := Lib.indexByte_ge l c.toUInt8
        have h2 : ¬ Lib.indexByte l c.toUInt8 + 1 = -1 := by omega
        simp only [beq_iff_eq, h, if_false, h2]
        push_cast
        omega
def ibE (f0 : FuncId) : VCall := fun f args σ R => f = f0 ∧ ∃ (s : ByteArray) (c : Int), args = #[.string s, .int .u8 c] ∧ R (.ret (.int .i64 (Lib.indexByte s.data.toList c.toNat.toUInt8)) σ)
noncomputable def ibXF (f0 : FuncId) : XFCall := fun f args h => match Nat.beq f f0, args with
  | true, ⟨[.string s, .int .u8 (.ofNat c)]⟩ => bif Nat.blt c 256 then some (.int .i64 (ibF c s.data.toList 0), h) else none
  | _, _ => none
theorem ibXF_ok (f0 : FuncId) : XFOk (ibE f0) (ibXF f0) := by
  intro f args h v h' σ hx r
  unfold ibXF at hx
  split at hx
  · rename_i s c hf
    obtain ⟨hc, hx2⟩ := bif_some hx
    cases hx2
    refine ⟨σ, r, fun R hR => ⟨Nat.eq_of_beq_eq_true hf, s, .ofNat c, rfl, ?_⟩⟩
    have : ibF c s.data.toList 0 = Lib.indexByte s.data.toList (Int.ofNat c).toNat.toUInt8 := by
      show _ = Lib.indexByte s.data.toList c.toUInt8
      rw [ibF_eq c (Nat.le_of_ble_eq_true hc)]
      split
      · rename_i h1; rw [beq_iff_eq] at h1; rw [h1]
      · simp
    rw [← this]
    exact hR
  · cases hx
theorem ibE_ok {P : Program} {f0 : FuncId}
    (hg : ∀ (s : ByteArray) (c : Int) (w : World), Calls P f0 #[.string s, .int .u8 c] w fun e w' => e = .returned (.int .i64 (Lib.indexByte s.data.toList c.toNat.toUInt8)) ∧ w' = w) :
    ClOk P (ibE f0) := by
  rintro f args args' σ R ρ w0 w B0 ⟨rfl, s, c, rfl, hR⟩ ha hw
  have : args' = #[.string s, .int .u8 c] := clean_arr (by simp [clean, cleanC]) ha
  subst this
  refine (hg s c w).mono fun e w' ⟨he, hb⟩ => ?_
  subst he
  subst hb
  exact ⟨ρ, _, σ, Rho.le_refl _, hR, .int _ _, hw⟩
namespace Lit
/-- A text by its runs. -/
def R (l : List (Nat × Nat)) : Value := .string ⟨⟨l.flatMap fun x => List.replicate x.2 (UInt8.ofNat x.1)⟩⟩
end Lit
end Vm
end Go.Proofs.YtdbdmgmenojcaaaDoor
