/- A machine of small steps over the quick memory: it can be stopped, and gone on with, anywhere. -/
import Derived.Test.YtjgfhdabcahokaaVm33
import Derived.Test.YtjgfhdabcahokaaVm38
namespace Go.Proofs.Ytjgfhdabcahokaa
namespace Vm
set_option linter.unusedSimpArgs false
set_option linter.unusedVariables false
open Go.RowKit

/-- Operations, one by one, as a list. -/
def vwpOpsL (P : Program) (cl : VCall) (ops : Array Oper) (Q : VPost) : List Oper → Array Value → VHeap → Prop
  | [], t, σ => Q .normal t σ
  | o :: l, t, σ =>
      if Region.wanted o (yielded ops t) = true then
        o.op.operands.all constOk = true ∧
        match vop P o (vev t) σ with
        | some (.val v σ') => vwpOpsL P cl ops Q l (vput t o.dst v) σ'
        | some (.skip σ') => vwpOpsL P cl ops Q l (vput t o.dst undef) σ'
        | some (.enter f args σ') => cl f args σ' fun r => match r with
            | .ret v σ'' => vwpOpsL P cl ops Q l (vput t o.dst v) σ''
            | .pan v σ'' => Q (.pan v) t σ''
        | some (.pan v σ') => Q (.pan v) t σ'
        | none => False
      else vwpOpsL P cl ops Q l (vput t o.dst undef) σ
theorem opsL_range (P : Program) (cl : VCall) (ops : Array Oper) (Q : VPost) : ∀ (n k : Nat), k + n = ops.size → vwpOpsL P cl ops Q (ops.toList.drop k) = vwpOps P cl ops Q (List.range' k n)
  | 0, k, hk => by
    have : ops.toList.drop k = [] := List.drop_eq_nil_of_le (by simp; omega)
    rw [this]
    rfl
  | n + 1, k, hk => by
    have hlt : k < ops.toList.length := by simp; omega
    have hlt' : k < ops.size := by omega
    rw [List.drop_eq_getElem_cons hlt, List.range'_succ]
    have ih := opsL_range P cl ops Q n (k + 1) (by omega)
    have hget : ops[k]? = some ops.toList[k] := by simp [hlt']
    funext t σ
    unfold vwpOpsL vwpOps
    simp only [hget, ih]
    rfl
theorem opsL_eq (P : Program) (cl : VCall) (ops : Array Oper) (Q : VPost) : vwpOps P cl ops Q (List.range ops.size) = vwpOpsL P cl ops Q ops.toList := by
  have := opsL_range P cl ops Q ops.size 0 (by omega)
  rw [List.drop_zero] at this
  rw [this, List.range_eq_range']
/-- What waits behind the code that is run. -/
inductive Fr where
  | seq (m : Nat) (c : Code)
  | block (id : Nat)
  | loop (m : Nat) (b : Code)
  | call (m : Nat) (o : Oper) (rest : List Oper) (ops : Array Oper) (t : List Value) (fn : Func)
  | base (fn : Func)
inductive Cfg where
  | code (m : Nat) (c : Code) (t : List Value) (h : HF) (K : List Fr)
  | ops (m : Nat) (ops : Array Oper) (rest : List Oper) (t : List Value) (h : HF) (K : List Fr)
  | out (e : VExit) (t : List Value) (h : HF) (K : List Fr)
  | fin (v : Value) (h : HF)
section
variable {α β : Type} (P : Program) (E : VCall) (R : VC → Prop)
def postK : List Fr → VPost
  | [], _, _, _ => False
  | .seq m c :: K, e, t, σ => match e with
    | .normal => ∃ σ', Forget σ σ' ∧ vwp P E (m + 1) c (postK K) t σ'
    | e => postK K e t σ
  | .block id :: K, e, t, σ => match e with
    | .exit j => if j = id then postK K .normal t σ else postK K (.exit j) t σ
    | e => postK K e t σ
  | .loop m b :: K, e, t, σ => match e with
    | .normal => vwp P E m (.loop b) (postK K) t σ
    | e => postK K e t σ
  | .call m o rest ops t0 fn :: K, e, t, σ => match e with
    | .normal | .ret => ∃ v σ'', vrun P (results fn t) σ = some (v, σ'') ∧ vwpOpsL P (vcallOf P E (vwp P E m)) ops (postK K) rest (vput ⟨t0⟩ o.dst v) σ''
    | .pan v => postK K (.pan v) ⟨t0⟩ σ
    | .exit _ => False
  | .base fn :: _, e, t, σ => match e with
    | .normal | .ret => ∃ v σ'', vrun P (results fn t) σ = some (v, σ'') ∧ R (.ret v σ'')
    | .pan v => R (.pan v σ)
    | .exit _ => False
def Ok : Cfg → Prop
  | .code m c t h K => ∀ σ, HRep h σ → vwp P E (m + 1) c (postK P E R K) ⟨t⟩ σ
  | .ops m ops rest t h K => ∀ σ, HRep h σ → vwpOpsL P (vcallOf P E (vwp P E m)) ops (postK P E R K) rest ⟨t⟩ σ
  | .out e t h K => ∀ σ, HRep h σ → postK P E R K e ⟨t⟩ σ
  | .fin v h => ∀ σ, HRep h σ → R (.ret v σ)
/-- Results, quickly. -/
noncomputable def resT (t : List Value) (l : List ResultVar) : Option (List Value) := List.rec (motive := fun _ => Option (List Value)) (some []) (fun r _ ih => match r with
  | .tmp i => match ih with
    | some l => some (nthD t i :: l)
    | none => none
  | _ => none) l
noncomputable def resF (fn : Func) (t : List Value) (h : HF) : Option (Value × HF) := match resT t fn.results.toList with
  | some [v] => some (v, h)
  | some l => some (.tuple ⟨l⟩, h)
  | none => vrunF P (results fn ⟨t⟩) h
theorem resT_ok (t : List Value) : ∀ (rs : List ResultVar) (l : List Value), resT t rs = some l → (rs.mapM (oneResult ⟨t⟩) : Sem (List Value)) = pure l
  | [], l, h => by cases h; rfl
  | r :: rs, l, h => by
    cases r with
    | cell a ty => cases h
    | tmp i =>
      have h : (match resT t rs with | some l => some (nthD t i :: l) | none => none) = some l := h
      split at h
      case h_2 => cases h
      rename_i l' hl
      cases h
      rw [List.mapM_cons, resT_ok t rs l' hl]
      show (Pure.pure _ : Sem Value) >>= _ = _
      rw [nthD_eq]
      rfl
variable {P}
theorem resF_ok {fn : Func} {t : List Value} {h h' : HF} {σ : VHeap} {v : Value} (r : HRep h σ) (hx : resF P fn t h = some (v, h')) : ∃ σ', vrun P (results fn ⟨t⟩) σ = some (v, σ') ∧ HRep h' σ' := by
  unfold resF at hx
  split at hx
  · rename_i u hu
    cases hx
    rw [results_eq, Array.mapM_eq_mapM_toList, resT_ok t _ _ hu]
    exact ⟨σ, rfl, r⟩
  · rename_i l hl hu
    cases hx
    rw [results_eq, Array.mapM_eq_mapM_toList, resT_ok t _ _ hu]
    refine ⟨σ, ?_, r⟩
    show vrun P (pure (if h : (⟨l⟩ : Array Value).size = 1 then (⟨l⟩ : Array Value)[0] else .tuple ⟨l⟩)) σ = _
    rw [dif_neg]
    · rfl
    · intro h1
      match l, h1 with
      | [v], _ => exact hl v rfl
  · exact vrunF_ok _ r hx
variable (P)
noncomputable def repF (n : Nat) (l : List Value) : List Value := Nat.rec (motive := fun _ => List Value) l (fun _ ih => undef :: ih) n
theorem repF_eq (n : Nat) (l : List Value) : repF n l = List.replicate n undef ++ l := by
  induction n with
  | zero => rfl
  | succ n ih => show undef :: repF n l = _; rw [ih]; rfl
/-- The temporaries of a call that begins. -/
noncomputable def tmps0 (fn : Func) (args : Array Value) (k : List Value → α) : α := fList fVal args.toList fun l => fNat (lenA l 0) fun n => fList fVal (appF l (repF (fn.ntmps - n) [])) k
theorem tmps0_eq (fn : Func) (args : Array Value) (k : List Value → α) : ∃ l, tmps0 fn args k = k l ∧ (⟨l⟩ : Array Value) = args ++ Array.replicate (fn.ntmps - args.size) undef := by
  refine ⟨args.toList ++ List.replicate (fn.ntmps - args.size) undef, ?_, ?_⟩
  · unfold tmps0
    rw [fList_eq fVal_eq, fNat_eq, fList_eq fVal_eq, appF_eq, repF_eq, lenA_eq, List.append_nil, Nat.zero_add, Array.length_toList]
  · apply Array.ext'; simp
abbrev XFCall := FuncId → Array Value → HF → Option (Value × HF)
def XFOk (E : VCall) (X : XFCall) : Prop := ∀ f args h v h' σ, X f args h = some (v, h') → HRep h σ → ∃ σ', HRep h' σ' ∧ ∀ R : VC → Prop, R (.ret v σ') → E f args σ R
noncomputable def step (X : XFCall) (sub : SubF) : Cfg → Option Cfg
  | .fin _ _ => none
  | .code m c t h K => match c with
    | .skip => some (.out .normal t h K)
    | .region _ ops draw => bif draw then
        fList fNat (asap P ops ops.size []) fun pl => fList fNat (masksOf ops pl) fun ms =>
        bif planOk ops pl ms (effAt P ops) then
          match planF P (sub m) ops (preOf ms) (effAt P ops) pl [] [] t h with
          | some (t', h') => some (.out .normal t' h' K)
          | none => none
        else none
      else some (.ops m ops ops.toList t h K)
    | .seq a b => some (.code m a t h (.seq m b :: K))
    | .cond c a b => match vevF t c with
      | .bool x => bif x then some (.code m a t h K) else some (.code m b t h K)
      | _ => none
    | .block id b => some (.code m b t h (.block id :: K))
    | .loop b => some (.code m b t h (.loop m b :: K))
    | .exit id => some (.out (.exit id) t h K)
    | .ret => some (.out .ret t h K)
    | .label _ => some (.out .normal t h K)
    | _ => none
  | .out e t h K => match K with
    | [] => none
    | .seq m c :: K => match e with
      | .normal => some (.code m c t h K)
      | e => some (.out e t h K)
    | .block id :: K => match e with
      | .exit j => bif Nat.beq j id then some (.out .normal t h K) else some (.out (.exit j) t h K)
      | e => some (.out e t h K)
    | .loop m b :: K => match e with
      | .normal => match m with
        | 0 => none
        | m + 1 => some (.code m (.loop b) t h K)
      | e => some (.out e t h K)
    | .call m o rest ops t0 fn :: K => match e with
      | .exit _ => none
      | .pan v => some (.out (.pan v) t0 h K)
      | _ => match resF P fn t h with
        | some (v, h') => putF o t0 v fun t1 => some (.ops m ops rest t1 h' K)
        | none => none
    | .base fn :: _ => match e with
      | .exit _ => none
      | .pan _ => none
      | _ => match resF P fn t h with
        | some (v, h') => fVal v fun v => some (.fin v h')
        | none => none
  | .ops m ops rest t h K => match rest with
    | [] => some (.out .normal t h K)
    | o :: l =>
      bif Region.wanted o (yielded ops ⟨t⟩) then
        bif o.op.operands.all constOk then
          match vopY P o (vevF t) h with
          | some (.val v h') => putF o t v fun t' => some (.ops m ops l t' h' K)
          | some (.skip h') => putF o t undef fun t' => some (.ops m ops l t' h' K)
          | some (.pan v h') => some (.out (.pan v) t h' K)
          | some (.enter f args h') => match X f args h' with
            | some (v, h'') => putF o t v fun t' => some (.ops m ops l t' h'' K)
            | none => match m with
              | 0 => none
              | m' + 1 => match P.funcs[f]? with
                | some fn => match fn.body with
                  | some c => tmps0 fn args fun t' => some (.code m' c t' h' (.call (m' + 1) o l ops t fn :: K))
                  | none => none
                | none => none
          | none => none
        else none
      else putF o t undef fun t' => some (.ops m ops l t' h K)
variable {P E R}
theorem step_ok {X : XFCall} {sub : SubF} (hX : XFOk E X) (hsub : SubOk P E sub) {c c' : Cfg} (hs : step P X sub c = some c') (h' : Ok P E R c') : Ok P E R c := by
  cases c with
  | fin v h => cases hs
  | code m c t h K =>
    intro σ r
    show vwpC P (vwp P E m) (vcallOf P E (vwp P E m)) c (postK P E R K) ⟨t⟩ σ
    cases c <;> simp only [step] at hs <;> first | (cases hs; done) | skip
    case skip => cases hs; exact h' σ r
    case region id ops draw =>
      cases draw with
      | false =>
        cases hs
        simp only [vwpC]
        rw [opsL_eq]
        exact h' σ r
      | true =>
        simp only [cond_true, fList_eq fNat_eq] at hs
        obtain ⟨hp, hs⟩ := bif_some hs
        split at hs
        case h_2 => cases hs
        rename_i t1 h1 hpl
        cases hs
        exact .inr ⟨_, _, _, planOk_ok hp, planF_ok hsub _ _ _ _ _ _ _ _ hpl r _ fun σ' r' => h' σ' r'⟩
    case seq a b =>
      cases hs
      simp only [vwpC]
      exact h' σ r
    case cond x a b =>
      simp only [vwpC]
      rw [vevF_eq] at hs
      split at hs
      case h_2 => cases hs
      rename_i y hy
      simp only [hy]
      cases y
      · cases hs; exact h' σ r
      · cases hs; exact h' σ r
    case block id b => cases hs; exact h' σ r
    case loop b => cases hs; exact h' σ r
    case exit id => cases hs; exact h' σ r
    case ret => cases hs; exact h' σ r
    case label l => cases hs; exact h' σ r
  | out e t h K =>
    intro σ r
    cases K with
    | nil => cases hs
    | cons fr K =>
      cases fr with
      | seq m c =>
        simp only [step] at hs
        simp only [postK]
        split at hs
        · cases hs; exact ⟨σ, Forget.refl σ, h' σ r⟩
        · rename_i hne
          cases hs
          have := h' σ r
          cases e with
          | normal => exact absurd rfl hne
          | _ => exact this
      | block id =>
        simp only [step] at hs
        simp only [postK]
        split at hs
        · rename_i j
          cases hb : Nat.beq j id with
          | true =>
            rw [hb] at hs
            cases hs
            rw [if_pos (Nat.eq_of_beq_eq_true hb)]
            exact h' σ r
          | false =>
            rw [hb] at hs
            cases hs
            rw [if_neg (Nat.ne_of_beq_eq_false hb)]
            exact h' σ r
        · rename_i hne
          cases hs
          have := h' σ r
          cases e with
          | exit j => exact absurd rfl (hne j)
          | _ => exact this
      | loop m b =>
        simp only [step] at hs
        simp only [postK]
        split at hs
        · cases m with
          | zero => cases hs
          | succ m => cases hs; exact h' σ r
        · rename_i hne
          cases hs
          have := h' σ r
          cases e with
          | normal => exact absurd rfl hne
          | _ => exact this
      | call m o rest ops t0 fn =>
        simp only [step] at hs
        simp only [postK]
        cases e with
        | exit j => cases hs
        | pan v => cases hs; exact h' σ r
        | normal =>
          dsimp only at hs ⊢
          split at hs
          case h_2 => cases hs
          rename_i v h1 hv
          obtain ⟨σ1, e1, r1⟩ := resF_ok r hv
          obtain ⟨t1, e2, hs⟩ := putF_ok hs
          cases hs
          exact ⟨v, σ1, e1, by rw [e2]; exact h' σ1 r1⟩
        | ret =>
          dsimp only at hs ⊢
          split at hs
          case h_2 => cases hs
          rename_i v h1 hv
          obtain ⟨σ1, e1, r1⟩ := resF_ok r hv
          obtain ⟨t1, e2, hs⟩ := putF_ok hs
          cases hs
          exact ⟨v, σ1, e1, by rw [e2]; exact h' σ1 r1⟩
      | base fn =>
        simp only [step] at hs
        simp only [postK]
        cases e with
        | exit j => cases hs
        | pan v => cases hs
        | normal =>
          dsimp only at hs ⊢
          split at hs
          case h_2 => cases hs
          rename_i v h1 hv
          obtain ⟨σ1, e1, r1⟩ := resF_ok r hv
          rw [fVal_eq] at hs
          cases hs
          exact ⟨v, σ1, e1, h' σ1 r1⟩
        | ret =>
          dsimp only at hs ⊢
          split at hs
          case h_2 => cases hs
          rename_i v h1 hv
          obtain ⟨σ1, e1, r1⟩ := resF_ok r hv
          rw [fVal_eq] at hs
          cases hs
          exact ⟨v, σ1, e1, h' σ1 r1⟩
  | ops m ops rest t h K =>
    intro σ r
    cases rest with
    | nil => cases hs; exact h' σ r
    | cons o l =>
      simp only [step] at hs
      unfold vwpOpsL
      cases hw : Region.wanted o (yielded ops ⟨t⟩) with
      | false =>
        rw [hw] at hs
        rw [if_neg (by simp)]
        obtain ⟨t1, e, hs⟩ := putF_ok hs
        cases hs
        rw [e]
        exact h' σ r
      | true =>
        rw [hw] at hs
        rw [if_pos rfl]
        simp only [cond_true] at hs
        obtain ⟨hc, hs⟩ := bif_some hs
        refine ⟨hc, ?_⟩
        split at hs
        · rename_i v h1 hv
          obtain ⟨y, e1, e2⟩ := vopY_ok r hv
          rw [vevF_eq] at e1
          cases y <;> simp only [NRep] at e2
          obtain ⟨rfl, r1⟩ := e2
          obtain ⟨t1, e, hs⟩ := putF_ok hs
          cases hs
          simp only [e1, e]
          exact h' _ r1
        · rename_i h1 hv
          obtain ⟨y, e1, e2⟩ := vopY_ok r hv
          rw [vevF_eq] at e1
          cases y <;> simp only [NRep] at e2
          obtain ⟨t1, e, hs⟩ := putF_ok hs
          cases hs
          simp only [e1, e]
          exact h' _ e2
        · rename_i v h1 hv
          obtain ⟨y, e1, e2⟩ := vopY_ok r hv
          rw [vevF_eq] at e1
          cases y <;> simp only [NRep] at e2
          obtain ⟨rfl, r1⟩ := e2
          cases hs
          simp only [e1]
          exact h' _ r1
        · rename_i f args h1 hv
          obtain ⟨y, e1, e2⟩ := vopY_ok r hv
          rw [vevF_eq] at e1
          cases y <;> simp only [NRep] at e2
          obtain ⟨rfl, rfl, r1⟩ := e2
          simp only [e1]
          split at hs
          · rename_i v h2 hx
            obtain ⟨σ2, r2, hE⟩ := hX _ _ _ _ _ _ hx r1
            obtain ⟨t1, e, hs⟩ := putF_ok hs
            cases hs
            refine .inr (.inr (hE _ ?_))
            simp only [e]
            exact h' _ r2
          · cases m with
            | zero => cases hs
            | succ m =>
              dsimp only at hs
              split at hs
              case h_2 => cases hs
              rename_i fn hfn
              split at hs
              case h_2 => cases hs
              rename_i c hcb
              obtain ⟨l0, e3, e4⟩ := tmps0_eq fn args (fun t' => some (Cfg.code m c t' h1 (.call (m + 1) o l ops t fn :: K)))
              rw [e3] at hs
              cases hs
              refine .inl ?_
              unfold vbody
              simp only [hfn, hcb]
              have := h' _ r1
              rw [e4] at this
              have hpost : (fun (e : VExit) (t2 : Array Value) (σ' : VHeap) => postK P E R (.call (m + 1) o l ops t fn :: K) e t2 σ') = (fun e t2 σ' => match e with
                | .normal | .ret => ∃ v σ'', vrun P (results fn t2) σ' = some (v, σ'') ∧ vwpOpsL P (vcallOf P E (vwp P E (m + 1))) ops (postK P E R K) l (vput ⟨t⟩ o.dst v) σ''
                | .pan v => postK P E R K (.pan v) ⟨t⟩ σ'
                | .exit _ => False) := by
                funext e t2 σ'
                cases e <;> rfl
              have h2 : vwp P E (m + 1) c (fun e t2 σ' => postK P E R (.call (m + 1) o l ops t fn :: K) e t2 σ') (args ++ Array.replicate (fn.ntmps - args.size) undef) _ := this
              rw [hpost] at h2
              exact h2
        · cases hs
/-- Some steps. -/
noncomputable def runF (P : Program) (X : XFCall) (sub : SubF) (n : Nat) : Cfg → Option Cfg := Nat.rec (motive := fun _ => Cfg → Option Cfg) (fun c => some c) (fun _ ih c => match step P X sub c with
  | some c' => ih c'
  | none => none) n
theorem runF_ok {X : XFCall} {sub : SubF} (hX : XFOk E X) (hsub : SubOk P E sub) : ∀ (n : Nat) {c c' : Cfg}, runF P X sub n c = some c' → Ok P E R c' → Ok P E R c
  | 0, c, c', h, hk => by cases h; exact hk
  | n + 1, c, c', h, hk => by
    have h : (match step P X sub c with | some c' => runF P X sub n c' | none => none) = some c' := h
    split at h
    · rename_i c1 h1; exact step_ok hX hsub h1 (runF_ok hX hsub n h hk)
    · cases h
end
end Vm
end Go.Proofs.Ytjgfhdabcahokaa
