/- What holds behind virtual code and virtual calls; and that it is sound. -/
import Derived.Test.YtodjjnklelfgfaaVm17
import Derived.LoopN
namespace Go.Proofs.Ytodjjnklelfgfaa
namespace Vm
set_option linter.unusedSimpArgs false
set_option linter.unusedVariables false
open Go.RowKit

inductive VExit where
  | normal
  | exit (id : Nat)
  | ret
  | pan (v : Value)
abbrev VPost := VExit → Array Value → VHeap → Prop
inductive VC where
  | ret (v : Value) (σ : VHeap)
  | pan (v : Value) (σ : VHeap)
abbrev VCall := FuncId → Array Value → VHeap → (VC → Prop) → Prop
def vev (t : Array Value) : Operand → Value
  | .tmp i => t.getD i undef
  | .const v => v
  | .global g => .chan (some g)
  | .func f => .func (.func f) #[] #[]
def vput (t : Array Value) (dst : Option Tmp) (v : Value) : Array Value :=
  match dst with
  | some d => t.setIfInBounds d v
  | none => t
def constOk : Operand → Bool
  | .const v => clean v
  | _ => true
def vwpOps (P : Program) (cl : VCall) (ops : Array Oper) (Q : VPost) : List Nat → Array Value → VHeap → Prop
  | [], t, σ => Q .normal t σ
  | i :: l, t, σ =>
    match ops[i]? with
    | none => vwpOps P cl ops Q l t σ
    | some o =>
      if Region.wanted o (yielded ops t) = true then
        o.op.operands.all constOk = true ∧
        match vop P o (vev t) σ with
        | some (.val v σ') => vwpOps P cl ops Q l (vput t o.dst v) σ'
        | some (.skip σ') => vwpOps P cl ops Q l (vput t o.dst undef) σ'
        | some (.enter f args σ') => cl f args σ' fun r => match r with
            | .ret v σ'' => vwpOps P cl ops Q l (vput t o.dst v) σ''
            | .pan v σ'' => Q (.pan v) t σ''
        | some (.pan v σ') => Q (.pan v) t σ'
        | none => False
      else vwpOps P cl ops Q l (vput t o.dst undef) σ
def CPost (ρ : Rho) (w0 : World) (B0 : Base) (R : VC → Prop) : Ending → World → Prop
  | .returned v', w' => ∃ ρ2 v σ', ρ.le ρ2 ∧ R (.ret v σ') ∧ VRel ρ2 v v' ∧ WRel ρ2 σ' w0 w' B0
  | .panicked ch, w' => ∃ ρ2 v v' σ', ρ.le ρ2 ∧ ch = [{ v := v', recovered := false }] ∧ R (.pan v σ') ∧ VRel ρ2 v v' ∧ WRel ρ2 σ' w0 w' B0
  | .outgrown, _ => False
def ClOk (P : Program) (cl : VCall) : Prop := ∀ f args args' σ R ρ w0 w B0, cl f args σ R → ARel ρ args args' → WRel ρ σ w0 w B0 → Calls P f args' w (CPost ρ w0 B0 R)
def EndOk (Qr : Exit → Act → World → Prop) (ρ : Rho) (a : Act) (w : World) : VExit → Prop
  | .normal => Qr .normal a w
  | .exit id => Qr (.exit id) a w
  | .ret => Qr .ret a w
  | .pan v => ∀ v', VRel ρ v v' → Qr (.panic [{ v := v', recovered := false }]) a w
def PostOk (Q : VPost) (Qr : Exit → Act → World → Prop) (ρ : Rho) (w0 : World) (B0 : Base) : Prop :=
  ∀ ρ2 e t σ a w, ρ.le ρ2 → Q e t σ → ARel ρ2 t a.tmps → a.defers = [] → WRel ρ2 σ w0 w B0 → EndOk Qr ρ2 a w e
theorem PostOk.up {Q : VPost} {Qr : Exit → Act → World → Prop} {ρ ρ' : Rho} {w0 : World} {B0 : Base} (h : PostOk Q Qr ρ w0 B0) (hle : ρ.le ρ') : PostOk Q Qr ρ' w0 B0 :=
  fun ρ2 e t σ a w hle2 => h ρ2 e t σ a w (Rho.le_trans hle hle2)

section
variable {P : Program} {w0 : World} {B0 : Base}
theorem vev_rel {ρ : Rho} {t tr : Array Value} {ds : List Deferred} (h : ARel ρ t tr) (x : Operand) (hc : constOk x = true) : VRel ρ (vev t x) ((⟨tr, ds⟩ : Act).eval x) := by
  cases x with
  | tmp i => exact h.getD i
  | const v => exact clean_rel hc ρ
  | global g => exact .glob g
  | func f => exact .func _ rfl (fun k hk => by simp at hk) rfl (fun k hk => by simp at hk)
theorem vput_rel {ρ : Rho} {t tr : Array Value} {v v' : Value} {ds : List Deferred} (h : ARel ρ t tr) (dst : Option Tmp) (hv : VRel ρ v v') : ARel ρ (vput t dst v) ((⟨tr, ds⟩ : Act).put dst v').tmps := by
  cases dst with
  | none => exact h
  | some d => exact h.set d hv
theorem vput_rel' {ρ : Rho} {t : Array Value} {v v' : Value} {a : Act} (h : ARel ρ t a.tmps) (dst : Option Tmp) (hv : VRel ρ v v') : ARel ρ (vput t dst v) (a.put dst v').tmps := by
  obtain ⟨tr, ds⟩ := a
  exact vput_rel h dst hv
theorem put_defers' {a : Act} (h : a.defers = []) (dst : Option Tmp) (v : Value) : (a.put dst v).defers = [] := by cases dst <;> exact h
theorem yielded_rel {ρ : Rho} {ops : Array Oper} {t tr : Array Value} (h : ARel ρ t tr) : yielded ops t = yielded ops tr := by
  funext j
  unfold yielded
  cases (ops[j]?).bind (·.dst) with
  | none => rfl
  | some d =>
    simp only [Option.bind_some]
    cases hx : t[d]? with
    | none => rw [h.get_none hx]
    | some v =>
      obtain ⟨v', h1, h2⟩ := h.get? hx
      rw [h1]
      cases h2 <;> rfl
theorem undef_rel (ρ : Rho) : VRel ρ undef undef := clean_rel (by simp [undef, clean]) ρ
theorem ops_ok {cl : VCall} (hcl : ClOk P cl) (ops : Array Oper) (Q : VPost) (Qr : Exit → Act → World → Prop) : ∀ (l : List Nat) (ρ : Rho) (t : Array Value) (σ : VHeap) (a : Act) (w : World),
    vwpOps P cl ops Q l t σ → ARel ρ t a.tmps → a.defers = [] → WRel ρ σ w0 w B0 → PostOk Q Qr ρ w0 B0 → wpOps P ops Qr l a w := by
  intro l
  induction l with
  | nil => intro ρ t σ a w h ha hd hw hq; exact hq ρ .normal t σ a w (Rho.le_refl _) h ha hd hw
  | cons i l ih =>
    intro ρ t σ a w h ha hd hw hq
    unfold vwpOps at h
    unfold wpOps
    cases ho : ops[i]? with
    | none => simp only [ho] at h ⊢; exact ih ρ t σ a w h ha hd hw hq
    | some o =>
      simp only [ho] at h ⊢
      rw [← yielded_rel ha]
      by_cases hwant : Region.wanted o (yielded ops t) = true
      · rw [if_pos hwant] at h ⊢
        obtain ⟨hc, h⟩ := h
        left
        unfold Oper.wp
        have hE : ∀ x ∈ o.op.operands, VRel ρ (vev t x) (a.eval x) := fun x hx => by
          obtain ⟨tr, ds⟩ := a
          obtain ⟨k, hk, rfl⟩ := Array.getElem_of_mem hx
          exact vev_rel ha _ (Array.all_eq_true.1 hc k hk)
        cases hv : vop P o (vev t) σ with
        | none => rw [hv] at h; exact h.elim
        | some r =>
          rw [hv] at h
          have hop := vop_ok hw hE hv
          cases r with
          | val v σ' =>
            obtain ⟨ρ2, v', w', g1, g2, g3, g4⟩ := hop
            rw [g2, Oper.upon_value]
            exact ih ρ2 _ σ' _ w' h (vput_rel' (ha.mono g1) _ g3) (put_defers' hd _ _) g4 (hq.up g1)
          | skip σ' =>
            obtain ⟨ρ2, w', g1, g2, g4⟩ := hop
            rw [g2, Oper.upon_skip]
            exact ih ρ2 _ σ' _ w' h (vput_rel' (ha.mono g1) _ (undef_rel _)) (put_defers' hd _ _) g4 (hq.up g1)
          | pan v σ' =>
            obtain ⟨ρ2, v', w', g1, g2, g3, g4⟩ := hop
            rw [g2, Oper.upon_panic]
            exact hq ρ2 (.pan v) t σ' a w' g1 h (ha.mono g1) hd g4 v' g3
          | enter f args σ' =>
            obtain ⟨ρ2, args', w', g1, g2, g3, g4⟩ := hop
            rw [g2, Oper.upon_enter]
            refine (hcl f args args' σ' _ ρ2 w0 w' B0 h g3 g4).mono fun e w2 he => ?_
            cases e with
            | returned v' =>
              obtain ⟨ρ3, v, σ3, k1, k2, k3, k4⟩ := he
              exact ih ρ3 _ σ3 _ w2 k2 (vput_rel' (ha.mono (Rho.le_trans g1 k1)) _ k3) (put_defers' hd _ _) k4 (hq.up (Rho.le_trans g1 k1))
            | panicked ch =>
              obtain ⟨ρ3, v, v', σ3, k1, rfl, k2, k3, k4⟩ := he
              exact hq ρ3 (.pan v) t σ3 a w2 (Rho.le_trans g1 k1) k2 (ha.mono (Rho.le_trans g1 k1)) hd k4 v' k3
            | outgrown => exact he.elim
      · rw [if_neg hwant] at h ⊢
        exact ih ρ _ σ _ w h (vput_rel' ha _ (undef_rel _)) (put_defers' hd _ _) hw hq
end
end Vm
end Go.Proofs.Ytodjjnklelfgfaa
