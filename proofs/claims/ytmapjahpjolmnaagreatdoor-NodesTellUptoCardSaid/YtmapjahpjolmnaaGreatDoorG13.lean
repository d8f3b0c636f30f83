/- What holds behind virtual code and virtual calls; and that it is sound. -/
import Derived.Test.YtmapjahpjolmnaaGreatDoorG12
set_option linter.unusedVariables false
set_option linter.unusedSimpArgs false
namespace Go.Proofs.YtmapjahpjolmnaaGreatDoor
namespace Vm
set_option linter.unusedSimpArgs false
set_option linter.unusedVariables false
open Go.RowKit

/-- Blocks that nobody looks at any more. -/
def Forget (σ σ' : VHeap) : Prop := σ'.size = σ.size ∧ ∀ id : Nat, σ'[id]? = σ[id]? ∨ σ'[id]? = some gone
theorem Forget.refl (σ : VHeap) : Forget σ σ := ⟨rfl, fun _ => .inl rfl⟩
theorem WRel.forget {ρ : Rho} {σ σ' : VHeap} {w0 w : World} {B0 : Base} (h : WRel ρ σ w0 w B0) (hf : Forget σ σ') : WRel ρ σ' w0 w B0 := by
  have hsome : ∀ {id : Nat} {o : VObj}, σ'[id]? = some o → o.live = true → σ[id]? = some o := fun {id o} ho hl => by
    rcases hf.2 id with e | e
    · rw [← e]; exact ho
    · rw [e] at ho; cases ho; simp [gone, VObj.live] at hl
  have hlive : ∀ {o : VObj}, o.own = true → o.live = true := fun {o} ho => by
    cases o with
    | cells b => simp only [VObj.own, Bool.and_eq_true] at ho; exact ho.1
    | _ => rfl
  exact ⟨fun id hid => h.dom id (by rw [← hf.1]; exact hid), fun id b hb hd => h.blk id b (hsome hb (by simpa [VObj.live] using hd)) hd,
    fun id es c hg => h.map id es c (hsome hg rfl), fun id es c hg => h.rmap id es c (hsome hg rfl), fun id s p hg => h.iter id s p (hsome hg rfl),
    fun id1 id2 o1 o2 i1 i2 hne g1 g2 w1 w2 r1 r2 he => h.sep id1 id2 o1 o2 i1 i2 hne (hsome g1 (hlive w1)) (hsome g2 (hlive w2)) w1 w2 r1 r2 he,
    h.base, h.below, fun id hid => ⟨(h.hole id hid).1, by rw [hf.1]; exact (h.hole id hid).2⟩⟩
def vwpC (P : Program) (rec : Code → VPost → Array Value → VHeap → Prop) (cl : VCall) : Code → VPost → Array Value → VHeap → Prop
  | .skip, Q, t, σ => Q .normal t σ
  | .region _ ops draw, Q, t, σ => match draw with
    | false => vwpOps P cl ops Q (List.range ops.size) t σ
    | true => (∀ k, vwpOps P cl ops Q (Region.linearise .any ops k) t σ) ∨ vdraw P cl ops Q t σ
  | .seq a b, Q, t, σ => vwpC P rec cl a (fun e t σ => match e with
      | .normal => ∃ σ', Forget σ σ' ∧ vwpC P rec cl b Q t σ'
      | e => Q e t σ) t σ
  | .cond c a b, Q, t, σ => match vev t c with
      | .bool x => bif x then vwpC P rec cl a Q t σ else vwpC P rec cl b Q t σ
      | _ => False
  | .block id b, Q, t, σ => vwpC P rec cl b (fun e t σ => match e with
      | .exit j => if j = id then Q .normal t σ else Q (.exit j) t σ
      | e => Q e t σ) t σ
  | .loop b, Q, t, σ => vwpC P rec cl b (fun e t σ => match e with
      | .normal => rec (.loop b) Q t σ
      | e => Q e t σ) t σ
  | .exit id, Q, t, σ => Q (.exit id) t σ
  | .ret, Q, t, σ => Q .ret t σ
  | .label _, Q, t, σ => Q .normal t σ
  | _, _, _, _ => False
def vbody (P : Program) (W : Code → VPost → Array Value → VHeap → Prop) (f : FuncId) (args : Array Value) (σ : VHeap) (R : VC → Prop) : Prop :=
  match P.funcs[f]? with
  | some fn => match fn.body with
    | some c => W c (fun e t σ' => match e with
        | .normal | .ret => ∃ v σ'', vrun P (results fn t) σ' = some (v, σ'') ∧ R (.ret v σ'')
        | .pan v => R (.pan v σ')
        | .exit _ => False) (args ++ Array.replicate (fn.ntmps - args.size) undef) σ
    | none => False
  | none => False
def vcallOf (P : Program) (E : VCall) (W : Code → VPost → Array Value → VHeap → Prop) : VCall := fun f args σ R =>
  vbody P W f args σ R ∨ vbody P W f args (frozenHeap σ) (fun r => match r with
    | .ret v _ => clean v = true ∧ R (.ret v σ)
    | .pan _ _ => False) ∨ E f args σ R
def vwp (P : Program) (E : VCall) : Nat → Code → VPost → Array Value → VHeap → Prop
  | 0 => fun _ _ _ _ => False
  | n + 1 => vwpC P (vwp P E n) (vcallOf P E (vwp P E n))
def vcallW (P : Program) (E : VCall) (n : Nat) : VCall := vcallOf P E (vwp P E n)

section
variable {P : Program} {w0 : World} {B0 : Base}
theorem code_ok {rec : Code → VPost → Array Value → VHeap → Prop} {cl : VCall} (n : Nat) (hm : P.follows .mixedOrders = true) (hcl : ClOk P cl)
    (hrec : ∀ (b : Code) (Q : VPost) (Qr : Exit → Act → World → Prop) (ρ : Rho) (t : Array Value) (σ : VHeap) (a : Act) (w : World),
      rec (.loop b) Q t σ → ARel ρ t a.tmps → a.defers = [] → WRel ρ σ w0 w B0 → PostOk Q Qr ρ w0 B0 → Code.rounds P b Qr n a w) :
    ∀ (c : Code) (Q : VPost) (Qr : Exit → Act → World → Prop) (ρ : Rho) (t : Array Value) (σ : VHeap) (a : Act) (w : World),
      vwpC P rec cl c Q t σ → ARel ρ t a.tmps → a.defers = [] → WRel ρ σ w0 w B0 → PostOk Q Qr ρ w0 B0 → c.wp P Qr a w := by
  intro c
  induction c with
  | skip => intro Q Qr ρ t σ a w h ha hd hw hq; exact wp_skip (hq ρ .normal t σ a w (Rho.le_refl _) h ha hd hw)
  | region id ops draw =>
    intro Q Qr ρ t σ a w h ha hd hw hq
    cases draw with
    | false => exact wp_region (ops_ok hcl ops Q Qr _ ρ t σ a w h ha hd hw hq)
    | true =>
      rcases h with h | h
      · refine wp_region_draw fun k => ?_
        simp only [Region.schedule, hm, Bool.true_or, if_true]
        exact ops_ok hcl ops Q Qr _ ρ t σ a _ (h k) ha hd (hw.later ((Below.refl _ _).drew)) hq
      · exact wp_region_any hm (vdraw_ok hcl h ha hd (hw.later ((Below.refl _ _).drew)) hq)
  | seq x y ihx ihy =>
    intro Q Qr ρ t σ a w h ha hd hw hq
    refine wp_seq (ihx _ _ ρ t σ a w h ha hd hw ?_)
    intro ρ2 e t2 σ2 a2 w2 hle he ha2 hd2 hw2
    cases e with
    | normal =>
      obtain ⟨σ', hf, he⟩ := he
      exact ihy Q Qr ρ2 t2 σ' a2 w2 he ha2 hd2 (hw2.forget hf) (hq.up hle)
    | exit id => exact hq ρ2 (.exit id) t2 σ2 a2 w2 hle he ha2 hd2 hw2
    | ret => exact hq ρ2 .ret t2 σ2 a2 w2 hle he ha2 hd2 hw2
    | pan v => exact hq ρ2 (.pan v) t2 σ2 a2 w2 hle he ha2 hd2 hw2
  | cond c x y ihx ihy =>
    intro Q Qr ρ t σ a w h ha hd hw hq
    simp only [vwpC] at h
    split at h
    case h_2 => exact h.elim
    rename_i b hb
    have hc : a.eval c = .bool b := by
      obtain ⟨tr, ds⟩ := a
      cases c with
      | tmp i =>
        have := ha.getD i
        simp only [vev] at hb
        rw [hb] at this
        exact cleanC_eq rfl this
      | const v => exact hb
      | global g => simp [vev] at hb
      | func f => simp [vev] at hb
    refine wp_cond hc ?_
    cases b with
    | true => exact ihx Q Qr ρ t σ a w h ha hd hw hq
    | false => exact ihy Q Qr ρ t σ a w h ha hd hw hq
  | block id b ih =>
    intro Q Qr ρ t σ a w h ha hd hw hq
    refine wp_block (ih _ _ ρ t σ a w h ha hd hw ?_)
    intro ρ2 e t2 σ2 a2 w2 hle he ha2 hd2 hw2
    cases e with
    | normal => exact hq ρ2 .normal t2 σ2 a2 w2 hle he ha2 hd2 hw2
    | exit j =>
      simp only [EndOk, Exit.inBlock] at he ⊢
      by_cases hj : j = id
      · rw [if_pos hj] at he ⊢; exact hq ρ2 .normal t2 σ2 a2 w2 hle he ha2 hd2 hw2
      · rw [if_neg hj] at he ⊢; exact hq ρ2 (.exit j) t2 σ2 a2 w2 hle he ha2 hd2 hw2
    | ret => exact hq ρ2 .ret t2 σ2 a2 w2 hle he ha2 hd2 hw2
    | pan v => exact hq ρ2 (.pan v) t2 σ2 a2 w2 hle he ha2 hd2 hw2
  | loop b ih =>
    intro Q Qr ρ t σ a w h ha hd hw hq
    refine wp_loop_rounds (n + 1) ?_
    rw [rounds_succ]
    refine ih _ _ ρ t σ a w h ha hd hw ?_
    intro ρ2 e t2 σ2 a2 w2 hle he ha2 hd2 hw2
    cases e with
    | normal => exact hrec b Q Qr ρ2 t2 σ2 a2 w2 he ha2 hd2 hw2 (hq.up hle)
    | exit id => exact hq ρ2 (.exit id) t2 σ2 a2 w2 hle he ha2 hd2 hw2
    | ret => exact hq ρ2 .ret t2 σ2 a2 w2 hle he ha2 hd2 hw2
    | pan v => exact hq ρ2 (.pan v) t2 σ2 a2 w2 hle he ha2 hd2 hw2
  | exit id => intro Q Qr ρ t σ a w h ha hd hw hq; exact wp_exit (hq ρ (.exit id) t σ a w (Rho.le_refl _) h ha hd hw)
  | ret => intro Q Qr ρ t σ a w h ha hd hw hq; exact wp_ret (hq ρ .ret t σ a w (Rho.le_refl _) h ha hd hw)
  | label l => intro Q Qr ρ t σ a w h ha hd hw hq; exact wp_label (hq ρ .normal t σ a w (Rho.le_refl _) h ha hd hw)
  | _ => intro Q Qr ρ t σ a w h ha hd hw hq; exact h.elim
end
/-- Every level is sound. -/
def WOk (P : Program) (n : Nat) (W : Code → VPost → Array Value → VHeap → Prop) : Prop :=
  ∀ (w0 : World) (B0 : Base) (c : Code) (Q : VPost) (Qr : Exit → Act → World → Prop) (ρ : Rho) (t : Array Value) (σ : VHeap) (a : Act) (w : World),
    W c Q t σ → ARel ρ t a.tmps → a.defers = [] → WRel ρ σ w0 w B0 → PostOk Q Qr ρ w0 B0 → c.wp P Qr a w ∧ ∀ b, c = .loop b → Code.rounds P b Qr n a w
theorem body_ok {P : Program} {n : Nat} {W : Code → VPost → Array Value → VHeap → Prop} (hW : WOk P n W) {f : FuncId} {args args' : Array Value} {σ : VHeap} {R : VC → Prop} {ρ : Rho} {w0 w : World} {B0 : Base}
    (h : vbody P W f args σ R) (ha : ARel ρ args args') (hw : WRel ρ σ w0 w B0) : Calls P f args' w (CPost ρ w0 B0 R) := by
  unfold vbody at h
  split at h
  case h_2 => exact h.elim
  rename_i fn hfn
  split at h
  case h_2 => exact h.elim
  rename_i c hc
  refine calls_of_wp hfn hc ?_
  have hrep : ARel ρ (args ++ Array.replicate (fn.ntmps - args.size) undef) (args' ++ Array.replicate (fn.ntmps - args'.size) undef) := by
    rw [ha.1]
    refine ha.append ⟨rfl, fun k hk hk' => ?_⟩
    simp only [Array.getElem_replicate]
    exact undef_rel ρ
  refine (hW w0 B0 c _ _ ρ _ σ _ w h hrep rfl hw ?_).1
  intro ρ2 e t2 σ2 a2 w2 hle he ha2 hd2 hw2
  have hres : (∃ v σ'', vrun P (results fn t2) σ2 = some (v, σ'') ∧ R (.ret v σ'')) → a2.defers = [] ∧ ∃ v, (results fn a2.tmps).run P w2 = .ok v w2 ∧ CPost ρ w0 B0 R (.returned v) w2 := by
    rintro ⟨v, σ3, h1, h2⟩
    obtain ⟨ρ3, v', g1, g2, g3, g4⟩ := results_ok hw2 ha2 h1
    exact ⟨hd2, v', g2, ρ3, v, σ3, Rho.le_trans hle g1, h2, g3, g4⟩
  cases e with
  | normal => exact hres he
  | ret => exact hres he
  | exit id => exact he.elim
  | pan v => exact fun v' hv => ⟨hd2, ρ2, v, v', σ2, hle, rfl, he, hv, hw2⟩
theorem cl_ok {P : Program} {E : VCall} {n : Nat} {W : Code → VPost → Array Value → VHeap → Prop} (hE : ClOk P E) (hW : WOk P n W) : ClOk P (vcallOf P E W) := by
  intro f args args' σ R ρ w0 w B0 h ha hw
  rcases h with h | h | h
  · exact body_ok hW h ha hw
  · refine (body_ok hW h ha.frz hw.freeze).mono fun e w2 he => ?_
    cases e with
    | returned v' =>
      obtain ⟨ρ2, v, σ', h1, ⟨hcl, h2⟩, h3, h4⟩ := he
      obtain rfl := clean_eq hcl h3
      exact ⟨ρ, v', σ, Rho.le_refl _, h2, clean_rel hcl ρ, hw.later ⟨h4.below.os, h4.below.tape, h4.below.output, h4.below.size, fun k hk => h4.below.block k hk⟩⟩
    | panicked ch =>
      obtain ⟨ρ2, v, v', σ', h1, _, h2, _⟩ := he
      exact h2.elim
    | outgrown => exact he.elim
  · exact hE f args args' σ R ρ w0 w B0 h ha hw
theorem vwp_ok {P : Program} {E : VCall} (hm : P.follows .mixedOrders = true) (hE : ClOk P E) : ∀ n, WOk P n (vwp P E n) := by
  intro n
  induction n with
  | zero => intro w0 B0 c Q Qr ρ t σ a w h; exact h.elim
  | succ n ih =>
    have hcl := cl_ok hE ih
    have hrec : ∀ (w0 : World) (B0 : Base) (b : Code) (Q : VPost) (Qr : Exit → Act → World → Prop) (ρ : Rho) (t : Array Value) (σ : VHeap) (a : Act) (w : World),
      vwp P E n (.loop b) Q t σ → ARel ρ t a.tmps → a.defers = [] → WRel ρ σ w0 w B0 → PostOk Q Qr ρ w0 B0 → Code.rounds P b Qr n a w :=
      fun w0 B0 b Q Qr ρ t σ a w h ha hd hw hq => (ih w0 B0 (.loop b) Q Qr ρ t σ a w h ha hd hw hq).2 b rfl
    intro w0 B0 c Q Qr ρ t σ a w h ha hd hw hq
    refine ⟨code_ok n hm hcl (hrec w0 B0) c Q Qr ρ t σ a w h ha hd hw hq, ?_⟩
    rintro b rfl
    rw [rounds_succ]
    refine code_ok n hm hcl (hrec w0 B0) b _ _ ρ t σ a w h ha hd hw ?_
    intro ρ2 e t2 σ2 a2 w2 hle he ha2 hd2 hw2
    cases e with
    | normal => exact hrec w0 B0 b Q Qr ρ2 t2 σ2 a2 w2 he ha2 hd2 hw2 (hq.up hle)
    | exit id => exact hq ρ2 (.exit id) t2 σ2 a2 w2 hle he ha2 hd2 hw2
    | ret => exact hq ρ2 .ret t2 σ2 a2 w2 hle he ha2 hd2 hw2
    | pan v => exact hq ρ2 (.pan v) t2 σ2 a2 w2 hle he ha2 hd2 hw2
/-- What the virtual machine shows of a call holds of the real one. -/
theorem calls_ok {P : Program} {E : VCall} (hm : P.follows .mixedOrders = true) (hE : ClOk P E) {n : Nat} {f : FuncId} {args args' : Array Value} {σ : VHeap} {R : VC → Prop} {ρ : Rho} {w0 w : World} {B0 : Base}
    (h : vcallW P E n f args σ R) (ha : ARel ρ args args') (hw : WRel ρ σ w0 w B0) : Calls P f args' w (CPost ρ w0 B0 R) := cl_ok hE (vwp_ok hm hE n) f args args' σ R ρ w0 w B0 h ha hw
end Vm
end Go.Proofs.YtmapjahpjolmnaaGreatDoor
namespace Go.Proofs.YtmapjahpjolmnaaGreatDoor
namespace Vm
set_option linter.unusedSimpArgs false
set_option linter.unusedVariables false
open Go.RowKit

/-- What may turn memory, or look at more of it than one cell. -/
def effOf (P : Program) (o : Oper) : Bool := match o.op with
  | .move _ | .pick .. | .build .. | .nilCheck _ | .binOp .. | .unOp .. | .makeInterface .. | .makeFunc .. | .fieldAddr .. | .field .. | .indexAddr .. | .index .. | .extract .. | .load .. | .slice .. | .alloc _ | .box .. | .buildSlice .. | .makeMap _ none => false
  | .convert s d _ => match P.underlying s, P.underlying d with
    | some (.int _), some (.int _) => false
    | some (.slice _), some .string => false
    | _, _ => true
  | .call c => match c.callee with
    | .builtin .len => match c.argTypes with
      | ⟨[t]⟩ => match P.underlying t with
        | some (.map _ _) => true
        | _ => false
      | _ => false
    | _ => true
  | _ => true
def maskStep (m : List Nat) (acc : Nat) (e : Edge) : Nat := bif Region.binds .any e then acc ||| (1 <<< e.on) ||| m.getD e.on 0 else acc
def maskOf (m : List Nat) (o : Oper) : Nat := o.after.toList.foldl (maskStep m) 0
def masksOf (ops : Array Oper) (pl : List Nat) : List Nat :=
  pl.foldl (fun m i => match ops[i]? with
    | some o => m.set i (maskOf m o)
    | none => m) (List.replicate ops.size 0)
def preOf (m : List Nat) (j i : Nat) : Bool := (m.getD i 0).testBit j
def readyIn (ops : Array Oper) (dn : List Nat) (i : Nat) : Bool := match ops[i]? with
  | some o => !dn.contains i && o.after.toList.all fun e => !Region.binds .any e || dn.contains e.on
  | none => false
def effAt (P : Program) (ops : Array Oper) (i : Nat) : Bool := match ops[i]? with
  | some o => effOf P o
  | none => true
def asap (P : Program) (ops : Array Oper) : Nat → List Nat → List Nat
  | 0, dn => dn.reverse
  | n + 1, dn => match (List.range ops.size).find? fun i => !effAt P ops i && readyIn ops dn i with
    | some i => asap P ops n (i :: dn)
    | none => match (List.range ops.size).find? fun i => readyIn ops dn i with
      | some i => asap P ops n (i :: dn)
      | none => dn.reverse
def nodupB : List Nat → Bool
  | [] => true
  | i :: l => !l.contains i && nodupB l
def edgesB (ops : Array Oper) : List Nat → List Nat → Bool
  | _, [] => true
  | dn, i :: rest => (match ops[i]? with
    | some o => o.after.toList.all fun e => !Region.binds .any e || dn.contains e.on
    | none => true) && edgesB ops (i :: dn) rest
def orderB (eff : Nat → Bool) (pre : Nat → Nat → Bool) : List Nat → Bool
  | [] => true
  | c :: rest => (!eff c || rest.all (pre c)) && orderB eff pre rest
def planOk (ops : Array Oper) (pl : List Nat) (m : List Nat) (eff : Nat → Bool) : Bool :=
  (List.range ops.size).all (fun i => pl.contains i) && pl.all (fun i => decide (i < ops.size)) && nodupB pl && edgesB ops [] pl &&
  (List.range ops.size).all (fun i => match ops[i]? with
    | some o => m.getD i 0 == maskOf m o
    | none => true) &&
  (List.range ops.size).all (fun i => match ops[i]? with
    | some oi => (List.range ops.size).all fun j => match ops[j]? with
      | some oj => match oj.dst with
        | some d => (oi.dst != some d || i == j) && (!(oi.looksAt ops).contains d || (preOf m j i || (preOf m i j && eff j)))
        | none => true
      | none => true
    | none => true) &&
  orderB eff (preOf m) pl

theorem nodupB_ok : ∀ {l : List Nat}, nodupB l = true → l.Nodup
  | [], _ => List.nodup_nil
  | i :: l, h => by
    simp only [nodupB, Bool.and_eq_true, Bool.not_eq_true', List.contains_eq_mem, decide_eq_false_iff_not] at h
    exact List.nodup_cons.2 ⟨h.1, nodupB_ok h.2⟩
theorem edgesB_ok {ops : Array Oper} : ∀ (l d0 : List Nat), edgesB ops d0 l = true → ∀ dn i rest o, l = dn ++ i :: rest → ops[i]? = some o → ∀ e ∈ o.after, Region.binds .any e = true → e.on ∈ dn ∨ e.on ∈ d0 := by
  intro l
  induction l with
  | nil => intro d0 _ dn i rest o hl; simp at hl
  | cons x l ih =>
    intro d0 h dn i rest o hl ho e he hb
    simp only [edgesB, Bool.and_eq_true] at h
    cases dn with
    | nil =>
      simp only [List.nil_append, List.cons.injEq] at hl
      obtain ⟨rfl, rfl⟩ := hl
      rw [ho] at h
      have := List.all_eq_true.1 h.1 e (by simpa using he)
      rw [hb] at this
      right
      simpa using this
    | cons y dn =>
      simp only [List.cons_append, List.cons.injEq] at hl
      obtain ⟨rfl, hl⟩ := hl
      rcases ih _ h.2 dn i rest o hl ho e he hb with h | h
      · left; simp [h]
      · rcases List.mem_cons.1 h with h | h
        · left; simp [h]
        · exact .inr h
theorem orderB_ok {eff : Nat → Bool} {pre : Nat → Nat → Bool} : ∀ (l : List Nat), orderB eff pre l = true → ∀ dn c rest, l = dn ++ c :: rest → eff c = true → ∀ a ∈ rest, pre c a = true := by
  intro l
  induction l with
  | nil => intro _ dn c rest hl; simp at hl
  | cons x l ih =>
    intro h dn c rest hl he a ha
    simp only [orderB, Bool.and_eq_true] at h
    cases dn with
    | nil =>
      simp only [List.nil_append, List.cons.injEq] at hl
      obtain ⟨rfl, rfl⟩ := hl
      rw [he] at h
      exact List.all_eq_true.1 h.1 a ha
    | cons y dn =>
      simp only [List.cons_append, List.cons.injEq] at hl
      exact ih h.2 dn c rest hl.2 he a ha
theorem mask_bit {m : List Nat} : ∀ (l : List Edge) (acc j : Nat), (l.foldl (maskStep m) acc).testBit j = true → acc.testBit j = true ∨ ∃ e ∈ l, Region.binds .any e = true ∧ (e.on = j ∨ (m.getD e.on 0).testBit j = true) := by
  intro l
  induction l with
  | nil => intro acc j h; exact .inl h
  | cons e l ih =>
    intro acc j h
    rcases ih _ j h with h | ⟨e', h1, h2⟩
    · unfold maskStep at h
      cases hb : Region.binds .any e with
      | false => rw [hb] at h; exact .inl h
      | true =>
        rw [hb] at h
        simp only [cond_true, Nat.testBit_or, Bool.or_eq_true] at h
        rcases h with (h | h) | h
        · exact .inl h
        · refine .inr ⟨e, by simp, hb, .inl ?_⟩
          rw [Nat.one_shiftLeft, Nat.testBit_two_pow] at h
          simpa using h
        · exact .inr ⟨e, by simp, hb, .inr h⟩
    · exact .inr ⟨e', by simp [h1], h2⟩
theorem planOk_ok {ops : Array Oper} {pl m : List Nat} {eff : Nat → Bool} (h : planOk ops pl m eff = true) : Plan ops pl (preOf m) eff := by
  simp only [planOk, Bool.and_eq_true] at h
  obtain ⟨⟨⟨⟨⟨⟨h1, h2⟩, h3⟩, h4⟩, h5⟩, h6⟩, h7⟩ := h
  have hin : ∀ {i : Nat} {o : Oper}, ops[i]? = some o → i ∈ List.range ops.size := fun ho => List.mem_range.2 (Array.getElem?_eq_some_iff.1 ho).1
  have hpair : ∀ (i j : Nat) (oi oj : Oper) d, ops[i]? = some oi → ops[j]? = some oj → oj.dst = some d → (oi.dst = some d → i = j) ∧ (d ∈ oi.looksAt ops → preOf m j i = true ∨ (preOf m i j = true ∧ eff j = true)) := by
    intro i j oi oj d hi hj hd
    have := List.all_eq_true.1 h6 i (hin hi)
    rw [hi] at this
    simp only at this
    have := List.all_eq_true.1 this j (hin hj)
    rw [hj] at this
    simp only [hd, Bool.and_eq_true, Bool.or_eq_true, bne_iff_ne, ne_eq, beq_iff_eq, Bool.not_eq_true', List.contains_eq_mem, decide_eq_false_iff_not] at this
    exact ⟨fun e => this.1.resolve_left (fun n => n e), fun e => this.2.resolve_left (fun n => n e)⟩
  refine ⟨fun i hi => ?_, fun i hi => ?_, nodupB_ok h3, fun dn i rest o hp ho e he hb => ?_, fun i o ho j hj => ?_, fun i j oi oj d hi hj hdi hdj => (hpair i j oi oj d hi hj hdj).1 hdi, fun i j oi oj d hi hj hd hl => (hpair i j oi oj d hi hj hd).2 hl, orderB_ok pl h7⟩
  · simpa using List.all_eq_true.1 h1 i (List.mem_range.2 hi)
  · simpa using List.all_eq_true.1 h2 i hi
  · rcases edgesB_ok pl [] h4 dn i rest o hp ho e he hb with h | h
    · exact h
    · simp at h
  · have := List.all_eq_true.1 h5 i (hin ho)
    rw [ho] at this
    simp only [beq_iff_eq] at this
    unfold preOf at hj ⊢
    rw [this] at hj
    unfold maskOf at hj
    rcases mask_bit _ 0 j hj with h | ⟨e, he, hb, hc⟩
    · simp at h
    · exact ⟨e, by simpa using he, hb, hc⟩
end Vm
end Go.Proofs.YtmapjahpjolmnaaGreatDoor
