/- An evaluator that computes: where it comes to an end, what it tells holds. -/
import Derived.Test.YtodjjnklelfgfaaG26
set_option linter.unusedVariables false
set_option linter.unusedSimpArgs false
namespace Go.Proofs.Ytodjjnklelfgfaa
namespace Vm
set_option linter.unusedSimpArgs false
set_option linter.unusedVariables false
open Go.RowKit

abbrev XCall := FuncId → Array Value → VHeap → Option VC
structure XR where
  e : VExit
  t : Array Value
  σ : VHeap
def xops (P : Program) (cl : XCall) (ops : Array Oper) : List Nat → Array Value → VHeap → Option XR
  | [], t, σ => some ⟨.normal, t, σ⟩
  | i :: l, t, σ =>
    match ops[i]? with
    | none => xops P cl ops l t σ
    | some o =>
      bif Region.wanted o (yielded ops t) then
        bif o.op.operands.all constOk then
          match vop P o (vev t) σ with
          | some (.val v σ') => xops P cl ops l (vput t o.dst v) σ'
          | some (.skip σ') => xops P cl ops l (vput t o.dst undef) σ'
          | some (.enter f args σ') => match cl f args σ' with
            | some (.ret v σ'') => xops P cl ops l (vput t o.dst v) σ''
            | some (.pan v σ'') => some ⟨.pan v, t, σ''⟩
            | none => none
          | some (.pan v σ') => some ⟨.pan v, t, σ'⟩
          | none => none
        else none
      else xops P cl ops l (vput t o.dst undef) σ
def leafEq : Value → Value → Bool
  | .bool a, .bool b => a == b
  | .int k a, .int l b => decide (k = l) && decide (a = b)
  | .float k a, .float l b => decide (k = l) && a == b
  | .string a, .string b => decide (a.data.toList = b.data.toList)
  | .pointer a, .pointer b => decide (a = b)
  | .slice a n c, .slice b m d => decide (a = b) && n == m && c == d
  | .map a, .map b => decide (a = b)
  | .chan a, .chan b => decide (a = b)
  | .nilFunc, .nilFunc => true
  | .nilIface, .nilIface => true
  | .func (.func f) ⟨[]⟩ ⟨[]⟩, .func (.func g) ⟨[]⟩ ⟨[]⟩ => f == g
  | _, _ => false
def leafEqL : List Value → List Value → Bool
  | [], [] => true
  | a :: l, b :: m => leafEq a b && leafEqL l m
  | _, _ => false
def veq : Value → Value → Bool
  | .agg ⟨a⟩, .agg ⟨b⟩ => leafEqL a b
  | .tuple ⟨a⟩, .tuple ⟨b⟩ => leafEqL a b
  | .iface t a, .iface u b => t == u && leafEq a b
  | a, b => leafEq a b
theorem leafEq_ok {a b : Value} (h : leafEq a b = true) : a = b := by
  unfold leafEq at h
  split at h <;> simp only [Bool.and_eq_true, decide_eq_true_eq, beq_iff_eq, Bool.false_eq_true] at h <;> first | (exact h.elim; done) | skip
  · rw [h]
  · rw [h.1, h.2]
  · rw [h.1, h.2]
  · rename_i x y
    obtain ⟨⟨x⟩⟩ := x
    obtain ⟨⟨y⟩⟩ := y
    simp only at h
    rw [h]
  · rw [h]
  · rw [h.1.1, h.1.2, h.2]
  · rw [h]
  · rw [h]
  · rfl
  · rfl
  · rw [h]
theorem leafEqL_ok : ∀ {a b : List Value}, leafEqL a b = true → a = b
  | [], [], _ => rfl
  | a :: l, b :: m, h => by
    simp only [leafEqL, Bool.and_eq_true] at h
    rw [leafEq_ok h.1, leafEqL_ok h.2]
  | [], _ :: _, h => by cases h
  | _ :: _, [], h => by cases h
theorem veq_ok {a b : Value} (h : veq a b = true) : a = b := by
  unfold veq at h
  split at h
  · rw [leafEqL_ok h]
  · rw [leafEqL_ok h]
  · simp only [Bool.and_eq_true, beq_iff_eq] at h
    rw [h.1, leafEq_ok h.2]
  · exact leafEq_ok h
/-- What waits to be read once more. -/
def stillB (P : Program) (ops : Array Oper) (pre : Nat → Nat → Bool) (al : List (Nat × Nat)) (t : Array Value) (σ : VHeap) : List (Nat × Value) → Bool
  | [] => true
  | x :: l => (match ops[x.1]? with
    | some o => isRd P o && match vop P o (vev t) (mskL σ (hid pre al x.1)) with
      | some (.val v _) => veq v x.2
      | _ => false
    | none => false) && stillB P ops pre al t σ l
theorem stillB_ok {P : Program} {ops : Array Oper} {pre : Nat → Nat → Bool} {al : List (Nat × Nat)} {t : Array Value} {σ : VHeap} : ∀ {l : List (Nat × Value)}, stillB P ops pre al t σ l = true → Still P ops pre l al t σ
  | [], _, x, hx => by simp at hx
  | y :: l, h, x, hx => by
    simp only [stillB, Bool.and_eq_true] at h
    rcases List.mem_cons.1 hx with rfl | hx
    · have h := h.1
      split at h
      case h_2 => cases h
      rename_i o ho
      simp only [Bool.and_eq_true] at h
      obtain ⟨hr, h⟩ := h
      split at h
      case h_2 => cases h
      rename_i v σ1 hv
      obtain ⟨_, e⟩ := rd_same hr hv
      cases e
      rw [← veq_ok h]
      exact ⟨o, ho, hv⟩
    · exact stillB_ok h.2 x hx
def xplan (P : Program) (cl : XCall) (ops : Array Oper) (pre : Nat → Nat → Bool) (eff : Nat → Bool) : List Nat → List (Nat × Value) → List (Nat × Nat) → Array Value → VHeap → Option XR
  | [], _, _, t, σ => some ⟨.normal, t, σ⟩
  | i :: l, pd, al, t, σ =>
    match ops[i]? with
    | none => none
    | some o =>
      bif Region.wanted o (yielded ops t) then
        bif o.op.operands.all constOk then
          bif eff i then
            bif aloneAll σ (hid pre al i) then
              match vop P o (vev t) (mskL σ (hid pre al i)) with
              | some (.val v σ1) => bif stillB P ops pre (al.filter fun x => !pre x.1 i) (vput t o.dst v) (backL σ σ1 (hid pre al i)) (pd.filter fun x => !pre x.1 i) then
                  xplan P cl ops pre eff l (pd.filter fun x => !pre x.1 i) (al.filter fun x => !pre x.1 i) (vput t o.dst v) (backL σ σ1 (hid pre al i)) else none
              | some (.skip σ1) => bif stillB P ops pre (al.filter fun x => !pre x.1 i) (vput t o.dst undef) (backL σ σ1 (hid pre al i)) (pd.filter fun x => !pre x.1 i) then
                  xplan P cl ops pre eff l (pd.filter fun x => !pre x.1 i) (al.filter fun x => !pre x.1 i) (vput t o.dst undef) (backL σ σ1 (hid pre al i)) else none
              | some (.enter f args σ1) => match cl f args σ1 with
                | some (.ret v σ2) => bif stillB P ops pre (al.filter fun x => !pre x.1 i) (vput t o.dst v) (backL σ σ2 (hid pre al i)) (pd.filter fun x => !pre x.1 i) then
                    xplan P cl ops pre eff l (pd.filter fun x => !pre x.1 i) (al.filter fun x => !pre x.1 i) (vput t o.dst v) (backL σ σ2 (hid pre al i)) else none
                | _ => none
              | _ => none
            else none
          else match nval P o (vev t) with
            | some v => xplan P cl ops pre eff l pd al (vput t o.dst v) σ
            | none => match nalloc P o (vev t) with
              | some (k, cs, e) => bif cs.all (leafB σ.size) then xplan P cl ops pre eff l pd ((i, σ.size) :: al) (vput t o.dst (k.val σ.size)) (σ.push (k.obj cs e σ.size)) else none
              | none => bif isRd P o then match vop P o (vev t) (mskL σ (hid pre al i)) with
                | some (.val v _) => xplan P cl ops pre eff l ((i, v) :: pd) al (vput t o.dst v) σ
                | _ => none
                else none
        else none
      else xplan P cl ops pre eff l pd al (vput t o.dst undef) σ
def xcode (P : Program) (rec : Code → Array Value → VHeap → Option XR) (cl : XCall) : Code → Array Value → VHeap → Option XR
  | .skip, t, σ => some ⟨.normal, t, σ⟩
  | .region _ ops draw, t, σ => bif draw then
      bif planOk ops (asap P ops ops.size []) (masksOf ops (asap P ops ops.size [])) (effAt P ops) then
        xplan P cl ops (preOf (masksOf ops (asap P ops ops.size []))) (effAt P ops) (asap P ops ops.size []) [] [] t σ
      else none
    else xops P cl ops (List.range ops.size) t σ
  | .seq a b, t, σ => match xcode P rec cl a t σ with
    | some ⟨.normal, t', σ'⟩ => xcode P rec cl b t' σ'
    | r => r
  | .cond c a b, t, σ => match vev t c with
    | .bool x => bif x then xcode P rec cl a t σ else xcode P rec cl b t σ
    | _ => none
  | .block id b, t, σ => match xcode P rec cl b t σ with
    | some ⟨.exit j, t', σ'⟩ => bif j == id then some ⟨.normal, t', σ'⟩ else some ⟨.exit j, t', σ'⟩
    | r => r
  | .loop b, t, σ => match xcode P rec cl b t σ with
    | some ⟨.normal, t', σ'⟩ => rec (.loop b) t' σ'
    | r => r
  | .exit id, t, σ => some ⟨.exit id, t, σ⟩
  | .ret, t, σ => some ⟨.ret, t, σ⟩
  | .label _, t, σ => some ⟨.normal, t, σ⟩
  | _, _, _ => none
def xbody (P : Program) (W : Code → Array Value → VHeap → Option XR) (f : FuncId) (args : Array Value) (σ : VHeap) : Option VC :=
  match P.funcs[f]? with
  | some fn => match fn.body with
    | some c => match W c (args ++ Array.replicate (fn.ntmps - args.size) undef) σ with
      | some ⟨.normal, t, σ'⟩ | some ⟨.ret, t, σ'⟩ => match vrun P (results fn t) σ' with
        | some (v, σ'') => some (.ret v σ'')
        | none => none
      | some ⟨.pan v, _, σ'⟩ => some (.pan v σ')
      | _ => none
    | none => none
  | none => none
def xcallOf (P : Program) (X : XCall) (pureF : FuncId → Bool) (W : Code → Array Value → VHeap → Option XR) : XCall := fun f args σ =>
  match X f args σ with
  | some r => some r
  | none =>
    bif pureF f then
      match xbody P W f args (frozenHeap σ) with
      | some (.ret v _) => bif clean v then some (.ret v σ) else none
      | _ => none
    else xbody P W f args σ
def xwp (P : Program) (X : XCall) (pureF : FuncId → Bool) : Nat → Code → Array Value → VHeap → Option XR
  | 0 => fun _ _ _ => none
  | n + 1 => xcode P (xwp P X pureF  n) (xcallOf P X pureF (xwp P X pureF  n))
def xcall (P : Program) (X : XCall) (pureF : FuncId → Bool) (n : Nat) : XCall := xcallOf P X pureF (xwp P X pureF  n)

section
variable {P : Program}
theorem bif_some {α : Type} {b : Bool} {x : Option α} {y : α} (h : (bif b then x else none) = some y) : b = true ∧ x = some y := by
  cases b
  · cases h
  · exact ⟨rfl, h⟩
def XOk (cl : XCall) (C : VCall) : Prop := ∀ f args σ r, cl f args σ = some r → ∀ R : VC → Prop, R r → C f args σ R
theorem xops_ok {cl : XCall} {C : VCall} (hcl : XOk cl C) {ops : Array Oper} : ∀ (l : List Nat) (t : Array Value) (σ : VHeap) (x : XR), xops P cl ops l t σ = some x → ∀ Q : VPost, Q x.e x.t x.σ → vwpOps P C ops Q l t σ := by
  intro l
  induction l with
  | nil => intro t σ x h Q hq; unfold xops at h; cases h; exact hq
  | cons i l ih =>
    intro t σ x h Q hq
    unfold xops at h
    unfold vwpOps
    split at h
    · rename_i ho; simp only [ho]; exact ih _ _ _ h Q hq
    · rename_i o ho
      simp only [ho]
      cases hw : Region.wanted o (yielded ops t) with
      | false =>
        rw [hw] at h
        rw [if_neg (by simp)]
        exact ih _ _ _ h Q hq
      | true =>
        rw [hw] at h
        rw [if_pos rfl]
        simp only [cond_true] at h
        obtain ⟨hc, h⟩ := bif_some h
        refine ⟨hc, ?_⟩
        split at h
        · rename_i v σ' hv; simp only [hv]; exact ih _ _ _ h Q hq
        · rename_i σ' hv; simp only [hv]; exact ih _ _ _ h Q hq
        · rename_i f args σ' hv
          simp only [hv]
          split at h
          · rename_i v σ2 hr; exact hcl _ _ _ _ hr _ (ih _ _ _ h Q hq)
          · rename_i v σ2 hr; cases h; exact hcl _ _ _ _ hr _ hq
          · cases h
        · rename_i v σ' hv; simp only [hv]; cases h; exact hq
        · cases h
theorem xplan_ok {cl : XCall} {C : VCall} (hcl : XOk cl C) {ops : Array Oper} {pre : Nat → Nat → Bool} {eff : Nat → Bool} : ∀ (l : List Nat) (pd : List (Nat × Value)) (al : List (Nat × Nat)) (t : Array Value) (σ : VHeap) (x : XR), xplan P cl ops pre eff l pd al t σ = some x → ∀ Q : VPost, Q x.e x.t x.σ → vplan P C ops pre eff Q l pd al t σ := by
  intro l
  induction l with
  | nil => intro pd al t σ x h Q hq; unfold xplan at h; cases h; exact hq
  | cons i l ih =>
    intro pd al t σ x h Q hq
    unfold xplan at h
    unfold vplan
    split at h
    · cases h
    · rename_i o ho
      simp only [ho]
      cases hw : Region.wanted o (yielded ops t) with
      | false =>
        rw [hw] at h
        rw [if_neg (by simp)]
        exact ih _ _ _ _ _ h Q hq
      | true =>
        rw [hw] at h
        rw [if_pos rfl]
        simp only [cond_true] at h
        obtain ⟨hc, h⟩ := bif_some h
        refine ⟨hc, ?_⟩
        cases he : eff i with
        | true =>
          rw [he] at h
          rw [if_pos rfl]
          simp only [cond_true] at h
          obtain ⟨hal, h⟩ := bif_some h
          refine ⟨hal, ?_⟩
          split at h
          · rename_i v σ' hv
            simp only [hv]
            obtain ⟨hs, h⟩ := bif_some h
            exact ⟨stillB_ok hs, ih _ _ _ _ _ h Q hq⟩
          · rename_i σ' hv
            simp only [hv]
            obtain ⟨hs, h⟩ := bif_some h
            exact ⟨stillB_ok hs, ih _ _ _ _ _ h Q hq⟩
          · rename_i f args σ' hv
            simp only [hv]
            split at h
            · rename_i v σ2 hr
              obtain ⟨hs, h⟩ := bif_some h
              exact hcl _ _ _ _ hr _ ⟨stillB_ok hs, ih _ _ _ _ _ h Q hq⟩
            · cases h
          · cases h
        | false =>
          rw [he] at h
          rw [if_neg (by simp)]
          simp only [cond_false] at h
          split at h
          · rename_i v hv; simp only [hv]; exact ih _ _ _ _ _ h Q hq
          · rename_i hn
            simp only [hn]
            split at h
            · rename_i k cs e hna
              obtain ⟨hlf, h⟩ := bif_some h
              simp only [hna]
              exact ⟨hlf, ih _ _ _ _ _ h Q hq⟩
            · rename_i hna
              simp only [hna]
              obtain ⟨hr, h⟩ := bif_some h
              split at h
              · rename_i v σ1 hv
                simp only [hr, hv]
                exact ih _ _ _ _ _ h Q hq
              · cases h
theorem xcode_ok {rec : Code → Array Value → VHeap → Option XR} {cl : XCall} {Rec : Code → VPost → Array Value → VHeap → Prop} {C : VCall} (hcl : XOk cl C)
    (hrec : ∀ b t σ x, rec (.loop b) t σ = some x → ∀ Q : VPost, Q x.e x.t x.σ → Rec (.loop b) Q t σ) : ∀ (c : Code) (t : Array Value) (σ : VHeap) (x : XR), xcode P rec cl c t σ = some x → ∀ Q : VPost, Q x.e x.t x.σ → vwpC P Rec C c Q t σ := by
  intro c
  induction c with
  | skip => intro t σ x h Q hq; unfold xcode at h; cases h; exact hq
  | region id ops draw =>
    intro t σ x h Q hq
    cases draw with
    | false => exact xops_ok hcl _ _ _ _ h Q hq
    | true =>
      obtain ⟨h1, h2⟩ := bif_some (show (bif _ then _ else none) = some x from h)
      exact .inr ⟨_, _, _, planOk_ok h1, xplan_ok hcl _ _ _ _ _ _ h2 Q hq⟩
  | seq a b iha ihb =>
    intro t σ x h Q hq
    simp only [xcode] at h
    simp only [vwpC]
    split at h
    · rename_i t' σ' ha; exact iha _ _ _ ha _ ⟨_, Forget.refl _, ihb _ _ _ h Q hq⟩
    · rename_i hr
      refine iha _ _ _ h _ ?_
      obtain ⟨e, t', σ'⟩ := x
      cases e with
      | normal => exact absurd h (hr t' σ')
      | _ => exact hq
  | cond c a b iha ihb =>
    intro t σ x h Q hq
    simp only [xcode] at h
    simp only [vwpC]
    split at h
    · rename_i y hy
      simp only [hy]
      cases y
      · exact ihb _ _ _ h Q hq
      · exact iha _ _ _ h Q hq
    · cases h
  | block id b ih =>
    intro t σ x h Q hq
    simp only [xcode] at h
    simp only [vwpC]
    split at h
    · rename_i j t' σ' hb
      refine ih _ _ _ hb _ ?_
      simp only
      by_cases hj : j = id
      · rw [if_pos hj]
        have : (j == id) = true := by simpa using hj
        rw [this] at h; cases h; exact hq
      · rw [if_neg hj]
        have : (j == id) = false := by simpa using hj
        rw [this] at h; cases h; exact hq
    · rename_i hr
      refine ih _ _ _ h _ ?_
      obtain ⟨e, t', σ'⟩ := x
      cases e with
      | exit j => exact absurd h (hr j t' σ')
      | _ => exact hq
  | loop b ih =>
    intro t σ x h Q hq
    simp only [xcode] at h
    simp only [vwpC]
    split at h
    · rename_i t' σ' ha; exact ih _ _ _ ha _ (hrec _ _ _ _ h Q hq)
    · rename_i hr
      refine ih _ _ _ h _ ?_
      obtain ⟨e, t', σ'⟩ := x
      cases e with
      | normal => exact absurd h (hr t' σ')
      | _ => exact hq
  | exit id => intro t σ x h Q hq; simp only [xcode] at h; cases h; exact hq
  | ret => intro t σ x h Q hq; simp only [xcode] at h; cases h; exact hq
  | label l => intro t σ x h Q hq; simp only [xcode] at h; cases h; exact hq
  | _ => intro t σ x h; simp only [xcode] at h; cases h
theorem xbody_ok {W : Code → Array Value → VHeap → Option XR} {V : Code → VPost → Array Value → VHeap → Prop} (hW : ∀ c t σ x, W c t σ = some x → ∀ Q : VPost, Q x.e x.t x.σ → V c Q t σ) : ∀ f args σ r, xbody P W f args σ = some r → ∀ R : VC → Prop, R r → vbody P V f args σ R := by
  intro f args σ r h R hR
  unfold xbody at h
  unfold vbody
  split at h
  case h_2 => cases h
  rename_i fn hfn
  simp only [hfn]
  split at h
  case h_2 => cases h
  rename_i c hc
  simp only [hc]
  split at h
  · rename_i t σ' hx
    refine hW _ _ _ _ hx _ ?_
    split at h
    · rename_i v σ2 hv; cases h; exact ⟨v, σ2, hv, hR⟩
    · cases h
  · rename_i t σ' hx
    refine hW _ _ _ _ hx _ ?_
    split at h
    · rename_i v σ2 hv; cases h; exact ⟨v, σ2, hv, hR⟩
    · cases h
  · rename_i v t σ' hx; cases h; exact hW _ _ _ _ hx _ hR
  · cases h
theorem xcallOf_ok {X : XCall} {E : VCall} {pureF : FuncId → Bool} {W : Code → Array Value → VHeap → Option XR} {V : Code → VPost → Array Value → VHeap → Prop} (hX : XOk X E) (hW : ∀ c t σ x, W c t σ = some x → ∀ Q : VPost, Q x.e x.t x.σ → V c Q t σ) :
    XOk (xcallOf P X pureF W) (vcallOf P E V) := by
  intro f args σ r h R hR
  unfold xcallOf at h
  split at h
  · rename_i r' hr; cases h; exact .inr (.inr (hX _ _ _ _ hr R hR))
  · cases hp : pureF f with
    | false => rw [hp] at h; exact .inl (xbody_ok hW _ _ _ _ h R hR)
    | true =>
      rw [hp] at h
      simp only [cond_true] at h
      split at h
      · rename_i v σ' hx
        obtain ⟨hcl, h⟩ := bif_some h
        cases h
        exact .inr (.inl (xbody_ok hW _ _ _ _ hx _ ⟨hcl, hR⟩))
      · cases h
theorem xwp_ok {X : XCall} {E : VCall} {pureF : FuncId → Bool} (hX : XOk X E) : ∀ n c t σ x, xwp P X pureF n c t σ = some x → ∀ Q : VPost, Q x.e x.t x.σ → vwp P E n c Q t σ
  | 0, c, t, σ, x, h, _, _ => by cases h
  | n + 1, c, t, σ, x, h, Q, hq => xcode_ok (xcallOf_ok hX (xwp_ok hX n)) (fun b t σ x h Q hq => xwp_ok hX n _ _ _ _ h Q hq) c t σ x h Q hq
theorem xcall_ok {X : XCall} {E : VCall} {pureF : FuncId → Bool} (hX : XOk X E) (n : Nat) : XOk (xcall P X pureF n) (vcallW P E n) := xcallOf_ok hX (xwp_ok hX n)
end
end Vm
end Go.Proofs.Ytodjjnklelfgfaa
namespace Go.Proofs.Ytodjjnklelfgfaa
namespace Vm
set_option linter.unusedSimpArgs false
set_option linter.unusedVariables false
open Go.RowKit

def isTrue : Option VC → Bool
  | some (.ret (.bool b) _) => b
  | _ => false
def noX : XCall := fun _ _ _ => none
def noE : VCall := fun _ _ _ _ => False
theorem noX_ok : XOk noX noE := fun _ _ _ _ h => by cases h
theorem noE_ok (P : Program) : ClOk P noE := fun _ _ _ _ _ _ _ _ _ h => h.elim
theorem start (w : World) : WRel (fun _ => none) #[] w w ⟨(· < w.heap.size), fun _ => False, fun _ => False⟩ := by
  have hno : ∀ {id : Nat} {o : VObj}, (#[] : VHeap)[id]? = some o → False := fun h => by simp at h
  exact ⟨fun _ _ => rfl, fun _ _ h => (hno h).elim, fun _ _ _ h => (hno h).elim, fun _ _ _ h => (hno h).elim, fun _ _ _ h => (hno h).elim, fun _ _ _ _ _ _ _ h => (hno h).elim, fun _ h => h, Keeps.refl _ _, fun _ h => h.elim⟩
/-- Arguments without addresses. -/
theorem clean_args {args : Array Value} (h : args.all clean = true) (ρ : Rho) : ARel ρ args args :=
  ⟨rfl, fun k hk _ => clean_rel (Array.all_eq_true.1 h k hk) ρ⟩
theorem withArgs {P : Program} {X : XCall} {E : VCall} (hm : P.follows .mixedOrders = true) (hX : XOk X E) (hE : ClOk P E) {pureF : FuncId → Bool} {n : Nat} {f : FuncId} {args : Array Value} (ha : args.all clean = true)
    (h : isTrue (xcall P X pureF n f args #[]) = true) (w : World) :
    Calls P f args w fun e w' => e = .returned (.bool true) ∧ Below w.heap.size w w' := by
  unfold isTrue at h
  split at h
  case h_2 => cases h
  rename_i b σ hb
  subst h
  refine (calls_ok hm hE (xcall_ok hX n f args #[] _ hb (fun r => r = .ret (.bool true) σ) rfl) (clean_args ha _) (start w)).mono fun e w' he => ?_
  cases e with
  | returned v' =>
    obtain ⟨ρ2, v, σ2, -, h2, h3, h4⟩ := he
    cases h2
    cases h3
    exact ⟨rfl, h4.below.os, h4.below.tape, h4.below.output, h4.below.size, fun k hk => h4.below.block k hk⟩
  | panicked ch =>
    obtain ⟨ρ2, v, v', σ2, -, -, h2, -⟩ := he
    cases h2
  | outgrown => exact he.elim
theorem nullary {P : Program} {X : XCall} {E : VCall} (hm : P.follows .mixedOrders = true) (hX : XOk X E) (hE : ClOk P E) {pureF : FuncId → Bool} {n : Nat} {f : FuncId} (h : isTrue (xcall P X pureF n f #[] #[]) = true) (w : World) :
    Calls P f #[] w fun e w' => e = .returned (.bool true) ∧ Below w.heap.size w w' := by
  unfold isTrue at h
  split at h
  case h_2 => cases h
  rename_i b σ hb
  subst h
  refine (calls_ok hm hE (xcall_ok hX n f #[] #[] _ hb (fun r => r = .ret (.bool true) σ) rfl) (ARel.nil _) (start w)).mono fun e w' he => ?_
  cases e with
  | returned v' =>
    obtain ⟨ρ2, v, σ2, -, h2, h3, h4⟩ := he
    cases h2
    cases h3
    exact ⟨rfl, h4.below.os, h4.below.tape, h4.below.output, h4.below.size, fun k hk => h4.below.block k hk⟩
  | panicked ch =>
    obtain ⟨ρ2, v, v', σ2, -, -, h2, -⟩ := he
    cases h2
  | outgrown => exact he.elim
/- A run in pieces. -/
def seqL : Code → Code
  | .seq a _ => a
  | c => c
def seqR : Code → Code
  | .seq _ b => b
  | c => c
def isSeq : Code → Bool
  | .seq _ _ => true
  | _ => false
def bodyOf (P : Program) (f : FuncId) : Code := match P.funcs[f]? with
  | some fn => match fn.body with
    | some c => c
    | none => .skip
  | none => .skip
def tmpsOf (P : Program) (f : FuncId) : Nat := match P.funcs[f]? with
  | some fn => fn.ntmps
  | none => 0
def noP : FuncId → Bool := fun _ => false
/-- A piece of a body, run. -/
def runC (P : Program) (X : XCall) (n : Nat) (c : Code) (t : Array Value) (σ : VHeap) : Option XR := xcode P (xwp P X noP n) (xcallOf P X noP (xwp P X noP n)) c t σ
theorem seq_step {P : Program} {X : XCall} {n : Nat} {c : Code} {t t' : Array Value} {σ σ' : VHeap} {x : Option XR} (hc : isSeq c = true)
    (h1 : runC P X n (seqL c) t σ = some ⟨.normal, t', σ'⟩) (h2 : runC P X n (seqR c) t' σ' = x) : runC P X n c t σ = x := by
  unfold runC at *
  cases c <;> simp only [isSeq, Bool.false_eq_true] at hc
  simp only [seqL, seqR] at h1 h2
  simp only [xcode, h1, h2]
theorem xcall_of {P : Program} {X : XCall} {n : Nat} {f : FuncId} {t t0 : Array Value} {σ' : VHeap} {c : Code} {fn : Func} (hX : X f #[] #[] = none) (hf : P.funcs[f]? = some fn) (hc : fn.body = some c) (ht : Array.replicate fn.ntmps undef = t0)
    (h : runC P X n c t0 #[] = some ⟨.ret, t, σ'⟩)
    (hr : (match vrun P (results fn t) σ' with | some (.bool b, _) => b | _ => false) = true) : isTrue (xcall P X noP (n + 1) f #[] #[]) = true := by
  unfold xcall xcallOf
  simp only [hX, noP, cond_false]
  unfold xbody
  simp only [hf, hc]
  have ht' : (#[] : Array Value) ++ Array.replicate (fn.ntmps - (#[] : Array Value).size) undef = t0 := by rw [← ht]; simp
  rw [ht', show xwp P X noP (n + 1) c t0 #[] = runC P X n c t0 #[] from rfl, h]
  simp only
  split at hr
  · rename_i b σ2 hv
    rw [hv]
    exact hr
  · cases hr
/-- A call that is known to answer true and to turn nothing. -/
def oneX (g : FuncId) : XCall := fun f args σ => match f == g, args with
  | true, ⟨[]⟩ => some (.ret (.bool true) σ)
  | _, _ => none
def oneE (g : FuncId) : VCall := fun f args σ R => f = g ∧ args = #[] ∧ R (.ret (.bool true) σ)
theorem oneX_ok (g : FuncId) : XOk (oneX g) (oneE g) := by
  intro f args σ r h R hR
  unfold oneX at h
  split at h
  · rename_i hf
    cases h
    exact ⟨by simpa using hf, rfl, hR⟩
  · cases h
theorem oneE_ok {P : Program} {g : FuncId} (hg : ∀ w : World, Calls P g #[] w fun e w' => e = .returned (.bool true) ∧ Below w.heap.size w w') : ClOk P (oneE g) := by
  rintro f args args' σ R ρ w0 w B0 ⟨rfl, rfl, hR⟩ ha hw
  have : args' = #[] := Array.eq_empty_of_size_eq_zero (by rw [← ha.1]; rfl)
  subst this
  refine (hg w).mono fun e w' ⟨he, hb⟩ => ?_
  subst he
  exact ⟨ρ, .bool true, σ, Rho.le_refl _, hR, .bool true, hw.later hb⟩
namespace Lit
def u : Value := .tuple #[]
def i (n : Nat) : Value := .int .i64 (.ofNat n)
def y (n : Nat) : Value := .int .u8 (.ofNat n)
def B (l : List Nat) : ByteArray := ⟨⟨l.map UInt8.ofNat⟩⟩
def S (l : List Nat) : Value := .string (B l)
def p (a b : Nat) : Value := .pointer (some ⟨a, b, none⟩)
def l (a b n c : Nat) : Value := .slice (some ⟨a, b, none⟩) n c
def pn : Value := .pointer none
def ln : Value := .slice none 0 0
def bt : Value := .bool true
def bf : Value := .bool false
def x (c : List Value) (e r : Nat) : VObj := .cells ⟨⟨c⟩, e, .ex, false, r, 0⟩
end Lit
end Vm
end Go.Proofs.Ytodjjnklelfgfaa
