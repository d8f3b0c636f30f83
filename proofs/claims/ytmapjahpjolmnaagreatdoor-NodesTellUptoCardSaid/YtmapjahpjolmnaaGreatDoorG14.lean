/- An evaluator that computes: where it comes to an end, what it tells holds. -/
import Derived.Test.YtmapjahpjolmnaaGreatDoorG13
import Derived.Test.YtmapjahpjolmnaaGreatDoorG3
import Derived.Test.YtmapjahpjolmnaaGreatDoorG1
import Derived.Test.YtmapjahpjolmnaaGreatDoorG4
set_option linter.unusedVariables false
set_option linter.unusedSimpArgs false
namespace Go.Proofs.YtmapjahpjolmnaaGreatDoor
namespace Vm
set_option linter.unusedSimpArgs false
set_option linter.unusedVariables false
open Go.RowKit

abbrev XCall := FuncId → Array Value → VHeap → Option VC
structure XR where
  e : VExit
  t : Array Value
  σ : VHeap
def xops (P : Program) (cl : XCall) (ops : Array Oper) : List Nat → Array Value → VHeap → Option XR
  | [], t, σ => some ⟨.normal, t, σ⟩
  | i :: l, t, σ =>
    match ops[i]? with
    | none => xops P cl ops l t σ
    | some o =>
      bif Region.wanted o (yielded ops t) then
        bif o.op.operands.all constOk then
          match vop P o (vev t) σ with
          | some (.val v σ') => xops P cl ops l (vput t o.dst v) σ'
          | some (.skip σ') => xops P cl ops l (vput t o.dst undef) σ'
          | some (.enter f args σ') => match cl f args σ' with
            | some (.ret v σ'') => xops P cl ops l (vput t o.dst v) σ''
            | some (.pan v σ'') => some ⟨.pan v, t, σ''⟩
            | none => none
          | some (.pan v σ') => some ⟨.pan v, t, σ'⟩
          | none => none
        else none
      else xops P cl ops l (vput t o.dst undef) σ
def leafEq : Value → Value → Bool
  | .bool a, .bool b => a == b
  | .int k a, .int l b => decide (k = l) && decide (a = b)
  | .float k a, .float l b => decide (k = l) && a == b
  | .string a, .string b => decide (a.data.toList = b.data.toList)
  | .pointer a, .pointer b => decide (a = b)
  | .slice a n c, .slice b m d => decide (a = b) && n == m && c == d
  | .map a, .map b => decide (a = b)
  | .chan a, .chan b => decide (a = b)
  | .nilFunc, .nilFunc => true
  | .nilIface, .nilIface => true
  | .func (.func f) ⟨[]⟩ ⟨[]⟩, .func (.func g) ⟨[]⟩ ⟨[]⟩ => f == g
  | _, _ => false
def leafEqL : List Value → List Value → Bool
  | [], [] => true
  | a :: l, b :: m => leafEq a b && leafEqL l m
  | _, _ => false
def veq : Value → Value → Bool
  | .agg ⟨a⟩, .agg ⟨b⟩ => leafEqL a b
  | .tuple ⟨a⟩, .tuple ⟨b⟩ => leafEqL a b
  | .iface t a, .iface u b => t == u && leafEq a b
  | a, b => leafEq a b
theorem leafEq_ok {a b : Value} (h : leafEq a b = true) : a = b := by
  unfold leafEq at h
  split at h <;> simp only [Bool.and_eq_true, decide_eq_true_eq, beq_iff_eq, Bool.false_eq_true] at h <;> first | (exact h.elim; done) | skip
  · rw [h]
  · rw [h.1, h.2]
  · rw [h.1, h.2]
  · rename_i x y
    obtain ⟨⟨x⟩⟩ := x
    obtain ⟨⟨y⟩⟩ := y
    simp only at h
    rw [h]
  · rw [h]
  · rw [h.1.1, h.1.2, h.2]
  · rw [h]
  · rw [h]
  · rfl
  · rfl
  · rw [h]
theorem leafEqL_ok : ∀ {a b : List Value}, leafEqL a b = true → a = b
  | [], [], _ => rfl
  | a :: l, b :: m, h => by
    simp only [leafEqL, Bool.and_eq_true] at h
    rw [leafEq_ok h.1, leafEqL_ok h.2]
  | [], _ :: _, h => by cases h
  | _ :: _, [], h => by cases h
theorem veq_ok {a b : Value} (h : veq a b = true) : a = b := by
  unfold veq at h
  split at h
  · rw [leafEqL_ok h]
  · rw [leafEqL_ok h]
  · simp only [Bool.and_eq_true, beq_iff_eq] at h
    rw [h.1, leafEq_ok h.2]
  · exact leafEq_ok h
/-- What waits to be read once more. -/
def stillB (P : Program) (ops : Array Oper) (pre : Nat → Nat → Bool) (al : List (Nat × Nat)) (t : Array Value) (σ : VHeap) : List (Nat × Value) → Bool
  | [] => true
  | x :: l => (match ops[x.1]? with
    | some o => isRd P o && match vop P o (vev t) (mskL σ (hid pre al x.1)) with
      | some (.val v _) => veq v x.2
      | _ => false
    | none => false) && stillB P ops pre al t σ l
theorem stillB_ok {P : Program} {ops : Array Oper} {pre : Nat → Nat → Bool} {al : List (Nat × Nat)} {t : Array Value} {σ : VHeap} : ∀ {l : List (Nat × Value)}, stillB P ops pre al t σ l = true → Still P ops pre l al t σ
  | [], _, x, hx => by simp at hx
  | y :: l, h, x, hx => by
    simp only [stillB, Bool.and_eq_true] at h
    rcases List.mem_cons.1 hx with rfl | hx
    · have h := h.1
      split at h
      case h_2 => cases h
      rename_i o ho
      simp only [Bool.and_eq_true] at h
      obtain ⟨hr, h⟩ := h
      split at h
      case h_2 => cases h
      rename_i v σ1 hv
      obtain ⟨_, e⟩ := rd_same hr hv
      cases e
      rw [← veq_ok h]
      exact ⟨o, ho, hv⟩
    · exact stillB_ok h.2 x hx
def xplan (P : Program) (cl : XCall) (ops : Array Oper) (pre : Nat → Nat → Bool) (eff : Nat → Bool) : List Nat → List (Nat × Value) → List (Nat × Nat) → Array Value → VHeap → Option XR
  | [], _, _, t, σ => some ⟨.normal, t, σ⟩
  | i :: l, pd, al, t, σ =>
    match ops[i]? with
    | none => none
    | some o =>
      bif Region.wanted o (yielded ops t) then
        bif o.op.operands.all constOk then
          bif eff i then
            bif aloneAll σ (hid pre al i) then
              match vop P o (vev t) (mskL σ (hid pre al i)) with
              | some (.val v σ1) => bif stillB P ops pre (al.filter fun x => !pre x.1 i) (vput t o.dst v) (backL σ σ1 (hid pre al i)) (pd.filter fun x => !pre x.1 i) then
                  xplan P cl ops pre eff l (pd.filter fun x => !pre x.1 i) (al.filter fun x => !pre x.1 i) (vput t o.dst v) (backL σ σ1 (hid pre al i)) else none
              | some (.skip σ1) => bif stillB P ops pre (al.filter fun x => !pre x.1 i) (vput t o.dst undef) (backL σ σ1 (hid pre al i)) (pd.filter fun x => !pre x.1 i) then
                  xplan P cl ops pre eff l (pd.filter fun x => !pre x.1 i) (al.filter fun x => !pre x.1 i) (vput t o.dst undef) (backL σ σ1 (hid pre al i)) else none
              | some (.enter f args σ1) => match cl f args σ1 with
                | some (.ret v σ2) => bif stillB P ops pre (al.filter fun x => !pre x.1 i) (vput t o.dst v) (backL σ σ2 (hid pre al i)) (pd.filter fun x => !pre x.1 i) then
                    xplan P cl ops pre eff l (pd.filter fun x => !pre x.1 i) (al.filter fun x => !pre x.1 i) (vput t o.dst v) (backL σ σ2 (hid pre al i)) else none
                | _ => none
              | _ => none
            else none
          else match nval P o (vev t) with
            | some v => xplan P cl ops pre eff l pd al (vput t o.dst v) σ
            | none => match nalloc P o (vev t) with
              | some (k, cs, e) => bif cs.all (leafB σ.size) then xplan P cl ops pre eff l pd ((i, σ.size) :: al) (vput t o.dst (k.val σ.size)) (σ.push (k.obj cs e σ.size)) else none
              | none => bif isRd P o then match vop P o (vev t) (mskL σ (hid pre al i)) with
                | some (.val v _) => xplan P cl ops pre eff l ((i, v) :: pd) al (vput t o.dst v) σ
                | _ => none
                else none
        else none
      else xplan P cl ops pre eff l pd al (vput t o.dst undef) σ
def xcode (P : Program) (rec : Code → Array Value → VHeap → Option XR) (cl : XCall) : Code → Array Value → VHeap → Option XR
  | .skip, t, σ => some ⟨.normal, t, σ⟩
  | .region _ ops draw, t, σ => bif draw then
      bif planOk ops (asap P ops ops.size []) (masksOf ops (asap P ops ops.size [])) (effAt P ops) then
        xplan P cl ops (preOf (masksOf ops (asap P ops ops.size []))) (effAt P ops) (asap P ops ops.size []) [] [] t σ
      else none
    else xops P cl ops (List.range ops.size) t σ
  | .seq a b, t, σ => match xcode P rec cl a t σ with
    | some ⟨.normal, t', σ'⟩ => xcode P rec cl b t' σ'
    | r => r
  | .cond c a b, t, σ => match vev t c with
    | .bool x => bif x then xcode P rec cl a t σ else xcode P rec cl b t σ
    | _ => none
  | .block id b, t, σ => match xcode P rec cl b t σ with
    | some ⟨.exit j, t', σ'⟩ => bif j == id then some ⟨.normal, t', σ'⟩ else some ⟨.exit j, t', σ'⟩
    | r => r
  | .loop b, t, σ => match xcode P rec cl b t σ with
    | some ⟨.normal, t', σ'⟩ => rec (.loop b) t' σ'
    | r => r
  | .exit id, t, σ => some ⟨.exit id, t, σ⟩
  | .ret, t, σ => some ⟨.ret, t, σ⟩
  | .label _, t, σ => some ⟨.normal, t, σ⟩
  | _, _, _ => none
def xbody (P : Program) (W : Code → Array Value → VHeap → Option XR) (f : FuncId) (args : Array Value) (σ : VHeap) : Option VC :=
  match P.funcs[f]? with
  | some fn => match fn.body with
    | some c => match W c (args ++ Array.replicate (fn.ntmps - args.size) undef) σ with
      | some ⟨.normal, t, σ'⟩ | some ⟨.ret, t, σ'⟩ => match vrun P (results fn t) σ' with
        | some (v, σ'') => some (.ret v σ'')
        | none => none
      | some ⟨.pan v, _, σ'⟩ => some (.pan v σ')
      | _ => none
    | none => none
  | none => none
def xcallOf (P : Program) (X : XCall) (pureF : FuncId → Bool) (W : Code → Array Value → VHeap → Option XR) : XCall := fun f args σ =>
  match X f args σ with
  | some r => some r
  | none =>
    bif pureF f then
      match xbody P W f args (frozenHeap σ) with
      | some (.ret v _) => bif clean v then some (.ret v σ) else none
      | _ => none
    else xbody P W f args σ
def xwp (P : Program) (X : XCall) (pureF : FuncId → Bool) : Nat → Code → Array Value → VHeap → Option XR
  | 0 => fun _ _ _ => none
  | n + 1 => xcode P (xwp P X pureF  n) (xcallOf P X pureF (xwp P X pureF  n))
def xcall (P : Program) (X : XCall) (pureF : FuncId → Bool) (n : Nat) : XCall := xcallOf P X pureF (xwp P X pureF  n)

section
variable {P : Program}
theorem bif_some {α : Type} {b : Bool} {x : Option α} {y : α} (h : (bif b then x else none) = some y) : b = true ∧ x = some y := by
  cases b
  · cases h
  · exact ⟨rfl, h⟩
def XOk (cl : XCall) (C : VCall) : Prop := ∀ f args σ r, cl f args σ = some r → ∀ R : VC → Prop, R r → C f args σ R
theorem xops_ok {cl : XCall} {C : VCall} (hcl : XOk cl C) {ops : Array Oper} : ∀ (l : List Nat) (t : Array Value) (σ : VHeap) (x : XR), xops P cl ops l t σ = some x → ∀ Q : VPost, Q x.e x.t x.σ → vwpOps P C ops Q l t σ := by
  intro l
  induction l with
  | nil => intro t σ x h Q hq; unfold xops at h; cases h; exact hq
  | cons i l ih =>
    intro t σ x h Q hq
    unfold xops at h
    unfold vwpOps
    split at h
    · rename_i ho; simp only [ho]; exact ih _ _ _ h Q hq
    · rename_i o ho
      simp only [ho]
      cases hw : Region.wanted o (yielded ops t) with
      | false =>
        rw [hw] at h
        rw [if_neg (by simp)]
        exact ih _ _ _ h Q hq
      | true =>
        rw [hw] at h
        rw [if_pos rfl]
        simp only [cond_true] at h
        obtain ⟨hc, h⟩ := bif_some h
        refine ⟨hc, ?_⟩
        split at h
        · rename_i v σ' hv; simp only [hv]; exact ih _ _ _ h Q hq
        · rename_i σ' hv; simp only [hv]; exact ih _ _ _ h Q hq
        · rename_i f args σ' hv
          simp only [hv]
          split at h
          · rename_i v σ2 hr; exact hcl _ _ _ _ hr _ (ih _ _ _ h Q hq)
          · rename_i v σ2 hr; cases h; exact hcl _ _ _ _ hr _ hq
          · cases h
        · rename_i v σ' hv; simp only [hv]; cases h; exact hq
        · cases h
theorem xplan_ok {cl : XCall} {C : VCall} (hcl : XOk cl C) {ops : Array Oper} {pre : Nat → Nat → Bool} {eff : Nat → Bool} : ∀ (l : List Nat) (pd : List (Nat × Value)) (al : List (Nat × Nat)) (t : Array Value) (σ : VHeap) (x : XR), xplan P cl ops pre eff l pd al t σ = some x → ∀ Q : VPost, Q x.e x.t x.σ → vplan P C ops pre eff Q l pd al t σ := by
  intro l
  induction l with
  | nil => intro pd al t σ x h Q hq; unfold xplan at h; cases h; exact hq
  | cons i l ih =>
    intro pd al t σ x h Q hq
    unfold xplan at h
    unfold vplan
    split at h
    · cases h
    · rename_i o ho
      simp only [ho]
      cases hw : Region.wanted o (yielded ops t) with
      | false =>
        rw [hw] at h
        rw [if_neg (by simp)]
        exact ih _ _ _ _ _ h Q hq
      | true =>
        rw [hw] at h
        rw [if_pos rfl]
        simp only [cond_true] at h
        obtain ⟨hc, h⟩ := bif_some h
        refine ⟨hc, ?_⟩
        cases he : eff i with
        | true =>
          rw [he] at h
          rw [if_pos rfl]
          simp only [cond_true] at h
          obtain ⟨hal, h⟩ := bif_some h
          refine ⟨hal, ?_⟩
          split at h
          · rename_i v σ' hv
            simp only [hv]
            obtain ⟨hs, h⟩ := bif_some h
            exact ⟨stillB_ok hs, ih _ _ _ _ _ h Q hq⟩
          · rename_i σ' hv
            simp only [hv]
            obtain ⟨hs, h⟩ := bif_some h
            exact ⟨stillB_ok hs, ih _ _ _ _ _ h Q hq⟩
          · rename_i f args σ' hv
            simp only [hv]
            split at h
            · rename_i v σ2 hr
              obtain ⟨hs, h⟩ := bif_some h
              exact hcl _ _ _ _ hr _ ⟨stillB_ok hs, ih _ _ _ _ _ h Q hq⟩
            · cases h
          · cases h
        | false =>
          rw [he] at h
          rw [if_neg (by simp)]
          simp only [cond_false] at h
          split at h
          · rename_i v hv; simp only [hv]; exact ih _ _ _ _ _ h Q hq
          · rename_i hn
            simp only [hn]
            split at h
            · rename_i k cs e hna
              obtain ⟨hlf, h⟩ := bif_some h
              simp only [hna]
              exact ⟨hlf, ih _ _ _ _ _ h Q hq⟩
            · rename_i hna
              simp only [hna]
              obtain ⟨hr, h⟩ := bif_some h
              split at h
              · rename_i v σ1 hv
                simp only [hr, hv]
                exact ih _ _ _ _ _ h Q hq
              · cases h
theorem xcode_ok {rec : Code → Array Value → VHeap → Option XR} {cl : XCall} {Rec : Code → VPost → Array Value → VHeap → Prop} {C : VCall} (hcl : XOk cl C)
    (hrec : ∀ b t σ x, rec (.loop b) t σ = some x → ∀ Q : VPost, Q x.e x.t x.σ → Rec (.loop b) Q t σ) : ∀ (c : Code) (t : Array Value) (σ : VHeap) (x : XR), xcode P rec cl c t σ = some x → ∀ Q : VPost, Q x.e x.t x.σ → vwpC P Rec C c Q t σ := by
  intro c
  induction c with
  | skip => intro t σ x h Q hq; unfold xcode at h; cases h; exact hq
  | region id ops draw =>
    intro t σ x h Q hq
    cases draw with
    | false => exact xops_ok hcl _ _ _ _ h Q hq
    | true =>
      obtain ⟨h1, h2⟩ := bif_some (show (bif _ then _ else none) = some x from h)
      exact .inr ⟨_, _, _, planOk_ok h1, xplan_ok hcl _ _ _ _ _ _ h2 Q hq⟩
  | seq a b iha ihb =>
    intro t σ x h Q hq
    simp only [xcode] at h
    simp only [vwpC]
    split at h
    · rename_i t' σ' ha; exact iha _ _ _ ha _ ⟨_, Forget.refl _, ihb _ _ _ h Q hq⟩
    · rename_i hr
      refine iha _ _ _ h _ ?_
      obtain ⟨e, t', σ'⟩ := x
      cases e with
      | normal => exact absurd h (hr t' σ')
      | _ => exact hq
  | cond c a b iha ihb =>
    intro t σ x h Q hq
    simp only [xcode] at h
    simp only [vwpC]
    split at h
    · rename_i y hy
      simp only [hy]
      cases y
      · exact ihb _ _ _ h Q hq
      · exact iha _ _ _ h Q hq
    · cases h
  | block id b ih =>
    intro t σ x h Q hq
    simp only [xcode] at h
    simp only [vwpC]
    split at h
    · rename_i j t' σ' hb
      refine ih _ _ _ hb _ ?_
      simp only
      by_cases hj : j = id
      · rw [if_pos hj]
        have : (j == id) = true := by simpa using hj
        rw [this] at h; cases h; exact hq
      · rw [if_neg hj]
        have : (j == id) = false := by simpa using hj
        rw [this] at h; cases h; exact hq
    · rename_i hr
      refine ih _ _ _ h _ ?_
      obtain ⟨e, t', σ'⟩ := x
      cases e with
      | exit j => exact absurd h (hr j t' σ')
      | _ => exact hq
  | loop b ih =>
    intro t σ x h Q hq
    simp only [xcode] at h
    simp only [vwpC]
    split at h
    · rename_i t' σ' ha; exact ih _ _ _ ha _ (hrec _ _ _ _ h Q hq)
    · rename_i hr
      refine ih _ _ _ h _ ?_
      obtain ⟨e, t', σ'⟩ := x
      cases e with
      | normal => exact absurd h (hr t' σ')
      | _ => exact hq
  | exit id => intro t σ x h Q hq; simp only [xcode] at h; cases h; exact hq
  | ret => intro t σ x h Q hq; simp only [xcode] at h; cases h; exact hq
  | label l => intro t σ x h Q hq; simp only [xcode] at h; cases h; exact hq
  | _ => intro t σ x h; simp only [xcode] at h; cases h
theorem xbody_ok {W : Code → Array Value → VHeap → Option XR} {V : Code → VPost → Array Value → VHeap → Prop} (hW : ∀ c t σ x, W c t σ = some x → ∀ Q : VPost, Q x.e x.t x.σ → V c Q t σ) : ∀ f args σ r, xbody P W f args σ = some r → ∀ R : VC → Prop, R r → vbody P V f args σ R := by
  intro f args σ r h R hR
  unfold xbody at h
  unfold vbody
  split at h
  case h_2 => cases h
  rename_i fn hfn
  simp only [hfn]
  split at h
  case h_2 => cases h
  rename_i c hc
  simp only [hc]
  split at h
  · rename_i t σ' hx
    refine hW _ _ _ _ hx _ ?_
    split at h
    · rename_i v σ2 hv; cases h; exact ⟨v, σ2, hv, hR⟩
    · cases h
  · rename_i t σ' hx
    refine hW _ _ _ _ hx _ ?_
    split at h
    · rename_i v σ2 hv; cases h; exact ⟨v, σ2, hv, hR⟩
    · cases h
  · rename_i v t σ' hx; cases h; exact hW _ _ _ _ hx _ hR
  · cases h
theorem xcallOf_ok {X : XCall} {E : VCall} {pureF : FuncId → Bool} {W : Code → Array Value → VHeap → Option XR} {V : Code → VPost → Array Value → VHeap → Prop} (hX : XOk X E) (hW : ∀ c t σ x, W c t σ = some x → ∀ Q : VPost, Q x.e x.t x.σ → V c Q t σ) :
    XOk (xcallOf P X pureF W) (vcallOf P E V) := by
  intro f args σ r h R hR
  unfold xcallOf at h
  split at h
  · rename_i r' hr; cases h; exact .inr (.inr (hX _ _ _ _ hr R hR))
  · cases hp : pureF f with
    | false => rw [hp] at h; exact .inl (xbody_ok hW _ _ _ _ h R hR)
    | true =>
      rw [hp] at h
      simp only [cond_true] at h
      split at h
      · rename_i v σ' hx
        obtain ⟨hcl, h⟩ := bif_some h
        cases h
        exact .inr (.inl (xbody_ok hW _ _ _ _ hx _ ⟨hcl, hR⟩))
      · cases h
theorem xwp_ok {X : XCall} {E : VCall} {pureF : FuncId → Bool} (hX : XOk X E) : ∀ n c t σ x, xwp P X pureF n c t σ = some x → ∀ Q : VPost, Q x.e x.t x.σ → vwp P E n c Q t σ
  | 0, c, t, σ, x, h, _, _ => by cases h
  | n + 1, c, t, σ, x, h, Q, hq => xcode_ok (xcallOf_ok hX (xwp_ok hX n)) (fun b t σ x h Q hq => xwp_ok hX n _ _ _ _ h Q hq) c t σ x h Q hq
theorem xcall_ok {X : XCall} {E : VCall} {pureF : FuncId → Bool} (hX : XOk X E) (n : Nat) : XOk (xcall P X pureF n) (vcallW P E n) := xcallOf_ok hX (xwp_ok hX n)
end
end Vm
end Go.Proofs.YtmapjahpjolmnaaGreatDoor
namespace Go.Proofs.YtmapjahpjolmnaaGreatDoor
namespace Vm
set_option linter.unusedSimpArgs false
set_option linter.unusedVariables false
open Go.RowKit

def isTrue : Option VC → Bool
  | some (.ret (.bool b) _) => b
  | _ => false
def noX : XCall := fun _ _ _ => none
def noE : VCall := fun _ _ _ _ => False
theorem noX_ok : XOk noX noE := fun _ _ _ _ h => by cases h
theorem noE_ok (P : Program) : ClOk P noE := fun _ _ _ _ _ _ _ _ _ h => h.elim
theorem start (w : World) : WRel (fun _ => none) #[] w w ⟨(· < w.heap.size), fun _ => False, fun _ => False⟩ := by
  have hno : ∀ {id : Nat} {o : VObj}, (#[] : VHeap)[id]? = some o → False := fun h => by simp at h
  exact ⟨fun _ _ => rfl, fun _ _ h => (hno h).elim, fun _ _ _ h => (hno h).elim, fun _ _ _ h => (hno h).elim, fun _ _ _ h => (hno h).elim, fun _ _ _ _ _ _ _ h => (hno h).elim, fun _ h => h, Keeps.refl _ _, fun _ h => h.elim⟩
/- A run in pieces. -/
def noP : FuncId → Bool := fun _ => false
namespace Lit
def u : Value := .tuple #[]
def i (n : Nat) : Value := .int .i64 (.ofNat n)
def y (n : Nat) : Value := .int .u8 (.ofNat n)
def B (l : List Nat) : ByteArray := ⟨⟨l.map UInt8.ofNat⟩⟩
def S (l : List Nat) : Value := .string (B l)
def p (a b : Nat) : Value := .pointer (some ⟨a, b, none⟩)
def l (a b n c : Nat) : Value := .slice (some ⟨a, b, none⟩) n c
def ln : Value := .slice none 0 0
def x (c : List Value) (e r : Nat) : VObj := .cells ⟨⟨c⟩, e, .ex, false, r, 0⟩
end Lit
end Vm
end Go.Proofs.YtmapjahpjolmnaaGreatDoor
namespace Go.Proofs.YtmapjahpjolmnaaGreatDoor
open Go.RowKit

namespace Lex
def signsB : List ByteArray := [⟨#[38, 38]⟩, ⟨#[124, 124]⟩, ⟨#[43, 43]⟩, ⟨#[45, 45]⟩, ⟨#[43, 61]⟩, ⟨#[45, 61]⟩, ⟨#[42, 61]⟩, ⟨#[47, 61]⟩, ⟨#[37, 61]⟩, ⟨#[94, 61]⟩, ⟨#[61, 61]⟩, ⟨#[60, 61]⟩, ⟨#[62, 61]⟩, ⟨#[33, 61]⟩, ⟨#[33, 126]⟩, ⟨#[62, 62]⟩, ⟨#[123]⟩, ⟨#[125]⟩, ⟨#[40]⟩, ⟨#[41]⟩, ⟨#[91]⟩, ⟨#[93]⟩, ⟨#[59]⟩, ⟨#[44]⟩, ⟨#[43]⟩, ⟨#[45]⟩, ⟨#[42]⟩, ⟨#[47]⟩, ⟨#[37]⟩, ⟨#[94]⟩, ⟨#[33]⟩, ⟨#[62]⟩, ⟨#[60]⟩, ⟨#[124]⟩, ⟨#[63]⟩, ⟨#[58]⟩, ⟨#[126]⟩, ⟨#[36]⟩, ⟨#[61]⟩]
def wordsB : List ByteArray := [⟨#[66, 69, 71, 73, 78]⟩, ⟨#[69, 78, 68]⟩, ⟨#[102, 117, 110, 99, 116, 105, 111, 110]⟩, ⟨#[105, 102]⟩, ⟨#[101, 108, 115, 101]⟩, ⟨#[119, 104, 105, 108, 101]⟩, ⟨#[102, 111, 114]⟩, ⟨#[100, 111]⟩, ⟨#[98, 114, 101, 97, 107]⟩, ⟨#[99, 111, 110, 116, 105, 110, 117, 101]⟩, ⟨#[110, 101, 120, 116]⟩, ⟨#[101, 120, 105, 116]⟩, ⟨#[114, 101, 116, 117, 114, 110]⟩, ⟨#[100, 101, 108, 101, 116, 101]⟩, ⟨#[105, 110]⟩, ⟨#[112, 114, 105, 110, 116]⟩, ⟨#[112, 114, 105, 110, 116, 102]⟩, ⟨#[103, 101, 116, 108, 105, 110, 101]⟩, ⟨#[108, 101, 110, 103, 116, 104]⟩, ⟨#[115, 117, 98, 115, 116, 114]⟩, ⟨#[105, 110, 100, 101, 120]⟩, ⟨#[115, 112, 108, 105, 116]⟩, ⟨#[115, 117, 98]⟩, ⟨#[103, 115, 117, 98]⟩, ⟨#[109, 97, 116, 99, 104]⟩, ⟨#[115, 112, 114, 105, 110, 116, 102]⟩, ⟨#[116, 111, 108, 111, 119, 101, 114]⟩, ⟨#[116, 111, 117, 112, 112, 101, 114]⟩, ⟨#[105, 110, 116]⟩, ⟨#[115, 114, 97, 110, 100]⟩, ⟨#[114, 97, 110, 100]⟩, ⟨#[99, 108, 111, 115, 101]⟩, ⟨#[115, 121, 115, 116, 101, 109]⟩]
end Lex
/-- A list of texts that a call without arguments hands back: by computing. -/
theorem strs_rel {ρ : Vm.Rho} {l : List ByteArray} {v' : Value} (h : Vm.VRel ρ (.agg (svals l).toArray) v') : v' = .agg (svals l).toArray := by
  have hstr : ∀ (x : ByteArray) (y : Value), Vm.VRel ρ (.string x) y → y = .string x := by intro x y h; cases h; rfl
  cases h with
  | agg h1 h2 =>
    rename_i ys
    congr 1
    apply Array.ext
    · exact h1.symm
    · intro k hk hk'
      have := h2 k hk' hk
      have e : ((svals l).toArray)[k]'hk' = .string (l[k]'(by simpa [svals] using hk')) := by simp [svals]
      rw [e] at this ⊢
      exact hstr _ _ this
def retS : Option Vm.VC → Value
  | some (.ret v _) => v
  | _ => .nilFunc
theorem strs_of {f : FuncId} {l : List ByteArray} (h : retS (Vm.xcall Tryz.prog Vm.noX Vm.noP 10 f #[] #[]) = .agg (svals l).toArray) (w : World) : Calls Tryz.prog f #[] w fun e w' => e = .returned (.agg (svals l).toArray) ∧ Below w.heap.size w w' := by
  unfold retS at h
  split at h
  case h_2 => cases h
  rename_i b σ hb
  subst h
  refine (Vm.calls_ok (by kernel_rfl) (Vm.noE_ok _) (Vm.xcall_ok Vm.noX_ok 10 f #[] #[] _ hb (fun r => r = .ret (.agg (svals l).toArray) σ) rfl) (Vm.ARel.nil _) (Vm.start w)).mono fun e w' he => ?_
  cases e with
  | returned v' =>
    obtain ⟨ρ2, v, σ2, -, h2, h3, h4⟩ := he
    cases h2
    have h3 := strs_rel h3
    exact ⟨by rw [h3], h4.below.os, h4.below.tape, h4.below.output, h4.below.size, fun k hk => h4.below.block k hk⟩
  | panicked ch =>
    obtain ⟨ρ2, v, v', σ2, -, -, h2, -⟩ := he
    cases h2
  | outgrown => exact he.elim
theorem x_signs (w : World) : Calls Tryz.prog 85 #[] w fun e w' => e = .returned (.agg (svals Lex.signsB).toArray) ∧ Below w.heap.size w w' := strs_of (by kernel_rfl) w
theorem x_words (w : World) : Calls Tryz.prog 82 #[] w fun e w' => e = .returned (.agg (svals Lex.wordsB).toArray) ∧ Below w.heap.size w w' := strs_of (by kernel_rfl) w
end Go.Proofs.YtmapjahpjolmnaaGreatDoor
namespace Go.Proofs.YtmapjahpjolmnaaGreatDoor
open Go.RowKit

namespace Lex
end Lex
theorem run_sign (S : List ByteArray) (k : Nat) (hS : S.length = 39) (hk : k < 39) (w : World) : (Instr.index 125 (.agg (svals S).toArray) (.int .i64 k)).run Tryz.prog w = .ok (.string (S[k]'(by omega))) w := by
  unfold Instr.index
  have h1 := Tryz.underlying125
  have h2 := Tryz.sizeOf9
  have h3 := Tryz.isAgg9
  simp [go_sem, h1, h2, h3, svals]
  rw [if_pos hk, List.getElem?_eq_getElem (by omega)]
  rfl
end Go.Proofs.YtmapjahpjolmnaaGreatDoor
namespace Go.Proofs.YtmapjahpjolmnaaGreatDoor
open Go.RowKit

namespace Lex
abbrev One := List UInt8 → Bool → Int × ByteArray × Nat
/-- Kind, text, line, place, end; error, its line. -/
structure Out where
  k : Int
  s : ByteArray
  line : Int
  at_ : Int
  end_ : Int
  err : Int
  eline : Int
def Out.tok (o : Out) : Value := .agg #[.int .u8 o.k, .string o.s, .int .i64 o.line, .int .i64 o.at_, .int .i64 o.end_]
def Out.fault (o : Out) : Value := .agg #[.int .i64 o.err, .int .i64 o.eline]
def none_ (err line : Int) : Out := ⟨0, ⟨#[]⟩, 0, 0, 0, err, line⟩
def nextL (one : One) (l : List UInt8) (at_ : Int) (re : Bool) : Out :=
  if 65536 < l.length then none_ 3 0
  else if at_ < 0 ∨ (l.length : Int) < at_ then none_ 2 0
  else
    let a := at_.toNat + passL (l.drop at_.toNat)
    if a = l.length then ⟨9, ⟨#[]⟩, lineL l a, a, a, 0, 0⟩
    else
      let t := one (l.drop a) re
      if t.2.2 = 0 then none_ 100 (lineL l a) else ⟨t.1, t.2.1, lineL l a, a, a + t.2.2, 0, 0⟩
end Lex
theorem fin2 (w : World) (a b c d e f g : Value) : let W := (w.alloc (.cells #[a, b, c, d, e] 91)).alloc (.cells #[f, g] 94)
    Blk W w.heap.size 91 #[a, b, c, d, e] ∧ Blk W (w.heap.size + 1) 94 #[f, g] ∧ Below w.heap.size w W := by
  have hR1 := Blk.new w 91 #[a, b, c, d, e]
  have hb1 := (Below.refl w.heap.size w).alloc (Nat.le_refl _) (.cells #[a, b, c, d, e] 91)
  have hsz : (w.alloc (.cells #[a, b, c, d, e] 91)).heap.size = w.heap.size + 1 := by simp
  have hF2 := Blk.new (w.alloc (.cells #[a, b, c, d, e] 91)) 94 #[f, g]
  rw [hsz] at hF2
  exact ⟨below_blk hR1 ((Below.refl w.heap.size.succ _).alloc (by rw [hsz]; exact Nat.le_refl _) _) (Nat.lt_succ_self _), hF2, hb1.trans ((Below.refl _ _).alloc (by rw [hsz]; omega) _)⟩
set_option maxHeartbeats 2000000 in
theorem x_next (one : Lex.One) (s : ByteArray) (at_ : Int) (re : Bool) (w : World) (hs : s.size ≤ 4294967296)
    (hone : s.size ≤ 65536 → 0 ≤ at_ → at_ ≤ s.size → at_.toNat + Lex.passL (s.data.toList.drop at_.toNat) < s.size → ∀ w : World,
      Calls Tryz.prog 68 #[.string (s.extract (at_.toNat + Lex.passL (s.data.toList.drop at_.toNat)) s.size), .bool re] w fun e w' =>
        e = .returned (.tuple #[.agg #[.int .u8 (one (s.data.toList.drop (at_.toNat + Lex.passL (s.data.toList.drop at_.toNat))) re).1, .string (one (s.data.toList.drop (at_.toNat + Lex.passL (s.data.toList.drop at_.toNat))) re).2.1, .int .i64 0, .int .i64 0, .int .i64 0], .int .i64 ((one (s.data.toList.drop (at_.toNat + Lex.passL (s.data.toList.drop at_.toNat))) re).2.2 : Nat)]) ∧ Below w.heap.size w w' ∧ (one (s.data.toList.drop (at_.toNat + Lex.passL (s.data.toList.drop at_.toNat))) re).2.2 ≤ s.size) :
    Calls Tryz.prog 56 #[.string s, .int .i64 at_, .bool re] w fun e w' => e = .returned (.tuple #[(Lex.nextL one s.data.toList at_ re).tok, (Lex.nextL one s.data.toList at_ re).fault]) ∧ Below w.heap.size w w' := by
  obtain ⟨l, hl⟩ : ∃ l, l = s.data.toList := ⟨_, rfl⟩
  have hl' : l.length = s.size := by subst hl; rfl
  rw [← hl] at hone ⊢
  have HL := Lib.hid hl
  have HLL := Lib.hid hl'
  have HONE := Lib.hid hone
  clear hl hl' hone
  have hsl : s.size < 9223372036854775808 := by omega
  by_cases hA : s.size ≤ 65536
  · by_cases hB : at_ < 0 ∨ (s.size : Int) < at_
    · have HN : Hid (Lex.nextL one l at_ re = Lex.none_ 2 0) := by unfold Hid Lex.nextL; rw [if_neg (by rw [HLL.out]; omega), if_pos (by rw [HLL.out]; exact hB)]
      rw [HN.out]
      by_cases hB1 : at_ < 0
      · go_enter Tryz.func56, Tryz.ntmps56
        go_wp2_with fail
        have hfin := fin2 w (.int .u8 0) (.string ⟨#[]⟩) (.int .i64 0) (.int .i64 0) (.int .i64 0) (.int .i64 2) (.int .i64 0)
        obtain ⟨hR, hF, hB'⟩ := hfin
        obtain ⟨⟨c0, c1, c2, c3, c4⟩, -⟩ := hR.five
        obtain ⟨⟨d0, d1⟩, -⟩ := hF.two
        refine bodyPost_ret (v := .tuple #[(Lex.none_ 2 0).tok, (Lex.none_ 2 0).fault]) (by simp [results, Tryz.results56, go_sem, c0, c1, c2, c3, c4, d0, d1, Lex.Out.tok, Lex.Out.fault, Lex.none_]) rfl ⟨rfl, hB'⟩
      · have hB2 : (s.size : Int) < at_ := by omega
        clear hB
        go_enter Tryz.func56, Tryz.ntmps56
        go_wp2_with fail
        have hfin := fin2 w (.int .u8 0) (.string ⟨#[]⟩) (.int .i64 0) (.int .i64 0) (.int .i64 0) (.int .i64 2) (.int .i64 0)
        obtain ⟨hR, hF, hB'⟩ := hfin
        obtain ⟨⟨c0, c1, c2, c3, c4⟩, -⟩ := hR.five
        obtain ⟨⟨d0, d1⟩, -⟩ := hF.two
        refine bodyPost_ret (v := .tuple #[(Lex.none_ 2 0).tok, (Lex.none_ 2 0).fault]) (by simp [results, Tryz.results56, go_sem, c0, c1, c2, c3, c4, d0, d1, Lex.Out.tok, Lex.Out.fault, Lex.none_]) rfl ⟨rfl, hB'⟩
    · obtain ⟨n, rfl⟩ : ∃ n : Nat, at_ = n := ⟨at_.toNat, by omega⟩
      have hn : n ≤ s.size := by omega
      have hn1 : (n : Int) ≤ (s.size : Int) := by omega
      have hp := ext_drop s n
      rw [← HL.out] at hp
      have HP := Lib.hid hp
      have hple : Lex.passL (l.drop n) ≤ (l.drop n).length := Lex.passM_le false (l.drop n)
      rw [List.length_drop, HLL.out] at hple
      simp only [Int.toNat_natCast] at HONE
      obtain ⟨o, ho⟩ : ∃ o, o = Lex.nextL one l n re := ⟨_, rfl⟩
      rw [← ho]
      have HN : Hid (o = if n + Lex.passL (l.drop n) = l.length then ⟨9, ⟨#[]⟩, Lex.lineL l ((n + Lex.passL (l.drop n) : Nat) : Int), ((n + Lex.passL (l.drop n) : Nat) : Int), ((n + Lex.passL (l.drop n) : Nat) : Int), 0, 0⟩
          else if (one (l.drop (n + Lex.passL (l.drop n))) re).2.2 = 0 then Lex.none_ 100 (Lex.lineL l ((n + Lex.passL (l.drop n) : Nat) : Int)) else ⟨(one (l.drop (n + Lex.passL (l.drop n))) re).1, (one (l.drop (n + Lex.passL (l.drop n))) re).2.1, Lex.lineL l ((n + Lex.passL (l.drop n) : Nat) : Int), ((n + Lex.passL (l.drop n) : Nat) : Int), ((n + Lex.passL (l.drop n) : Nat) : Int) + (one (l.drop (n + Lex.passL (l.drop n))) re).2.2, 0, 0⟩) := by
        rw [ho]; unfold Hid Lex.nextL; rw [if_neg (by rw [HLL.out]; omega), if_neg (by rw [HLL.out]; omega)]; simp only [Int.toNat_natCast]
      clear ho
      clear hB hp
      go_enter Tryz.func56, Tryz.ntmps56
      go_wp2_with fail
      refine (x_pass _ _ (by simp; omega)).mono ?_
      rintro e w2 ⟨rfl, rfl⟩
      rw [HP.out]
      generalize hm : Lex.passL (l.drop n) = m at *
      clear hm HP
      have hple' : m ≤ s.size - n := hple
      clear hple
      go_wp2_with fail
      rw [show (n : Int) + (m : Int) = ((n + m : Nat) : Int) by omega]
      have hnm : n + m ≤ s.size := by omega
      clear hn hn1 hple'
      generalize n + m = q at *
      refine (x_line s q _ hs).mono ?_
      rintro e w2 ⟨rfl, rfl⟩
      rw [← HL.out]
      generalize Lex.lineL l (q : Int) = ln at *
      by_cases hq : q = s.size
      · have Ho := HN.out
        rw [if_pos (by rw [HLL.out]; exact hq)] at Ho
        subst hq
        have HO := Lib.hid Ho
        clear Ho
        go_wp2_with fail
        have hfin := fin2 w (.int .u8 9) (.string ⟨#[]⟩) (.int .i64 ln) (.int .i64 s.size) (.int .i64 s.size) (.int .i64 0) (.int .i64 0)
        obtain ⟨hR, hF, hB'⟩ := hfin
        obtain ⟨⟨c0, c1, c2, c3, c4⟩, -⟩ := hR.five
        obtain ⟨⟨d0, d1⟩, -⟩ := hF.two
        refine bodyPost_ret (v := .tuple #[(Lex.Out.mk 9 ⟨#[]⟩ ln (s.size : Nat) (s.size : Nat) 0 0).tok, (Lex.Out.mk 9 ⟨#[]⟩ ln (s.size : Nat) (s.size : Nat) 0 0).fault]) (by simp [results, Tryz.results56, go_sem, c0, c1, c2, c3, c4, d0, d1, Lex.Out.tok, Lex.Out.fault, Lex.none_]) rfl ⟨by rw [HO.out], hB'⟩
      · have Ho := HN.out
        rw [if_neg (by rw [HLL.out]; exact hq)] at Ho
        have HO := Lib.hid Ho
        clear Ho HN
        have hq1 : (q : Int) < (s.size : Int) := by omega
        have hq2 : ¬ ((q : Int) = (s.size : Int)) := by omega
        go_wp2_with fail
        refine (HONE.out hA (by omega) (by omega) (by omega) _).mono ?_
        rintro e w3 ⟨rfl, hb3, htn⟩
        obtain ⟨hR, hF, hB⟩ := fin2 w (.int .u8 0) (.string ⟨#[]⟩) (.int .i64 0) (.int .i64 0) (.int .i64 0) (.int .i64 0) (.int .i64 0)
        have hR3 := below_blk hR hb3 hR.lt
        have hF3 := below_blk hF hb3 hF.lt
        have hB3 := hB.trans (hb3.mono (by simp; omega))
        have HLT := Lib.hid (And.intro hR3.lt hF3.lt)
        clear hR hF hB hb3 HONE
        generalize (one (l.drop q) re).1 = tk at *
        generalize (one (l.drop q) re).2.1 = ts at *
        generalize (one (l.drop q) re).2.2 = tn at *
        by_cases ht0 : tn = 0
        · have Ho := HO.out
          rw [if_pos ht0] at Ho
          have HO2 := Lib.hid Ho
          clear Ho HO
          subst ht0
          have hb4 := (Below.refl w3.heap.size w3).alloc (Nat.le_refl _) (.cells #[.int .u8 tk, .string ts, .int .i64 0, .int .i64 0, .int .i64 0] 91)
          have hT4 := Blk.new w3 91 #[.int .u8 tk, .string ts, .int .i64 0, .int .i64 0, .int .i64 0]
          have hR4 := below_blk hR3 hb4 hR3.lt
          have hF4 := below_blk hF3 hb4 hF3.lt
          have hB4 := hB3.trans (hb4.mono hB3.size)
          have hRT : ¬ w.heap.size = w3.heap.size := by have := hR3.lt; omega
          have hFT : ¬ w.heap.size + 1 = w3.heap.size := by have := hF3.lt; omega
          have hTR : ¬ w3.heap.size = w.heap.size := fun e => hRT e.symm
          have hTF : ¬ w3.heap.size = w.heap.size + 1 := fun e => hFT e.symm
          obtain ⟨⟨c0, c1, c2, c3, c4⟩, f0, f1, f2, f3, f4⟩ := hR4.five
          obtain ⟨⟨d0, d1⟩, g0, g1⟩ := hF4.two
          obtain ⟨⟨t0, t1, t2, t3, t4⟩, h0, h1, h2, h3, h4⟩ := hT4.five
          have HR4 := Lib.hid hR4
          have HF4 := Lib.hid hF4
          have HT4 := Lib.hid hT4
          have HB4 := Lib.hid hB4
          clear hR3 hF3 hB3 hb4 hT4 hR4 hF4 hB4
          go_wp2_with fail
          have hR9 := (HR4.out.set5 (.int .u8 0) (.string ⟨#[]⟩) (.int .i64 0) (.int .i64 0) (.int .i64 0))
          have hF8 := HF4.out.keep (Tur.set5 (g := w.heap.size) (i1 := 0) (i2 := 1) (i3 := 2) (i4 := 3) (i5 := 4) (.int .u8 0) (.string ⟨#[]⟩) (.int .i64 0) (.int .i64 0) (.int .i64 0)) (fun e => absurd e (Nat.succ_ne_self _))
          have hF9 := hF8.set2 (.int .i64 100) (.int .i64 ln)
          have hR10 := hR9.keep (Tur.set2 (g := w.heap.size + 1) (i1 := 0) (i2 := 1) (.int .i64 100) (.int .i64 ln)) (fun e => absurd e.symm (Nat.succ_ne_self _))
          have hB9 := HB4.out.trans (below_set5 (g := w.heap.size) (Nat.le_refl _) HB4.out.size (.int .u8 0) (.string ⟨#[]⟩) (.int .i64 0) (.int .i64 0) (.int .i64 0))
          have hB10 := hB9.trans (below_set2 (g := w.heap.size + 1) (Nat.le_succ _) hB9.size (.int .i64 100) (.int .i64 ln))
          obtain ⟨⟨s0, s1, s2, s3, s4⟩, -⟩ := hR10.five
          obtain ⟨⟨e0, e1⟩, -⟩ := hF9.two
          clear c0 c1 c2 c3 c4 d0 d1 f0 f1 f2 f3 f4 g0 g1 t0 t1 t2 t3 t4 h0 h1 h2 h3 h4 hR9 hF8 hF9 hR10 hB9
          refine bodyPost_ret (v := .tuple #[(Lex.none_ 100 ln).tok, (Lex.none_ 100 ln).fault]) (by simp [results, Tryz.results56, go_sem, s0, s1, s2, s3, s4, e0, e1, Lex.Out.tok, Lex.Out.fault, Lex.none_]) rfl ⟨by rw [HO2.out], hB10⟩
        · have Ho := HO.out
          rw [if_neg ht0] at Ho
          have HO2 := Lib.hid Ho
          clear Ho HO
          have hb4 := (Below.refl w3.heap.size w3).alloc (Nat.le_refl _) (.cells #[.int .u8 tk, .string ts, .int .i64 ln, .int .i64 q, .int .i64 ((q : Int) + (tn : Int))] 91)
          have hT4 := Blk.new w3 91 #[.int .u8 tk, .string ts, .int .i64 ln, .int .i64 q, .int .i64 ((q : Int) + (tn : Int))]
          have hR4 := below_blk hR3 hb4 hR3.lt
          have hF4 := below_blk hF3 hb4 hF3.lt
          have hB4 := hB3.trans (hb4.mono hB3.size)
          have hRT : ¬ w.heap.size = w3.heap.size := by have := hR3.lt; omega
          have hFT : ¬ w.heap.size + 1 = w3.heap.size := by have := hF3.lt; omega
          have hTR : ¬ w3.heap.size = w.heap.size := fun e => hRT e.symm
          have hTF : ¬ w3.heap.size = w.heap.size + 1 := fun e => hFT e.symm
          obtain ⟨⟨c0, c1, c2, c3, c4⟩, f0, f1, f2, f3, f4⟩ := hR4.five
          obtain ⟨⟨d0, d1⟩, g0, g1⟩ := hF4.two
          obtain ⟨⟨t0, t1, t2, t3, t4⟩, h0, h1, h2, h3, h4⟩ := hT4.five
          have HR4 := Lib.hid hR4
          have HF4 := Lib.hid hF4
          have HT4 := Lib.hid hT4
          have HB4 := Lib.hid hB4
          clear hR3 hF3 hB3 hb4 hT4 hR4 hF4 hB4
          go_wp2_with fail
          have hR9 := (HR4.out.set5 (.int .u8 tk) (.string ts) (.int .i64 ln) (.int .i64 q) (.int .i64 ((q : Int) + (tn : Int))))
          have hF8 := HF4.out.keep (Tur.set5 (g := w.heap.size) (i1 := 0) (i2 := 1) (i3 := 2) (i4 := 3) (i5 := 4) (.int .u8 tk) (.string ts) (.int .i64 ln) (.int .i64 q) (.int .i64 ((q : Int) + (tn : Int)))) (fun e => absurd e (Nat.succ_ne_self _))
          have hF9 := hF8.set2 (.int .i64 0) (.int .i64 0)
          have hR10 := hR9.keep (Tur.set2 (g := w.heap.size + 1) (i1 := 0) (i2 := 1) (.int .i64 0) (.int .i64 0)) (fun e => absurd e.symm (Nat.succ_ne_self _))
          have hB9 := HB4.out.trans (below_set5 (g := w.heap.size) (Nat.le_refl _) HB4.out.size (.int .u8 tk) (.string ts) (.int .i64 ln) (.int .i64 q) (.int .i64 ((q : Int) + (tn : Int))))
          have hB10 := hB9.trans (below_set2 (g := w.heap.size + 1) (Nat.le_succ _) hB9.size (.int .i64 0) (.int .i64 0))
          obtain ⟨⟨s0, s1, s2, s3, s4⟩, -⟩ := hR10.five
          obtain ⟨⟨e0, e1⟩, -⟩ := hF9.two
          clear c0 c1 c2 c3 c4 d0 d1 f0 f1 f2 f3 f4 g0 g1 t0 t1 t2 t3 t4 h0 h1 h2 h3 h4 hR9 hF8 hF9 hR10 hB9
          refine bodyPost_ret (v := .tuple #[(Lex.Out.mk tk ts ln q ((q : Int) + (tn : Int)) 0 0).tok, (Lex.Out.mk tk ts ln q ((q : Int) + (tn : Int)) 0 0).fault]) (by simp [results, Tryz.results56, go_sem, s0, s1, s2, s3, s4, e0, e1, Lex.Out.tok, Lex.Out.fault, Lex.none_]) rfl ⟨by rw [HO2.out], hB10⟩
  · have HN : Hid (Lex.nextL one l at_ re = Lex.none_ 3 0) := by unfold Hid Lex.nextL; rw [if_pos (by rw [HLL.out]; omega)]
    rw [HN.out]
    go_enter Tryz.func56, Tryz.ntmps56
    go_wp2_with fail
    have hfin := fin2 w (.int .u8 0) (.string ⟨#[]⟩) (.int .i64 0) (.int .i64 0) (.int .i64 0) (.int .i64 3) (.int .i64 0)
    obtain ⟨hR, hF, hB'⟩ := hfin
    obtain ⟨⟨c0, c1, c2, c3, c4⟩, -⟩ := hR.five
    obtain ⟨⟨d0, d1⟩, -⟩ := hF.two
    refine bodyPost_ret (v := .tuple #[(Lex.none_ 3 0).tok, (Lex.none_ 3 0).fault]) (by simp [results, Tryz.results56, go_sem, c0, c1, c2, c3, c4, d0, d1, Lex.Out.tok, Lex.Out.fault, Lex.none_]) rfl ⟨rfl, hB'⟩
end Go.Proofs.YtmapjahpjolmnaaGreatDoor
namespace Go.Proofs.YtmapjahpjolmnaaGreatDoor
open Go.RowKit

set_option maxRecDepth 100000 in
theorem r_words (w : World) : Calls Tryz.prog 105 #[] w fun e w' => e = .returned (.slice (some ⟨w.heap.size, 0, none⟩) 33 33) ∧ w' = w.alloc (.cells (svals Lex.wordsB).toArray 9) := by
  go_enter Tryz.func105, Tryz.ntmps105
  go_wp2_with fail
  go_ret
  exact ⟨rfl, rfl⟩

set_option maxRecDepth 100000 in
theorem r_signs (w : World) : Calls Tryz.prog 94 #[] w fun e w' => e = .returned (.slice (some ⟨w.heap.size, 0, none⟩) 39 39) ∧ w' = w.alloc (.cells (svals Lex.signsB).toArray 9) := by
  go_enter Tryz.func94, Tryz.ntmps94
  go_wp2_with fail
  go_ret
  exact ⟨rfl, rfl⟩

set_option maxHeartbeats 1000000 in
theorem r_has (w : World) (B : Nat) (A : Option Addr) (n cap : Nat) (xs : List ByteArray) (x : ByteArray) (hx : Strs w B A n xs) (hn : n ≤ 1000) (hc : n ≤ cap) :
    Calls Tryz.prog 104 #[.slice A n cap, .string x] w fun e w' => e = .returned (.bool (Lib.containsS xs x)) ∧ w = w' := by
  have HX := Lib.hid hx
  clear hx
  go_enter Tryz.func104, Tryz.ntmps104
  go_wp2_with fail
  go_loop [5] (fun i => ∃ k : Nat, k ≤ n ∧ i = .int .i64 k ∧ ∀ j, (hj : j < xs.length) → j < k → xs[j] ≠ x) (fun i => n - (intOf i).toNat)
  case atStart => exact ⟨0, Nat.zero_le _, rfl, fun j _ h => by omega⟩
  case round =>
    obtain ⟨k, hk, rfl, hno⟩ := hrel
    have HNO := Lib.hid hno
    clear hno
    by_cases hlt : k < n
    · obtain ⟨b, o, rfl, hbB, hcx⟩ := HX.out.2 (by omega)
      have hx1 : k < xs.length := by rw [HX.out.1]; exact hlt
      have c1 := hcx k hx1
      clear hcx
      by_cases he : xs[k] = x
      · have hd : Lib.containsS xs x = true := (Lib.containsS_iff _ _).2 (by rw [← he]; exact List.getElem_mem _)
        have hq : (x.toList == x.toList) = true := by simp
        rw [he] at c1
        have HD := Lib.hid hd
        clear hd HNO
        go_wp2_with fail
        go_ret
        exact ⟨ret_bool (by rw [HD.out]), rfl⟩
      · have hq : ((xs[k]).toList == x.toList) = false := by rw [tolist_beq]; exact decide_eq_false fun e => he (bytes_ext e)
        have HE := Lib.hid he
        clear he
        go_wp2_with fail
        go_round
        case rel => exact ⟨k + 1, by omega, by go_num, fun j hj h => by
          rcases Nat.lt_or_ge j k with h | h
          · exact HNO.out j hj h
          · obtain rfl : j = k := by omega
            exact HE.out⟩
        case measure => simp [intOf]; omega
    · have hd : Lib.containsS xs x = false := Bool.eq_false_iff.2 fun hm' => by
        have hm := (Lib.containsS_iff _ _).1 hm'
        obtain ⟨j, hj, e⟩ := List.mem_iff_getElem.1 hm
        exact HNO.out j hj (by have := HX.out.1; omega) e
      have HD := Lib.hid hd
      clear hd
      go_wp2_with fail
      go_ret
      exact ⟨ret_bool (by rw [HD.out]), rfl⟩

end Go.Proofs.YtmapjahpjolmnaaGreatDoor
