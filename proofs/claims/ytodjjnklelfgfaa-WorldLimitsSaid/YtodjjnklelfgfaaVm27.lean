/- Laws without arguments. -/
import Derived.Test.YtodjjnklelfgfaaVm26
namespace Go.Proofs.Ytodjjnklelfgfaa
namespace Vm
set_option linter.unusedSimpArgs false
set_option linter.unusedVariables false
open Go.RowKit

def isTrue : Option VC → Bool
  | some (.ret (.bool b) _) => b
  | _ => false
def noX : XCall := fun _ _ _ => none
def noE : VCall := fun _ _ _ _ => False
theorem noX_ok : XOk noX noE := fun _ _ _ _ h => by cases h
theorem noE_ok (P : Program) : ClOk P noE := fun _ _ _ _ _ _ _ _ _ h => h.elim
theorem start (w : World) : WRel (fun _ => none) #[] w w ⟨(· < w.heap.size), fun _ => False, fun _ => False⟩ := by
  have hno : ∀ {id : Nat} {o : VObj}, (#[] : VHeap)[id]? = some o → False := fun h => by simp at h
  exact ⟨fun _ _ => rfl, fun _ _ h => (hno h).elim, fun _ _ _ h => (hno h).elim, fun _ _ _ h => (hno h).elim, fun _ _ _ h => (hno h).elim, fun _ _ _ _ _ _ _ h => (hno h).elim, fun _ h => h, Keeps.refl _ _, fun _ h => h.elim⟩
/-- Arguments without addresses. -/
theorem clean_args {args : Array Value} (h : args.all clean = true) (ρ : Rho) : ARel ρ args args :=
  ⟨rfl, fun k hk _ => clean_rel (Array.all_eq_true.1 h k hk) ρ⟩
theorem withArgs {P : Program} {X : XCall} {E : VCall} (hm : P.follows .mixedOrders = true) (hX : XOk X E) (hE : ClOk P E) {pureF : FuncId → Bool} {n : Nat} {f : FuncId} {args : Array Value} (ha : args.all clean = true)
    (h : isTrue (xcall P X pureF n f args #[]) = true) (w : World) :
    Calls P f args w fun e w' => e = .returned (.bool true) ∧ Below w.heap.size w w' := by
  unfold isTrue at h
  split at h
  case h_2 => cases h
  rename_i b σ hb
  subst h
  refine (calls_ok hm hE (xcall_ok hX n f args #[] _ hb (fun r => r = .ret (.bool true) σ) rfl) (clean_args ha _) (start w)).mono fun e w' he => ?_
  cases e with
  | returned v' =>
    obtain ⟨ρ2, v, σ2, -, h2, h3, h4⟩ := he
    cases h2
    cases h3
    exact ⟨rfl, h4.below.os, h4.below.tape, h4.below.output, h4.below.size, fun k hk => h4.below.block k hk⟩
  | panicked ch =>
    obtain ⟨ρ2, v, v', σ2, -, -, h2, -⟩ := he
    cases h2
  | outgrown => exact he.elim
theorem nullary {P : Program} {X : XCall} {E : VCall} (hm : P.follows .mixedOrders = true) (hX : XOk X E) (hE : ClOk P E) {pureF : FuncId → Bool} {n : Nat} {f : FuncId} (h : isTrue (xcall P X pureF n f #[] #[]) = true) (w : World) :
    Calls P f #[] w fun e w' => e = .returned (.bool true) ∧ Below w.heap.size w w' := by
  unfold isTrue at h
  split at h
  case h_2 => cases h
  rename_i b σ hb
  subst h
  refine (calls_ok hm hE (xcall_ok hX n f #[] #[] _ hb (fun r => r = .ret (.bool true) σ) rfl) (ARel.nil _) (start w)).mono fun e w' he => ?_
  cases e with
  | returned v' =>
    obtain ⟨ρ2, v, σ2, -, h2, h3, h4⟩ := he
    cases h2
    cases h3
    exact ⟨rfl, h4.below.os, h4.below.tape, h4.below.output, h4.below.size, fun k hk => h4.below.block k hk⟩
  | panicked ch =>
    obtain ⟨ρ2, v, v', σ2, -, -, h2, -⟩ := he
    cases h2
  | outgrown => exact he.elim
/- A run in pieces. -/
def seqL : Code → Code
  | .seq a _ => a
  | c => c
def seqR : Code → Code
  | .seq _ b => b
  | c => c
def isSeq : Code → Bool
  | .seq _ _ => true
  | _ => false
def bodyOf (P : Program) (f : FuncId) : Code := match P.funcs[f]? with
  | some fn => match fn.body with
    | some c => c
    | none => .skip
  | none => .skip
def tmpsOf (P : Program) (f : FuncId) : Nat := match P.funcs[f]? with
  | some fn => fn.ntmps
  | none => 0
def noP : FuncId → Bool := fun _ => false
/-- A piece of a body, run. -/
def runC (P : Program) (X : XCall) (n : Nat) (c : Code) (t : Array Value) (σ : VHeap) : Option XR := xcode P (xwp P X noP n) (xcallOf P X noP (xwp P X noP n)) c t σ
theorem seq_step {P : Program} {X : XCall} {n : Nat} {c : Code} {t t' : Array Value} {σ σ' : VHeap} {x : Option XR} (hc : isSeq c = true)
    (h1 : runC P X n (seqL c) t σ = some ⟨.normal, t', σ'⟩) (h2 : runC P X n (seqR c) t' σ' = x) : runC P X n c t σ = x := by
  unfold runC at *
  cases c <;> simp only [isSeq, Bool.false_eq_true] at hc
  simp only [seqL, seqR] at h1 h2
  simp only [xcode, h1, h2]
theorem xcall_of {P : Program} {X : XCall} {n : Nat} {f : FuncId} {t t0 : Array Value} {σ' : VHeap} {c : Code} {fn : Func} (hX : X f #[] #[] = none) (hf : P.funcs[f]? = some fn) (hc : fn.body = some c) (ht : Array.replicate fn.ntmps undef = t0)
    (h : runC P X n c t0 #[] = some ⟨.ret, t, σ'⟩)
    (hr : (match vrun P (results fn t) σ' with | some (.bool b, _) => b | _ => false) = true) : isTrue (xcall P X noP (n + 1) f #[] #[]) = true := by
  unfold xcall xcallOf
  simp only [hX, noP, cond_false]
  unfold xbody
  simp only [hf, hc]
  have ht' : (#[] : Array Value) ++ Array.replicate (fn.ntmps - (#[] : Array Value).size) undef = t0 := by rw [← ht]; simp
  rw [ht', show xwp P X noP (n + 1) c t0 #[] = runC P X n c t0 #[] from rfl, h]
  simp only
  split at hr
  · rename_i b σ2 hv
    rw [hv]
    exact hr
  · cases hr
/-- A call that is known to answer true and to turn nothing. -/
def oneX (g : FuncId) : XCall := fun f args σ => match f == g, args with
  | true, ⟨[]⟩ => some (.ret (.bool true) σ)
  | _, _ => none
def oneE (g : FuncId) : VCall := fun f args σ R => f = g ∧ args = #[] ∧ R (.ret (.bool true) σ)
theorem oneX_ok (g : FuncId) : XOk (oneX g) (oneE g) := by
  intro f args σ r h R hR
  unfold oneX at h
  split at h
  · rename_i hf
    cases h
    exact ⟨by simpa using hf, rfl, hR⟩
  · cases h
theorem oneE_ok {P : Program} {g : FuncId} (hg : ∀ w : World, Calls P g #[] w fun e w' => e = .returned (.bool true) ∧ Below w.heap.size w w') : ClOk P (oneE g) := by
  rintro f args args' σ R ρ w0 w B0 ⟨rfl, rfl, hR⟩ ha hw
  have : args' = #[] := Array.eq_empty_of_size_eq_zero (by rw [← ha.1]; rfl)
  subst this
  refine (hg w).mono fun e w' ⟨he, hb⟩ => ?_
  subst he
  exact ⟨ρ, .bool true, σ, Rho.le_refl _, hR, .bool true, hw.later hb⟩
namespace Lit
def u : Value := .tuple #[]
def i (n : Nat) : Value := .int .i64 (.ofNat n)
def y (n : Nat) : Value := .int .u8 (.ofNat n)
def B (l : List Nat) : ByteArray := ⟨⟨l.map UInt8.ofNat⟩⟩
def S (l : List Nat) : Value := .string (B l)
def p (a b : Nat) : Value := .pointer (some ⟨a, b, none⟩)
def l (a b n c : Nat) : Value := .slice (some ⟨a, b, none⟩) n c
def pn : Value := .pointer none
def ln : Value := .slice none 0 0
def bt : Value := .bool true
def bf : Value := .bool false
def x (c : List Value) (e r : Nat) : VObj := .cells ⟨⟨c⟩, e, .ex, false, r, 0⟩
end Lit
end Vm
end Go.Proofs.Ytodjjnklelfgfaa
