/- Runs of the machine of small steps: how they begin, how they end, what is known of calls. -/
import Derived.Test.YtjgfhdabcahokaaVm34
namespace Go.Proofs.Ytjgfhdabcahokaa
namespace Vm
set_option linter.unusedSimpArgs false
set_option linter.unusedVariables false
open Go.RowKit

section
variable {P : Program} {E : VCall}
/-- Until it ends. -/
noncomputable def runE (P : Program) (X : XFCall) (sub : SubF) (n : Nat) : Cfg → Option (Value × HF) := Nat.rec (motive := fun _ => Cfg → Option (Value × HF)) (fun _ => none) (fun _ ih c => match c with
  | .fin v h => some (v, h)
  | c => match step P X sub c with
    | some c' => ih c'
    | none => none) n
theorem runE_succ (X : XFCall) (sub : SubF) (n : Nat) (c : Cfg) : runE P X sub (n + 1) c = match c with
      | .fin v h => some (v, h)
      | c => match step P X sub c with
        | some c' => runE P X sub n c'
        | none => none := rfl
theorem runE_ok {R : VC → Prop} {X : XFCall} {sub : SubF} (hX : XFOk E X) (hsub : SubOk P E sub) : ∀ (n : Nat) {c : Cfg} {v : Value} {h : HF}, runE P X sub n c = some (v, h) → (∀ σ, HRep h σ → R (.ret v σ)) → Ok P E R c
  | 0, c, v, h, hx, hk => by cases hx
  | n + 1, c, v, h, hx, hk => by
    rw [runE_succ] at hx
    split at hx
    · cases hx; exact hk
    · split at hx
      · rename_i c1 h1; exact step_ok hX hsub h1 (runE_ok hX hsub n hx hk)
      · cases hx
noncomputable def subN (P : Program) (X : XFCall) (N : Nat) : Nat → SubF
  | 0 => fun _ _ _ _ => none
  | k + 1 => fun m f args h => match X f args h with
    | some r => some r
    | none => match m with
      | 0 => none
      | m + 1 => match P.funcs[f]? with
        | some fn => match fn.body with
          | some c => tmps0 fn args fun t => runE P X (subN P X N k) N (.code m c t h [.base fn])
          | none => none
        | none => none
theorem base_post (R : VC → Prop) (fn : Func) : postK P E R [.base fn] = fun e t σ' => match e with
        | .normal | .ret => ∃ v σ'', vrun P (results fn t) σ' = some (v, σ'') ∧ R (.ret v σ'')
        | .pan v => R (.pan v σ')
        | .exit _ => False := by
  funext e t σ'
  cases e <;> rfl
theorem body_of {R : VC → Prop} {m : Nat} {f : FuncId} {fn : Func} {c : Code} {args : Array Value} {t : List Value} {h : HF} {σ : VHeap} (hfn : P.funcs[f]? = some fn) (hc : fn.body = some c) (ht : (⟨t⟩ : Array Value) = args ++ Array.replicate (fn.ntmps - args.size) undef)
    (hk : Ok P E R (.code m c t h [.base fn])) (r : HRep h σ) : vcallOf P E (vwp P E (m + 1)) f args σ R := by
  refine .inl ?_
  unfold vbody
  simp only [hfn, hc]
  have := hk σ r
  rw [base_post, ht] at this
  exact this
theorem subN_ok {X : XFCall} (hX : XFOk E X) (N : Nat) : ∀ k, SubOk P E (subN P X N k)
  | 0 => fun m f args h v h' σ hx => by cases hx
  | k + 1 => fun m f args h v h' σ hx r R hR => by
    unfold subN at hx
    split at hx
    · rename_i q hq
      cases hx
      obtain ⟨σ', r', hE⟩ := hX _ _ _ _ _ _ hq r
      exact .inr (.inr (hE R (hR σ' r')))
    · cases m with
      | zero => cases hx
      | succ m =>
        dsimp only at hx
        split at hx
        case h_2 => cases hx
        rename_i fn hfn
        split at hx
        case h_2 => cases hx
        rename_i c hc
        obtain ⟨l0, e3, e4⟩ := tmps0_eq fn args (fun t => runE P X (subN P X N k) N (.code m c t h [.base fn]))
        rw [e3] at hx
        exact body_of hfn hc e4 (runE_ok hX (subN_ok hX N k) N hx hR) r
/- Blocks that are given up. -/
theorem gc_ok {R : VC → Prop} {m : Nat} {c : Code} {t : List Value} {h h' : HF} {K : List Fr} (ids : List Nat) (hg : mskF ids h some = some h') (hk : Ok P E R (.code m c t h' K)) : Ok P E R (.out .normal t h (.seq m c :: K)) := by
  intro σ r
  obtain ⟨h1, r1, e⟩ := mskF_ok r hg
  cases e
  refine ⟨mskL σ ids, ⟨by rw [mskL_eq, msk_size], fun id => ?_⟩, hk _ r1⟩
  rw [mskL_eq, msk_get]
  cases σ[id]? with
  | none => exact .inl rfl
  | some o =>
    cases hb : ids.contains id with
    | true => exact .inr rfl
    | false => exact .inl rfl
/- Known calls. -/
def noXF : XFCall := fun _ _ _ => none
theorem noXF_ok : XFOk noE noXF := fun _ _ _ _ _ _ h => by cases h
def orXF (X Y : XFCall) : XFCall := fun f args h => match X f args h with
  | some r => some r
  | none => Y f args h
theorem orXF_ok {X Y : XFCall} {C D : VCall} (hx : XFOk C X) (hy : XFOk D Y) : XFOk (orE C D) (orXF X Y) := by
  intro f args h v h' σ hh r
  unfold orXF at hh
  split at hh
  · rename_i q hq; cases hh
    obtain ⟨σ', r', hE⟩ := hx _ _ _ _ _ _ hq r
    exact ⟨σ', r', fun R hR => .inl (hE R hR)⟩
  · obtain ⟨σ', r', hE⟩ := hy _ _ _ _ _ _ hh r
    exact ⟨σ', r', fun R hR => .inr (hE R hR)⟩
def oneXF (g : FuncId) : XFCall := fun f args h => match Nat.beq f g, args with
  | true, ⟨[]⟩ => some (.bool true, h)
  | _, _ => none
theorem oneXF_ok (g : FuncId) : XFOk (oneE g) (oneXF g) := by
  intro f args h v h' σ hx r
  unfold oneXF at hx
  split at hx
  · rename_i hf
    cases hx
    exact ⟨σ, r, fun R hR => ⟨Nat.eq_of_beq_eq_true hf, rfl, hR⟩⟩
  · cases hx
noncomputable def globIntF (h : HF) (g : Nat) : Bool := match gfindF h g 16 0 with
  | some id => match h.get id with
    | some (.cells b) => match b.cells with
      | ⟨[.int .i64 _]⟩ => true
      | _ => false
    | _ => false
  | none => false
theorem globIntF_eq {h : HF} {σ : VHeap} (r : HRep h σ) (g : Nat) : globIntF h g = globInt σ g := by
  unfold globIntF globInt
  simp only [gfindF_eq r, r.look]
  rfl
noncomputable def oneGXF (f0 : FuncId) (g : Nat) : XFCall := fun f args h => match Nat.beq f f0, args with
  | true, ⟨[]⟩ => bif globIntF h g then some (.bool true, h) else none
  | _, _ => none
theorem oneGXF_ok (f0 : FuncId) (g : Nat) : XFOk (oneGE f0 g) (oneGXF f0 g) := by
  intro f args h v h' σ hx r
  unfold oneGXF at hx
  split at hx
  · rename_i hf
    obtain ⟨hg, hx⟩ := bif_some hx
    cases hx
    rw [globIntF_eq r] at hg
    exact ⟨σ, r, fun R hR => ⟨Nat.eq_of_beq_eq_true hf, rfl, hg, hR⟩⟩
  · cases hx
noncomputable def idxXF (f0 : FuncId) (g : Nat) : XFCall := fun f args h => match Nat.beq f f0, args with
  | true, ⟨[.string s, .string t]⟩ => bif Nat.blt (lenA s.data.toList 0) 4294967281 && globIntF h g then some (.int .i64 (idx t.data.toList s.data.toList 0), h) else none
  | _, _ => none
theorem idxXF_ok (f0 : FuncId) (g : Nat) : XFOk (idxE f0 g) (idxXF f0 g) := by
  intro f args h v h' σ hx r
  unfold idxXF at hx
  split at hx
  · rename_i s t hf
    obtain ⟨hg, hx⟩ := bif_some hx
    cases hx
    simp only [Bool.and_eq_true] at hg
    obtain ⟨h1, h2⟩ := hg
    rw [globIntF_eq r] at h2
    rw [lenA_eq] at h1
    refine ⟨σ, r, fun R hR => ⟨Nat.eq_of_beq_eq_true hf, s, t, rfl, ?_, h2, ?_⟩⟩
    · have h1 : 0 + s.data.toList.length + 1 ≤ 4294967281 := Nat.le_of_ble_eq_true h1
      have h3 : s.data.size = s.size := rfl
      rw [Array.length_toList] at h1
      omega
    · have : idx t.data.toList s.data.toList 0 = Lib.index s.data.toList t.data.toList := by
        rw [idx_eq]
        split
        · rename_i h1; rw [beq_iff_eq] at h1; rw [h1]
        · simp
      rw [← this]
      exact hR
  · cases hx
/- The beginning. -/
def isT : VC → Prop
  | .ret v _ => v = .bool true
  | .pan _ _ => False
theorem ends {h : HF} : Ok P E isT (.fin (.bool true) h) := fun _ _ => rfl
def h0 : HF := ⟨0, .e⟩
theorem h0_rep : HRep h0 #[] := ⟨rfl, Tr.wf_e _, Nat.zero_le _, fun i hi => absurd hi (Nat.not_lt_zero i)⟩
/-- A call, by what is shown of its beginning. -/
theorem calls_of {ρ : Rho} {σ : VHeap} {B0 : Base} (hm : P.follows .mixedOrders = true) (hE : ClOk P E) {m : Nat} {f : FuncId} {fn : Func} {c : Code} {args : Array Value} {t : List Value} {h : HF} (hfn : P.funcs[f]? = some fn) (hc : fn.body = some c)
    (ht : (⟨t⟩ : Array Value) = args ++ Array.replicate (fn.ntmps - args.size) undef) (ha : args.all clean = true) (r : HRep h σ) {w : World} (hw : WRel ρ σ w w B0) (hU : ∀ k, k < w.heap.size → B0.U k)
    (hk : Ok P E isT (.code m c t h [.base fn])) : Calls P f args w fun e w' => e = .returned (.bool true) ∧ Below w.heap.size w w' := by
  refine (calls_ok hm hE (show vcallW P E (m + 1) f args σ isT from body_of hfn hc ht hk r) (clean_args ha _) hw).mono fun e w' he => ?_
  cases e with
  | returned v' =>
    obtain ⟨ρ2, v, σ2, -, h2, h3, h4⟩ := he
    have h2 : v = .bool true := h2
    subst h2
    cases h3
    exact ⟨rfl, h4.below.os, h4.below.tape, h4.below.output, h4.below.size, fun k hk => h4.below.block k (hU k hk)⟩
  | panicked ch =>
    obtain ⟨ρ2, v, v', σ2, -, -, h2, -⟩ := he
    exact h2.elim
  | outgrown => exact he.elim
theorem nullF (hm : P.follows .mixedOrders = true) (hE : ClOk P E) {m : Nat} {f : FuncId} {fn : Func} {c : Code} {t : List Value} (hfn : P.funcs[f]? = some fn) (hc : fn.body = some c) (ht : List.replicate fn.ntmps undef = t)
    (hk : Ok P E isT (.code m c t h0 [.base fn])) (w : World) : Calls P f #[] w fun e w' => e = .returned (.bool true) ∧ Below w.heap.size w w' :=
  calls_of hm hE hfn hc (by subst ht; apply Array.ext'; simp) (by simp) h0_rep (start w) (fun _ h => h) hk
noncomputable def hG (g : Nat) (e : TypeId) (m : Int) : HF := ⟨1, .n (.n (.n (.n (.n (.n (.n (.n (.n (.n (.n (.n (.n (.l (g0 g e m)) .e) .e) .e) .e) .e) .e) .e) .e) .e) .e) .e) .e) .e⟩
theorem hG_rep (g : Nat) (e : TypeId) (m : Int) : HRep (hG g e m) #[g0 g e m] := by
  have h := h0_rep
  obtain ⟨h', r', hx⟩ := h.push (o := g0 g e m) (k := some) (x := hG g e m) (by
    unfold HF.push
    show (fObj (g0 g e m) fun o => Tr.setF o 13 .e 0 fun t => some (HF.mk 1 t)) = some (hG g e m)
    rw [fObj_eq, Tr.setF_eq]
    rfl)
  cases hx
  exact r'
theorem nullG (hm : P.follows .mixedOrders = true) (hE : ClOk P E) {m : Nat} {f : FuncId} {fn : Func} {c : Code} {t : List Value} (hfn : P.funcs[f]? = some fn) (hc : fn.body = some c) (ht : List.replicate fn.ntmps undef = t) (g : Nat)
    (hk : ∀ e n, Ok P E isT (.code m c t (hG g e n) [.base fn])) (w : World) {n : Int} (hcell : w.cell? ⟨g, 0, none⟩ = some (.int .i64 n)) : Calls P f #[] w fun e w' => e = .returned (.bool true) ∧ Below w.heap.size w w' := by
  obtain ⟨e, ρ, hw⟩ := startG w g n hcell
  exact calls_of hm hE hfn hc (by subst ht; apply Array.ext'; simp) (by simp) (hG_rep g e n) hw (fun _ h => h) (hk e n)
end
/- Heaps that are written down: so many blocks, all of them given up but these. -/
noncomputable def fStrObj {α : Type} (o : VObj) (k : VObj → α) : α := match o with
  | .cells ⟨⟨l⟩, e, f, kn, r, z⟩ => match f with
    | .ro => k (.cells ⟨⟨l⟩, e, .ro, kn, r, z⟩)
    | f => fList fStr l fun l => k (.cells ⟨⟨l⟩, e, f, kn, r, z⟩)
  | o => fObj o k
theorem fStrObj_eq {α : Type} (o : VObj) (k : VObj → α) : fStrObj o k = k o := by
  unfold fStrObj
  split
  · split
    · rfl
    · rw [fList_eq fStr_eq]
  · rw [fObj_eq]
noncomputable def setsK {α : Type} (l : List (Nat × VObj)) : Tr → (Tr → α) → α := List.rec (motive := fun _ => Tr → (Tr → α) → α) (fun t k => k t) (fun x _ ih t k => fStrObj x.2 fun o => t.setF o 13 x.1 fun t => ih t k) l
noncomputable def sets (l : List (Nat × VObj)) (t : Tr) : Tr := l.foldl (fun t x => t.setP x.2 13 x.1) t
theorem setsK_eq {α : Type} (l : List (Nat × VObj)) : ∀ (t : Tr) (k : Tr → α), setsK l t k = k (sets l t) := by
  induction l with
  | nil => intro t k; rfl
  | cons x l ih =>
    intro t k
    show (fStrObj x.2 fun o => t.setF o 13 x.1 fun t => setsK l t k) = _
    rw [fStrObj_eq, Tr.setF_eq, ih]
    rfl
noncomputable def mkHK {α : Type} (n : Nat) (l : List (Nat × VObj)) (k : HF → α) : α := setsK l .e fun t => k ⟨n, t⟩
noncomputable def mkH (n : Nat) (l : List (Nat × VObj)) : HF := ⟨n, sets l .e⟩
theorem mkHK_eq {α : Type} (n : Nat) (l : List (Nat × VObj)) (k : HF → α) : mkHK n l k = k (mkH n l) := by
  unfold mkHK mkH
  rw [setsK_eq]
/-- Some steps, and what is given up then. -/
noncomputable def gcC (ids : List Nat) : Cfg → Option Cfg
  | .out .normal t h (.seq m c :: K) => mskF ids h fun h' => some (.code m c t h' K)
  | _ => none
theorem gcC_ok {P : Program} {E : VCall} {R : VC → Prop} {ids : List Nat} {c c' : Cfg} (hg : gcC ids c = some c') (hk : Ok P E R c') : Ok P E R c := by
  unfold gcC at hg
  split at hg
  case h_2 => cases hg
  rename_i t h m c K
  cases hm : mskF ids h some with
  | none =>
    exfalso
    have : ∀ (ids : List Nat) (h : HF) (k : HF → Option Cfg), mskF ids h some = none → mskF ids h k = none := by
      intro ids
      induction ids with
      | nil => intro h k e; cases e
      | cons i ids ih =>
        intro h k e
        unfold mskF at e ⊢
        unfold HF.del at e ⊢
        cases hb : Nat.ble (i + 1) h.n with
        | false => rfl
        | true =>
          rw [hb] at e
          have e : (h.t.delF 13 i fun t => mskF ids ⟨h.n, t⟩ some) = none := e
          show (h.t.delF 13 i fun t => mskF ids ⟨h.n, t⟩ k) = none
          rw [Tr.delF_eq] at e ⊢
          exact ih _ _ e
    rw [this ids h _ hm] at hg
    cases hg
  | some h1 =>
    have : ∀ (ids : List Nat) (h h1 : HF) (k : HF → Option Cfg), mskF ids h some = some h1 → mskF ids h k = k h1 := by
      intro ids
      induction ids with
      | nil => intro h h1 k e; cases e; rfl
      | cons i ids ih =>
        intro h h1 k e
        unfold mskF at e ⊢
        unfold HF.del at e ⊢
        cases hb : Nat.ble (i + 1) h.n with
        | false => rw [hb] at e; cases e
        | true =>
          rw [hb] at e
          have e : (h.t.delF 13 i fun t => mskF ids ⟨h.n, t⟩ some) = some h1 := e
          show (h.t.delF 13 i fun t => mskF ids ⟨h.n, t⟩ k) = _
          rw [Tr.delF_eq] at e ⊢
          exact ih _ _ _ e
    rw [this ids h h1 _ hm] at hg
    cases hg
    exact gc_ok ids hm hk
noncomputable def runG (P : Program) (X : XFCall) (sub : SubF) (n : Nat) (ids : List Nat) (c : Cfg) : Option Cfg := match runF P X sub n c with
  | some c' => gcC ids c'
  | none => none
theorem runG_ok {P : Program} {E : VCall} {R : VC → Prop} {X : XFCall} {sub : SubF} (hX : XFOk E X) (hsub : SubOk P E sub) {n : Nat} {ids : List Nat} {c c' : Cfg} (h : runG P X sub n ids c = some c') (hk : Ok P E R c') : Ok P E R c := by
  unfold runG at h
  split at h
  case h_2 => cases h
  rename_i c1 h1
  exact runF_ok hX hsub n h1 (gcC_ok h hk)
def endsT : Option (Value × HF) → Bool
  | some (.bool b, _) => b
  | _ => false
theorem endsT_ok {P : Program} {E : VCall} {X : XFCall} {sub : SubF} (hX : XFOk E X) (hsub : SubOk P E sub) {n : Nat} {c : Cfg} (h : endsT (runE P X sub n c) = true) : Ok P E isT c := by
  unfold endsT at h
  split at h
  case h_2 => cases h
  rename_i b h1 hb
  subst h
  exact runE_ok hX hsub n hb fun _ _ => rfl
/- Code, by its place. -/
def cAt : List Nat → Code → Code
  | [], c => c
  | 0 :: p, .seq a _ => cAt p a
  | _ :: p, .seq _ b => cAt p b
  | 0 :: p, .cond _ a _ => cAt p a
  | _ :: p, .cond _ _ b => cAt p b
  | _ :: p, .block _ b => cAt p b
  | _ :: p, .loop b => cAt p b
  | _, _ => .skip
def opsAt (c : Code) : Array Oper := match c with
  | .region _ ops _ => ops
  | _ => #[]
def fnOf (P : Program) (f : FuncId) : Func := (P.funcs[f]?).getD default
def operAt (c : Code) (i : Nat) : Oper := ((opsAt c)[i]?).getD default
def restAt (c : Code) (i : Nat) : List Oper := (opsAt c).toList.drop i
end Vm
end Go.Proofs.Ytjgfhdabcahokaa
