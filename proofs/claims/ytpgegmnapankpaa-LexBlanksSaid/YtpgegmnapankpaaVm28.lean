/- Laws that start with a global in memory; known calls beside one another; strings.Index as a known call. -/
import Derived.Test.YtpgegmnapankpaaVm27
import Derived.Lib.Index
namespace Go.Proofs.Ytpgegmnapankpaa
namespace Vm
set_option linter.unusedSimpArgs false
set_option linter.unusedVariables false
open Go.RowKit

/-- The block of a global that holds an int. -/
def g0 (g : Nat) (e : TypeId) (m : Int) : VObj := .cells ⟨⟨[.int .i64 m]⟩, e, .ro, true, g, 0⟩
def globInt (σ : VHeap) (g : Nat) : Bool := match gfind σ g 16 0 with
  | some id => match σ[id]? with
    | some (.cells b) => match b.cells with
      | ⟨[.int .i64 _]⟩ => true
      | _ => false
    | _ => false
  | none => false
theorem globInt_ok {ρ : Rho} {σ : VHeap} {w0 w : World} {B0 : Base} {g : Nat} (hw : WRel ρ σ w0 w B0) (h : globInt σ g = true) : ∃ m, w.cell? ⟨g, 0, none⟩ = some (.int .i64 m) := by
  unfold globInt at h
  split at h
  case h_2 => cases h
  rename_i id hid
  obtain ⟨b, hb, hf, hk, rfl⟩ := gfind_some hid
  rw [hb] at h
  simp only at h
  split at h
  case h_2 => cases h
  rename_i m hc
  obtain ⟨i, cs, fz, hi, hr⟩ := hw.blk id b hb (by rw [hf]; decide)
  obtain ⟨h1, h2⟩ := (hr.ro hf).2.2 hk
  have hlen := hr.len
  have hsz : b.cells.size = 1 := by rw [hc]; rfl
  have hlt : i.o + 0 < cs.size := by omega
  have hv := hr.cells 0 (by omega) hlt
  have hb0 : b.cells[0]'(by omega) = .int .i64 m := by simp [hc]
  rw [hb0] at hv
  refine ⟨m, ?_⟩
  have hat := hr.at_
  rw [h1] at hat
  unfold World.cell?
  simp only [hat]
  have e0 : cs[i.o + 0]? = some cs[i.o + 0] := Array.getElem?_eq_getElem hlt
  generalize cs[i.o + 0] = z at hv e0
  cases hv
  rw [h2] at e0
  simpa using e0
theorem startG (w : World) (g : Nat) (m : Int) (h : w.cell? ⟨g, 0, none⟩ = some (.int .i64 m)) :
    ∃ e ρ, WRel ρ #[g0 g e m] w w ⟨(· < w.heap.size), fun _ => False, (· < w.heap.size)⟩ := by
  unfold World.cell? at h
  split at h
  case h_2 => cases h
  rename_i cs e fz hat
  simp only at hat
  have h' : cs[0]? = some (.int .i64 m) := by simpa using h
  obtain ⟨hlt, hz⟩ := Array.getElem?_eq_some_iff.1 h'
  have hB := (Array.getElem?_eq_some_iff.1 hat).1
  have hone : ∀ {id : Nat} {o : VObj}, (#[g0 g e m] : VHeap)[id]? = some o → id = 0 ∧ o = g0 g e m := fun {id o} hx => by
    obtain ⟨h1, h2⟩ := Array.getElem?_eq_some_iff.1 hx
    simp only [List.size_toArray, List.length_singleton] at h1
    obtain rfl : id = 0 := by omega
    exact ⟨rfl, h2.symm⟩
  refine ⟨e, fun id => if id = 0 then some ⟨g, 0, 0, 0, .ro⟩ else none, fun id hid => ?_, fun id b hb _ => ?_, fun _ _ _ hx => ?_, fun _ _ _ hx => ?_, fun _ _ _ hx => ?_, fun id1 id2 o1 o2 _ _ _ h1 _ g1 => ?_, fun _ hk => hk, Keeps.refl _ _, fun _ hk => hk.elim⟩
  · simp only [List.size_toArray, List.length_singleton] at hid
    rw [if_neg (by omega)]
  · obtain ⟨rfl, h2⟩ := hone hb
    cases h2
    refine ⟨_, cs, fz, if_pos rfl, hat, by simp; omega, ?_, fun _ => ⟨⟨hB, hB⟩, rfl, fun _ => ⟨rfl, rfl⟩⟩, by simp, by simp, by simp⟩
    intro k hk hk'
    simp only [List.size_toArray, List.length_singleton] at hk
    obtain rfl : k = 0 := by omega
    simp only [Nat.zero_add, List.getElem_toArray, List.getElem_cons_zero]
    rw [hz]
    exact .int _ _
  · cases (hone hx).2
  · cases (hone hx).2
  · cases (hone hx).2
  · obtain ⟨_, h2⟩ := hone h1
    subst h2
    simp [g0, VObj.own] at g1
theorem withG {P : Program} {X : XCall} {E : VCall} (hm : P.follows .mixedOrders = true) (hX : XOk X E) (hE : ClOk P E) {pureF : FuncId → Bool} {n : Nat} {f : FuncId} {args : Array Value} (ha : args.all clean = true) (g : Nat)
    (h : ∀ e m, isTrue (xcall P X pureF n f args #[g0 g e m]) = true) (w : World) {m : Int} (hc : w.cell? ⟨g, 0, none⟩ = some (.int .i64 m)) :
    Calls P f args w fun e w' => e = .returned (.bool true) ∧ Below w.heap.size w w' := by
  obtain ⟨e, ρ, hw⟩ := startG w g m hc
  have h := h e m
  unfold isTrue at h
  split at h
  case h_2 => cases h
  rename_i b σ hb
  subst h
  refine (calls_ok hm hE (xcall_ok hX n f args _ _ hb (fun r => r = .ret (.bool true) σ) rfl) (clean_args ha _) hw).mono fun e w' he => ?_
  cases e with
  | returned v' =>
    obtain ⟨ρ2, v, σ2, -, h2, h3, h4⟩ := he
    cases h2
    cases h3
    exact ⟨rfl, h4.below.os, h4.below.tape, h4.below.output, h4.below.size, fun k hk => h4.below.block k hk⟩
  | panicked ch =>
    obtain ⟨ρ2, v, v', σ2, -, -, h2, -⟩ := he
    cases h2
  | outgrown => exact he.elim
theorem xcall_ofG {P : Program} {X : XCall} {n : Nat} {f : FuncId} {t t0 : Array Value} {σ0 σ' : VHeap} {c : Code} {fn : Func} (hX : X f #[] σ0 = none) (hf : P.funcs[f]? = some fn) (hc : fn.body = some c) (ht : Array.replicate fn.ntmps undef = t0)
    (h : runC P X n c t0 σ0 = some ⟨.ret, t, σ'⟩)
    (hr : (match vrun P (results fn t) σ' with | some (.bool b, _) => b | _ => false) = true) : isTrue (xcall P X noP (n + 1) f #[] σ0) = true := by
  unfold xcall xcallOf
  simp only [hX, noP, cond_false]
  unfold xbody
  simp only [hf, hc]
  have ht' : (#[] : Array Value) ++ Array.replicate (fn.ntmps - (#[] : Array Value).size) undef = t0 := by rw [← ht]; simp
  rw [ht', show xwp P X noP (n + 1) c t0 σ0 = runC P X n c t0 σ0 from rfl, h]
  simp only
  split at hr
  · rename_i b σ2 hv
    rw [hv]
    exact hr
  · cases hr
/- Known calls, one beside the other. -/
def orX (X Y : XCall) : XCall := fun f args σ => match X f args σ with
  | some r => some r
  | none => Y f args σ
def orE (C D : VCall) : VCall := fun f args σ R => C f args σ R ∨ D f args σ R
theorem orX_ok {X Y : XCall} {C D : VCall} (hx : XOk X C) (hy : XOk Y D) : XOk (orX X Y) (orE C D) := by
  intro f args σ r h R hR
  unfold orX at h
  split at h
  · rename_i r' hr; cases h; exact .inl (hx _ _ _ _ hr R hR)
  · exact .inr (hy _ _ _ _ h R hR)
theorem orE_ok {P : Program} {C D : VCall} (hc : ClOk P C) (hd : ClOk P D) : ClOk P (orE C D) := by
  intro f args args' σ R ρ w0 w B0 h ha hw
  rcases h with h | h
  · exact hc _ _ _ _ _ _ _ _ _ h ha hw
  · exact hd _ _ _ _ _ _ _ _ _ h ha hw
/-- A call that is known to answer true and to turn nothing, in a world where a global holds an int. -/
def oneGX (f0 : FuncId) (g : Nat) : XCall := fun f args σ => match f == f0, args with
  | true, ⟨[]⟩ => bif globInt σ g then some (.ret (.bool true) σ) else none
  | _, _ => none
def oneGE (f0 : FuncId) (g : Nat) : VCall := fun f args σ R => f = f0 ∧ args = #[] ∧ globInt σ g = true ∧ R (.ret (.bool true) σ)
theorem oneGX_ok (f0 : FuncId) (g : Nat) : XOk (oneGX f0 g) (oneGE f0 g) := by
  intro f args σ r h R hR
  unfold oneGX at h
  split at h
  · rename_i hf
    obtain ⟨hg, h⟩ := bif_some h
    cases h
    exact ⟨by simpa using hf, rfl, hg, hR⟩
  · cases h
theorem oneGE_ok {P : Program} {f0 : FuncId} {g : Nat} (hg : ∀ (w : World) (m : Int), w.cell? ⟨g, 0, none⟩ = some (.int .i64 m) → Calls P f0 #[] w fun e w' => e = .returned (.bool true) ∧ Below w.heap.size w w') : ClOk P (oneGE f0 g) := by
  rintro f args args' σ R ρ w0 w B0 ⟨rfl, rfl, hi, hR⟩ ha hw
  have : args' = #[] := Array.eq_empty_of_size_eq_zero (by rw [← ha.1]; rfl)
  subst this
  obtain ⟨m, hm⟩ := globInt_ok hw hi
  refine (hg w m hm).mono fun e w' ⟨he, hb⟩ => ?_
  subst he
  exact ⟨ρ, .bool true, σ, Rho.le_refl _, hR, .bool true, hw.later hb⟩
/-- Lib.index, quick to compute. -/
def pre : List UInt8 → List UInt8 → Bool
  | [], _ => true
  | _ :: _, [] => false
  | a :: l, b :: m => Nat.beq a.toNat b.toNat && pre l m
def idx (sub : List UInt8) : List UInt8 → Nat → Int
  | [], k => bif sub.isEmpty then .ofNat k else -1
  | b :: l, k => bif pre sub (b :: l) then .ofNat k else idx sub l (k + 1)
theorem pre_eq : ∀ (a b : List UInt8), pre a b = a.isPrefixOf b
  | [], b => by simp [pre]
  | _ :: _, [] => by simp [pre]
  | a :: l, b :: m => by
    have h1 : Nat.beq a.toNat b.toNat = (a == b) := by
      rw [Bool.eq_iff_iff, Nat.beq_eq]
      simp [UInt8.toNat_inj]
    simp only [pre, List.isPrefixOf, pre_eq l m, h1]
theorem idx_eq (sub : List UInt8) : ∀ (l : List UInt8) (k : Nat), idx sub l k = if Lib.index l sub == -1 then -1 else Lib.index l sub + k
  | [], k => by
    unfold idx Lib.index
    cases sub <;> simp
  | b :: l, k => by
    unfold idx Lib.index
    rw [pre_eq]
    cases hp : sub.isPrefixOf (b :: l) with
    | true => simp
    | false =>
      simp only [cond_false, Bool.false_eq_true, if_false]
      rw [idx_eq sub l (k + 1)]
      by_cases h : Lib.index l sub = -1
      · simp [h]
      · have := Lib.index_ge l sub
        have h2 : ¬ Lib.index l sub + 1 = -1 := by omega
        simp only [beq_iff_eq, h, if_false, h2]
        push_cast
        omega
theorem clean_arr {ρ : Rho} {xs ys : Array Value} (h : ∀ v ∈ xs, clean v = true) (ha : ARel ρ xs ys) : ys = xs := by
  refine Array.ext ha.1.symm fun k h1 h2 => ?_
  exact clean_eq (h _ (Array.getElem_mem h2)) (ha.2 k h2 h1)
def idxX (f0 : FuncId) (g : Nat) : XCall := fun f args σ => match f == f0, args with
  | true, ⟨[.string s, .string t]⟩ => bif Nat.blt s.size 4294967281 && globInt σ g then some (.ret (.int .i64 (idx t.data.toList s.data.toList 0)) σ) else none
  | _, _ => none
def idxE (f0 : FuncId) (g : Nat) : VCall := fun f args σ R => f = f0 ∧ ∃ s t : ByteArray, args = #[.string s, .string t] ∧ s.size < 4294967281 ∧ globInt σ g = true ∧ R (.ret (.int .i64 (Lib.index s.data.toList t.data.toList)) σ)
theorem idxX_ok (f0 : FuncId) (g : Nat) : XOk (idxX f0 g) (idxE f0 g) := by
  intro f args σ r h R hR
  unfold idxX at h
  split at h
  · rename_i s t hf
    obtain ⟨hg, h⟩ := bif_some h
    cases h
    simp only [Bool.and_eq_true] at hg
    refine ⟨by simpa using hf, s, t, rfl, by have := hg.1; simp [Nat.blt] at this; omega, hg.2, ?_⟩
    have : idx t.data.toList s.data.toList 0 = Lib.index s.data.toList t.data.toList := by
      rw [idx_eq]
      split
      · rename_i h1; rw [beq_iff_eq] at h1; rw [h1]
      · simp
    rw [← this]
    exact hR
  · cases h
theorem idxE_ok {P : Program} {f0 : FuncId} {g : Nat}
    (hg : ∀ (s t : ByteArray) (m : Int) (w : World), s.size < 4294967281 → w.cell? ⟨g, 0, none⟩ = some (.int .i64 m) → Calls P f0 #[.string s, .string t] w fun e w' => e = .returned (.int .i64 (Lib.index s.data.toList t.data.toList)) ∧ w' = w) :
    ClOk P (idxE f0 g) := by
  rintro f args args' σ R ρ w0 w B0 ⟨rfl, s, t, rfl, hs, hi, hR⟩ ha hw
  obtain ⟨m, hm⟩ := globInt_ok hw hi
  have : args' = #[.string s, .string t] := clean_arr (by simp [clean, cleanC]) ha
  subst this
  refine (hg s t m w hs hm).mono fun e w' ⟨he, hb⟩ => ?_
  subst he
  subst hb
  exact ⟨ρ, _, σ, Rho.le_refl _, hR, .int _ _, hw⟩
end Vm
end Go.Proofs.Ytpgegmnapankpaa
