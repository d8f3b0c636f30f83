/- strings.TrimLeft (at one byte) and strings.Repeat as known calls. -/
import Derived.Test.YtjgfhdabcahokaaVm35
import Derived.Lib.TrimByte
import Derived.Lib.Repeat
import Derived.Lib.Bytealg
namespace Go.Proofs.Ytjgfhdabcahokaa
namespace Vm
set_option linter.unusedSimpArgs false
set_option linter.unusedVariables false
open Go.RowKit

noncomputable def dwK {α : Type} (c : Nat) (l : List UInt8) : (List UInt8 → α) → α := List.rec (motive := fun _ => (List UInt8 → α) → α) (fun k => k []) (fun a l ih k => Bool.rec (motive := fun _ => α) (k (a :: l)) (ih k) (Nat.beq a.toNat c)) l
theorem dwK_eq {α : Type} (c : UInt8) (l : List UInt8) : ∀ k : List UInt8 → α, dwK c.toNat l k = k (Lib.trimLeftB l c) := by
  unfold Lib.trimLeftB
  induction l with
  | nil => intro k; rfl
  | cons a l ih =>
    intro k
    show Bool.rec (motive := fun _ => α) (k (a :: l)) (dwK c.toNat l k) (Nat.beq a.toNat c.toNat) = _
    have h1 : Nat.beq a.toNat c.toNat = (a == c) := by
      rw [Bool.eq_iff_iff, Nat.beq_eq]
      simp [UInt8.toNat_inj]
    rw [h1, List.dropWhile_cons]
    cases (a == c) with
    | true => exact ih k
    | false => rfl
def trimE (f0 : FuncId) : VCall := fun f args σ R => f = f0 ∧ ∃ (s : ByteArray) (c : UInt8), args = #[.string s, .string ⟨#[c]⟩] ∧ c.toNat < 128 ∧ R (.ret (.string ⟨(Lib.trimLeftB s.data.toList c).toArray⟩) σ)
noncomputable def trimXF (f0 : FuncId) : XFCall := fun f args h => match Nat.beq f f0, args with
  | true, ⟨[.string s, .string ⟨⟨[c]⟩⟩]⟩ => bif Nat.blt c.toNat 128 then dwK c.toNat s.data.toList fun l => some (.string ⟨⟨l⟩⟩, h) else none
  | _, _ => none
theorem trimXF_ok (f0 : FuncId) : XFOk (trimE f0) (trimXF f0) := by
  intro f args h v h' σ hx r
  unfold trimXF at hx
  split at hx
  · rename_i s c hf
    obtain ⟨hc, hx2⟩ := bif_some hx
    rw [dwK_eq] at hx2
    cases hx2
    exact ⟨σ, r, fun R hR => ⟨Nat.eq_of_beq_eq_true hf, s, c, rfl, Nat.le_of_ble_eq_true hc, hR⟩⟩
  · cases hx
theorem trimE_ok {P : Program} {f0 : FuncId}
    (hg : ∀ (s : ByteArray) (c : UInt8) (w : World), c.toNat < 128 → Calls P f0 #[.string s, .string ⟨#[c]⟩] w fun e w' => e = .returned (.string ⟨(Lib.trimLeftB s.data.toList c).toArray⟩) ∧ w' = w) :
    ClOk P (trimE f0) := by
  rintro f args args' σ R ρ w0 w B0 ⟨rfl, s, c, rfl, hc, hR⟩ ha hw
  have : args' = #[.string s, .string ⟨#[c]⟩] := clean_arr (by simp [clean, cleanC]) ha
  subst this
  refine (hg s c w hc).mono fun e w' ⟨he, hb⟩ => ?_
  subst he
  subst hb
  exact ⟨ρ, _, σ, Rho.le_refl _, hR, .string _, hw⟩
noncomputable def repK {α : Type} (l : List UInt8) (n : Nat) : (List UInt8 → α) → α := Nat.rec (motive := fun _ => (List UInt8 → α) → α) (fun k => k []) (fun _ ih k => ih fun m => appK m l k) n
theorem repK_eq {α : Type} (l : List UInt8) (n : Nat) : ∀ k : List UInt8 → α, repK l n k = k (Lib.repeatL l n) := by
  induction n with
  | zero => intro k; rfl
  | succ n ih =>
    intro k
    show repK l n (fun m => appK m l k) = _
    rw [ih, appK_eq]; rfl
def repE (f0 : FuncId) : VCall := fun f args σ R => f = f0 ∧ ∃ (s : ByteArray) (c : Nat), args = #[.string s, .int .i64 c] ∧ c ≤ 9223372036854775807 ∧ s.size * c ≤ 140737488355328 ∧ R (.ret (.string ⟨(Lib.repeatL s.data.toList c).toArray⟩) σ)
noncomputable def repXF (f0 : FuncId) : XFCall := fun f args h => match Nat.beq f f0, args with
  | true, ⟨[.string s, .int .i64 (.ofNat c)]⟩ => bif Nat.ble c 9223372036854775807 && Nat.ble (lenA s.data.toList 0 * c) 140737488355328 then repK s.data.toList c fun l => some (.string ⟨⟨l⟩⟩, h) else none
  | _, _ => none
theorem repXF_ok (f0 : FuncId) : XFOk (repE f0) (repXF f0) := by
  intro f args h v h' σ hx r
  unfold repXF at hx
  split at hx
  · rename_i s c hf
    obtain ⟨hc, hx2⟩ := bif_some hx
    rw [repK_eq] at hx2
    cases hx2
    rw [Bool.and_eq_true, lenA_eq, Nat.zero_add, Array.length_toList] at hc
    exact ⟨σ, r, fun R hR => ⟨Nat.eq_of_beq_eq_true hf, s, c, rfl, Nat.le_of_ble_eq_true hc.1, Nat.le_of_ble_eq_true hc.2, hR⟩⟩
  · cases hx
theorem repE_ok {P : Program} {f0 : FuncId}
    (hg : ∀ (s : ByteArray) (c : Nat) (w : World), c ≤ 9223372036854775807 → s.size * c ≤ 140737488355328 → Calls P f0 #[.string s, .int .i64 c] w fun e w' => e = .returned (.string ⟨(Lib.repeatL s.data.toList c).toArray⟩) ∧ Below w.heap.size w w') :
    ClOk P (repE f0) := by
  rintro f args args' σ R ρ w0 w B0 ⟨rfl, s, c, rfl, hc, hs, hR⟩ ha hw
  have : args' = #[.string s, .int .i64 c] := clean_arr (by simp [clean, cleanC]) ha
  subst this
  refine (hg s c w hc hs).mono fun e w' ⟨he, hb⟩ => ?_
  subst he
  exact ⟨ρ, _, σ, Rho.le_refl _, hR, .string _, hw.later hb⟩
/-- Lib.indexByte, quickly. -/
noncomputable def ibF (c : Nat) (l : List UInt8) : Nat → Int := List.rec (motive := fun _ => Nat → Int) (fun _ => .negSucc 0) (fun a _ ih k => Bool.rec (motive := fun _ => Int) (fNat (Nat.succ k) ih) (.ofNat k) (Nat.beq a.toNat c)) l
theorem ibF_eq (c : Nat) (hc : c < 256) (l : List UInt8) : ∀ k : Nat, ibF c l k = if Lib.indexByte l c.toUInt8 == -1 then -1 else Lib.indexByte l c.toUInt8 + k := by
  induction l with
  | nil => intro k; rfl
  | cons a l ih =>
    intro k
    show Bool.rec (motive := fun _ => Int) (fNat (Nat.succ k) (ibF c l)) (.ofNat k) (Nat.beq a.toNat c) = _
    have h1 : Nat.beq a.toNat c = (a == c.toUInt8) := by
      have h2 : c.toUInt8.toNat = c := by simp [Nat.toUInt8]; omega
      rw [Bool.eq_iff_iff, Nat.beq_eq, beq_iff_eq, ← UInt8.toNat_inj, h2]
    unfold Lib.indexByte
    rw [h1, fNat_eq]
    cases hb : (a == c.toUInt8) with
    | true => simp
    | false =>
      simp only [Bool.false_eq_true, if_false]
      rw [ih]
      by_cases h : Lib.indexByte l c.toUInt8 = -1
      · simp [h]
      · have := Lib.indexByte_ge l c.toUInt8
        have h2 : ¬ Lib.indexByte l c.toUInt8 + 1 = -1 := by omega
        simp only [beq_iff_eq, h, if_false, h2]
        push_cast
        omega
def ibE (f0 : FuncId) : VCall := fun f args σ R => f = f0 ∧ ∃ (s : ByteArray) (c : Int), args = #[.string s, .int .u8 c] ∧ R (.ret (.int .i64 (Lib.indexByte s.data.toList c.toNat.toUInt8)) σ)
noncomputable def ibXF (f0 : FuncId) : XFCall := fun f args h => match Nat.beq f f0, args with
  | true, ⟨[.string s, .int .u8 (.ofNat c)]⟩ => bif Nat.blt c 256 then some (.int .i64 (ibF c s.data.toList 0), h) else none
  | _, _ => none
theorem ibXF_ok (f0 : FuncId) : XFOk (ibE f0) (ibXF f0) := by
  intro f args h v h' σ hx r
  unfold ibXF at hx
  split at hx
  · rename_i s c hf
    obtain ⟨hc, hx2⟩ := bif_some hx
    cases hx2
    refine ⟨σ, r, fun R hR => ⟨Nat.eq_of_beq_eq_true hf, s, .ofNat c, rfl, ?_⟩⟩
    have : ibF c s.data.toList 0 = Lib.indexByte s.data.toList (Int.ofNat c).toNat.toUInt8 := by
      show _ = Lib.indexByte s.data.toList c.toUInt8
      rw [ibF_eq c (Nat.le_of_ble_eq_true hc)]
      split
      · rename_i h1; rw [beq_iff_eq] at h1; rw [h1]
      · simp
    rw [← this]
    exact hR
  · cases hx
theorem ibE_ok {P : Program} {f0 : FuncId}
    (hg : ∀ (s : ByteArray) (c : Int) (w : World), Calls P f0 #[.string s, .int .u8 c] w fun e w' => e = .returned (.int .i64 (Lib.indexByte s.data.toList c.toNat.toUInt8)) ∧ w' = w) :
    ClOk P (ibE f0) := by
  rintro f args args' σ R ρ w0 w B0 ⟨rfl, s, c, rfl, hR⟩ ha hw
  have : args' = #[.string s, .int .u8 c] := clean_arr (by simp [clean, cleanC]) ha
  subst this
  refine (hg s c w).mono fun e w' ⟨he, hb⟩ => ?_
  subst he
  subst hb
  exact ⟨ρ, _, σ, Rho.le_refl _, hR, .int _ _, hw⟩
namespace Lit
/-- A text by its runs. -/
def R (l : List (Nat × Nat)) : Value := .string ⟨⟨l.flatMap fun x => List.replicate x.2 (UInt8.ofNat x.1)⟩⟩
end Lit
end Vm
end Go.Proofs.Ytjgfhdabcahokaa
