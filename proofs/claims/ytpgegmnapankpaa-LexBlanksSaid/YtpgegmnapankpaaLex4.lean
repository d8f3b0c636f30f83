/- The walks of lex: signs, a token at a byte 0. -/
import Derived.Test.YtpgegmnapankpaaLex3
import Derived.Test.YtpgegmnapankpaaVm27
namespace Go.Proofs.Ytpgegmnapankpaa
open Go.RowKit

namespace Lex
def signsB : List ByteArray := [⟨#[38, 38]⟩, ⟨#[124, 124]⟩, ⟨#[43, 43]⟩, ⟨#[45, 45]⟩, ⟨#[43, 61]⟩, ⟨#[45, 61]⟩, ⟨#[42, 61]⟩, ⟨#[47, 61]⟩, ⟨#[37, 61]⟩, ⟨#[94, 61]⟩, ⟨#[61, 61]⟩, ⟨#[60, 61]⟩, ⟨#[62, 61]⟩, ⟨#[33, 61]⟩, ⟨#[33, 126]⟩, ⟨#[62, 62]⟩, ⟨#[123]⟩, ⟨#[125]⟩, ⟨#[40]⟩, ⟨#[41]⟩, ⟨#[91]⟩, ⟨#[93]⟩, ⟨#[59]⟩, ⟨#[44]⟩, ⟨#[43]⟩, ⟨#[45]⟩, ⟨#[42]⟩, ⟨#[47]⟩, ⟨#[37]⟩, ⟨#[94]⟩, ⟨#[33]⟩, ⟨#[62]⟩, ⟨#[60]⟩, ⟨#[124]⟩, ⟨#[63]⟩, ⟨#[58]⟩, ⟨#[126]⟩, ⟨#[36]⟩, ⟨#[61]⟩]
def wordsB : List ByteArray := [⟨#[66, 69, 71, 73, 78]⟩, ⟨#[69, 78, 68]⟩, ⟨#[102, 117, 110, 99, 116, 105, 111, 110]⟩, ⟨#[105, 102]⟩, ⟨#[101, 108, 115, 101]⟩, ⟨#[119, 104, 105, 108, 101]⟩, ⟨#[102, 111, 114]⟩, ⟨#[100, 111]⟩, ⟨#[98, 114, 101, 97, 107]⟩, ⟨#[99, 111, 110, 116, 105, 110, 117, 101]⟩, ⟨#[110, 101, 120, 116]⟩, ⟨#[101, 120, 105, 116]⟩, ⟨#[114, 101, 116, 117, 114, 110]⟩, ⟨#[100, 101, 108, 101, 116, 101]⟩, ⟨#[105, 110]⟩, ⟨#[112, 114, 105, 110, 116]⟩, ⟨#[112, 114, 105, 110, 116, 102]⟩, ⟨#[103, 101, 116, 108, 105, 110, 101]⟩, ⟨#[108, 101, 110, 103, 116, 104]⟩, ⟨#[115, 117, 98, 115, 116, 114]⟩, ⟨#[105, 110, 100, 101, 120]⟩, ⟨#[115, 112, 108, 105, 116]⟩, ⟨#[115, 117, 98]⟩, ⟨#[103, 115, 117, 98]⟩, ⟨#[109, 97, 116, 99, 104]⟩, ⟨#[115, 112, 114, 105, 110, 116, 102]⟩, ⟨#[116, 111, 108, 111, 119, 101, 114]⟩, ⟨#[116, 111, 117, 112, 112, 101, 114]⟩, ⟨#[105, 110, 116]⟩, ⟨#[115, 114, 97, 110, 100]⟩, ⟨#[114, 97, 110, 100]⟩, ⟨#[99, 108, 111, 115, 101]⟩, ⟨#[115, 121, 115, 116, 101, 109]⟩]
end Lex
/-- A list of texts that a call without arguments hands back: by computing. -/
theorem strs_rel {ρ : Vm.Rho} {l : List ByteArray} {v' : Value} (h : Vm.VRel ρ (.agg (svals l).toArray) v') : v' = .agg (svals l).toArray := by
  have hstr : ∀ (x : ByteArray) (y : Value), Vm.VRel ρ (.string x) y → y = .string x := by intro x y h; cases h; rfl
  cases h with
  | agg h1 h2 =>
    rename_i ys
    congr 1
    apply Array.ext
    · exact h1.symm
    · intro k hk hk'
      have := h2 k hk' hk
      have e : ((svals l).toArray)[k]'hk' = .string (l[k]'(by simpa [svals] using hk')) := by simp [svals]
      rw [e] at this ⊢
      exact hstr _ _ this
def retS : Option Vm.VC → Value
  | some (.ret v _) => v
  | _ => .nilFunc
theorem strs_of {f : FuncId} {l : List ByteArray} (h : retS (Vm.xcall Try.prog Vm.noX Vm.noP 10 f #[] #[]) = .agg (svals l).toArray) (w : World) : Calls Try.prog f #[] w fun e w' => e = .returned (.agg (svals l).toArray) ∧ Below w.heap.size w w' := by
  unfold retS at h
  split at h
  case h_2 => cases h
  rename_i b σ hb
  subst h
  refine (Vm.calls_ok (by kernel_rfl) (Vm.noE_ok _) (Vm.xcall_ok Vm.noX_ok 10 f #[] #[] _ hb (fun r => r = .ret (.agg (svals l).toArray) σ) rfl) (Vm.ARel.nil _) (Vm.start w)).mono fun e w' he => ?_
  cases e with
  | returned v' =>
    obtain ⟨ρ2, v, σ2, -, h2, h3, h4⟩ := he
    cases h2
    have h3 := strs_rel h3
    exact ⟨by rw [h3], h4.below.os, h4.below.tape, h4.below.output, h4.below.size, fun k hk => h4.below.block k hk⟩
  | panicked ch =>
    obtain ⟨ρ2, v, v', σ2, -, -, h2, -⟩ := he
    cases h2
  | outgrown => exact he.elim
theorem x_signs (w : World) : Calls Try.prog 27 #[] w fun e w' => e = .returned (.agg (svals Lex.signsB).toArray) ∧ Below w.heap.size w w' := strs_of (by kernel_rfl) w
theorem x_words (w : World) : Calls Try.prog 23 #[] w fun e w' => e = .returned (.agg (svals Lex.wordsB).toArray) ∧ Below w.heap.size w w' := strs_of (by kernel_rfl) w
end Go.Proofs.Ytpgegmnapankpaa
