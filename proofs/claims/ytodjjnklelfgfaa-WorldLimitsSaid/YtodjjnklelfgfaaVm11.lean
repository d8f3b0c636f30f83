/- Slices of slices and of arrays. -/
import Derived.Test.YtodjjnklelfgfaaVm10
namespace Go.Proofs.Ytodjjnklelfgfaa
namespace Vm
set_option linter.unusedSimpArgs false
set_option linter.unusedVariables false
open Go.RowKit

section
variable {P : Program}
theorem pv_underlying {t : TypeId} {d : TypeDesc} (h : P.underlying t = some d) : pv P (underlying t) = some d := by
  unfold underlying
  rw [pv_bind]
  show pv P (match P.underlying t with | some d => pure d | none => stuck "no such type") = some d
  rw [h]; rfl
theorem pv_typeInfo {t : TypeId} {i : TypeInfo} (h : P.info? t = some i) : pv P (typeInfo t) = some i := by
  unfold typeInfo
  rw [pv_bind]
  show pv P (match P.info? t with | some d => pure d | none => stuck "no such type") = some i
  rw [h]; rfl
theorem pv_sizeOf {t : TypeId} {i : TypeInfo} (h : P.info? t = some i) : pv P (sizeOf t) = some i.size := by
  unfold sizeOf
  rw [pv_bind, pv_typeInfo h]; rfl

def vslice (P : Program) (σ : VHeap) (t : TypeId) (x : Value) (lo hi mx : Option Value) : Option Value :=
  match P.underlying t, x with
  | some (.slice elem), .slice (some a) n c =>
    match P.info? elem, pv P (Instr.sliceBounds true n c lo hi mx), a.spot, σ[a.block]? with
    | some info, some (l, h, m), none, some (.cells b) =>
      match b.fl with
      | .ex => some (.slice (some (if m = l then a else a.add (l * info.size))) (h - l) (m - l))
      | .dead => none
      | fl =>
        if l < m then (if fl = .ro ∨ b.esz = info.size then some (.slice (some (a.add (l * info.size))) (h - l) (m - l)) else none)
        else if h = l then some (.slice (some ⟨a.block, a.off, some 0⟩) 0 0) else none
    | some _, some (_, _, _), some 0, _ => some (.slice (some a) 0 0)
    | _, _, _, _ => none
  | some (.array n elem), .pointer (some a) =>
    match P.info? elem, pv P (Instr.sliceBounds false n n lo hi mx), σ[a.block]? with
    | some info, some (l, h, m), some (.cells b) => if b.fl = .ex ∨ b.fl = .ro then some (.slice (some (if m = l then a else a.add (l * info.size))) (h - l) (m - l)) else none
    | _, _, _ => none
  | some (.pointer arr), .pointer (some a) =>
    match P.underlying arr with
    | some (.array n elem) =>
      match P.info? elem, pv P (Instr.sliceBounds false n n lo hi mx), σ[a.block]? with
      | some info, some (l, h, m), some (.cells b) => if b.fl = .ex ∨ b.fl = .ro then some (.slice (some (if m = l then a else a.add (l * info.size))) (h - l) (m - l)) else none
      | _, _, _ => none
    | _ => none
  | _, _ => none
theorem pv_slice_slice {t elem : TypeId} {info : TypeInfo} {a : Addr} {n c l h m : Nat} {lo hi mx : Option Value} (hu : P.underlying t = some (.slice elem)) (hi' : P.info? elem = some info)
    (hb : pv P (Instr.sliceBounds true n c lo hi mx) = some (l, h, m)) :
    pv P (Instr.sliceAt t (.slice (some a) n c) lo hi mx) = some (.slice (some (if m = l then a else a.add (l * info.size))) (h - l) (m - l)) := by
  unfold Instr.sliceAt
  rw [pv_bind, pv_underlying hu]
  simp only [Option.bind_some]
  unfold Instr.slice
  rw [pv_bind, pv_underlying hu]
  simp only [Option.bind_some]
  rw [pv_bind, hb]
  simp only [Option.bind_some]
  rw [pv_bind, pv_sizeOf hi']
  simp only [Option.bind_some]
  split <;> rfl
theorem pv_slice_array {t elem : TypeId} {info : TypeInfo} {a : Addr} {n l h m : Nat} {lo hi mx : Option Value} (hu : P.underlying t = some (.array n elem)) (hi' : P.info? elem = some info)
    (hb : pv P (Instr.sliceBounds false n n lo hi mx) = some (l, h, m)) :
    pv P (Instr.sliceAt t (.pointer (some a)) lo hi mx) = some (.slice (some (if m = l then a else a.add (l * info.size))) (h - l) (m - l)) := by
  unfold Instr.sliceAt
  rw [pv_bind, pv_underlying hu]
  simp only [Option.bind_some]
  rw [show Instr.sureAddr (.pointer (some a)) = (pure a : Sem Addr) from rfl, pv_bind]
  simp only [Pure.pure, pv, Option.bind_some]
  rw [pv_bind, hb]
  simp only [Option.bind_some]
  rw [pv_bind, pv_sizeOf hi']
  rfl
theorem pv_slice_ptr {t arr elem : TypeId} {info : TypeInfo} {a : Addr} {n l h m : Nat} {lo hi mx : Option Value} (hu : P.underlying t = some (.pointer arr)) (hu2 : P.underlying arr = some (.array n elem)) (hi' : P.info? elem = some info)
    (hb : pv P (Instr.sliceBounds false n n lo hi mx) = some (l, h, m)) :
    pv P (Instr.sliceAt t (.pointer (some a)) lo hi mx) = some (.slice (some (if m = l then a else a.add (l * info.size))) (h - l) (m - l)) := by
  unfold Instr.sliceAt
  rw [pv_bind, pv_underlying hu]
  simp only [Option.bind_some]
  unfold Instr.slice
  rw [pv_bind, pv_underlying hu]
  simp only [Option.bind_some]
  rw [show asAddr (.pointer (some a)) = (pure a : Sem Addr) from rfl, pv_bind]
  simp only [Pure.pure, pv, Option.bind_some]
  rw [pv_bind, pv_underlying hu2]
  simp only [Option.bind_some]
  rw [pv_bind, hb]
  simp only [Option.bind_some]
  rw [pv_bind, pv_sizeOf hi']
  rfl
variable {w0 w : World} {B0 : Base} {ρ : Rho} {σ : VHeap}
theorem arr_slice {a a' : Addr} {b : Blk} {l h m k : Nat} (hw : WRel ρ σ w0 w B0) (hp : PRel ρ a a') (hb : σ[a.block]? = some (.cells b)) (hf : b.fl = .ex ∨ b.fl = .ro) :
    VRel ρ (.slice (some (if m = l then a else a.add k)) h (m - l)) (.slice (some (if m = l then a' else a'.add k)) h (m - l)) := by
  obtain ⟨i, h1, h2, rfl⟩ := hp
  obtain ⟨bl, o, sp⟩ := a
  simp only at h1 h2 hb
  subst h2
  obtain ⟨i', cs, fz, hi, hr⟩ := hw.blk bl b hb (by rcases hf with e | e <;> rw [e] <;> decide)
  obtain rfl : i = i' := by rw [h1] at hi; exact Option.some.inj hi
  have hc : ∀ off c, CapOk i off c c := by
    intro off c
    rcases hf with e | e
    · simp [CapOk, (hr.ex e).1]
    · simp [CapOk, (hr.ro e).2.1]
  split
  · exact .slice h1 (hc _ _)
  · rw [add_none, add_none, Nat.add_assoc]
    exact .slice h1 (hc _ _)
theorem vslice_ok {t : TypeId} {x x' v : Value} {lo lo' hi hi' mx mx' : Option Value} (hw : WRel ρ σ w0 w B0) (hx : VRel ρ x x') (h1 : ORel ρ lo lo') (h2 : ORel ρ hi hi') (h3 : ORel ρ mx mx')
    (hv : vslice P σ t x lo hi mx = some v) : ∃ v', pv P (Instr.sliceAt t x' lo' hi' mx') = some v' ∧ VRel ρ v v' := by
  unfold vslice at hv
  cases hu : P.underlying t with
  | none => simp [hu] at hv
  | some d =>
    cases hx with
    | @slice id off n c c' i hi0 hc =>
      cases d <;> first | (simp [hu] at hv; done) | skip
      case slice elem =>
        simp only [hu] at hv
        cases hinf : P.info? elem with
        | none => simp [hinf] at hv
        | some info =>
          cases hb : pv P (Instr.sliceBounds true n c lo hi mx) with
          | none => simp [hinf, hb] at hv
          | some lhm =>
            obtain ⟨l, h, m⟩ := lhm
            have hcc : c ≤ c' := by
              unfold CapOk at hc
              split at hc
              · omega
              · exact hc.1
              · exact hc
            obtain ⟨⟨l', h', m'⟩, hb', e1, e2, e3, e4, e5, e6⟩ := PR.sliceBounds (P := P) h1 h2 h3 true (n := n) hcc _ hb
            simp only at e1 e2 e3 e4 e5 e6
            subst e1
            subst e2
            have hrun := pv_slice_slice (a := ⟨i.b, i.o + off, none⟩) hu hinf hb'
            refine ⟨_, hrun, ?_⟩
            simp only [hinf, hb] at hv
            cases hg : σ[id]? with
            | none => simp [hg] at hv
            | some o =>
              cases o with
              | map es cl => simp [hg] at hv
              | iter s p => simp [hg] at hv
              | rmap es cl => simp [hg] at hv
              | cells b =>
                simp only [hg] at hv
                by_cases hd : b.fl = .dead
                · simp [hd] at hv
                obtain ⟨i', cs, fz, hi1, hr⟩ := hw.blk id b hg hd
                obtain rfl : i = i' := by rw [hi0] at hi1; exact Option.some.inj hi1
                have step : ∀ {v}, (if l < m then (if b.fl = .ro ∨ b.esz = info.size then some (Value.slice (some ((⟨id, off, none⟩ : Addr).add (l * info.size))) (h - l) (m - l)) else none)
                    else if h = l then some (.slice (some ⟨id, off, some 0⟩) 0 0) else none) = some v → b.fl ≠ .ex →
                    VRel ρ v (.slice (some (if m' = l then (⟨i.b, i.o + off, none⟩ : Addr) else (⟨i.b, i.o + off, none⟩ : Addr).add (l * info.size))) (h - l) (m' - l)) := by
                  intro v hv hex
                  by_cases hlm : l < m
                  · rw [if_pos hlm] at hv
                    split at hv
                    case isFalse => cases hv
                    rename_i hes
                    cases hv
                    have hmm : m ≤ m' ∧ m' ≤ c' := by rcases e3 with rfl | ⟨rfl, rfl⟩ <;> omega
                    rw [if_neg (by omega), add_none, add_none, Nat.add_assoc]
                    refine .slice hi0 ?_
                    cases hfl : b.fl with
                    | dead => exact absurd hfl hd
                    | ex => exact absurd hfl hex
                    | ro =>
                      have := (hr.ro hfl).2.1
                      simp only [CapOk, this]
                      omega
                    | tip | old =>
                      have hk := hr.gr (by simp [hfl])
                      have hes' : b.esz = info.size := by rcases hes with e | e; exact absurd e (by rw [hfl]; decide); exact e
                      simp only [CapOk, hk.1] at hc ⊢
                      refine ⟨by omega, ?_⟩
                      have hbd := hc.2
                      rw [hk.2, hes'] at hbd ⊢
                      have e : l * info.size + (m' - l) * info.size = m' * info.size := by rw [← Nat.add_mul, Nat.add_sub_cancel' (by omega)]
                      have e' : m' * info.size ≤ c' * info.size := Nat.mul_le_mul_right _ (by omega)
                      omega
                  · rw [if_neg hlm] at hv
                    split at hv
                    case isFalse => cases hv
                    rename_i hhl
                    cases hv
                    subst hhl
                    rw [Nat.sub_self]
                    exact .sliceOff _ _ _ _
                cases hfl : b.fl with
                | dead => exact absurd hfl hd
                | ex =>
                  simp only [hfl] at hv
                  cases hv
                  have hk := hr.ex hfl
                  simp only [CapOk, hk.1] at hc
                  subst hc
                  obtain rfl : m = m' := by rcases e3 with e | ⟨e, e'⟩ <;> omega
                  exact arr_slice hw ⟨i, hi0, rfl, rfl⟩ hg (.inl hfl)
                | ro => simp only [hfl] at hv; exact step (by rw [hfl]; exact hv) (by rw [hfl]; decide)
                | tip => simp only [hfl] at hv; exact step (by rw [hfl]; exact hv) (by rw [hfl]; decide)
                | old => simp only [hfl] at hv; exact step (by rw [hfl]; exact hv) (by rw [hfl]; decide)
    | sliceOff id off a c' =>
      cases d <;> first | (simp [hu] at hv; done) | skip
      case slice elem =>
        simp only [hu] at hv
        cases hinf : P.info? elem with
        | none => simp [hinf] at hv
        | some info =>
          cases hb : pv P (Instr.sliceBounds true 0 0 lo hi mx) with
          | none => simp [hinf, hb] at hv
          | some lhm =>
            obtain ⟨l, h, m⟩ := lhm
            obtain ⟨⟨l', h', m'⟩, hb', e1, e2, e3, e4, e5, e6⟩ := PR.sliceBounds (P := P) h1 h2 h3 true (n := 0) (Nat.zero_le c') _ hb
            simp only at e1 e2 e3 e4 e5 e6
            subst e1
            subst e2
            simp only [hinf, hb] at hv
            cases hv
            refine ⟨_, pv_slice_slice hu hinf hb', ?_⟩
            have : h = 0 := by omega
            subst this
            rw [Nat.zero_sub]
            exact .sliceOff _ _ _ _
    | @ptr id off i hi0 =>
      cases d <;> first | (simp [hu] at hv; done) | skip
      case array n elem =>
        simp only [hu] at hv
        cases hinf : P.info? elem with
        | none => simp [hinf] at hv
        | some info =>
          cases hb : pv P (Instr.sliceBounds false n n lo hi mx) with
          | none => simp [hinf, hb] at hv
          | some lhm =>
            obtain ⟨l, h, m⟩ := lhm
            obtain ⟨⟨l', h', m'⟩, hb', e1, e2, e3, e4, e5, e6⟩ := PR.sliceBounds (P := P) h1 h2 h3 false (n := n) (Nat.le_refl n) _ hb
            simp only at e1 e2 e3 e4 e5 e6
            subst e1
            subst e2
            obtain rfl : m = m' := by rcases e3 with e | ⟨e, e'⟩ <;> omega
            simp only [hinf, hb] at hv
            cases hg : σ[id]? with
            | none => simp [hg] at hv
            | some o =>
              cases o with
              | map es cl => simp [hg] at hv
              | iter s p => simp [hg] at hv
              | rmap es cl => simp [hg] at hv
              | cells b =>
                simp only [hg] at hv
                split at hv
                case isFalse => cases hv
                rename_i hf
                cases hv
                exact ⟨_, pv_slice_array hu hinf hb', arr_slice hw ⟨i, hi0, rfl, rfl⟩ hg hf⟩
      case pointer arr =>
        simp only [hu] at hv
        cases hu2 : P.underlying arr with
        | none => simp [hu2] at hv
        | some d2 =>
          cases d2 <;> first | (simp [hu2] at hv; done) | skip
          case array n elem =>
            simp only [hu2] at hv
            cases hinf : P.info? elem with
            | none => simp [hinf] at hv
            | some info =>
              cases hb : pv P (Instr.sliceBounds false n n lo hi mx) with
              | none => simp [hinf, hb] at hv
              | some lhm =>
                obtain ⟨l, h, m⟩ := lhm
                obtain ⟨⟨l', h', m'⟩, hb', e1, e2, e3, e4, e5, e6⟩ := PR.sliceBounds (P := P) h1 h2 h3 false (n := n) (Nat.le_refl n) _ hb
                simp only at e1 e2 e3 e4 e5 e6
                subst e1
                subst e2
                obtain rfl : m = m' := by rcases e3 with e | ⟨e, e'⟩ <;> omega
                simp only [hinf, hb] at hv
                cases hg : σ[id]? with
                | none => simp [hg] at hv
                | some o =>
                  cases o with
                  | map es cl => simp [hg] at hv
                  | iter s p => simp [hg] at hv
                  | rmap es cl => simp [hg] at hv
                  | cells b =>
                    simp only [hg] at hv
                    split at hv
                    case isFalse => cases hv
                    rename_i hf
                    cases hv
                    exact ⟨_, pv_slice_ptr hu hu2 hinf hb', arr_slice hw ⟨i, hi0, rfl, rfl⟩ hg hf⟩
    | _ => cases d <;> simp [hu] at hv
end
end Vm
end Go.Proofs.Ytodjjnklelfgfaa
