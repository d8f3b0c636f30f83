/- New rows of any bytes (internal/bytealg.MakeNoZero); a row of bytes that becomes a text (strings.Builder's String). -/
import Derived.Test.YtodjjnklelfgfaaVm15
import Derived.Lib.MakeNoZero
import Derived.Lib.UnsafeStr
namespace Go.Proofs.Ytodjjnklelfgfaa
namespace Vm
set_option linter.unusedSimpArgs false
set_option linter.unusedVariables false
open Go.RowKit

/-- The virtual block of a global: the first blocks, which came in, marked with the global's number. -/
def gfind (σ : VHeap) (g : Nat) : Nat → Nat → Option Nat
  | 0, _ => none
  | n + 1, k => match σ[k]? with
    | some (.cells b) => bif decide (b.fl = .ro) && b.kin then (bif b.root == g then some k else gfind σ g n (k + 1)) else none
    | _ => none
def gres (σ : VHeap) (v : Value) : Value := match v with
  | .chan (some g) => match gfind σ g 16 0 with
    | some id => .pointer (some ⟨id, 0, none⟩)
    | none => v
  | v => v
theorem gfind_some {σ : VHeap} {g : Nat} : ∀ {n k id : Nat}, gfind σ g n k = some id → ∃ b, σ[id]? = some (.cells b) ∧ b.fl = .ro ∧ b.kin = true ∧ b.root = g
  | 0, _, _, h => by cases h
  | n + 1, k, id, h => by
    unfold gfind at h
    split at h
    case h_2 => cases h
    rename_i b hb
    cases hc : decide (b.fl = .ro) && b.kin with
    | false => rw [hc] at h; cases h
    | true =>
      rw [hc] at h
      simp only [cond_true] at h
      simp only [Bool.and_eq_true, decide_eq_true_eq] at hc
      cases hg : b.root == g with
      | false => rw [hg] at h; exact gfind_some h
      | true =>
        rw [hg] at h
        cases h
        exact ⟨b, hb, hc.1, hc.2, by simpa using hg⟩
theorem gres_ok {ρ : Rho} {σ : VHeap} {w0 w : World} {B0 : Base} {v v' : Value} (hw : WRel ρ σ w0 w B0) (h : VRel ρ v v') : VRel ρ (gres σ v) v' := by
  unfold gres
  split
  · rename_i g
    split
    · rename_i id hid
      obtain ⟨b, hb, hf, hk, rfl⟩ := gfind_some hid
      obtain ⟨i, cs, fz, hi, hr⟩ := hw.blk id b hb (by rw [hf]; decide)
      obtain ⟨h1, h2⟩ := (hr.ro hf).2.2 hk
      cases h
      have := VRel.ptr (off := 0) hi
      rw [h1, h2] at this
      exact this
    · exact h
  · exact h
def vmnz (P : Program) (fn : Func) (args : Array Value) (σ : VHeap) : Option (Value × VHeap) :=
  match fn.resultTypes, args with
  | ⟨[t]⟩, ⟨[.int .i64 (.ofNat n)]⟩ =>
    match P.underlying t with
    | some (.slice e) => if n ≤ 281474976710656 then some (.slice (some ⟨σ.size, 0, none⟩) n n, σ.push (.cells ⟨#[], e, .tip, false, σ.size, 1⟩)) else none
    | _ => none
  | _, _ => none
theorem find_mnz {fn : Func} (h : fn.name = "internal/bytealg.MakeNoZero") : Extern.find fn = some (Extern.BytealgMakeNoZero.makeNoZero fn.params fn.resultTypes) := by
  unfold Extern.find
  have e1 : Extern.allGenericRows.lookup "internal/bytealg.MakeNoZero" = none := by kernel_rfl
  have e2 : Extern.allTypedRows.lookup "internal/bytealg.MakeNoZero" = some Extern.BytealgMakeNoZero.makeNoZero := by kernel_rfl
  simp only [h, e1, e2]
  rfl
section
variable {P : Program} {w0 w : World} {B0 : Base} {ρ : Rho} {σ : VHeap}
theorem vmnz_ok {fn : Func} {args args' : Array Value} {v : Value} {σ' : VHeap} (hw : WRel ρ σ w0 w B0) (ha : ARel ρ args args') (h : vmnz P fn args σ = some (v, σ')) :
    ∃ ρ2 v' w', ρ.le ρ2 ∧ (Extern.BytealgMakeNoZero.makeNoZero fn.params fn.resultTypes args').run P w = .ok v' w' ∧ VRel ρ2 v v' ∧ WRel ρ2 σ' w0 w' B0 := by
  unfold vmnz at h
  split at h
  case h_2 => cases h
  rename_i t n hr
  split at h
  case h_2 => cases h
  rename_i e hu
  split at h
  case isFalse => cases h
  rename_i hn
  cases h
  obtain ⟨l⟩ := args'
  match l, ha with
  | [], ha => exact absurd ha.1 (by simp)
  | _ :: _ :: _, ha => exact absurd ha.1 (by simp)
  | [x'], ha =>
  have hx : VRel ρ (.int .i64 (.ofNat n)) x' := ha.2 0 (by simp) (by simp)
  cases hx
  obtain ⟨cs, hrun, hle, -⟩ := Lib.run_makeNoZero w fn.params t e hu n hn
  have hnew := hw.newTip (w' := w.drew.drew.alloc (.cells cs e)) (cs := #[]) (cs' := #[]) (rest := cs) (e := e) (fz := (0, 0)) 1 false σ.size
    ((((Below.refl _ w).drew).drew).alloc (Nat.le_refl _) _) (by simp) (by rw [Array.empty_append]; exact heap_new w.drew.drew _) (fun k _ => by simp) (ARel.nil _)
  refine ⟨_, _, _, Rho.le_more (hw.dom _ (Nat.le_refl _)) _, by rw [hr]; exact hrun, ?_, hnew⟩
  have := VRel.slice (ρ := ρ.more σ.size ⟨w.heap.size, 0, 1, (#[] ++ cs).size, .gr⟩) (id := σ.size) (off := 0) (n := n) (c := n) (c' := cs.size) (Rho.more_self _ _ _)
    (by simp only [CapOk]; exact ⟨hle, by simp⟩)
  simpa using this
theorem freeze_at (w : World) (p : Addr) (n : Nat) {cs : Array Value} {e : TypeId} {fz : Nat × Nat} (h : w.heap[p.block]? = some (.cells cs e fz)) : ∃ fz', (w.freeze p n).heap[p.block]? = some (.cells cs e fz') := by
  unfold World.freeze
  split
  · exact ⟨fz, h⟩
  · obtain ⟨lo, hi⟩ := fz
    simp only [Array.getElem?_modify, if_true, h, Option.map_some]
    exact ⟨_, rfl⟩
theorem freeze_other (w : World) (p : Addr) (n k : Nat) (hk : k ≠ p.block) : (w.freeze p n).heap[k]? = w.heap[k]? := by
  unfold World.freeze
  split
  · rfl
  · simp only [Array.getElem?_modify]
    rw [if_neg (Ne.symm hk)]
theorem WRel.freezeOld (h : WRel ρ σ w0 w B0) {p : Addr} (n : Nat) (hB : ¬ B0.U p.block) {cs : Array Value} {e : TypeId} {fz : Nat × Nat} (hat : w.heap[p.block]? = some (.cells cs e fz))
    (hall : ∀ id b i, σ[id]? = some (.cells b) → b.fl ≠ .dead → ρ id = some i → i.b = p.block → b.fl = .old) : WRel ρ σ w0 (w.freeze p n) B0 := by
  constructor
  · exact h.dom
  · intro id b hg hd
    obtain ⟨i, cs', fz', hi, hr⟩ := h.blk id b hg hd
    by_cases he : i.b = p.block
    · have ho := hall id b i hg hd hi he
      obtain ⟨fz2, h2⟩ := freeze_at w p n (by rw [← he]; exact hr.at_)
      refine ⟨i, cs', fz2, hi, by rw [he]; exact h2, hr.len, hr.cells, hr.ro, fun hro => ?_, hr.ex, hr.gr⟩
      have := hr.mine hro
      exact ⟨this.1, this.2.1, fun x => absurd ho x⟩
    · exact ⟨i, cs', fz', hi, hr.keep (Rho.le_refl _) (freeze_other _ _ _ _ he)⟩
  · intro id es c hg
    obtain ⟨i, fs, h1, h2, h3, h4, h5⟩ := h.map id es c hg
    refine ⟨i, fs, h1, h2, h3, (freeze_other _ _ _ _ fun he => ?_).trans h4, h5⟩
    rw [he, hat] at h4; cases h4
  · intro id es c hg
    obtain ⟨i, fs, h1, h2, h3, h4, h5⟩ := h.rmap id es c hg
    refine ⟨i, fs, h1, h2, h3, (freeze_other _ _ _ _ fun he => ?_).trans h4, h5⟩
    rw [he, hat] at h4; cases h4
  · intro id s q hg
    obtain ⟨i, h1, h2, h3, h4⟩ := h.iter id s q hg
    refine ⟨i, h1, h2, h3, (freeze_other _ _ _ _ fun he => ?_).trans h4⟩
    rw [he, hat] at h4; cases h4
  · exact h.sep
  · intro k hk
    have : (w.freeze p n).heap.size = w.heap.size := by unfold World.freeze; split <;> simp
    rw [this]; exact h.base k hk
  · refine h.below.trans ⟨?_, ?_, ?_, ?_, fun k hk => freeze_other _ _ _ _ (fun e => hB (e ▸ hk))⟩ <;> (unfold World.freeze; split <;> simp)
  · exact h.hole
theorem liesAt_off {e : TypeId} (hc : P.cellsOf e = 1) (count off n : Nat) (hn : off + n ≤ count) : liesAt P P.depth e count off e n = true := by
  have hd : P.depth = (2 * (P.types.size + Made.depth) + 1) + 1 := rfl
  rw [hd]
  simp only [liesAt, Bool.or_eq_true]
  left
  rw [hd]
  simp [rowAt, hc, hn, sameLayout, Nat.mod_one]
theorem run_unsafeString_at (w : World) (pt it ty e : TypeId) (hp : P.underlying pt = some (.pointer e)) (hc : P.cellsOf e = 1) (g o cells : Nat) (hsh : w.shape? g = some (e, cells)) (l : List UInt8) (h0 : l ≠ []) (hn : o + l.length ≤ cells) (h63 : l.length ≤ 9223372036854775807)
    (hcell : ∀ j x, l[j]? = some x → w.cell? ((⟨g, o, none⟩ : Addr).add j) = some (.int .u8 x.toNat)) :
    (Builtin.unsafeString_ #[pt, it] ty #[.pointer (some ⟨g, o, none⟩), .int .i64 l.length]).run P w = .ok (.string ⟨l.toArray⟩) (w.freeze ⟨g, o, none⟩ l.length) := by
  have hl : l.length ≠ 0 := by simpa using h0
  have hlb := Lib.run_loadBytes (P := P) w l ⟨g, o, none⟩ .empty hcell
  have hlies := liesAt_off (P := P) hc (cells / P.cellsOf e) o l.length (by rw [hc]; simpa using hn)
  have h63' : ¬ (9223372036854775807 : Int) < (l.length : Int) := by omega
  have hdef : Builtin.unsafeString_ #[pt, it] ty #[.pointer (some ⟨g, o, none⟩), .int .i64 l.length] =
      (do
        let n ← asInt (.int .i64 l.length)
        if n < 0 then runtimePanic (.error "unsafe.String: len out of range")
        if n > IntKind.i64.max then unsupported (.unsafePointer "String: a length above the largest int")
        if n = 0 then pure (.string .empty)
        else if ← variablesAt ⟨g, o, none⟩ (← elemOf pt) n.toNat then do
          let s ← loadBytes ⟨g, o, none⟩ .empty n.toNat
          freeze ⟨g, o, none⟩ n.toNat
          pure (.string s)
        else unsupported (.unsafePointer "String: not so many bytes at ptr")) := rfl
  rw [hdef]
  have hmax : IntKind.i64.max = 9223372036854775807 := rfl
  have hneg : ¬ (l.length : Int) < 0 := by omega
  simp [asInt, asIntOf, hmax, h63', hneg, hl, variablesAt, hsh, elemOf, run_underlying hp, hlies, hlb]
def vsdata : Value → Option Value
  | .slice (some ⟨id, off, none⟩) _ (_ + 1) => some (.pointer (some ⟨id, off, none⟩))
  | _ => none
theorem vsdata_ok {ts : Array TypeId} {t : TypeId} {x x' v : Value} (hx : VRel ρ x x') (h : vsdata x = some v) (w : World) : ∃ v', (Builtin.unsafeSliceData_ ts t #[x']).run P w = .ok v' w ∧ VRel ρ v v' := by
  unfold vsdata at h
  split at h
  case h_2 => cases h
  rename_i id off n c
  cases h
  cases hx with
  | @slice _ _ _ _ c' i hi hc =>
    have hc0 : c' ≠ 0 := by
      unfold CapOk at hc
      split at hc
      · omega
      · omega
      · omega
    exact ⟨_, Lib.run_unsafeSliceData_row w ts t _ n c' hc0, .ptr hi⟩
def vustr (P : Program) (σ : VHeap) (ts : Array TypeId) (p len : Value) : Option (Value × VHeap) :=
  match ts, p, len with
  | ⟨[pt, _]⟩, .pointer (some ⟨id, off, none⟩), .int .i64 (.ofNat n) =>
    match P.underlying pt, σ[id]? with
    | some (.pointer e), some (.cells b) =>
      if b.fl = .tip ∧ b.elem = e ∧ P.cellsOf e = 1 ∧ 0 < n ∧ off + n ≤ b.cells.size ∧ n ≤ 9223372036854775807 then
        match toBytes (b.cells.extract off (off + n)).toList with
        | some bs => some (.string ⟨bs.toArray⟩, σ.setIfInBounds id (.cells b.aged))
        | none => none
      else none
    | _, _ => none
  | _, _, _ => none
theorem vustr_ok {ts : Array TypeId} {t : TypeId} {x x' y y' v : Value} {σ' : VHeap} (hw : WRel ρ σ w0 w B0) (hx : VRel ρ x x') (hy : VRel ρ y y') (h : vustr P σ ts x y = some (v, σ')) :
    ∃ w', (Builtin.unsafeString_ ts t #[x', y']).run P w = .ok v w' ∧ VRel ρ v v ∧ WRel ρ σ' w0 w' B0 := by
  unfold vustr at h
  split at h
  case h_2 => cases h
  rename_i pt it id off n
  split at h
  case h_2 => cases h
  rename_i e b hu hg
  split at h
  case isFalse => cases h
  rename_i hcond
  obtain ⟨hfl, hel, hcell, hn0, hle, h63⟩ := hcond
  split at h
  case h_2 => cases h
  rename_i bs hbs
  cases h
  cases hy
  cases hx with
  | @ptr _ _ i hi =>
    have hd : b.fl ≠ .dead := by rw [hfl]; decide
    obtain ⟨i', cs, fz, hi', hr⟩ := hw.blk id b hg hd
    obtain rfl : i = i' := by rw [hi] at hi'; exact Option.some.inj hi'
    obtain ⟨hB, htot, -⟩ := hr.mine (by rw [hfl]; decide)
    obtain ⟨hbl, hbv⟩ := toBytes_some hbs
    have hlen : bs.length = n := by rw [← hbl]; simp; omega
    have hrlen := hr.len
    have hat := hr.at_
    have hrun := run_unsafeString_at (P := P) w pt it t e hu hcell i.b (i.o + off) cs.size (by
        unfold World.shape?
        rw [hat, hel]) bs (by intro e0; rw [e0] at hlen; simp at hlen; omega) (by omega) (by omega) (fun j x hj => by
        obtain ⟨hj1, hj2⟩ := List.getElem?_eq_some_iff.1 hj
        rw [add_none]
        unfold World.cell?
        simp only [hat]
        have hlt : i.o + (off + j) < cs.size := by omega
        have hv := hr.cells (off + j) (by omega) hlt
        have hk := hbv j (by simp; omega) hj1
        simp only [List.getElem_toArray, Array.getElem_toList, Array.getElem_extract] at hk
        rw [hk] at hv
        rw [show i.o + off + j = i.o + (off + j) by omega, Array.getElem?_eq_getElem hlt]
        generalize cs[i.o + (off + j)] = z at hv
        cases hv
        rw [hj2]
        rfl)
    rw [hlen] at hrun
    refine ⟨_, hrun, .string _, ?_⟩
    have h1 := hw.age hg hfl
    refine h1.freezeOld (p := ⟨i.b, i.o + off, none⟩) n hB (hat.trans rfl) fun id' b' i2 hg' hd' hi2 he => ?_
    by_cases hid : id' = id
    · subst hid
      rw [Array.getElem?_setIfInBounds] at hg'
      simp only [if_true, (Array.getElem?_eq_some_iff.1 hg).1] at hg'
      cases hg'
      rfl
    · rw [Array.getElem?_setIfInBounds_ne (Ne.symm hid)] at hg'
      have hb' : b'.fl ≠ .ro := fun hro => by
        obtain ⟨i3, cs3, fz3, hi3, hr3⟩ := hw.blk id' b' hg' hd'
        obtain rfl : i2 = i3 := by rw [hi2] at hi3; exact Option.some.inj hi3
        have he' : i2.b = i.b := he
        exact hB (he' ▸ (hr3.ro hro).1.1)
      have hk := hw.sep id id' _ _ i i2 (Ne.symm hid) hg hg' (by simp [VObj.own, hfl]) (by simp [VObj.own, hd', hb']) hi hi2 he.symm
      exact (hk.2.2.2 hfl).1
end
end Vm
end Go.Proofs.Ytodjjnklelfgfaa
