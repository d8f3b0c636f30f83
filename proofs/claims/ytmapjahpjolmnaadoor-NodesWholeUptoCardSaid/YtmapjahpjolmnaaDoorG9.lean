/- New rows of any bytes (internal/bytealg.MakeNoZero); a row of bytes that becomes a text (strings.Builder's String). -/
import Derived.Test.YtmapjahpjolmnaaDoorG8
import Derived.Lib.MakeNoZero
import Derived.Lib.UnsafeStr
import Derived.Laws.Externs
import Derived.Deep.Quiet
set_option linter.unusedVariables false
set_option linter.unusedSimpArgs false
namespace Go.Proofs.YtmapjahpjolmnaaDoor
namespace Vm
set_option linter.unusedSimpArgs false
set_option linter.unusedVariables false
open Go.RowKit

/-- The virtual block of a global: the first blocks, which came in, marked with the global's number. -/
def gfind (σ : VHeap) (g : Nat) : Nat → Nat → Option Nat
  | 0, _ => none
  | n + 1, k => match σ[k]? with
    | some (.cells b) => bif decide (b.fl = .ro) && b.kin then (bif b.root == g then some k else gfind σ g n (k + 1)) else none
    | _ => none
def gres (σ : VHeap) (v : Value) : Value := match v with
  | .chan (some g) => match gfind σ g 16 0 with
    | some id => .pointer (some ⟨id, 0, none⟩)
    | none => v
  | v => v
theorem gfind_some {σ : VHeap} {g : Nat} : ∀ {n k id : Nat}, gfind σ g n k = some id → ∃ b, σ[id]? = some (.cells b) ∧ b.fl = .ro ∧ b.kin = true ∧ b.root = g
  | 0, _, _, h => by cases h
  | n + 1, k, id, h => by
    unfold gfind at h
    split at h
    case h_2 => cases h
    rename_i b hb
    cases hc : decide (b.fl = .ro) && b.kin with
    | false => rw [hc] at h; cases h
    | true =>
      rw [hc] at h
      simp only [cond_true] at h
      simp only [Bool.and_eq_true, decide_eq_true_eq] at hc
      cases hg : b.root == g with
      | false => rw [hg] at h; exact gfind_some h
      | true =>
        rw [hg] at h
        cases h
        exact ⟨b, hb, hc.1, hc.2, by simpa using hg⟩
theorem gres_ok {ρ : Rho} {σ : VHeap} {w0 w : World} {B0 : Base} {v v' : Value} (hw : WRel ρ σ w0 w B0) (h : VRel ρ v v') : VRel ρ (gres σ v) v' := by
  unfold gres
  split
  · rename_i g
    split
    · rename_i id hid
      obtain ⟨b, hb, hf, hk, rfl⟩ := gfind_some hid
      obtain ⟨i, cs, fz, hi, hr⟩ := hw.blk id b hb (by rw [hf]; decide)
      obtain ⟨h1, h2⟩ := (hr.ro hf).2.2 hk
      cases h
      have := VRel.ptr (off := 0) hi
      rw [h1, h2] at this
      exact this
    · exact h
  · exact h
def vmnz (P : Program) (fn : Func) (args : Array Value) (σ : VHeap) : Option (Value × VHeap) :=
  match fn.resultTypes, args with
  | ⟨[t]⟩, ⟨[.int .i64 (.ofNat n)]⟩ =>
    match P.underlying t with
    | some (.slice e) => if n ≤ 281474976710656 then some (.slice (some ⟨σ.size, 0, none⟩) n n, σ.push (.cells ⟨#[], e, .tip, false, σ.size, 1⟩)) else none
    | _ => none
  | _, _ => none
theorem find_mnz {fn : Func} (h : fn.name = "internal/bytealg.MakeNoZero") : Extern.find fn = some (Extern.BytealgMakeNoZero.makeNoZero fn.params fn.resultTypes) := by
  unfold Extern.find
  have e1 : Extern.allGenericRows.lookup "internal/bytealg.MakeNoZero" = none := by kernel_rfl
  have e2 : Extern.allTypedRows.lookup "internal/bytealg.MakeNoZero" = some Extern.BytealgMakeNoZero.makeNoZero := by kernel_rfl
  simp only [h, e1, e2]
  rfl
section
variable {P : Program} {w0 w : World} {B0 : Base} {ρ : Rho} {σ : VHeap}
theorem vmnz_ok {fn : Func} {args args' : Array Value} {v : Value} {σ' : VHeap} (hw : WRel ρ σ w0 w B0) (ha : ARel ρ args args') (h : vmnz P fn args σ = some (v, σ')) :
    ∃ ρ2 v' w', ρ.le ρ2 ∧ (Extern.BytealgMakeNoZero.makeNoZero fn.params fn.resultTypes args').run P w = .ok v' w' ∧ VRel ρ2 v v' ∧ WRel ρ2 σ' w0 w' B0 := by
  unfold vmnz at h
  split at h
  case h_2 => cases h
  rename_i t n hr
  split at h
  case h_2 => cases h
  rename_i e hu
  split at h
  case isFalse => cases h
  rename_i hn
  cases h
  obtain ⟨l⟩ := args'
  match l, ha with
  | [], ha => exact absurd ha.1 (by simp)
  | _ :: _ :: _, ha => exact absurd ha.1 (by simp)
  | [x'], ha =>
  have hx : VRel ρ (.int .i64 (.ofNat n)) x' := ha.2 0 (by simp) (by simp)
  cases hx
  obtain ⟨cs, hrun, hle, -⟩ := Lib.run_makeNoZero w fn.params t e hu n hn
  have hnew := hw.newTip (w' := w.drew.drew.alloc (.cells cs e)) (cs := #[]) (cs' := #[]) (rest := cs) (e := e) (fz := (0, 0)) 1 false σ.size
    ((((Below.refl _ w).drew).drew).alloc (Nat.le_refl _) _) (by simp) (by rw [Array.empty_append]; exact heap_new w.drew.drew _) (fun k _ => by simp) (ARel.nil _)
  refine ⟨_, _, _, Rho.le_more (hw.dom _ (Nat.le_refl _)) _, by rw [hr]; exact hrun, ?_, hnew⟩
  have := VRel.slice (ρ := ρ.more σ.size ⟨w.heap.size, 0, 1, (#[] ++ cs).size, .gr⟩) (id := σ.size) (off := 0) (n := n) (c := n) (c' := cs.size) (Rho.more_self _ _ _)
    (by simp only [CapOk]; exact ⟨hle, by simp⟩)
  simpa using this
theorem freeze_at (w : World) (p : Addr) (n : Nat) {cs : Array Value} {e : TypeId} {fz : Nat × Nat} (h : w.heap[p.block]? = some (.cells cs e fz)) : ∃ fz', (w.freeze p n).heap[p.block]? = some (.cells cs e fz') := by
  unfold World.freeze
  split
  · exact ⟨fz, h⟩
  · obtain ⟨lo, hi⟩ := fz
    simp only [Array.getElem?_modify, if_true, h, Option.map_some]
    exact ⟨_, rfl⟩
theorem freeze_other (w : World) (p : Addr) (n k : Nat) (hk : k ≠ p.block) : (w.freeze p n).heap[k]? = w.heap[k]? := by
  unfold World.freeze
  split
  · rfl
  · simp only [Array.getElem?_modify]
    rw [if_neg (Ne.symm hk)]
theorem WRel.freezeOld (h : WRel ρ σ w0 w B0) {p : Addr} (n : Nat) (hB : ¬ B0.U p.block) {cs : Array Value} {e : TypeId} {fz : Nat × Nat} (hat : w.heap[p.block]? = some (.cells cs e fz))
    (hall : ∀ id b i, σ[id]? = some (.cells b) → b.fl ≠ .dead → ρ id = some i → i.b = p.block → b.fl = .old) : WRel ρ σ w0 (w.freeze p n) B0 := by
  constructor
  · exact h.dom
  · intro id b hg hd
    obtain ⟨i, cs', fz', hi, hr⟩ := h.blk id b hg hd
    by_cases he : i.b = p.block
    · have ho := hall id b i hg hd hi he
      obtain ⟨fz2, h2⟩ := freeze_at w p n (by rw [← he]; exact hr.at_)
      refine ⟨i, cs', fz2, hi, by rw [he]; exact h2, hr.len, hr.cells, hr.ro, fun hro => ?_, hr.ex, hr.gr⟩
      have := hr.mine hro
      exact ⟨this.1, this.2.1, fun x => absurd ho x⟩
    · exact ⟨i, cs', fz', hi, hr.keep (Rho.le_refl _) (freeze_other _ _ _ _ he)⟩
  · intro id es c hg
    obtain ⟨i, fs, h1, h2, h3, h4, h5⟩ := h.map id es c hg
    refine ⟨i, fs, h1, h2, h3, (freeze_other _ _ _ _ fun he => ?_).trans h4, h5⟩
    rw [he, hat] at h4; cases h4
  · intro id es c hg
    obtain ⟨i, fs, h1, h2, h3, h4, h5⟩ := h.rmap id es c hg
    refine ⟨i, fs, h1, h2, h3, (freeze_other _ _ _ _ fun he => ?_).trans h4, h5⟩
    rw [he, hat] at h4; cases h4
  · intro id s q hg
    obtain ⟨i, h1, h2, h3, h4⟩ := h.iter id s q hg
    refine ⟨i, h1, h2, h3, (freeze_other _ _ _ _ fun he => ?_).trans h4⟩
    rw [he, hat] at h4; cases h4
  · exact h.sep
  · intro k hk
    have : (w.freeze p n).heap.size = w.heap.size := by unfold World.freeze; split <;> simp
    rw [this]; exact h.base k hk
  · refine h.below.trans ⟨?_, ?_, ?_, ?_, fun k hk => freeze_other _ _ _ _ (fun e => hB (e ▸ hk))⟩ <;> (unfold World.freeze; split <;> simp)
  · exact h.hole
theorem liesAt_off {e : TypeId} (hc : P.cellsOf e = 1) (count off n : Nat) (hn : off + n ≤ count) : liesAt P P.depth e count off e n = true := by
  have hd : P.depth = (2 * (P.types.size + Made.depth) + 1) + 1 := rfl
  rw [hd]
  simp only [liesAt, Bool.or_eq_true]
  left
  rw [hd]
  simp [rowAt, hc, hn, sameLayout, Nat.mod_one]
theorem run_unsafeString_at (w : World) (pt it ty e : TypeId) (hp : P.underlying pt = some (.pointer e)) (hc : P.cellsOf e = 1) (g o cells : Nat) (hsh : w.shape? g = some (e, cells)) (l : List UInt8) (h0 : l ≠ []) (hn : o + l.length ≤ cells) (h63 : l.length ≤ 9223372036854775807)
    (hcell : ∀ j x, l[j]? = some x → w.cell? ((⟨g, o, none⟩ : Addr).add j) = some (.int .u8 x.toNat)) :
    (Builtin.unsafeString_ #[pt, it] ty #[.pointer (some ⟨g, o, none⟩), .int .i64 l.length]).run P w = .ok (.string ⟨l.toArray⟩) (w.freeze ⟨g, o, none⟩ l.length) := by
  have hl : l.length ≠ 0 := by simpa using h0
  have hlb := Lib.run_loadBytes (P := P) w l ⟨g, o, none⟩ .empty hcell
  have hlies := liesAt_off (P := P) hc (cells / P.cellsOf e) o l.length (by rw [hc]; simpa using hn)
  have h63' : ¬ (9223372036854775807 : Int) < (l.length : Int) := by omega
  have hdef : Builtin.unsafeString_ #[pt, it] ty #[.pointer (some ⟨g, o, none⟩), .int .i64 l.length] =
      (do
        let n ← asInt (.int .i64 l.length)
        if n < 0 then runtimePanic (.error "unsafe.String: len out of range")
        if n > IntKind.i64.max then unsupported (.unsafePointer "String: a length above the largest int")
        if n = 0 then pure (.string .empty)
        else if ← variablesAt ⟨g, o, none⟩ (← elemOf pt) n.toNat then do
          let s ← loadBytes ⟨g, o, none⟩ .empty n.toNat
          freeze ⟨g, o, none⟩ n.toNat
          pure (.string s)
        else unsupported (.unsafePointer "String: not so many bytes at ptr")) := rfl
  rw [hdef]
  have hmax : IntKind.i64.max = 9223372036854775807 := rfl
  have hneg : ¬ (l.length : Int) < 0 := by omega
  simp [asInt, asIntOf, hmax, h63', hneg, hl, variablesAt, hsh, elemOf, run_underlying hp, hlies, hlb]
def vsdata : Value → Option Value
  | .slice (some ⟨id, off, none⟩) _ (_ + 1) => some (.pointer (some ⟨id, off, none⟩))
  | _ => none
theorem vsdata_ok {ts : Array TypeId} {t : TypeId} {x x' v : Value} (hx : VRel ρ x x') (h : vsdata x = some v) (w : World) : ∃ v', (Builtin.unsafeSliceData_ ts t #[x']).run P w = .ok v' w ∧ VRel ρ v v' := by
  unfold vsdata at h
  split at h
  case h_2 => cases h
  rename_i id off n c
  cases h
  cases hx with
  | @slice _ _ _ _ c' i hi hc =>
    have hc0 : c' ≠ 0 := by
      unfold CapOk at hc
      split at hc
      · omega
      · omega
      · omega
    exact ⟨_, Lib.run_unsafeSliceData_row w ts t _ n c' hc0, .ptr hi⟩
def vustr (P : Program) (σ : VHeap) (ts : Array TypeId) (p len : Value) : Option (Value × VHeap) :=
  match ts, p, len with
  | ⟨[pt, _]⟩, .pointer (some ⟨id, off, none⟩), .int .i64 (.ofNat n) =>
    match P.underlying pt, σ[id]? with
    | some (.pointer e), some (.cells b) =>
      if b.fl = .tip ∧ b.elem = e ∧ P.cellsOf e = 1 ∧ 0 < n ∧ off + n ≤ b.cells.size ∧ n ≤ 9223372036854775807 then
        match toBytes (b.cells.extract off (off + n)).toList with
        | some bs => some (.string ⟨bs.toArray⟩, σ.setIfInBounds id (.cells b.aged))
        | none => none
      else none
    | _, _ => none
  | _, _, _ => none
theorem vustr_ok {ts : Array TypeId} {t : TypeId} {x x' y y' v : Value} {σ' : VHeap} (hw : WRel ρ σ w0 w B0) (hx : VRel ρ x x') (hy : VRel ρ y y') (h : vustr P σ ts x y = some (v, σ')) :
    ∃ w', (Builtin.unsafeString_ ts t #[x', y']).run P w = .ok v w' ∧ VRel ρ v v ∧ WRel ρ σ' w0 w' B0 := by
  unfold vustr at h
  split at h
  case h_2 => cases h
  rename_i pt it id off n
  split at h
  case h_2 => cases h
  rename_i e b hu hg
  split at h
  case isFalse => cases h
  rename_i hcond
  obtain ⟨hfl, hel, hcell, hn0, hle, h63⟩ := hcond
  split at h
  case h_2 => cases h
  rename_i bs hbs
  cases h
  cases hy
  cases hx with
  | @ptr _ _ i hi =>
    have hd : b.fl ≠ .dead := by rw [hfl]; decide
    obtain ⟨i', cs, fz, hi', hr⟩ := hw.blk id b hg hd
    obtain rfl : i = i' := by rw [hi] at hi'; exact Option.some.inj hi'
    obtain ⟨hB, htot, -⟩ := hr.mine (by rw [hfl]; decide)
    obtain ⟨hbl, hbv⟩ := toBytes_some hbs
    have hlen : bs.length = n := by rw [← hbl]; simp; omega
    have hrlen := hr.len
    have hat := hr.at_
    have hrun := run_unsafeString_at (P := P) w pt it t e hu hcell i.b (i.o + off) cs.size (by
        unfold World.shape?
        rw [hat, hel]) bs (by intro e0; rw [e0] at hlen; simp at hlen; omega) (by omega) (by omega) (fun j x hj => by
        obtain ⟨hj1, hj2⟩ := List.getElem?_eq_some_iff.1 hj
        rw [add_none]
        unfold World.cell?
        simp only [hat]
        have hlt : i.o + (off + j) < cs.size := by omega
        have hv := hr.cells (off + j) (by omega) hlt
        have hk := hbv j (by simp; omega) hj1
        simp only [List.getElem_toArray, Array.getElem_toList, Array.getElem_extract] at hk
        rw [hk] at hv
        rw [show i.o + off + j = i.o + (off + j) by omega, Array.getElem?_eq_getElem hlt]
        generalize cs[i.o + (off + j)] = z at hv
        cases hv
        rw [hj2]
        rfl)
    rw [hlen] at hrun
    refine ⟨_, hrun, .string _, ?_⟩
    have h1 := hw.age hg hfl
    refine h1.freezeOld (p := ⟨i.b, i.o + off, none⟩) n hB (hat.trans rfl) fun id' b' i2 hg' hd' hi2 he => ?_
    by_cases hid : id' = id
    · subst hid
      rw [Array.getElem?_setIfInBounds] at hg'
      simp only [if_true, (Array.getElem?_eq_some_iff.1 hg).1] at hg'
      cases hg'
      rfl
    · rw [Array.getElem?_setIfInBounds_ne (Ne.symm hid)] at hg'
      have hb' : b'.fl ≠ .ro := fun hro => by
        obtain ⟨i3, cs3, fz3, hi3, hr3⟩ := hw.blk id' b' hg' hd'
        obtain rfl : i2 = i3 := by rw [hi2] at hi3; exact Option.some.inj hi3
        have he' : i2.b = i.b := he
        exact hB (he' ▸ (hr3.ro hro).1.1)
      have hk := hw.sep id id' _ _ i i2 (Ne.symm hid) hg hg' (by simp [VObj.own, hfl]) (by simp [VObj.own, hd', hb']) hi hi2 he.symm
      exact (hk.2.2.2 hfl).1
end
end Vm
end Go.Proofs.YtmapjahpjolmnaaDoor
namespace Go.Proofs.YtmapjahpjolmnaaDoor
namespace Vm
set_option linter.unusedSimpArgs false
set_option linter.unusedVariables false
open Go.RowKit

inductive VN where
  | val (v : Value) (σ : VHeap)
  | skip (σ : VHeap)
  | enter (f : FuncId) (args : Array Value) (σ : VHeap)
  | pan (v : Value) (σ : VHeap)
def vv (r : Option (Value × VHeap)) : Option VN :=
  match r with
  | some (v, σ) => some (.val v σ)
  | none => none
def vu (r : Option (Unit × VHeap)) : Option VN :=
  match r with
  | some (_, σ) => some (.skip σ)
  | none => none
def pureOp (P : Program) (o : Oper) (ev : Operand → Value) : Option Value :=
  match o.op with
  | .select _ _ => none
  | _ =>
    bif o.op.operands.all (fun x => clean (ev x)) then
      match pv P (execOp ev o) with
      | some (.value v) => bif clean v then some v else none
      | _ => none
    else none
def vcall (P : Program) (ev : Operand → Value) (c : Call) (type : TypeId) (σ : VHeap) : Option VN :=
  match c.callee with
  | .value f =>
    match ev f with
    | .func (.func g) first captured =>
      match P.funcs[g]? with
      | some fn => if fn.body.isSome = true ∧ fn.name ≠ "runtime.NumGoroutine" then some (.enter g (first ++ c.args.map ev ++ captured) σ)
        else if fn.name = "internal/abi.NoEscape" ∧ fn.body.isNone = true ∧ (Extern.findNext fn).isNone = true then match first ++ c.args.map ev ++ captured with
          | ⟨[x]⟩ => some (.val x σ)
          | _ => none
        else if fn.name = "internal/bytealg.MakeNoZero" ∧ fn.body.isNone = true ∧ (Extern.findNext fn).isNone = true then vv (vmnz P fn (first ++ c.args.map ev ++ captured) σ)
        else none
      | none => none
    | _ => none
  | .invoke _ _ => none
  | .builtin b =>
    match b, c.args.map ev with
    | .append, ⟨[s, x]⟩ => vv (vappend P σ c.argTypes s x)
    | .len, ⟨[x]⟩ => match x with
      | .chan _ => none
      | x => vv (vrun P (Builtin.len_ c.argTypes type #[x]) σ)
    | .copy, ⟨[x, y]⟩ => vv (vrun P (Builtin.copy_ c.argTypes type #[x, y]) σ)
    | .delete, ⟨[m, k]⟩ => bif ((c.argTypes[0]?).all (basicKey P)) && cleanC k then vv (vrun P (Builtin.delete_ c.argTypes type #[m, k]) σ) else none
    | .clear, ⟨[x]⟩ => bif ((c.argTypes[0]?).all (elemZeroOk P)) then vv (vrun P (Builtin.clear_ c.argTypes type #[x]) σ) else none
    | .unsafeSliceData, ⟨[x]⟩ => match vsdata x with
      | some v => some (.val v σ)
      | none => none
    | .unsafeString, ⟨[x, y]⟩ => vv (vustr P σ c.argTypes x y)
    | _, _ => none
def vop (P : Program) (o : Oper) (ev : Operand → Value) (σ : VHeap) : Option VN :=
  match pureOp P o ev with
  | some v => some (.val v σ)
  | none =>
    match o.op with
    | .move x | .assign x => some (.val (ev x) σ)
    | .pick c a b => match ev c with
      | .bool t => some (.val (bif t then ev a else ev b) σ)
      | _ => none
    | .alloc e => bif zeroOk P e then vv (vrun P (Instr.alloc e true (.tuple #[])) σ) else none
    | .box e x => vv (vrun P (Instr.box e (ev x)) σ)
    | .build t parts => bif zeroOk P t then vv (vrun P (Instr.build t (parts.map fun (i, x) => (i, ev x))) σ) else none
    | .buildSlice t n parts => bif elemZeroOk P t then vv (vrun P (Instr.buildSlice t n (parts.map fun (i, x) => (i, ev x))) σ) else none
    | .load t a => vv (vrun P (Instr.loadAt t (gres σ (ev a))) σ)
    | .store t a x => vu (vrun P (Instr.storeAt t (ev a) (ev x)) σ)
    | .nilCheck x => match ev x with
      | .pointer (some a) => some (.val (.pointer (some a)) σ)
      | .func (.func f) xs ys => some (.val (.func (.func f) xs ys) σ)
      | _ => none
    | .binOp op t x y _ => bif vNil P t (ev x) (ev y) then (match op with
        | .eql => some (.val (.bool false) σ)
        | .neq => some (.val (.bool true) σ)
        | _ => none) else bif vSame P t (ev x) (ev y) then (match op with
        | .eql => some (.val (.bool true) σ)
        | .neq => some (.val (.bool false) σ)
        | _ => none) else none
    | .convert src dst x => vv (vconvert P σ src dst (ev x))
    | .makeInterface t x => vv (vrun P (Instr.makeInterface t (ev x)) σ)
    | .makeFunc fn xs ys => some (.val (.func fn (xs.map ev) (ys.map ev)) σ)
    | .makeMap t r => vv (vrun P (Instr.makeMap t (r.map ev)) σ)
    | .makeSlice t l c => bif elemZeroOk P t then vv (vrun P (Instr.makeSlice t (ev l) (ev c)) σ) else none
    | .slice t x lo hi mx => match vslice P σ t (gres σ (ev x)) (lo.map ev) (hi.map ev) (mx.map ev) with
      | some v => some (.val v σ)
      | none => none
    | .fieldAddr s x f => vv (vrun P (Instr.fieldAt s (gres σ (ev x)) f) σ)
    | .field t x f => vv (vrun P (Instr.field t (ev x) f) σ)
    | .indexAddr t x i => vv (vrun P (Instr.indexAt t (gres σ (ev x)) (ev i)) σ)
    | .index t x i => vv (vrun P (Instr.index t (ev x) (ev i)) σ)
    | .lookup t m k ok => bif basicKey P t && elemZeroOk P t && cleanC (ev k) then vv (vrun P (Instr.lookup t (ev m) (ev k) ok) σ) else none
    | .mapUpdate t m k x | .insert t m k x => bif basicKey P t && cleanC (ev k) then vu (vrun P (Instr.mapUpdate t (ev m) (ev k) (ev x)) σ) else none
    | .mapEntry t m k => bif basicKey P t && elemZeroOk P t && cleanC (ev k) then vv (vrun P (Instr.mapEntry t (ev m) (ev k)) σ) else none
    | .entryStore t m s x => vu (vrun P (Instr.entryStore t (ev m) (ev s) (ev x)) σ)
    | .range t x => match ev x with
      | .string s => vv (vrun P (Instr.range t (.string s)) σ)
      | _ => none
    | .next it true => vv (vrun P (Instr.next (ev it) true o.type) σ)
    | .extract t i => vv (vrun P (Instr.extract (ev t) i) σ)
    | .panic x => match ev x with
      | .iface t v => some (.pan (.iface t v) σ)
      | _ => none
    | .call c => vcall P ev c o.type σ
    | _ => none

theorem find_noEscape {fn : Func} (h : fn.name = "internal/abi.NoEscape") : Extern.find fn = some Extern.AbiNoEscape.same := by
  unfold Extern.find
  have e1 : Extern.allGenericRows.lookup "internal/abi.NoEscape" = none := by kernel_rfl
  have e2 : Extern.allTypedRows.lookup "internal/abi.NoEscape" = none := by kernel_rfl
  have e3 : Extern.allRows.lookup "internal/abi.NoEscape" = some Extern.AbiNoEscape.same := by kernel_rfl
  simp only [h, e1, e2, e3]
  rfl
section
variable {P : Program} {w0 w : World} {B0 : Base} {ρ : Rho} {σ : VHeap}
def OpOk (w0 : World) (B0 : Base) (ρ : Rho) : VN → Result Next → Prop
  | .val v σ', r => ∃ ρ2 v' w', ρ.le ρ2 ∧ r = .ok (.value v') w' ∧ VRel ρ2 v v' ∧ WRel ρ2 σ' w0 w' B0
  | .skip σ', r => ∃ ρ2 w', ρ.le ρ2 ∧ r = .ok .skip w' ∧ WRel ρ2 σ' w0 w' B0
  | .enter f args σ', r => ∃ ρ2 args' w', ρ.le ρ2 ∧ r = .ok (.enter f args') w' ∧ ARel ρ2 args args' ∧ WRel ρ2 σ' w0 w' B0
  | .pan v σ', r => ∃ ρ2 v' w', ρ.le ρ2 ∧ r = .halt (.panic v') w' ∧ VRel ρ2 v v' ∧ WRel ρ2 σ' w0 w' B0
theorem vv_ok {s t : Sem Value} {r : VN} (hw : WRel ρ σ w0 w B0) (hs : SR P w0 B0 ρ VRel s t) (h : vv (vrun P s σ) = some r) : OpOk w0 B0 ρ r ((do pure (.value (← t)) : Sem Next).run P w) := by
  unfold vv at h
  split at h
  case h_2 => cases h
  rename_i v σ' hv
  cases h
  obtain ⟨ρ2, y, w', h1, h2, h3, h4⟩ := hs ρ σ w v σ' (Rho.le_refl _) hw hv
  exact ⟨ρ2, y, w', h1, by rw [Sem.run_bind, h2]; rfl, h3, h4⟩
theorem vu_ok {s t : Sem Unit} {r : VN} (hw : WRel ρ σ w0 w B0) (hs : SR P w0 B0 ρ TrueR s t) (h : vu (vrun P s σ) = some r) : OpOk w0 B0 ρ r ((do t; pure .skip : Sem Next).run P w) := by
  unfold vu at h
  split at h
  case h_2 => cases h
  rename_i v σ' hv
  cases h
  obtain ⟨ρ2, y, w', h1, h2, h3, h4⟩ := hs ρ σ w v σ' (Rho.le_refl _) hw hv
  exact ⟨ρ2, w', h1, by rw [Sem.run_bind, h2]; rfl, h4⟩
theorem val_ok {v v' : Value} (hw : WRel ρ σ w0 w B0) (hv : VRel ρ v v') : OpOk w0 B0 ρ (.val v σ) (.ok (.value v') w) := ⟨ρ, v', w, Rho.le_refl _, rfl, hv, hw⟩
theorem pureOp_ok {o : Oper} {ev er : Operand → Value} {v : Value} (hE : ∀ x ∈ o.op.operands, VRel ρ (ev x) (er x)) (h : pureOp P o ev = some v) : clean v = true ∧ (execOp er o).run P w = .ok (.value v) w := by
  unfold pureOp at h
  split at h
  · cases h
  · rename_i hs
    cases hc : o.op.operands.all (fun x => clean (ev x)) with
    | false => rw [hc] at h; cases h
    | true =>
      rw [hc] at h
      simp only [cond_true] at h
      split at h
      case h_2 => cases h
      rename_i v' hp
      cases hv : clean v' with
      | false => rw [hv] at h; cases h
      | true =>
        rw [hv] at h
        cases h
        refine ⟨hv, ?_⟩
        have : execOp er o = execOp ev o := execOp_congr o (fun cs b e => hs cs b e) (fun x hx => clean_eq (by
          obtain ⟨k, hk, rfl⟩ := Array.getElem_of_mem hx
          exact Array.all_eq_true.1 hc k hk) (hE x hx))
        rw [this]
        exact pv_run hp w
theorem parts_rel {ev er : Operand → Value} (parts : Array (Nat × Operand)) (h : ∀ p ∈ parts, VRel ρ (ev p.2) (er p.2)) :
    PartsRel ρ (parts.map fun (i, x) => (i, ev x)).toList (parts.map fun (i, x) => (i, er x)).toList := by
  obtain ⟨l⟩ := parts
  simp only [List.map_toArray]
  have h' : ∀ p ∈ l, VRel ρ (ev p.2) (er p.2) := fun p hp => h p (by simpa using hp)
  clear h
  induction l with
  | nil => exact .nil
  | cons p l ih => exact .cons ⟨rfl, h' p (by simp)⟩ (ih fun q hq => h' q (by simp [hq]))
theorem omap_rel {ev er : Operand → Value} (x : Option Operand) (h : ∀ y, x = some y → VRel ρ (ev y) (er y)) : ORel ρ (x.map ev) (x.map er) := by
  cases x with
  | none => trivial
  | some y => exact h y rfl
theorem vcall_ok {c : Call} {type : TypeId} {ev er : Operand → Value} {r : VN} (hw : WRel ρ σ w0 w B0) (hE : ∀ x ∈ c.operands, VRel ρ (ev x) (er x)) (h : vcall P ev c type σ = some r) :
    OpOk w0 B0 ρ r ((do let d ← resolve er c type; invoke d.target d.args : Sem Next).run P w) := by
  have hargs : ARel ρ (c.args.map ev) (c.args.map er) := ARel.map _ _ _ fun x hx => hE x (by simp [Call.operands, hx])
  unfold vcall at h
  unfold resolve
  cases hc : c.callee with
  | invoke a b => simp [hc] at h
  | value f =>
    simp only [hc] at h ⊢
    have hf := hE f (by simp [Call.operands, hc])
    split at h
    case h_2 => cases h
    rename_i g first captured hev
    rw [hev] at hf
    split at h
    case h_2 => cases h
    rename_i fn hfn
    split at h
    case isFalse =>
      split at h
      case isFalse =>
        split at h
        case isFalse => cases h
        rename_i hx
        unfold vv at h
        split at h
        case h_2 => cases h
        rename_i v σ' hv
        cases h
        generalize er f = ef at hf
        cases hf with
        | func _ h1 h2 g1 g2 =>
          have hall := ARel.append (ARel.append ⟨h1, h2⟩ hargs) ⟨g1, g2⟩
          obtain ⟨ρ2, v', w', q1, q2, q3, q4⟩ := vmnz_ok hw hall hv
          refine ⟨ρ2, v', w', q1, ?_, q3, q4⟩
          unfold Deferred.ofValue
          simp only [Sem.run_bind, Sem.run_pure, Result.andThen_ok]
          unfold invoke
          simp only [Sem.run_bind]
          rw [run_callFunc_extern hfn (by rw [hx.1]; decide) hx.2.1 (Option.isNone_iff_eq_none.1 hx.2.2) (find_mnz hx.1), q2]
          rfl
      rename_i hx
      split at h
      case h_2 => cases h
      rename_i x hxs
      cases h
      generalize er f = ef at hf
      cases hf with
      | func _ h1 h2 g1 g2 =>
        have hall := ARel.append (ARel.append ⟨h1, h2⟩ hargs) ⟨g1, g2⟩
        rw [hxs] at hall
        unfold Deferred.ofValue
        simp only [Sem.run_bind, Sem.run_pure, Result.andThen_ok]
        unfold invoke
        simp only [Sem.run_bind]
        rw [run_callFunc_extern hfn (by rw [hx.1]; decide) hx.2.1 (Option.isNone_iff_eq_none.1 hx.2.2) (find_noEscape hx.1)]
        generalize first ++ c.args.map ev ++ captured = l0 at hxs hall
        rename_i ys vs
        generalize hL : ys ++ c.args.map er ++ vs = l at hall ⊢
        obtain ⟨l⟩ := l
        match l, hall with
        | [x'], hall => exact ⟨ρ, x', w, Rho.le_refl _, rfl, hall.2 0 (by simp) (by simp), hw⟩
        | [], hall => exact absurd hall.1 (by simp)
        | _ :: _ :: _, hall => exact absurd hall.1 (by simp)
    rename_i hb
    cases h
    generalize er f = ef at hf
    cases hf with
    | func _ h1 h2 g1 g2 =>
      refine ⟨ρ, _, w, Rho.le_refl _, ?_, (ARel.append (ARel.append ⟨h1, h2⟩ hargs) ⟨g1, g2⟩), hw⟩
      unfold Deferred.ofValue
      simp only [Sem.run_bind, Sem.run_pure, Result.andThen_ok]
      unfold invoke callFunc
      simp only [Sem.run_bind, run_program, Result.andThen_ok, hfn]
      have hnb : fn.body.isNone = false := by cases hbo : fn.body with | none => simp [hbo] at hb | some b => rfl
      have hnm : (fn.name == "runtime.NumGoroutine") = false := by simpa using hb.2
      simp only [hnm, hnb, Bool.false_eq_true, if_false]
      rfl
  | builtin b =>
    simp only [hc] at h ⊢
    simp only [Sem.run_bind, Sem.run_pure, Result.andThen_ok]
    unfold invoke
    split at h
    · rename_i s x hxs
      rw [hxs] at hargs
      unfold vv at h
      split at h
      case h_2 => cases h
      rename_i v σ' hv
      cases h
      have hsz := hargs.1
      obtain ⟨s', x', he⟩ : ∃ s' x', c.args.map er = #[s', x'] := by
        generalize c.args.map er = l at hsz
        obtain ⟨l⟩ := l
        match l, hsz with
        | [a, b], _ => exact ⟨a, b, rfl⟩
      rw [he] at hargs ⊢
      obtain ⟨ρ2, v', w', g1, g2, g3, g4⟩ := vappend_ok (t := type) hw (hargs.2 0 (by simp) (by simp)) (hargs.2 1 (by simp) (by simp)) hv
      refine ⟨ρ2, v', w', g1, ?_, g3, g4⟩
      unfold builtin
      rw [Sem.run_bind]
      simp only [List.getElem_toArray, List.getElem_cons_zero, List.getElem_cons_succ] at g2
      rw [g2]
      rfl
    · rename_i x hxs
      rw [hxs] at hargs
      have hsz := hargs.1
      obtain ⟨x', he⟩ : ∃ x', c.args.map er = #[x'] := by
        generalize c.args.map er = l at hsz
        obtain ⟨l⟩ := l
        match l, hsz with
        | [a], _ => exact ⟨a, rfl⟩
      rw [he] at hargs ⊢
      split at h
      · cases h
      · rename_i hnc
        exact vv_ok hw (SR.len (hargs.2 0 (by simp) (by simp)) c.argTypes type (fun r e => hnc r e)) h
    · rename_i x y hxs
      rw [hxs] at hargs
      have hsz := hargs.1
      obtain ⟨x', y', he⟩ : ∃ s' x', c.args.map er = #[s', x'] := by
        generalize c.args.map er = l at hsz
        obtain ⟨l⟩ := l
        match l, hsz with
        | [a, b], _ => exact ⟨a, b, rfl⟩
      rw [he] at hargs ⊢
      exact vv_ok hw (SR.copy (hargs.2 0 (by simp) (by simp)) (hargs.2 1 (by simp) (by simp))) h
    · rename_i m k hxs
      rw [hxs] at hargs
      have hsz := hargs.1
      obtain ⟨m', k', he⟩ : ∃ s' x', c.args.map er = #[s', x'] := by
        generalize c.args.map er = l at hsz
        obtain ⟨l⟩ := l
        match l, hsz with
        | [a, b], _ => exact ⟨a, b, rfl⟩
      rw [he] at hargs ⊢
      cases hcond : ((c.argTypes[0]?).all (basicKey P)) && cleanC k with
      | false => rw [hcond] at h; cases h
      | true =>
        rw [hcond] at h
        simp only [Bool.and_eq_true] at hcond
        obtain rfl : k' = k := cleanC_eq hcond.2 (hargs.2 1 (by simp) (by simp))
        exact vv_ok hw (SR.delete (fun mt hmt => by have := hcond.1; rw [hmt] at this; simpa using this) hcond.2 (hargs.2 0 (by simp) (by simp))) h
    · rename_i x hxs
      rw [hxs] at hargs
      have hsz := hargs.1
      obtain ⟨x', he⟩ : ∃ x', c.args.map er = #[x'] := by
        generalize c.args.map er = l at hsz
        obtain ⟨l⟩ := l
        match l, hsz with
        | [a], _ => exact ⟨a, rfl⟩
      rw [he] at hargs ⊢
      cases hcond : ((c.argTypes[0]?).all (elemZeroOk P)) with
      | false => rw [hcond] at h; cases h
      | true =>
        rw [hcond] at h
        exact vv_ok hw (SR.clear (fun mt hmt => by rw [hmt] at hcond; simpa using hcond) (hargs.2 0 (by simp) (by simp))) h
    · rename_i x hxs
      rw [hxs] at hargs
      have hsz := hargs.1
      obtain ⟨x', he⟩ : ∃ x', c.args.map er = #[x'] := by
        generalize c.args.map er = l at hsz
        obtain ⟨l⟩ := l
        match l, hsz with
        | [a], _ => exact ⟨a, rfl⟩
      rw [he] at hargs ⊢
      split at h
      case h_2 => cases h
      rename_i v hv
      cases h
      obtain ⟨v', q1, q2⟩ := vsdata_ok (P := P) (ts := c.argTypes) (t := type) (hargs.2 0 (by simp) (by simp)) hv w
      refine ⟨ρ, v', w, Rho.le_refl _, ?_, q2, hw⟩
      unfold builtin
      simp only [List.getElem_toArray, List.getElem_cons_zero] at q1
      rw [Sem.run_bind, q1]
      rfl
    · rename_i x y hxs
      rw [hxs] at hargs
      have hsz := hargs.1
      obtain ⟨x', y', he⟩ : ∃ s' x', c.args.map er = #[s', x'] := by
        generalize c.args.map er = l at hsz
        obtain ⟨l⟩ := l
        match l, hsz with
        | [a, b], _ => exact ⟨a, b, rfl⟩
      rw [he] at hargs ⊢
      unfold vv at h
      split at h
      case h_2 => cases h
      rename_i v σ' hv
      cases h
      obtain ⟨w', q1, q2, q3⟩ := vustr_ok (t := type) hw (hargs.2 0 (by simp) (by simp)) (hargs.2 1 (by simp) (by simp)) hv
      refine ⟨ρ, v, w', Rho.le_refl _, ?_, q2, q3⟩
      unfold builtin
      simp only [List.getElem_toArray, List.getElem_cons_zero, List.getElem_cons_succ] at q1
      rw [Sem.run_bind, q1]
      rfl
    · cases h
theorem vop_ok {o : Oper} {ev er : Operand → Value} {r : VN} (hw : WRel ρ σ w0 w B0) (hE : ∀ x ∈ o.op.operands, VRel ρ (ev x) (er x)) (h : vop P o ev σ = some r) :
    OpOk w0 B0 ρ r ((execOp er o).run P w) := by
  unfold vop at h
  split at h
  · rename_i v hv
    cases h
    obtain ⟨hc, hrun⟩ := pureOp_ok (w := w) hE hv
    rw [hrun]
    exact val_ok hw (clean_rel hc ρ)
  · rename_i hnp
    clear hnp
    unfold execOp
    obtain ⟨dst, op, type, pos, after, guard⟩ := o
    simp only at h hE ⊢
    cases op <;> dsimp only at h ⊢ <;> first | (cases h; done) | skip
    case move x => cases h; exact val_ok hw (hE x (by simp [Op.operands]))
    case assign x => cases h; exact val_ok hw (hE x (by simp [Op.operands]))
    case pick c a b =>
      have hc := hE c (by simp [Op.operands])
      have ha := hE a (by simp [Op.operands])
      have hb := hE b (by simp [Op.operands])
      split at h
      case h_2 => cases h
      rename_i t he
      rw [he] at hc
      generalize er c = ec at hc
      cases hc
      cases h
      simp only [asBool, Sem.run_bind, Sem.run_pure, Result.andThen_ok]
      cases t
      · exact val_ok hw hb
      · exact val_ok hw ha
    case alloc e =>
      cases hz : zeroOk P e with
      | false => rw [hz] at h; cases h
      | true => rw [hz] at h; exact vv_ok hw (SR.alloc hz) h
    case box e x => exact vv_ok hw (SR.box (hE x (by simp [Op.operands])) e) h
    case build t parts =>
      cases hz : zeroOk P t with
      | false => rw [hz] at h; cases h
      | true => rw [hz] at h; exact vv_ok hw (SR.build hz (parts_rel parts fun p hp => hE p.2 (by simp only [Op.operands]; simpa using ⟨p.1, hp⟩))) h
    case buildSlice t n parts =>
      cases hz : elemZeroOk P t with
      | false => rw [hz] at h; cases h
      | true => rw [hz] at h; exact vv_ok hw (SR.buildSlice hz (parts_rel parts fun p hp => hE p.2 (by simp only [Op.operands]; simpa using ⟨p.1, hp⟩))) h
    case load t a => exact vv_ok hw (SR.loadAt (gres_ok hw (hE a (by simp [Op.operands]))) t) h
    case store t a x => exact vu_ok hw (SR.storeAt (hE a (by simp [Op.operands])) (hE x (by simp [Op.operands])) t) h
    case nilCheck x =>
      have hx := hE x (by simp [Op.operands])
      split at h
      · rename_i a he
        rw [he] at hx
        cases h
        generalize er x = ex at hx
        cases hx with
        | ptr hi => exact val_ok hw (.ptr hi)
      · rename_i f xs ys he
        rw [he] at hx
        cases h
        generalize er x = ex at hx
        cases hx with
        | func fn h1 h2 g1 g2 => exact val_ok hw (.func _ h1 h2 g1 g2)
      · cases h
    case binOp op t x y yt =>
      cases hn : vNil P t (ev x) (ev y) with
      | false =>
        rw [hn] at h
        simp only [cond_false] at h
        cases hs : vSame P t (ev x) (ev y) with
        | false => rw [hs] at h; cases h
        | true =>
          rw [hs] at h
          simp only [cond_true] at h
          have hok := fun op => vSame_ok (hE x (by simp [Op.operands])) (hE y (by simp [Op.operands])) hs w op x y
          split at h
          · cases h
            simp only [Sem.run_bind, pv_run (hok _).1, Result.andThen_ok, (hok .eql).2.1]
            exact val_ok hw (.bool _)
          · cases h
            simp only [Sem.run_bind, pv_run (hok _).1, Result.andThen_ok, (hok .neq).2.2]
            exact val_ok hw (.bool _)
          · cases h
      | true =>
        rw [hn] at h
        have hx := hE x (by simp [Op.operands])
        have hy := hE y (by simp [Op.operands])
        have hg := fun op => vNil_guard (op := op) (a := x) (b := y) hx hy hn
        obtain ⟨h1, h2⟩ := vNil_bin hx hy hn
        simp only [cond_true] at h
        split at h
        · cases h
          simp only [Sem.run_bind, pv_run (hg _), Result.andThen_ok, pv_run h1]
          exact val_ok hw (.bool _)
        · cases h
          simp only [Sem.run_bind, pv_run (hg _), Result.andThen_ok, pv_run h2]
          exact val_ok hw (.bool _)
        · cases h
    case convert src dst x =>
      unfold vv at h
      split at h
      case h_2 => cases h
      rename_i v σ' hv
      cases h
      obtain ⟨ρ2, v', w', g1, g2, g3, g4⟩ := vconvert_ok hw (hE x (by simp [Op.operands])) hv
      exact ⟨ρ2, v', w', g1, by rw [Sem.run_bind, g2]; rfl, g3, g4⟩
    case makeInterface t x => exact vv_ok hw (SR.makeInterface (hE x (by simp [Op.operands])) t) h
    case makeFunc fn xs ys =>
      cases h
      have h1 : ARel ρ (xs.map ev) (xs.map er) := ARel.map _ _ _ fun x hx => hE x (by simp [Op.operands, hx])
      have h2 : ARel ρ (ys.map ev) (ys.map er) := ARel.map _ _ _ fun x hx => hE x (by simp [Op.operands, hx])
      exact ⟨ρ, _, w, Rho.le_refl _, rfl, .func fn h1.1 h1.2 h2.1 h2.2, hw⟩
    case makeMap t r =>
      refine vv_ok hw (SR.makeMap t ?_) h
      cases r with
      | none => trivial
      | some x => exact hE x (by simp [Op.operands])
    case makeSlice t l c =>
      cases hz : elemZeroOk P t with
      | false => rw [hz] at h; cases h
      | true => rw [hz] at h; exact vv_ok hw (SR.makeSlice hz (hE l (by simp [Op.operands])) (hE c (by simp [Op.operands]))) h
    case slice t x lo hi mx =>
      split at h
      case h_2 => cases h
      rename_i v hv
      cases h
      obtain ⟨v', h1, h2⟩ := vslice_ok hw (gres_ok hw (hE x (by simp [Op.operands]))) (omap_rel lo fun y e => hE y (by subst e; simp [Op.operands])) (omap_rel hi fun y e => hE y (by subst e; simp [Op.operands])) (omap_rel mx fun y e => hE y (by subst e; simp [Op.operands])) hv
      exact ⟨ρ, v', w, Rho.le_refl _, by rw [Sem.run_bind, pv_run h1]; rfl, h2, hw⟩
    case fieldAddr s x f => exact vv_ok hw (SR.fieldAt (gres_ok hw (hE x (by simp [Op.operands]))) s f) h
    case field t x f => exact vv_ok hw (SR.field (hE x (by simp [Op.operands])) t f) h
    case indexAddr t x i => exact vv_ok hw (SR.indexAt (gres_ok hw (hE x (by simp [Op.operands]))) (hE i (by simp [Op.operands])) t) h
    case index t x i => exact vv_ok hw (SR.index (hE x (by simp [Op.operands])) (hE i (by simp [Op.operands])) t) h
    case lookup t m k ok =>
      cases hc : (basicKey P t && elemZeroOk P t && cleanC (ev k)) with
      | false => rw [hc] at h; cases h
      | true =>
        rw [hc] at h
        simp only [Bool.and_eq_true] at hc
        rw [cleanC_eq hc.2 (hE k (by simp [Op.operands]))]
        exact vv_ok hw (SR.lookup hc.1.1 hc.1.2 hc.2 (hE m (by simp [Op.operands])) ok) h
    case mapUpdate t m k x =>
      cases hc : (basicKey P t && cleanC (ev k)) with
      | false => rw [hc] at h; cases h
      | true =>
        rw [hc] at h
        simp only [Bool.and_eq_true] at hc
        rw [cleanC_eq hc.2 (hE k (by simp [Op.operands]))]
        exact vu_ok hw (SR.mapUpdate hc.1 hc.2 (hE m (by simp [Op.operands])) (hE x (by simp [Op.operands]))) h
    case insert t m k x =>
      cases hc : (basicKey P t && cleanC (ev k)) with
      | false => rw [hc] at h; cases h
      | true =>
        rw [hc] at h
        simp only [Bool.and_eq_true] at hc
        rw [cleanC_eq hc.2 (hE k (by simp [Op.operands]))]
        exact vu_ok hw (SR.mapUpdate hc.1 hc.2 (hE m (by simp [Op.operands])) (hE x (by simp [Op.operands]))) h
    case mapEntry t m k =>
      cases hc : (basicKey P t && elemZeroOk P t && cleanC (ev k)) with
      | false => rw [hc] at h; cases h
      | true =>
        rw [hc] at h
        simp only [Bool.and_eq_true] at hc
        rw [cleanC_eq hc.2 (hE k (by simp [Op.operands]))]
        exact vv_ok hw (SR.mapEntry hc.1.1 hc.1.2 hc.2 (hE m (by simp [Op.operands]))) h
    case entryStore t m s x => exact vu_ok hw (SR.entryStore (hE m (by simp [Op.operands])) (hE s (by simp [Op.operands])) (hE x (by simp [Op.operands]))) h
    case range t x =>
      have hx := hE x (by simp [Op.operands])
      split at h
      case h_2 => cases h
      rename_i s he
      rw [he] at hx
      exact vv_ok hw (SR.range hx ⟨s, rfl⟩ t) h
    case next it b =>
      cases b with
      | false => cases h
      | true => exact vv_ok hw (SR.next (hE it (by simp [Op.operands])) type) h
    case extract t i => exact vv_ok hw (SR.extract (hE t (by simp [Op.operands])) i) h
    case call c => exact vcall_ok hw (fun x hx => hE x (by simpa [Op.operands] using hx)) h
    case panic x =>
      have hx := hE x (by simp [Op.operands])
      split at h
      case h_2 => cases h
      rename_i t v he
      rw [he] at hx
      cases h
      generalize er x = ex at hx
      cases hx with
      | iface _ hv => exact ⟨ρ, _, w, Rho.le_refl _, rfl, .iface t hv, hw⟩
end
end Vm
end Go.Proofs.YtmapjahpjolmnaaDoor
namespace Go.Proofs.YtmapjahpjolmnaaDoor
namespace Vm
set_option linter.unusedSimpArgs false
set_option linter.unusedVariables false
open Go.RowKit

/-- Code that writes nothing. -/
def noW {α : Type} : Sem α → Prop
  | .pure _ => True
  | .load _ _ k => ∀ v, noW (k v)
  | .program k => ∀ P, noW (k P)
  | .mark _ k => noW k
  | .halt _ => True
  | _ => False
theorem noW_bind {α β : Type} : ∀ (s : Sem α) (k : α → Sem β), noW s → (∀ a, noW (k a)) → noW (s.bind k)
  | .pure a, k, _, h => h a
  | .load m a f, k, h, g => fun v => noW_bind (f v) k (h v) g
  | .program f, k, h, g => fun P => noW_bind (f P) k (h P) g
  | .mark m f, k, h, g => noW_bind f k h g
  | .halt x, k, _, _ => trivial
  | .store .., _, h, _ | .new .., _, h, _ | .shape .., _, h, _ | .freeze .., _, h, _ | .frozen .., _, h, _ | .getObj .., _, h, _ | .setObj .., _, h, _ | .choose .., _, h, _ | .sys .., _, h, _ => h.elim
theorem noW_run {α : Type} (P : Program) (s : Sem α) : ∀ (w : World) (a : α) (w' : World), noW s → s.run P w = .ok a w' → w' = w := by
  induction s with
  | pure b => intro w a w' _ h; cases h; rfl
  | load m ad f ih =>
    intro w a w' g h
    simp only [Sem.run] at h
    cases hc : w.cell? ad with
    | some v => rw [hc] at h; exact ih v w a w' (g v) h
    | none =>
      simp only [hc] at h
      cases hf : w.farLoad P ad (m == .atomic) with
      | error x => simp [hf] at h
      | ok r => simp only [hf] at h; exact ih r.1 w a w' (g r.1) h
  | program f ih => intro w a w' g h; exact ih P w a w' (g P) h
  | mark m f ih => intro w a w' g h; exact ih w a w' g h
  | halt x => intro w a w' _ h; cases h
  | _ => intro w a w' g h; exact g.elim
theorem noW_pure {α : Type} (a : α) : noW (pure a : Sem α) := trivial
theorem noW_underlying (t : TypeId) : noW (underlying t) := noW_bind _ _ (fun P => trivial) fun p => by cases p.underlying t <;> exact trivial
theorem noW_sizeOf (t : TypeId) : noW (sizeOf t) := noW_bind _ _ (noW_bind _ _ (fun P => trivial) fun p => by cases p.info? t <;> exact trivial) fun _ => trivial
theorem noW_isAgg (t : TypeId) : noW (isAgg t) := noW_bind _ _ (noW_underlying t) fun d => by cases d <;> exact trivial
theorem noW_loadFrom (a : Addr) : ∀ (n i : Nat) (acc : Array Value), noW (loadCellsFrom a i n acc)
  | 0, i, acc => trivial
  | n + 1, i, acc => noW_bind _ _ (fun v => trivial) fun v => noW_loadFrom a n (i + 1) _
theorem noW_loadVar (t : TypeId) (a : Addr) : noW (loadVar t a) := noW_bind _ _ (noW_isAgg t) fun b => by
  cases b
  · exact fun v => trivial
  · exact noW_bind _ _ (noW_sizeOf t) fun n => noW_bind _ _ (noW_loadFrom a n 0 _) fun _ => trivial
theorem noW_asAddr (v : Value) : noW (asAddr v) := by
  cases v <;> first | exact trivial | skip
  rename_i a
  cases a
  · exact noW_bind _ _ (fun P => trivial) fun P => trivial
  · exact trivial
def oneResult (tmps : Array Value) : ResultVar → Sem Value
  | .tmp t => pure (tmps.getD t undef)
  | .cell a t => do loadVar t (← asAddr (tmps.getD a undef))
theorem results_eq (fn : Func) (tmps : Array Value) : results fn tmps = (fn.results.mapM (oneResult tmps) >>= fun vs => pure (if h : vs.size = 1 then vs[0] else .tuple vs)) := by
  unfold results
  congr 1
theorem noW_one (tmps : Array Value) (r : ResultVar) : noW (oneResult tmps r) := by
  cases r with
  | tmp t => exact trivial
  | cell a t => exact noW_bind _ _ (noW_asAddr _) fun _ => noW_loadVar t _
theorem noW_results (fn : Func) (tmps : Array Value) : noW (results fn tmps) := by
  rw [results_eq]
  refine noW_bind _ _ ?_ fun _ => trivial
  rw [Array.mapM_eq_mapM_toList]
  refine noW_bind _ _ ?_ fun _ => trivial
  induction fn.results.toList with
  | nil => exact trivial
  | cons r l ih =>
    rw [List.mapM_cons]
    exact noW_bind _ _ (noW_one _ _) fun _ => noW_bind _ _ ih fun _ => trivial

section
variable {P : Program} {w0 w : World} {B0 : Base} {ρ : Rho} {σ : VHeap}
theorem ARel.getD {xs ys : Array Value} (h : ARel ρ xs ys) (t : Nat) : VRel ρ (xs.getD t undef) (ys.getD t undef) := by
  simp only [Array.getD_eq_getD_getElem?]
  cases hx : xs[t]? with
  | none => rw [h.get_none hx]; exact clean_rel (by simp [undef, clean]) ρ
  | some v =>
    obtain ⟨v', h1, h2⟩ := h.get? hx
    rw [h1]; exact h2
theorem SR.asAddr {v v' : Value} (h : VRel ρ v v') : SR P w0 B0 ρ PRel (asAddr v) (asAddr v') := by
  cases h <;> unfold Go.asAddr <;> first | exact SR.stuck | exact SR.panics | skip
  case ptr id off i h => exact SR.pure fun ρ1 hle => ⟨i, hle _ _ h, rfl, rfl⟩
theorem SR.one {tv tr : Array Value} (h : ARel ρ tv tr) (r : ResultVar) : SR P w0 B0 ρ VRel (oneResult tv r) (oneResult tr r) := by
  cases r with
  | tmp t => exact SR.pure fun _ hle => (h.mono hle).getD t
  | cell a t => exact SR.bind (SR.asAddr (h.getD a)) fun ρ1 _ _ _ hx => SR.loadVar hx t
def LRel (ρ : Rho) (xs ys : List Value) : Prop := ARel ρ xs.toArray ys.toArray
theorem SR.ones (l : List ResultVar) : ∀ {ρ : Rho} {tv tr : Array Value}, ARel ρ tv tr → SR P w0 B0 ρ LRel (l.mapM (oneResult tv)) (l.mapM (oneResult tr)) := by
  induction l with
  | nil => intro ρ tv tr h; exact SR.pure fun _ _ => ARel.nil _
  | cons r l ih =>
    intro ρ tv tr h
    rw [List.mapM_cons, List.mapM_cons]
    refine SR.bind (SR.one h r) fun ρ1 x y hle hx => SR.bind (ih (h.mono hle)) fun ρ2 xs ys hle2 hxs => SR.pure fun ρ3 hle3 => ?_
    refine ⟨by simpa using hxs.1, fun k hk hk' => ?_⟩
    cases k with
    | zero => exact (hx.mono hle2).mono hle3
    | succ k =>
      have := (hxs.mono hle3).2 k (by simpa using hk) (by simpa using hk')
      simpa using this
theorem SR.results (fn : Func) {tv tr : Array Value} (h : ARel ρ tv tr) : SR P w0 B0 ρ VRel (results fn tv) (results fn tr) := by
  rw [results_eq, results_eq]
  refine SR.bind (A := ARel) ?_ fun ρ1 xs ys hle hx => SR.pure fun ρ2 hle2 => ?_
  · rw [Array.mapM_eq_mapM_toList, Array.mapM_eq_mapM_toList]
    exact SR.bind (SR.ones _ h) fun ρ1 xs ys _ hx => SR.pure fun ρ2 hle2 => hx.mono hle2
  · have h2 := hx.mono hle2
    by_cases h1 : xs.size = 1
    · rw [dif_pos h1, dif_pos (h2.1 ▸ h1)]
      exact h2.2 0 _ _
    · rw [dif_neg h1, dif_neg (h2.1 ▸ h1)]
      exact .tuple h2.1 h2.2
theorem results_ok {fn : Func} {tv tr : Array Value} {v : Value} {σ' : VHeap} (hw : WRel ρ σ w0 w B0) (h : ARel ρ tv tr) (hv : vrun P (results fn tv) σ = some (v, σ')) :
    ∃ ρ2 v', ρ.le ρ2 ∧ (results fn tr).run P w = .ok v' w ∧ VRel ρ2 v v' ∧ WRel ρ2 σ' w0 w B0 := by
  obtain ⟨ρ2, y, w', h1, h2, h3, h4⟩ := SR.results (P := P) (w0 := w0) (B0 := B0) fn h ρ σ w v σ' (Rho.le_refl _) hw hv
  obtain rfl := noW_run P _ w y w' (noW_results fn tr) h2
  exact ⟨ρ2, y, h1, h2, h3, h4⟩

/-- All that a caller has is only looked at. -/
def frz : VObj → VObj
  | .cells b => if b.fl = .dead then .cells b else .cells { b with fl := .ro, kin := false }
  | .map es c => .rmap es c
  | .rmap es c => .rmap es c
  | .iter _ _ => .cells ⟨#[], 0, .dead, false, 0, 0⟩
def frozenHeap (σ : VHeap) : VHeap := σ.map frz
def Rho.frz (ρ : Rho) : Rho := fun id => (ρ id).map fun i => { i with kind := .ro }
theorem VRel.frz {v v' : Value} (h : VRel ρ v v') : VRel ρ.frz v v' := by
  have hf : ∀ {id i}, ρ id = some i → ρ.frz id = some { i with kind := .ro } := fun {id i} h => by simp [Rho.frz, h]
  induction h with
  | bool b => exact .bool b
  | int k n => exact .int k n
  | float k n => exact .float k n
  | complex k a b => exact .complex k a b
  | string s => exact .string s
  | ptrNil => exact .ptrNil
  | @ptr id off i h => exact .ptr (i := { i with kind := .ro }) (hf h)
  | sliceNil n c => exact .sliceNil n c
  | @slice id off n c c' i h hc =>
    refine .slice (i := { i with kind := .ro }) (hf h) ?_
    unfold CapOk at hc ⊢
    split at hc <;> first | (subst hc; exact Nat.le_refl _) | exact hc.1 | exact hc
  | sliceOff id off a c' => exact .sliceOff id off a c'
  | glob g => exact .glob g
  | mapNil => exact .mapNil
  | @map id i h => exact .map (i := { i with kind := .ro }) (hf h)
  | func fn h1 _ g1 _ ih ih' => exact .func fn h1 ih g1 ih'
  | nilFunc => exact .nilFunc
  | iface t _ ih => exact .iface t ih
  | nilIface => exact .nilIface
  | agg h1 _ ih => exact .agg h1 ih
  | tuple h1 _ ih => exact .tuple h1 ih
theorem ARel.frz {xs ys : Array Value} (h : ARel ρ xs ys) : ARel ρ.frz xs ys := ⟨h.1, fun k a b => (h.2 k a b).frz⟩
def Base.froz (B0 : Base) (w : World) : Base := ⟨(· < w.heap.size), B0.H, (· < w.heap.size)⟩
theorem WRel.freeze (h : WRel ρ σ w0 w B0) : WRel ρ.frz (frozenHeap σ) w w (B0.froz w) := by
  have hf : ∀ {id i}, ρ id = some i → ρ.frz id = some { i with kind := .ro } := fun {id i} h => by simp [Rho.frz, h]
  have hget : ∀ {id : Nat} {o : VObj}, (frozenHeap σ)[id]? = some o → ∃ o' : VObj, σ[id]? = some o' ∧ o = Vm.frz o' := by
    intro id o ho
    simp only [frozenHeap, Array.getElem?_map] at ho
    cases hs : σ[id]? with
    | none => simp [hs] at ho
    | some o' => simp only [hs, Option.map_some, Option.some.injEq] at ho; exact ⟨o', rfl, ho.symm⟩
  constructor
  · intro id hid
    simp [Rho.frz, h.dom id (by simpa [frozenHeap] using hid)]
  · intro id b hb hd
    obtain ⟨o', ho, e⟩ := hget hb
    cases o' with
    | map es c => cases e
    | rmap es c => cases e
    | iter s p => cases e; exact absurd rfl hd
    | cells b' =>
      by_cases hd' : b'.fl = .dead
      · simp only [Vm.frz, hd', if_true] at e; cases e; exact absurd hd' hd
      · simp only [Vm.frz, hd', if_false] at e
        cases e
        obtain ⟨i, cs, fz, hi, hr⟩ := h.blk id b' ho hd'
        refine ⟨_, cs, fz, hf hi, hr.at_, hr.len, fun k a b => (hr.cells k a b).frz, fun _ => ⟨⟨(Array.getElem?_eq_some_iff.1 hr.at_).1, (Array.getElem?_eq_some_iff.1 hr.at_).1⟩, rfl, fun x => by cases x⟩, by simp, by simp, by simp⟩
  · intro id es c hg
    obtain ⟨o', ho, e⟩ := hget hg
    cases o' <;> simp only [Vm.frz] at e <;> first | (cases e; done) | (split at e <;> cases e)
  · intro id es c hg
    obtain ⟨o', ho, e⟩ := hget hg
    cases o' with
    | cells b => simp only [Vm.frz] at e; split at e <;> cases e
    | iter s p => cases e
    | map es' c' =>
      cases e
      obtain ⟨i, fs, h1, h2, h3, h4, h5⟩ := h.map id es c ho
      exact ⟨_, fs, hf h1, h2, ⟨(Array.getElem?_eq_some_iff.1 h4).1, (Array.getElem?_eq_some_iff.1 h4).1⟩, h4, ⟨h5.1, fun k a b => ⟨(h5.2 k a b).1, (h5.2 k a b).2.1, (h5.2 k a b).2.2.1.frz, (h5.2 k a b).2.2.2⟩⟩⟩
    | rmap es' c' =>
      cases e
      obtain ⟨i, fs, h1, h2, h3, h4, h5⟩ := h.rmap id es c ho
      exact ⟨_, fs, hf h1, h2, ⟨(Array.getElem?_eq_some_iff.1 h4).1, (Array.getElem?_eq_some_iff.1 h4).1⟩, h4, ⟨h5.1, fun k a b => ⟨(h5.2 k a b).1, (h5.2 k a b).2.1, (h5.2 k a b).2.2.1.frz, (h5.2 k a b).2.2.2⟩⟩⟩
  · intro id s p hg
    obtain ⟨o', ho, e⟩ := hget hg
    cases o' <;> simp only [Vm.frz] at e <;> first | (cases e; done) | (split at e <;> cases e)
  · intro id1 id2 o1 o2 i1 i2 h12 g1 g2 w1 w2 r1 r2 hb12
    obtain ⟨o', ho, e⟩ := hget g1
    exfalso
    subst e
    cases o' with
    | cells b =>
      simp only [Vm.frz] at w1
      split at w1
      · rename_i hd; simp [VObj.own, hd] at w1
      · simp [VObj.own] at w1
    | map es c => simp [Vm.frz, VObj.own] at w1
    | rmap es c => simp [Vm.frz, VObj.own] at w1
    | iter s p => simp [Vm.frz, VObj.own] at w1
  · exact fun k hk => hk
  · exact Keeps.refl _ _
  · intro k hk
    have := h.hole k hk
    exact ⟨by simp [Rho.frz, this.1], by simpa [frozenHeap] using this.2⟩
/-- Nothing of what was there has turned. -/
theorem WRel.later (h : WRel ρ σ w0 w B0) {w' : World} (hb : Below w.heap.size w w') : WRel ρ σ w0 w' B0 := by
  have hB := h.base
  constructor
  · exact h.dom
  · intro id b hg hd
    obtain ⟨i, cs, fz, hi, hr⟩ := h.blk id b hg hd
    exact ⟨i, cs, fz, hi, hr.keep (Rho.le_refl _) (hb.block _ (Array.getElem?_eq_some_iff.1 hr.at_).1)⟩
  · intro id es c hg
    obtain ⟨i, fs, h1, h2, h3, h4, h5⟩ := h.map id es c hg
    exact ⟨i, fs, h1, h2, h3, (hb.block _ (Array.getElem?_eq_some_iff.1 h4).1).trans h4, h5⟩
  · intro id es c hg
    obtain ⟨i, fs, h1, h2, h3, h4, h5⟩ := h.rmap id es c hg
    exact ⟨i, fs, h1, h2, h3, (hb.block _ (Array.getElem?_eq_some_iff.1 h4).1).trans h4, h5⟩
  · intro id s p hg
    obtain ⟨i, h1, h2, h3, h4⟩ := h.iter id s p hg
    exact ⟨i, h1, h2, h3, (hb.block _ (Array.getElem?_eq_some_iff.1 h4).1).trans h4⟩
  · exact h.sep
  · exact fun k hk => Nat.lt_of_lt_of_le (h.base k hk) hb.size
  · exact h.below.trans (Keeps.of_below hb h.base)
  · exact h.hole
end
end Vm
end Go.Proofs.YtmapjahpjolmnaaDoor
