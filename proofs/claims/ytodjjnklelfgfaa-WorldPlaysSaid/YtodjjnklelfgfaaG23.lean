/- Conversions of texts and bytes; what is compared with nil; the virtual answer of every operation, and that it is sound. -/
import Derived.Test.YtodjjnklelfgfaaG22
import Derived.Lib.ConvBytes
import Derived.Laws.IdiomStrings
import Derived.Lib.Builder
import Derived.LaidEqlPtr
import Derived.Lib.MakeNoZero
import Derived.Lib.UnsafeStr
import Derived.Laws.Externs
set_option linter.unusedVariables false
set_option linter.unusedSimpArgs false
namespace Go.Proofs.Ytodjjnklelfgfaa
namespace Vm
set_option linter.unusedSimpArgs false
set_option linter.unusedVariables false
open Go.RowKit

section
variable {P : Program} {w0 w : World} {B0 : Base} {ρ : Rho} {σ : VHeap}
def u8s (s : ByteArray) : Array Value := s.data.map fun b => .int .u8 (b.toNat : Int)
def toByte : Value → Option UInt8
  | .int .u8 n => if 0 ≤ n ∧ n < 256 then some (UInt8.ofNat n.toNat) else none
  | _ => none
def toBytes : List Value → Option (List UInt8)
  | [] => some []
  | v :: l => match toByte v, toBytes l with
    | some b, some bs => some (b :: bs)
    | _, _ => none
theorem toByte_some {v : Value} {b : UInt8} (h : toByte v = some b) : v = .int .u8 (b.toNat : Int) := by
  cases v with
  | int k n =>
    cases k <;> first | (cases h; done) | skip
    simp only [toByte] at h
    split at h
    · rename_i hn
      cases h
      have : (UInt8.ofNat n.toNat).toNat = n.toNat := UInt8.toNat_ofNat_of_lt' (by simp [UInt8.size]; omega)
      rw [this, Int.toNat_of_nonneg hn.1]
    · cases h
  | _ => cases h
theorem toBytes_some : ∀ {l : List Value} {bs : List UInt8}, toBytes l = some bs → l.length = bs.length ∧ ∀ k (h : k < l.length) (h' : k < bs.length), l[k] = .int .u8 (bs[k].toNat : Int)
  | [], bs, h => by cases h; exact ⟨rfl, fun k h => by simp at h⟩
  | v :: l, bs, h => by
    unfold toBytes at h
    split at h
    case h_2 => cases h
    rename_i b bs' h1 h2
    cases h
    obtain ⟨e1, e2⟩ := toBytes_some h2
    refine ⟨by simp [e1], fun k hk hk' => ?_⟩
    cases k with
    | zero => exact toByte_some h1
    | succ k => simpa using e2 k (by simpa using hk) (by simpa using hk')
def vconvert (P : Program) (σ : VHeap) (src dst : TypeId) (x : Value) : Option (Value × VHeap) :=
  match P.underlying src, P.underlying dst, x with
  | some .string, some (.slice e), .string s =>
    match P.underlying e with
    | some (.int .u8) => some (.slice (some ⟨σ.size, 0, none⟩) s.size s.size, σ.push (.cells ⟨u8s s, e, .tip, false, σ.size, 1⟩))
    | _ => none
  | some (.slice e), some .string, .slice (some a) n c =>
    match P.underlying e with
    | some (.int .u8) =>
      match (vfirst σ 1 n (.slice (some a) n c)).map fun cs => toBytes cs.toList with
      | some (some bs) => some (.string ⟨bs.toArray⟩, σ)
      | _ => none
    | _ => none
  | some (.pointer t), some .unsafePointer, .pointer (some ⟨id, off, none⟩) =>
    match σ[id]?, P.info? t with
    | some (.cells b), some j => if b.fl ≠ .dead ∧ j.size ≠ 0 ∧ off < b.cells.size then some (.pointer (some ⟨id, off, none⟩), σ) else none
    | _, _ => none
  | some .unsafePointer, some (.pointer u), .pointer (some ⟨id, off, none⟩) =>
    match σ[id]?, P.info? u with
    | some (.cells b), some _ => if b.fl = .ex ∧ liesAt P P.depth b.elem (b.cells.size / P.cellsOf b.elem) off u 1 = true then some (.pointer (some ⟨id, off, none⟩), σ) else none
    | _, _ => none
  | _, _, _ => none
theorem vconvert_ok {src dst : TypeId} {x x' v : Value} {σ' : VHeap} (hw : WRel ρ σ w0 w B0) (hx : VRel ρ x x') (h : vconvert P σ src dst x = some (v, σ')) :
    ∃ ρ2 v' w', ρ.le ρ2 ∧ (convert src dst x').run P w = .ok v' w' ∧ VRel ρ2 v v' ∧ WRel ρ2 σ' w0 w' B0 := by
  unfold vconvert at h
  split at h
  · rename_i e s hs hd
    split at h
    case h_2 => cases h
    rename_i he
    cases h
    cases hx
    have hcut : s.size ≤ grownCap w s.size 0 e := by simp [grownCap, Question.cut]
    have hsz : (Lib.bytesCells w e s).size = grownCap w s.size 0 e := by
      have : s.data.size = s.size := rfl
      simp [Lib.bytesCells, this]; omega
    have hnew := hw.newTip (w' := Lib.bytesWorld w e s) (cs := u8s s) (cs' := u8s s) (rest := Array.replicate (grownCap w s.size 0 e - s.size) (.int .u8 0)) (e := e)
      (fz := ((Lib.bytesCells w e s).size, (Lib.bytesCells w e s).size + 1)) 1 false σ.size
      ⟨rfl, rfl, rfl, by simp [Lib.bytesWorld_size], fun k hk => Lib.bytesWorld_at_old w e s k hk⟩ (by simp [Lib.bytesWorld_size]) (Lib.bytesWorld_at_new w e s)
      (fun k hk => by
        have : (Lib.bytesCells w e s) = (u8s s) ++ Array.replicate (grownCap w s.size 0 e - s.size) (.int .u8 0) := rfl
        rw [← this] at hk; omega)
      ⟨rfl, fun k hk hk' => by simp only [u8s, Array.getElem_map]; exact .int _ _⟩
    refine ⟨_, _, _, Rho.le_more (hw.dom _ (Nat.le_refl _)) _, Lib.run_convert_string_bytes w src dst e s hs hd he, ?_, hnew⟩
    have htot : (u8s s ++ Array.replicate (grownCap w s.size 0 e - s.size) (Value.int .u8 0)).size = grownCap w s.size 0 e := hsz
    have := VRel.slice (ρ := ρ.more σ.size ⟨w.heap.size, 0, 1, (u8s s ++ Array.replicate (grownCap w s.size 0 e - s.size) (Value.int .u8 0)).size, .gr⟩) (id := σ.size) (off := 0) (n := s.size) (c := s.size)
      (c' := grownCap w s.size 0 e) (Rho.more_self _ _ _) (by simp only [CapOk]; rw [htot]; exact ⟨hcut, by omega⟩)
    simpa using this
  · rename_i e a n c hs hd
    split at h
    case h_2 => cases h
    rename_i he
    split at h
    case h_2 => cases h
    rename_i bs hbs
    cases h
    cases hf : vfirst σ 1 n (.slice (some a) n c) with
    | none => simp [hf] at hbs
    | some cs =>
      simp only [hf, Option.map_some, Option.some.injEq] at hbs
      obtain ⟨e1, e2⟩ := toBytes_some hbs
      have hn : ∀ (hh : cs.size = n), bs.length = n := fun hh => by rw [← e1, Array.length_toList, hh]
      cases hx with
      | @slice id off n c c' i hi hc =>
        simp only [vfirst, Nat.mul_one] at hf
        split at hf
        · rename_i h0
          cases hf
          subst h0
          obtain rfl : bs = [] := by cases bs with | nil => rfl | cons b bs => simp at e1
          refine ⟨ρ, _, w, Rho.le_refl _, ?_, .string _, hw⟩
          exact run_convert_bytes_back w src dst e ⟨i.b, i.o + off, none⟩ c' [] hs he hd (fun j hj => by simp at hj)
        · cases hg : σ[id]? with
          | none => simp [hg] at hf
          | some o =>
            cases o with
            | map es cl => simp [hg] at hf
            | iter s p => simp [hg] at hf
            | rmap es cl => simp [hg] at hf
            | cells b =>
              simp only [hg] at hf
              split at hf
              case isFalse => cases hf
              rename_i hd2
              cases hf
              obtain ⟨i', cr, fz, hi', hr⟩ := hw.blk id b hg hd2.1
              obtain rfl : i = i' := by rw [hi] at hi'; exact Option.some.inj hi'
              have hlen := hr.len
              have hbl : bs.length = n := hn (by simp; omega)
              refine ⟨ρ, _, w, Rho.le_refl _, ?_, .string _, hw⟩
              have := run_convert_bytes_back (P := P) w src dst e ⟨i.b, i.o + off, none⟩ c' bs hs he hd (fun j hj => by
                rw [add_none]
                have hlt : i.o + (off + j) < cr.size := by omega
                have hv := hr.cells (off + j) (by omega) hlt
                have h3 := e2 j (by simp; omega) hj
                simp only [Array.getElem_toList, Array.getElem_extract] at h3
                rw [h3] at hv
                have h4 : cr[i.o + (off + j)] = .int .u8 (bs[j].toNat : Int) := cleanC_eq rfl hv
                simp only [World.cell?, hr.at_]
                simp only [Option.isSome_none, Bool.false_eq_true, if_false]
                rw [Nat.add_assoc, Array.getElem?_eq_getElem hlt, h4])
              rw [hbl] at this
              exact this
      | sliceOff id off a c' =>
        have hcs : cs = #[] := by simp [vfirst] at hf; exact hf
        subst hcs
        obtain rfl : bs = [] := by cases bs with | nil => rfl | cons b bs => simp at e1
        refine ⟨ρ, _, w, Rho.le_refl _, ?_, .string _, hw⟩
        exact run_convert_bytes_back w src dst e a c' [] hs he hd (fun j hj => by simp at hj)
  · rename_i t id off hs hd
    split at h
    case h_2 => cases h
    rename_i b j hg hj
    split at h
    case isFalse => cases h
    rename_i hc
    cases h
    cases hx with
    | ptr hi =>
      obtain ⟨i', cr, fz, hi', hr⟩ := hw.blk id b hg hc.1
      rw [hi] at hi'
      cases hi'
      have hlen := hr.len
      exact ⟨ρ, _, w, Rho.le_refl _, Lib.run_to_unsafe (e := b.elem) (cells := cr.size) w _ hs hd hj hc.2.1 (by simp [World.shape?, hr.at_]) (by simp only; omega), .ptr hi, hw⟩
  · rename_i u id off hs hd
    split at h
    case h_2 => cases h
    rename_i b j hg hj
    split at h
    case isFalse => cases h
    rename_i hc
    cases h
    cases hx with
    | ptr hi =>
      obtain ⟨i', cr, fz, hi', hr⟩ := hw.blk id b hg (by rw [hc.1]; decide)
      rw [hi] at hi'
      cases hi'
      obtain ⟨-, ho, hz⟩ := hr.ex hc.1
      exact ⟨ρ, _, w, Rho.le_refl _, Lib.run_from_unsafe (e := b.elem) (cells := cr.size) w _ hs hd hj (by simp [World.shape?, hr.at_]) (by rw [← hz]; simp only [ho, Nat.zero_add]; exact hc.2), .ptr hi, hw⟩
  · cases h

/-- One side is nil, the other one is not. -/
def vNil (P : Program) (t : TypeId) (x y : Value) : Bool :=
  match P.underlying t, x, y with
  | some (.pointer _), .pointer (some _), .pointer none | some (.pointer _), .pointer none, .pointer (some _) => true
  | some (.slice _), .slice (some _) _ _, .slice none _ _ | some (.slice _), .slice none _ _, .slice (some _) _ _ => true
  | some (.map _ _), .map (some _), .map none | some (.map _ _), .map none, .map (some _) => true
  | some (.func _ _ _), .func _ _ _, .nilFunc | some (.func _ _ _), .nilFunc, .func _ _ _ => true
  | _, _, _ => false
theorem vNil_ok {t : TypeId} {x x' y y' : Value} (hx : VRel ρ x x') (hy : VRel ρ y y') (h : vNil P t x y = true) : pv P (Op.equal t x' y') = some false := by
  unfold Op.equal Op.maxDepth
  rw [show (10000 : Nat) = 9999 + 1 from rfl]
  unfold Op.equalIn
  unfold vNil at h
  cases hu : P.underlying t with
  | none => simp [hu] at h
  | some d =>
    rw [pv_bind, pv_underlying hu]
    simp only [Option.bind_some]
    simp only [hu] at h
    cases d <;> first | (simp at h; done) | skip
    all_goals (cases hx <;> first | (simp at h; done) | skip)
    all_goals (cases hy <;> first | (simp at h; done) | rfl)
theorem vNil_guard {op : BinOp} {t : TypeId} {a b : Operand} {x x' y y' : Value} (hx : VRel ρ x x') (hy : VRel ρ y y') (h : vNil P t x y = true) : pv P (eqGuard op t a b x' y') = some () := by
  unfold eqGuard
  unfold vNil at h
  cases hu : P.underlying t with
  | none => simp [hu] at h
  | some d =>
    simp only [hu] at h
    cases d <;> first | (simp at h; done) | skip
    all_goals (cases hx <;> first | (simp at h; done) | skip)
    all_goals (cases hy <;> first | (simp at h; done) | (cases op <;> rfl))
theorem vNil_bin {t : TypeId} {x x' y y' : Value} (hx : VRel ρ x x') (hy : VRel ρ y y') (h : vNil P t x y = true) : pv P (binOp .eql t x' y') = some (.bool false) ∧ pv P (binOp .neq t x' y') = some (.bool true) := by
  have he := vNil_ok hx hy h
  unfold vNil at h
  cases hu : P.underlying t with
  | none => simp [hu] at h
  | some d =>
    simp only [hu] at h
    cases d <;> first | (simp at h; done) | skip
    all_goals (cases hx <;> first | (simp at h; done) | skip)
    all_goals (cases hy <;> first | (simp at h; done) | skip)
    all_goals exact ⟨by unfold binOp; rw [pv_bind, he]; rfl, by unfold binOp; rw [pv_bind, he]; rfl⟩
/-- Both sides are one address. -/
def vSame (P : Program) (t : TypeId) (x y : Value) : Bool :=
  match P.underlying t, x, y with
  | some (.pointer te), .pointer (some ⟨i, o, none⟩), .pointer (some ⟨j, p, none⟩) => i == j && o == p && (P.info? te).isSome
  | _, _, _ => false
theorem vSame_ok {t : TypeId} {x x' y y' : Value} (hx : VRel ρ x x') (hy : VRel ρ y y') (h : vSame P t x y = true) (w : World) (op : BinOp) (a b : Operand) :
    pv P (eqGuard op t a b x' y') = some () ∧ (binOp .eql t x' y').run P w = .ok (.bool true) w ∧ (binOp .neq t x' y').run P w = .ok (.bool false) w := by
  unfold vSame at h
  split at h
  case h_2 => cases h
  rename_i te i o j p hu
  simp only [Bool.and_eq_true, beq_iff_eq, Option.isSome_iff_exists] at h
  obtain ⟨⟨rfl, rfl⟩, q, hq⟩ := h
  cases hx with
  | ptr h1 =>
    cases hy with
    | ptr h2 =>
      rw [h1] at h2
      cases h2
      refine ⟨?_, run_eql_ptr_same w _ hu hq, Lib.run_neq_ptr_same w _ hu hq⟩
      unfold eqGuard
      cases op <;> first | rfl | simp [pv, hu]
end
end Vm
end Go.Proofs.Ytodjjnklelfgfaa
namespace Go.Proofs.Ytodjjnklelfgfaa
namespace Vm
set_option linter.unusedSimpArgs false
set_option linter.unusedVariables false
open Go.RowKit

/-- The virtual block of a global: the first blocks, which came in, marked with the global's number. -/
def gfind (σ : VHeap) (g : Nat) : Nat → Nat → Option Nat
  | 0, _ => none
  | n + 1, k => match σ[k]? with
    | some (.cells b) => bif decide (b.fl = .ro) && b.kin then (bif b.root == g then some k else gfind σ g n (k + 1)) else none
    | _ => none
def gres (σ : VHeap) (v : Value) : Value := match v with
  | .chan (some g) => match gfind σ g 16 0 with
    | some id => .pointer (some ⟨id, 0, none⟩)
    | none => v
  | v => v
theorem gfind_some {σ : VHeap} {g : Nat} : ∀ {n k id : Nat}, gfind σ g n k = some id → ∃ b, σ[id]? = some (.cells b) ∧ b.fl = .ro ∧ b.kin = true ∧ b.root = g
  | 0, _, _, h => by cases h
  | n + 1, k, id, h => by
    unfold gfind at h
    split at h
    case h_2 => cases h
    rename_i b hb
    cases hc : decide (b.fl = .ro) && b.kin with
    | false => rw [hc] at h; cases h
    | true =>
      rw [hc] at h
      simp only [cond_true] at h
      simp only [Bool.and_eq_true, decide_eq_true_eq] at hc
      cases hg : b.root == g with
      | false => rw [hg] at h; exact gfind_some h
      | true =>
        rw [hg] at h
        cases h
        exact ⟨b, hb, hc.1, hc.2, by simpa using hg⟩
theorem gres_ok {ρ : Rho} {σ : VHeap} {w0 w : World} {B0 : Base} {v v' : Value} (hw : WRel ρ σ w0 w B0) (h : VRel ρ v v') : VRel ρ (gres σ v) v' := by
  unfold gres
  split
  · rename_i g
    split
    · rename_i id hid
      obtain ⟨b, hb, hf, hk, rfl⟩ := gfind_some hid
      obtain ⟨i, cs, fz, hi, hr⟩ := hw.blk id b hb (by rw [hf]; decide)
      obtain ⟨h1, h2⟩ := (hr.ro hf).2.2 hk
      cases h
      have := VRel.ptr (off := 0) hi
      rw [h1, h2] at this
      exact this
    · exact h
  · exact h
def vmnz (P : Program) (fn : Func) (args : Array Value) (σ : VHeap) : Option (Value × VHeap) :=
  match fn.resultTypes, args with
  | ⟨[t]⟩, ⟨[.int .i64 (.ofNat n)]⟩ =>
    match P.underlying t with
    | some (.slice e) => if n ≤ 281474976710656 then some (.slice (some ⟨σ.size, 0, none⟩) n n, σ.push (.cells ⟨#[], e, .tip, false, σ.size, 1⟩)) else none
    | _ => none
  | _, _ => none
theorem find_mnz {fn : Func} (h : fn.name = "internal/bytealg.MakeNoZero") : Extern.find fn = some (Extern.BytealgMakeNoZero.makeNoZero fn.params fn.resultTypes) := by
  unfold Extern.find
  have e1 : Extern.allGenericRows.lookup "internal/bytealg.MakeNoZero" = none := by kernel_rfl
  have e2 : Extern.allTypedRows.lookup "internal/bytealg.MakeNoZero" = some Extern.BytealgMakeNoZero.makeNoZero := by kernel_rfl
  simp only [h, e1, e2]
  rfl
section
variable {P : Program} {w0 w : World} {B0 : Base} {ρ : Rho} {σ : VHeap}
theorem vmnz_ok {fn : Func} {args args' : Array Value} {v : Value} {σ' : VHeap} (hw : WRel ρ σ w0 w B0) (ha : ARel ρ args args') (h : vmnz P fn args σ = some (v, σ')) :
    ∃ ρ2 v' w', ρ.le ρ2 ∧ (Extern.BytealgMakeNoZero.makeNoZero fn.params fn.resultTypes args').run P w = .ok v' w' ∧ VRel ρ2 v v' ∧ WRel ρ2 σ' w0 w' B0 := by
  unfold vmnz at h
  split at h
  case h_2 => cases h
  rename_i t n hr
  split at h
  case h_2 => cases h
  rename_i e hu
  split at h
  case isFalse => cases h
  rename_i hn
  cases h
  obtain ⟨l⟩ := args'
  match l, ha with
  | [], ha => exact absurd ha.1 (by simp)
  | _ :: _ :: _, ha => exact absurd ha.1 (by simp)
  | [x'], ha =>
  have hx : VRel ρ (.int .i64 (.ofNat n)) x' := ha.2 0 (by simp) (by simp)
  cases hx
  obtain ⟨cs, hrun, hle, -⟩ := Lib.run_makeNoZero w fn.params t e hu n hn
  have hnew := hw.newTip (w' := w.drew.drew.alloc (.cells cs e)) (cs := #[]) (cs' := #[]) (rest := cs) (e := e) (fz := (0, 0)) 1 false σ.size
    ((((Below.refl _ w).drew).drew).alloc (Nat.le_refl _) _) (by simp) (by rw [Array.empty_append]; exact heap_new w.drew.drew _) (fun k _ => by simp) (ARel.nil _)
  refine ⟨_, _, _, Rho.le_more (hw.dom _ (Nat.le_refl _)) _, by rw [hr]; exact hrun, ?_, hnew⟩
  have := VRel.slice (ρ := ρ.more σ.size ⟨w.heap.size, 0, 1, (#[] ++ cs).size, .gr⟩) (id := σ.size) (off := 0) (n := n) (c := n) (c' := cs.size) (Rho.more_self _ _ _)
    (by simp only [CapOk]; exact ⟨hle, by simp⟩)
  simpa using this
theorem freeze_at (w : World) (p : Addr) (n : Nat) {cs : Array Value} {e : TypeId} {fz : Nat × Nat} (h : w.heap[p.block]? = some (.cells cs e fz)) : ∃ fz', (w.freeze p n).heap[p.block]? = some (.cells cs e fz') := by
  unfold World.freeze
  split
  · exact ⟨fz, h⟩
  · obtain ⟨lo, hi⟩ := fz
    simp only [Array.getElem?_modify, if_true, h, Option.map_some]
    exact ⟨_, rfl⟩
theorem freeze_other (w : World) (p : Addr) (n k : Nat) (hk : k ≠ p.block) : (w.freeze p n).heap[k]? = w.heap[k]? := by
  unfold World.freeze
  split
  · rfl
  · simp only [Array.getElem?_modify]
    rw [if_neg (Ne.symm hk)]
theorem WRel.freezeOld (h : WRel ρ σ w0 w B0) {p : Addr} (n : Nat) (hB : ¬ B0.U p.block) {cs : Array Value} {e : TypeId} {fz : Nat × Nat} (hat : w.heap[p.block]? = some (.cells cs e fz))
    (hall : ∀ id b i, σ[id]? = some (.cells b) → b.fl ≠ .dead → ρ id = some i → i.b = p.block → b.fl = .old) : WRel ρ σ w0 (w.freeze p n) B0 := by
  constructor
  · exact h.dom
  · intro id b hg hd
    obtain ⟨i, cs', fz', hi, hr⟩ := h.blk id b hg hd
    by_cases he : i.b = p.block
    · have ho := hall id b i hg hd hi he
      obtain ⟨fz2, h2⟩ := freeze_at w p n (by rw [← he]; exact hr.at_)
      refine ⟨i, cs', fz2, hi, by rw [he]; exact h2, hr.len, hr.cells, hr.ro, fun hro => ?_, hr.ex, hr.gr⟩
      have := hr.mine hro
      exact ⟨this.1, this.2.1, fun x => absurd ho x⟩
    · exact ⟨i, cs', fz', hi, hr.keep (Rho.le_refl _) (freeze_other _ _ _ _ he)⟩
  · intro id es c hg
    obtain ⟨i, fs, h1, h2, h3, h4, h5⟩ := h.map id es c hg
    refine ⟨i, fs, h1, h2, h3, (freeze_other _ _ _ _ fun he => ?_).trans h4, h5⟩
    rw [he, hat] at h4; cases h4
  · intro id es c hg
    obtain ⟨i, fs, h1, h2, h3, h4, h5⟩ := h.rmap id es c hg
    refine ⟨i, fs, h1, h2, h3, (freeze_other _ _ _ _ fun he => ?_).trans h4, h5⟩
    rw [he, hat] at h4; cases h4
  · intro id s q hg
    obtain ⟨i, h1, h2, h3, h4⟩ := h.iter id s q hg
    refine ⟨i, h1, h2, h3, (freeze_other _ _ _ _ fun he => ?_).trans h4⟩
    rw [he, hat] at h4; cases h4
  · exact h.sep
  · intro k hk
    have : (w.freeze p n).heap.size = w.heap.size := by unfold World.freeze; split <;> simp
    rw [this]; exact h.base k hk
  · refine h.below.trans ⟨?_, ?_, ?_, ?_, fun k hk => freeze_other _ _ _ _ (fun e => hB (e ▸ hk))⟩ <;> (unfold World.freeze; split <;> simp)
  · exact h.hole
theorem liesAt_off {e : TypeId} (hc : P.cellsOf e = 1) (count off n : Nat) (hn : off + n ≤ count) : liesAt P P.depth e count off e n = true := by
  have hd : P.depth = (2 * (P.types.size + Made.depth) + 1) + 1 := rfl
  rw [hd]
  simp only [liesAt, Bool.or_eq_true]
  left
  rw [hd]
  simp [rowAt, hc, hn, sameLayout, Nat.mod_one]
theorem run_unsafeString_at (w : World) (pt it ty e : TypeId) (hp : P.underlying pt = some (.pointer e)) (hc : P.cellsOf e = 1) (g o cells : Nat) (hsh : w.shape? g = some (e, cells)) (l : List UInt8) (h0 : l ≠ []) (hn : o + l.length ≤ cells) (h63 : l.length ≤ 9223372036854775807)
    (hcell : ∀ j x, l[j]? = some x → w.cell? ((⟨g, o, none⟩ : Addr).add j) = some (.int .u8 x.toNat)) :
    (Builtin.unsafeString_ #[pt, it] ty #[.pointer (some ⟨g, o, none⟩), .int .i64 l.length]).run P w = .ok (.string ⟨l.toArray⟩) (w.freeze ⟨g, o, none⟩ l.length) := by
  have hl : l.length ≠ 0 := by simpa using h0
  have hlb := Lib.run_loadBytes (P := P) w l ⟨g, o, none⟩ .empty hcell
  have hlies := liesAt_off (P := P) hc (cells / P.cellsOf e) o l.length (by rw [hc]; simpa using hn)
  have h63' : ¬ (9223372036854775807 : Int) < (l.length : Int) := by omega
  have hdef : Builtin.unsafeString_ #[pt, it] ty #[.pointer (some ⟨g, o, none⟩), .int .i64 l.length] =
      (do
        let n ← asInt (.int .i64 l.length)
        if n < 0 then runtimePanic (.error "unsafe.String: len out of range")
        if n > IntKind.i64.max then unsupported (.unsafePointer "String: a length above the largest int")
        if n = 0 then pure (.string .empty)
        else if ← variablesAt ⟨g, o, none⟩ (← elemOf pt) n.toNat then do
          let s ← loadBytes ⟨g, o, none⟩ .empty n.toNat
          freeze ⟨g, o, none⟩ n.toNat
          pure (.string s)
        else unsupported (.unsafePointer "String: not so many bytes at ptr")) := rfl
  rw [hdef]
  have hmax : IntKind.i64.max = 9223372036854775807 := rfl
  have hneg : ¬ (l.length : Int) < 0 := by omega
  simp [asInt, asIntOf, hmax, h63', hneg, hl, variablesAt, hsh, elemOf, run_underlying hp, hlies, hlb]
def vsdata : Value → Option Value
  | .slice (some ⟨id, off, none⟩) _ (_ + 1) => some (.pointer (some ⟨id, off, none⟩))
  | _ => none
theorem vsdata_ok {ts : Array TypeId} {t : TypeId} {x x' v : Value} (hx : VRel ρ x x') (h : vsdata x = some v) (w : World) : ∃ v', (Builtin.unsafeSliceData_ ts t #[x']).run P w = .ok v' w ∧ VRel ρ v v' := by
  unfold vsdata at h
  split at h
  case h_2 => cases h
  rename_i id off n c
  cases h
  cases hx with
  | @slice _ _ _ _ c' i hi hc =>
    have hc0 : c' ≠ 0 := by
      unfold CapOk at hc
      split at hc
      · omega
      · omega
      · omega
    exact ⟨_, Lib.run_unsafeSliceData_row w ts t _ n c' hc0, .ptr hi⟩
def vustr (P : Program) (σ : VHeap) (ts : Array TypeId) (p len : Value) : Option (Value × VHeap) :=
  match ts, p, len with
  | ⟨[pt, _]⟩, .pointer (some ⟨id, off, none⟩), .int .i64 (.ofNat n) =>
    match P.underlying pt, σ[id]? with
    | some (.pointer e), some (.cells b) =>
      if b.fl = .tip ∧ b.elem = e ∧ P.cellsOf e = 1 ∧ 0 < n ∧ off + n ≤ b.cells.size ∧ n ≤ 9223372036854775807 then
        match toBytes (b.cells.extract off (off + n)).toList with
        | some bs => some (.string ⟨bs.toArray⟩, σ.setIfInBounds id (.cells b.aged))
        | none => none
      else none
    | _, _ => none
  | _, _, _ => none
theorem vustr_ok {ts : Array TypeId} {t : TypeId} {x x' y y' v : Value} {σ' : VHeap} (hw : WRel ρ σ w0 w B0) (hx : VRel ρ x x') (hy : VRel ρ y y') (h : vustr P σ ts x y = some (v, σ')) :
    ∃ w', (Builtin.unsafeString_ ts t #[x', y']).run P w = .ok v w' ∧ VRel ρ v v ∧ WRel ρ σ' w0 w' B0 := by
  unfold vustr at h
  split at h
  case h_2 => cases h
  rename_i pt it id off n
  split at h
  case h_2 => cases h
  rename_i e b hu hg
  split at h
  case isFalse => cases h
  rename_i hcond
  obtain ⟨hfl, hel, hcell, hn0, hle, h63⟩ := hcond
  split at h
  case h_2 => cases h
  rename_i bs hbs
  cases h
  cases hy
  cases hx with
  | @ptr _ _ i hi =>
    have hd : b.fl ≠ .dead := by rw [hfl]; decide
    obtain ⟨i', cs, fz, hi', hr⟩ := hw.blk id b hg hd
    obtain rfl : i = i' := by rw [hi] at hi'; exact Option.some.inj hi'
    obtain ⟨hB, htot, -⟩ := hr.mine (by rw [hfl]; decide)
    obtain ⟨hbl, hbv⟩ := toBytes_some hbs
    have hlen : bs.length = n := by rw [← hbl]; simp; omega
    have hrlen := hr.len
    have hat := hr.at_
    have hrun := run_unsafeString_at (P := P) w pt it t e hu hcell i.b (i.o + off) cs.size (by
        unfold World.shape?
        rw [hat, hel]) bs (by intro e0; rw [e0] at hlen; simp at hlen; omega) (by omega) (by omega) (fun j x hj => by
        obtain ⟨hj1, hj2⟩ := List.getElem?_eq_some_iff.1 hj
        rw [add_none]
        unfold World.cell?
        simp only [hat]
        have hlt : i.o + (off + j) < cs.size := by omega
        have hv := hr.cells (off + j) (by omega) hlt
        have hk := hbv j (by simp; omega) hj1
        simp only [List.getElem_toArray, Array.getElem_toList, Array.getElem_extract] at hk
        rw [hk] at hv
        rw [show i.o + off + j = i.o + (off + j) by omega, Array.getElem?_eq_getElem hlt]
        generalize cs[i.o + (off + j)] = z at hv
        cases hv
        rw [hj2]
        rfl)
    rw [hlen] at hrun
    refine ⟨_, hrun, .string _, ?_⟩
    have h1 := hw.age hg hfl
    refine h1.freezeOld (p := ⟨i.b, i.o + off, none⟩) n hB (hat.trans rfl) fun id' b' i2 hg' hd' hi2 he => ?_
    by_cases hid : id' = id
    · subst hid
      rw [Array.getElem?_setIfInBounds] at hg'
      simp only [if_true, (Array.getElem?_eq_some_iff.1 hg).1] at hg'
      cases hg'
      rfl
    · rw [Array.getElem?_setIfInBounds_ne (Ne.symm hid)] at hg'
      have hb' : b'.fl ≠ .ro := fun hro => by
        obtain ⟨i3, cs3, fz3, hi3, hr3⟩ := hw.blk id' b' hg' hd'
        obtain rfl : i2 = i3 := by rw [hi2] at hi3; exact Option.some.inj hi3
        have he' : i2.b = i.b := he
        exact hB (he' ▸ (hr3.ro hro).1.1)
      have hk := hw.sep id id' _ _ i i2 (Ne.symm hid) hg hg' (by simp [VObj.own, hfl]) (by simp [VObj.own, hd', hb']) hi hi2 he.symm
      exact (hk.2.2.2 hfl).1
end
end Vm
end Go.Proofs.Ytodjjnklelfgfaa
namespace Go.Proofs.Ytodjjnklelfgfaa
namespace Vm
set_option linter.unusedSimpArgs false
set_option linter.unusedVariables false
open Go.RowKit

inductive VN where
  | val (v : Value) (σ : VHeap)
  | skip (σ : VHeap)
  | enter (f : FuncId) (args : Array Value) (σ : VHeap)
  | pan (v : Value) (σ : VHeap)
def vv (r : Option (Value × VHeap)) : Option VN :=
  match r with
  | some (v, σ) => some (.val v σ)
  | none => none
def vu (r : Option (Unit × VHeap)) : Option VN :=
  match r with
  | some (_, σ) => some (.skip σ)
  | none => none
def pureOp (P : Program) (o : Oper) (ev : Operand → Value) : Option Value :=
  match o.op with
  | .select _ _ => none
  | _ =>
    bif o.op.operands.all (fun x => clean (ev x)) then
      match pv P (execOp ev o) with
      | some (.value v) => bif clean v then some v else none
      | _ => none
    else none
def vcall (P : Program) (ev : Operand → Value) (c : Call) (type : TypeId) (σ : VHeap) : Option VN :=
  match c.callee with
  | .value f =>
    match ev f with
    | .func (.func g) first captured =>
      match P.funcs[g]? with
      | some fn => if fn.body.isSome = true ∧ fn.name ≠ "runtime.NumGoroutine" then some (.enter g (first ++ c.args.map ev ++ captured) σ)
        else if fn.name = "internal/abi.NoEscape" ∧ fn.body.isNone = true ∧ (Extern.findNext fn).isNone = true then match first ++ c.args.map ev ++ captured with
          | ⟨[x]⟩ => some (.val x σ)
          | _ => none
        else if fn.name = "internal/bytealg.MakeNoZero" ∧ fn.body.isNone = true ∧ (Extern.findNext fn).isNone = true then vv (vmnz P fn (first ++ c.args.map ev ++ captured) σ)
        else none
      | none => none
    | _ => none
  | .invoke _ _ => none
  | .builtin b =>
    match b, c.args.map ev with
    | .append, ⟨[s, x]⟩ => vv (vappend P σ c.argTypes s x)
    | .len, ⟨[x]⟩ => match x with
      | .chan _ => none
      | x => vv (vrun P (Builtin.len_ c.argTypes type #[x]) σ)
    | .copy, ⟨[x, y]⟩ => vv (vrun P (Builtin.copy_ c.argTypes type #[x, y]) σ)
    | .delete, ⟨[m, k]⟩ => bif ((c.argTypes[0]?).all (basicKey P)) && cleanC k then vv (vrun P (Builtin.delete_ c.argTypes type #[m, k]) σ) else none
    | .clear, ⟨[x]⟩ => bif ((c.argTypes[0]?).all (elemZeroOk P)) then vv (vrun P (Builtin.clear_ c.argTypes type #[x]) σ) else none
    | .unsafeSliceData, ⟨[x]⟩ => match vsdata x with
      | some v => some (.val v σ)
      | none => none
    | .unsafeString, ⟨[x, y]⟩ => vv (vustr P σ c.argTypes x y)
    | _, _ => none
def vop (P : Program) (o : Oper) (ev : Operand → Value) (σ : VHeap) : Option VN :=
  match pureOp P o ev with
  | some v => some (.val v σ)
  | none =>
    match o.op with
    | .move x | .assign x => some (.val (ev x) σ)
    | .pick c a b => match ev c with
      | .bool t => some (.val (bif t then ev a else ev b) σ)
      | _ => none
    | .alloc e => bif zeroOk P e then vv (vrun P (Instr.alloc e true (.tuple #[])) σ) else none
    | .box e x => vv (vrun P (Instr.box e (ev x)) σ)
    | .build t parts => bif zeroOk P t then vv (vrun P (Instr.build t (parts.map fun (i, x) => (i, ev x))) σ) else none
    | .buildSlice t n parts => bif elemZeroOk P t then vv (vrun P (Instr.buildSlice t n (parts.map fun (i, x) => (i, ev x))) σ) else none
    | .load t a => vv (vrun P (Instr.loadAt t (gres σ (ev a))) σ)
    | .store t a x => vu (vrun P (Instr.storeAt t (ev a) (ev x)) σ)
    | .nilCheck x => match ev x with
      | .pointer (some a) => some (.val (.pointer (some a)) σ)
      | .func (.func f) xs ys => some (.val (.func (.func f) xs ys) σ)
      | _ => none
    | .binOp op t x y _ => bif vNil P t (ev x) (ev y) then (match op with
        | .eql => some (.val (.bool false) σ)
        | .neq => some (.val (.bool true) σ)
        | _ => none) else bif vSame P t (ev x) (ev y) then (match op with
        | .eql => some (.val (.bool true) σ)
        | .neq => some (.val (.bool false) σ)
        | _ => none) else none
    | .convert src dst x => vv (vconvert P σ src dst (ev x))
    | .makeInterface t x => vv (vrun P (Instr.makeInterface t (ev x)) σ)
    | .makeFunc fn xs ys => some (.val (.func fn (xs.map ev) (ys.map ev)) σ)
    | .makeMap t r => vv (vrun P (Instr.makeMap t (r.map ev)) σ)
    | .makeSlice t l c => bif elemZeroOk P t then vv (vrun P (Instr.makeSlice t (ev l) (ev c)) σ) else none
    | .slice t x lo hi mx => match vslice P σ t (gres σ (ev x)) (lo.map ev) (hi.map ev) (mx.map ev) with
      | some v => some (.val v σ)
      | none => none
    | .fieldAddr s x f => vv (vrun P (Instr.fieldAt s (gres σ (ev x)) f) σ)
    | .field t x f => vv (vrun P (Instr.field t (ev x) f) σ)
    | .indexAddr t x i => vv (vrun P (Instr.indexAt t (gres σ (ev x)) (ev i)) σ)
    | .index t x i => vv (vrun P (Instr.index t (ev x) (ev i)) σ)
    | .lookup t m k ok => bif basicKey P t && elemZeroOk P t && cleanC (ev k) then vv (vrun P (Instr.lookup t (ev m) (ev k) ok) σ) else none
    | .mapUpdate t m k x | .insert t m k x => bif basicKey P t && cleanC (ev k) then vu (vrun P (Instr.mapUpdate t (ev m) (ev k) (ev x)) σ) else none
    | .mapEntry t m k => bif basicKey P t && elemZeroOk P t && cleanC (ev k) then vv (vrun P (Instr.mapEntry t (ev m) (ev k)) σ) else none
    | .entryStore t m s x => vu (vrun P (Instr.entryStore t (ev m) (ev s) (ev x)) σ)
    | .range t x => match ev x with
      | .string s => vv (vrun P (Instr.range t (.string s)) σ)
      | _ => none
    | .next it true => vv (vrun P (Instr.next (ev it) true o.type) σ)
    | .extract t i => vv (vrun P (Instr.extract (ev t) i) σ)
    | .panic x => match ev x with
      | .iface t v => some (.pan (.iface t v) σ)
      | _ => none
    | .call c => vcall P ev c o.type σ
    | _ => none

theorem find_noEscape {fn : Func} (h : fn.name = "internal/abi.NoEscape") : Extern.find fn = some Extern.AbiNoEscape.same := by
  unfold Extern.find
  have e1 : Extern.allGenericRows.lookup "internal/abi.NoEscape" = none := by kernel_rfl
  have e2 : Extern.allTypedRows.lookup "internal/abi.NoEscape" = none := by kernel_rfl
  have e3 : Extern.allRows.lookup "internal/abi.NoEscape" = some Extern.AbiNoEscape.same := by kernel_rfl
  simp only [h, e1, e2, e3]
  rfl
section
variable {P : Program} {w0 w : World} {B0 : Base} {ρ : Rho} {σ : VHeap}
def OpOk (w0 : World) (B0 : Base) (ρ : Rho) : VN → Result Next → Prop
  | .val v σ', r => ∃ ρ2 v' w', ρ.le ρ2 ∧ r = .ok (.value v') w' ∧ VRel ρ2 v v' ∧ WRel ρ2 σ' w0 w' B0
  | .skip σ', r => ∃ ρ2 w', ρ.le ρ2 ∧ r = .ok .skip w' ∧ WRel ρ2 σ' w0 w' B0
  | .enter f args σ', r => ∃ ρ2 args' w', ρ.le ρ2 ∧ r = .ok (.enter f args') w' ∧ ARel ρ2 args args' ∧ WRel ρ2 σ' w0 w' B0
  | .pan v σ', r => ∃ ρ2 v' w', ρ.le ρ2 ∧ r = .halt (.panic v') w' ∧ VRel ρ2 v v' ∧ WRel ρ2 σ' w0 w' B0
theorem vv_ok {s t : Sem Value} {r : VN} (hw : WRel ρ σ w0 w B0) (hs : SR P w0 B0 ρ VRel s t) (h : vv (vrun P s σ) = some r) : OpOk w0 B0 ρ r ((do pure (.value (← t)) : Sem Next).run P w) := by
  unfold vv at h
  split at h
  case h_2 => cases h
  rename_i v σ' hv
  cases h
  obtain ⟨ρ2, y, w', h1, h2, h3, h4⟩ := hs ρ σ w v σ' (Rho.le_refl _) hw hv
  exact ⟨ρ2, y, w', h1, by rw [Sem.run_bind, h2]; rfl, h3, h4⟩
theorem vu_ok {s t : Sem Unit} {r : VN} (hw : WRel ρ σ w0 w B0) (hs : SR P w0 B0 ρ TrueR s t) (h : vu (vrun P s σ) = some r) : OpOk w0 B0 ρ r ((do t; pure .skip : Sem Next).run P w) := by
  unfold vu at h
  split at h
  case h_2 => cases h
  rename_i v σ' hv
  cases h
  obtain ⟨ρ2, y, w', h1, h2, h3, h4⟩ := hs ρ σ w v σ' (Rho.le_refl _) hw hv
  exact ⟨ρ2, w', h1, by rw [Sem.run_bind, h2]; rfl, h4⟩
theorem val_ok {v v' : Value} (hw : WRel ρ σ w0 w B0) (hv : VRel ρ v v') : OpOk w0 B0 ρ (.val v σ) (.ok (.value v') w) := ⟨ρ, v', w, Rho.le_refl _, rfl, hv, hw⟩
theorem pureOp_ok {o : Oper} {ev er : Operand → Value} {v : Value} (hE : ∀ x ∈ o.op.operands, VRel ρ (ev x) (er x)) (h : pureOp P o ev = some v) : clean v = true ∧ (execOp er o).run P w = .ok (.value v) w := by
  unfold pureOp at h
  split at h
  · cases h
  · rename_i hs
    cases hc : o.op.operands.all (fun x => clean (ev x)) with
    | false => rw [hc] at h; cases h
    | true =>
      rw [hc] at h
      simp only [cond_true] at h
      split at h
      case h_2 => cases h
      rename_i v' hp
      cases hv : clean v' with
      | false => rw [hv] at h; cases h
      | true =>
        rw [hv] at h
        cases h
        refine ⟨hv, ?_⟩
        have : execOp er o = execOp ev o := execOp_congr o (fun cs b e => hs cs b e) (fun x hx => clean_eq (by
          obtain ⟨k, hk, rfl⟩ := Array.getElem_of_mem hx
          exact Array.all_eq_true.1 hc k hk) (hE x hx))
        rw [this]
        exact pv_run hp w
theorem parts_rel {ev er : Operand → Value} (parts : Array (Nat × Operand)) (h : ∀ p ∈ parts, VRel ρ (ev p.2) (er p.2)) :
    PartsRel ρ (parts.map fun (i, x) => (i, ev x)).toList (parts.map fun (i, x) => (i, er x)).toList := by
  obtain ⟨l⟩ := parts
  simp only [List.map_toArray]
  have h' : ∀ p ∈ l, VRel ρ (ev p.2) (er p.2) := fun p hp => h p (by simpa using hp)
  clear h
  induction l with
  | nil => exact .nil
  | cons p l ih => exact .cons ⟨rfl, h' p (by simp)⟩ (ih fun q hq => h' q (by simp [hq]))
theorem omap_rel {ev er : Operand → Value} (x : Option Operand) (h : ∀ y, x = some y → VRel ρ (ev y) (er y)) : ORel ρ (x.map ev) (x.map er) := by
  cases x with
  | none => trivial
  | some y => exact h y rfl
theorem vcall_ok {c : Call} {type : TypeId} {ev er : Operand → Value} {r : VN} (hw : WRel ρ σ w0 w B0) (hE : ∀ x ∈ c.operands, VRel ρ (ev x) (er x)) (h : vcall P ev c type σ = some r) :
    OpOk w0 B0 ρ r ((do let d ← resolve er c type; invoke d.target d.args : Sem Next).run P w) := by
  have hargs : ARel ρ (c.args.map ev) (c.args.map er) := ARel.map _ _ _ fun x hx => hE x (by simp [Call.operands, hx])
  unfold vcall at h
  unfold resolve
  cases hc : c.callee with
  | invoke a b => simp [hc] at h
  | value f =>
    simp only [hc] at h ⊢
    have hf := hE f (by simp [Call.operands, hc])
    split at h
    case h_2 => cases h
    rename_i g first captured hev
    rw [hev] at hf
    split at h
    case h_2 => cases h
    rename_i fn hfn
    split at h
    case isFalse =>
      split at h
      case isFalse =>
        split at h
        case isFalse => cases h
        rename_i hx
        unfold vv at h
        split at h
        case h_2 => cases h
        rename_i v σ' hv
        cases h
        generalize er f = ef at hf
        cases hf with
        | func _ h1 h2 g1 g2 =>
          have hall := ARel.append (ARel.append ⟨h1, h2⟩ hargs) ⟨g1, g2⟩
          obtain ⟨ρ2, v', w', q1, q2, q3, q4⟩ := vmnz_ok hw hall hv
          refine ⟨ρ2, v', w', q1, ?_, q3, q4⟩
          unfold Deferred.ofValue
          simp only [Sem.run_bind, Sem.run_pure, Result.andThen_ok]
          unfold invoke
          simp only [Sem.run_bind]
          rw [run_callFunc_extern hfn (by rw [hx.1]; decide) hx.2.1 (Option.isNone_iff_eq_none.1 hx.2.2) (find_mnz hx.1), q2]
          rfl
      rename_i hx
      split at h
      case h_2 => cases h
      rename_i x hxs
      cases h
      generalize er f = ef at hf
      cases hf with
      | func _ h1 h2 g1 g2 =>
        have hall := ARel.append (ARel.append ⟨h1, h2⟩ hargs) ⟨g1, g2⟩
        rw [hxs] at hall
        unfold Deferred.ofValue
        simp only [Sem.run_bind, Sem.run_pure, Result.andThen_ok]
        unfold invoke
        simp only [Sem.run_bind]
        rw [run_callFunc_extern hfn (by rw [hx.1]; decide) hx.2.1 (Option.isNone_iff_eq_none.1 hx.2.2) (find_noEscape hx.1)]
        generalize first ++ c.args.map ev ++ captured = l0 at hxs hall
        rename_i ys vs
        generalize hL : ys ++ c.args.map er ++ vs = l at hall ⊢
        obtain ⟨l⟩ := l
        match l, hall with
        | [x'], hall => exact ⟨ρ, x', w, Rho.le_refl _, rfl, hall.2 0 (by simp) (by simp), hw⟩
        | [], hall => exact absurd hall.1 (by simp)
        | _ :: _ :: _, hall => exact absurd hall.1 (by simp)
    rename_i hb
    cases h
    generalize er f = ef at hf
    cases hf with
    | func _ h1 h2 g1 g2 =>
      refine ⟨ρ, _, w, Rho.le_refl _, ?_, (ARel.append (ARel.append ⟨h1, h2⟩ hargs) ⟨g1, g2⟩), hw⟩
      unfold Deferred.ofValue
      simp only [Sem.run_bind, Sem.run_pure, Result.andThen_ok]
      unfold invoke callFunc
      simp only [Sem.run_bind, run_program, Result.andThen_ok, hfn]
      have hnb : fn.body.isNone = false := by cases hbo : fn.body with | none => simp [hbo] at hb | some b => rfl
      have hnm : (fn.name == "runtime.NumGoroutine") = false := by simpa using hb.2
      simp only [hnm, hnb, Bool.false_eq_true, if_false]
      rfl
  | builtin b =>
    simp only [hc] at h ⊢
    simp only [Sem.run_bind, Sem.run_pure, Result.andThen_ok]
    unfold invoke
    split at h
    · rename_i s x hxs
      rw [hxs] at hargs
      unfold vv at h
      split at h
      case h_2 => cases h
      rename_i v σ' hv
      cases h
      have hsz := hargs.1
      obtain ⟨s', x', he⟩ : ∃ s' x', c.args.map er = #[s', x'] := by
        generalize c.args.map er = l at hsz
        obtain ⟨l⟩ := l
        match l, hsz with
        | [a, b], _ => exact ⟨a, b, rfl⟩
      rw [he] at hargs ⊢
      obtain ⟨ρ2, v', w', g1, g2, g3, g4⟩ := vappend_ok (t := type) hw (hargs.2 0 (by simp) (by simp)) (hargs.2 1 (by simp) (by simp)) hv
      refine ⟨ρ2, v', w', g1, ?_, g3, g4⟩
      unfold builtin
      rw [Sem.run_bind]
      simp only [List.getElem_toArray, List.getElem_cons_zero, List.getElem_cons_succ] at g2
      rw [g2]
      rfl
    · rename_i x hxs
      rw [hxs] at hargs
      have hsz := hargs.1
      obtain ⟨x', he⟩ : ∃ x', c.args.map er = #[x'] := by
        generalize c.args.map er = l at hsz
        obtain ⟨l⟩ := l
        match l, hsz with
        | [a], _ => exact ⟨a, rfl⟩
      rw [he] at hargs ⊢
      split at h
      · cases h
      · rename_i hnc
        exact vv_ok hw (SR.len (hargs.2 0 (by simp) (by simp)) c.argTypes type (fun r e => hnc r e)) h
    · rename_i x y hxs
      rw [hxs] at hargs
      have hsz := hargs.1
      obtain ⟨x', y', he⟩ : ∃ s' x', c.args.map er = #[s', x'] := by
        generalize c.args.map er = l at hsz
        obtain ⟨l⟩ := l
        match l, hsz with
        | [a, b], _ => exact ⟨a, b, rfl⟩
      rw [he] at hargs ⊢
      exact vv_ok hw (SR.copy (hargs.2 0 (by simp) (by simp)) (hargs.2 1 (by simp) (by simp))) h
    · rename_i m k hxs
      rw [hxs] at hargs
      have hsz := hargs.1
      obtain ⟨m', k', he⟩ : ∃ s' x', c.args.map er = #[s', x'] := by
        generalize c.args.map er = l at hsz
        obtain ⟨l⟩ := l
        match l, hsz with
        | [a, b], _ => exact ⟨a, b, rfl⟩
      rw [he] at hargs ⊢
      cases hcond : ((c.argTypes[0]?).all (basicKey P)) && cleanC k with
      | false => rw [hcond] at h; cases h
      | true =>
        rw [hcond] at h
        simp only [Bool.and_eq_true] at hcond
        obtain rfl : k' = k := cleanC_eq hcond.2 (hargs.2 1 (by simp) (by simp))
        exact vv_ok hw (SR.delete (fun mt hmt => by have := hcond.1; rw [hmt] at this; simpa using this) hcond.2 (hargs.2 0 (by simp) (by simp))) h
    · rename_i x hxs
      rw [hxs] at hargs
      have hsz := hargs.1
      obtain ⟨x', he⟩ : ∃ x', c.args.map er = #[x'] := by
        generalize c.args.map er = l at hsz
        obtain ⟨l⟩ := l
        match l, hsz with
        | [a], _ => exact ⟨a, rfl⟩
      rw [he] at hargs ⊢
      cases hcond : ((c.argTypes[0]?).all (elemZeroOk P)) with
      | false => rw [hcond] at h; cases h
      | true =>
        rw [hcond] at h
        exact vv_ok hw (SR.clear (fun mt hmt => by rw [hmt] at hcond; simpa using hcond) (hargs.2 0 (by simp) (by simp))) h
    · rename_i x hxs
      rw [hxs] at hargs
      have hsz := hargs.1
      obtain ⟨x', he⟩ : ∃ x', c.args.map er = #[x'] := by
        generalize c.args.map er = l at hsz
        obtain ⟨l⟩ := l
        match l, hsz with
        | [a], _ => exact ⟨a, rfl⟩
      rw [he] at hargs ⊢
      split at h
      case h_2 => cases h
      rename_i v hv
      cases h
      obtain ⟨v', q1, q2⟩ := vsdata_ok (P := P) (ts := c.argTypes) (t := type) (hargs.2 0 (by simp) (by simp)) hv w
      refine ⟨ρ, v', w, Rho.le_refl _, ?_, q2, hw⟩
      unfold builtin
      simp only [List.getElem_toArray, List.getElem_cons_zero] at q1
      rw [Sem.run_bind, q1]
      rfl
    · rename_i x y hxs
      rw [hxs] at hargs
      have hsz := hargs.1
      obtain ⟨x', y', he⟩ : ∃ s' x', c.args.map er = #[s', x'] := by
        generalize c.args.map er = l at hsz
        obtain ⟨l⟩ := l
        match l, hsz with
        | [a, b], _ => exact ⟨a, b, rfl⟩
      rw [he] at hargs ⊢
      unfold vv at h
      split at h
      case h_2 => cases h
      rename_i v σ' hv
      cases h
      obtain ⟨w', q1, q2, q3⟩ := vustr_ok (t := type) hw (hargs.2 0 (by simp) (by simp)) (hargs.2 1 (by simp) (by simp)) hv
      refine ⟨ρ, v, w', Rho.le_refl _, ?_, q2, q3⟩
      unfold builtin
      simp only [List.getElem_toArray, List.getElem_cons_zero, List.getElem_cons_succ] at q1
      rw [Sem.run_bind, q1]
      rfl
    · cases h
theorem vop_ok {o : Oper} {ev er : Operand → Value} {r : VN} (hw : WRel ρ σ w0 w B0) (hE : ∀ x ∈ o.op.operands, VRel ρ (ev x) (er x)) (h : vop P o ev σ = some r) :
    OpOk w0 B0 ρ r ((execOp er o).run P w) := by
  unfold vop at h
  split at h
  · rename_i v hv
    cases h
    obtain ⟨hc, hrun⟩ := pureOp_ok (w := w) hE hv
    rw [hrun]
    exact val_ok hw (clean_rel hc ρ)
  · rename_i hnp
    clear hnp
    unfold execOp
    obtain ⟨dst, op, type, pos, after, guard⟩ := o
    simp only at h hE ⊢
    cases op <;> dsimp only at h ⊢ <;> first | (cases h; done) | skip
    case move x => cases h; exact val_ok hw (hE x (by simp [Op.operands]))
    case assign x => cases h; exact val_ok hw (hE x (by simp [Op.operands]))
    case pick c a b =>
      have hc := hE c (by simp [Op.operands])
      have ha := hE a (by simp [Op.operands])
      have hb := hE b (by simp [Op.operands])
      split at h
      case h_2 => cases h
      rename_i t he
      rw [he] at hc
      generalize er c = ec at hc
      cases hc
      cases h
      simp only [asBool, Sem.run_bind, Sem.run_pure, Result.andThen_ok]
      cases t
      · exact val_ok hw hb
      · exact val_ok hw ha
    case alloc e =>
      cases hz : zeroOk P e with
      | false => rw [hz] at h; cases h
      | true => rw [hz] at h; exact vv_ok hw (SR.alloc hz) h
    case box e x => exact vv_ok hw (SR.box (hE x (by simp [Op.operands])) e) h
    case build t parts =>
      cases hz : zeroOk P t with
      | false => rw [hz] at h; cases h
      | true => rw [hz] at h; exact vv_ok hw (SR.build hz (parts_rel parts fun p hp => hE p.2 (by simp only [Op.operands]; simpa using ⟨p.1, hp⟩))) h
    case buildSlice t n parts =>
      cases hz : elemZeroOk P t with
      | false => rw [hz] at h; cases h
      | true => rw [hz] at h; exact vv_ok hw (SR.buildSlice hz (parts_rel parts fun p hp => hE p.2 (by simp only [Op.operands]; simpa using ⟨p.1, hp⟩))) h
    case load t a => exact vv_ok hw (SR.loadAt (gres_ok hw (hE a (by simp [Op.operands]))) t) h
    case store t a x => exact vu_ok hw (SR.storeAt (hE a (by simp [Op.operands])) (hE x (by simp [Op.operands])) t) h
    case nilCheck x =>
      have hx := hE x (by simp [Op.operands])
      split at h
      · rename_i a he
        rw [he] at hx
        cases h
        generalize er x = ex at hx
        cases hx with
        | ptr hi => exact val_ok hw (.ptr hi)
      · rename_i f xs ys he
        rw [he] at hx
        cases h
        generalize er x = ex at hx
        cases hx with
        | func fn h1 h2 g1 g2 => exact val_ok hw (.func _ h1 h2 g1 g2)
      · cases h
    case binOp op t x y yt =>
      cases hn : vNil P t (ev x) (ev y) with
      | false =>
        rw [hn] at h
        simp only [cond_false] at h
        cases hs : vSame P t (ev x) (ev y) with
        | false => rw [hs] at h; cases h
        | true =>
          rw [hs] at h
          simp only [cond_true] at h
          have hok := fun op => vSame_ok (hE x (by simp [Op.operands])) (hE y (by simp [Op.operands])) hs w op x y
          split at h
          · cases h
            simp only [Sem.run_bind, pv_run (hok _).1, Result.andThen_ok, (hok .eql).2.1]
            exact val_ok hw (.bool _)
          · cases h
            simp only [Sem.run_bind, pv_run (hok _).1, Result.andThen_ok, (hok .neq).2.2]
            exact val_ok hw (.bool _)
          · cases h
      | true =>
        rw [hn] at h
        have hx := hE x (by simp [Op.operands])
        have hy := hE y (by simp [Op.operands])
        have hg := fun op => vNil_guard (op := op) (a := x) (b := y) hx hy hn
        obtain ⟨h1, h2⟩ := vNil_bin hx hy hn
        simp only [cond_true] at h
        split at h
        · cases h
          simp only [Sem.run_bind, pv_run (hg _), Result.andThen_ok, pv_run h1]
          exact val_ok hw (.bool _)
        · cases h
          simp only [Sem.run_bind, pv_run (hg _), Result.andThen_ok, pv_run h2]
          exact val_ok hw (.bool _)
        · cases h
    case convert src dst x =>
      unfold vv at h
      split at h
      case h_2 => cases h
      rename_i v σ' hv
      cases h
      obtain ⟨ρ2, v', w', g1, g2, g3, g4⟩ := vconvert_ok hw (hE x (by simp [Op.operands])) hv
      exact ⟨ρ2, v', w', g1, by rw [Sem.run_bind, g2]; rfl, g3, g4⟩
    case makeInterface t x => exact vv_ok hw (SR.makeInterface (hE x (by simp [Op.operands])) t) h
    case makeFunc fn xs ys =>
      cases h
      have h1 : ARel ρ (xs.map ev) (xs.map er) := ARel.map _ _ _ fun x hx => hE x (by simp [Op.operands, hx])
      have h2 : ARel ρ (ys.map ev) (ys.map er) := ARel.map _ _ _ fun x hx => hE x (by simp [Op.operands, hx])
      exact ⟨ρ, _, w, Rho.le_refl _, rfl, .func fn h1.1 h1.2 h2.1 h2.2, hw⟩
    case makeMap t r =>
      refine vv_ok hw (SR.makeMap t ?_) h
      cases r with
      | none => trivial
      | some x => exact hE x (by simp [Op.operands])
    case makeSlice t l c =>
      cases hz : elemZeroOk P t with
      | false => rw [hz] at h; cases h
      | true => rw [hz] at h; exact vv_ok hw (SR.makeSlice hz (hE l (by simp [Op.operands])) (hE c (by simp [Op.operands]))) h
    case slice t x lo hi mx =>
      split at h
      case h_2 => cases h
      rename_i v hv
      cases h
      obtain ⟨v', h1, h2⟩ := vslice_ok hw (gres_ok hw (hE x (by simp [Op.operands]))) (omap_rel lo fun y e => hE y (by subst e; simp [Op.operands])) (omap_rel hi fun y e => hE y (by subst e; simp [Op.operands])) (omap_rel mx fun y e => hE y (by subst e; simp [Op.operands])) hv
      exact ⟨ρ, v', w, Rho.le_refl _, by rw [Sem.run_bind, pv_run h1]; rfl, h2, hw⟩
    case fieldAddr s x f => exact vv_ok hw (SR.fieldAt (gres_ok hw (hE x (by simp [Op.operands]))) s f) h
    case field t x f => exact vv_ok hw (SR.field (hE x (by simp [Op.operands])) t f) h
    case indexAddr t x i => exact vv_ok hw (SR.indexAt (gres_ok hw (hE x (by simp [Op.operands]))) (hE i (by simp [Op.operands])) t) h
    case index t x i => exact vv_ok hw (SR.index (hE x (by simp [Op.operands])) (hE i (by simp [Op.operands])) t) h
    case lookup t m k ok =>
      cases hc : (basicKey P t && elemZeroOk P t && cleanC (ev k)) with
      | false => rw [hc] at h; cases h
      | true =>
        rw [hc] at h
        simp only [Bool.and_eq_true] at hc
        rw [cleanC_eq hc.2 (hE k (by simp [Op.operands]))]
        exact vv_ok hw (SR.lookup hc.1.1 hc.1.2 hc.2 (hE m (by simp [Op.operands])) ok) h
    case mapUpdate t m k x =>
      cases hc : (basicKey P t && cleanC (ev k)) with
      | false => rw [hc] at h; cases h
      | true =>
        rw [hc] at h
        simp only [Bool.and_eq_true] at hc
        rw [cleanC_eq hc.2 (hE k (by simp [Op.operands]))]
        exact vu_ok hw (SR.mapUpdate hc.1 hc.2 (hE m (by simp [Op.operands])) (hE x (by simp [Op.operands]))) h
    case insert t m k x =>
      cases hc : (basicKey P t && cleanC (ev k)) with
      | false => rw [hc] at h; cases h
      | true =>
        rw [hc] at h
        simp only [Bool.and_eq_true] at hc
        rw [cleanC_eq hc.2 (hE k (by simp [Op.operands]))]
        exact vu_ok hw (SR.mapUpdate hc.1 hc.2 (hE m (by simp [Op.operands])) (hE x (by simp [Op.operands]))) h
    case mapEntry t m k =>
      cases hc : (basicKey P t && elemZeroOk P t && cleanC (ev k)) with
      | false => rw [hc] at h; cases h
      | true =>
        rw [hc] at h
        simp only [Bool.and_eq_true] at hc
        rw [cleanC_eq hc.2 (hE k (by simp [Op.operands]))]
        exact vv_ok hw (SR.mapEntry hc.1.1 hc.1.2 hc.2 (hE m (by simp [Op.operands]))) h
    case entryStore t m s x => exact vu_ok hw (SR.entryStore (hE m (by simp [Op.operands])) (hE s (by simp [Op.operands])) (hE x (by simp [Op.operands]))) h
    case range t x =>
      have hx := hE x (by simp [Op.operands])
      split at h
      case h_2 => cases h
      rename_i s he
      rw [he] at hx
      exact vv_ok hw (SR.range hx ⟨s, rfl⟩ t) h
    case next it b =>
      cases b with
      | false => cases h
      | true => exact vv_ok hw (SR.next (hE it (by simp [Op.operands])) type) h
    case extract t i => exact vv_ok hw (SR.extract (hE t (by simp [Op.operands])) i) h
    case call c => exact vcall_ok hw (fun x hx => hE x (by simpa [Op.operands] using hx)) h
    case panic x =>
      have hx := hE x (by simp [Op.operands])
      split at h
      case h_2 => cases h
      rename_i t v he
      rw [he] at hx
      cases h
      generalize er x = ex at hx
      cases hx with
      | iface _ hv => exact ⟨ρ, _, w, Rho.le_refl _, rfl, .iface t hv, hw⟩
end
end Vm
end Go.Proofs.Ytodjjnklelfgfaa
