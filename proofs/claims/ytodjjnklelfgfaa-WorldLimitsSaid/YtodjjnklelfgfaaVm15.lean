/- Conversions of texts and bytes; what is compared with nil; the virtual answer of every operation, and that it is sound. -/
import Derived.Test.YtodjjnklelfgfaaVm14
import Derived.Lib.ConvBytes
import Derived.Laws.IdiomStrings
import Derived.Lib.Builder
import Derived.LaidEqlPtr
namespace Go.Proofs.Ytodjjnklelfgfaa
namespace Vm
set_option linter.unusedSimpArgs false
set_option linter.unusedVariables false
open Go.RowKit

section
variable {P : Program} {w0 w : World} {B0 : Base} {ρ : Rho} {σ : VHeap}
def u8s (s : ByteArray) : Array Value := s.data.map fun b => .int .u8 (b.toNat : Int)
def toByte : Value → Option UInt8
  | .int .u8 n => if 0 ≤ n ∧ n < 256 then some (UInt8.ofNat n.toNat) else none
  | _ => none
def toBytes : List Value → Option (List UInt8)
  | [] => some []
  | v :: l => match toByte v, toBytes l with
    | some b, some bs => some (b :: bs)
    | _, _ => none
theorem toByte_some {v : Value} {b : UInt8} (h : toByte v = some b) : v = .int .u8 (b.toNat : Int) := by
  cases v with
  | int k n =>
    cases k <;> first | (cases h; done) | skip
    simp only [toByte] at h
    split at h
    · rename_i hn
      cases h
      have : (UInt8.ofNat n.toNat).toNat = n.toNat := UInt8.toNat_ofNat_of_lt' (by simp [UInt8.size]; omega)
      rw [this, Int.toNat_of_nonneg hn.1]
    · cases h
  | _ => cases h
theorem toBytes_some : ∀ {l : List Value} {bs : List UInt8}, toBytes l = some bs → l.length = bs.length ∧ ∀ k (h : k < l.length) (h' : k < bs.length), l[k] = .int .u8 (bs[k].toNat : Int)
  | [], bs, h => by cases h; exact ⟨rfl, fun k h => by simp at h⟩
  | v :: l, bs, h => by
    unfold toBytes at h
    split at h
    case h_2 => cases h
    rename_i b bs' h1 h2
    cases h
    obtain ⟨e1, e2⟩ := toBytes_some h2
    refine ⟨by simp [e1], fun k hk hk' => ?_⟩
    cases k with
    | zero => exact toByte_some h1
    | succ k => simpa using e2 k (by simpa using hk) (by simpa using hk')
def vconvert (P : Program) (σ : VHeap) (src dst : TypeId) (x : Value) : Option (Value × VHeap) :=
  match P.underlying src, P.underlying dst, x with
  | some .string, some (.slice e), .string s =>
    match P.underlying e with
    | some (.int .u8) => some (.slice (some ⟨σ.size, 0, none⟩) s.size s.size, σ.push (.cells ⟨u8s s, e, .tip, false, σ.size, 1⟩))
    | _ => none
  | some (.slice e), some .string, .slice (some a) n c =>
    match P.underlying e with
    | some (.int .u8) =>
      match (vfirst σ 1 n (.slice (some a) n c)).map fun cs => toBytes cs.toList with
      | some (some bs) => some (.string ⟨bs.toArray⟩, σ)
      | _ => none
    | _ => none
  | some (.pointer t), some .unsafePointer, .pointer (some ⟨id, off, none⟩) =>
    match σ[id]?, P.info? t with
    | some (.cells b), some j => if b.fl ≠ .dead ∧ j.size ≠ 0 ∧ off < b.cells.size then some (.pointer (some ⟨id, off, none⟩), σ) else none
    | _, _ => none
  | some .unsafePointer, some (.pointer u), .pointer (some ⟨id, off, none⟩) =>
    match σ[id]?, P.info? u with
    | some (.cells b), some _ => if b.fl = .ex ∧ liesAt P P.depth b.elem (b.cells.size / P.cellsOf b.elem) off u 1 = true then some (.pointer (some ⟨id, off, none⟩), σ) else none
    | _, _ => none
  | _, _, _ => none
theorem vconvert_ok {src dst : TypeId} {x x' v : Value} {σ' : VHeap} (hw : WRel ρ σ w0 w B0) (hx : VRel ρ x x') (h : vconvert P σ src dst x = some (v, σ')) :
    ∃ ρ2 v' w', ρ.le ρ2 ∧ (convert src dst x').run P w = .ok v' w' ∧ VRel ρ2 v v' ∧ WRel ρ2 σ' w0 w' B0 := by
  unfold vconvert at h
  split at h
  · rename_i e s hs hd
    split at h
    case h_2 => cases h
    rename_i he
    cases h
    cases hx
    have hcut : s.size ≤ grownCap w s.size 0 e := by simp [grownCap, Question.cut]
    have hsz : (Lib.bytesCells w e s).size = grownCap w s.size 0 e := by
      have : s.data.size = s.size := rfl
      simp [Lib.bytesCells, this]; omega
    have hnew := hw.newTip (w' := Lib.bytesWorld w e s) (cs := u8s s) (cs' := u8s s) (rest := Array.replicate (grownCap w s.size 0 e - s.size) (.int .u8 0)) (e := e)
      (fz := ((Lib.bytesCells w e s).size, (Lib.bytesCells w e s).size + 1)) 1 false σ.size
      ⟨rfl, rfl, rfl, by simp [Lib.bytesWorld_size], fun k hk => Lib.bytesWorld_at_old w e s k hk⟩ (by simp [Lib.bytesWorld_size]) (Lib.bytesWorld_at_new w e s)
      (fun k hk => by
        have : (Lib.bytesCells w e s) = (u8s s) ++ Array.replicate (grownCap w s.size 0 e - s.size) (.int .u8 0) := rfl
        rw [← this] at hk; omega)
      ⟨rfl, fun k hk hk' => by simp only [u8s, Array.getElem_map]; exact .int _ _⟩
    refine ⟨_, _, _, Rho.le_more (hw.dom _ (Nat.le_refl _)) _, Lib.run_convert_string_bytes w src dst e s hs hd he, ?_, hnew⟩
    have htot : (u8s s ++ Array.replicate (grownCap w s.size 0 e - s.size) (Value.int .u8 0)).size = grownCap w s.size 0 e := hsz
    have := VRel.slice (ρ := ρ.more σ.size ⟨w.heap.size, 0, 1, (u8s s ++ Array.replicate (grownCap w s.size 0 e - s.size) (Value.int .u8 0)).size, .gr⟩) (id := σ.size) (off := 0) (n := s.size) (c := s.size)
      (c' := grownCap w s.size 0 e) (Rho.more_self _ _ _) (by simp only [CapOk]; rw [htot]; exact ⟨hcut, by omega⟩)
    simpa using this
  · rename_i e a n c hs hd
    split at h
    case h_2 => cases h
    rename_i he
    split at h
    case h_2 => cases h
    rename_i bs hbs
    cases h
    cases hf : vfirst σ 1 n (.slice (some a) n c) with
    | none => simp [hf] at hbs
    | some cs =>
      simp only [hf, Option.map_some, Option.some.injEq] at hbs
      obtain ⟨e1, e2⟩ := toBytes_some hbs
      have hn : ∀ (hh : cs.size = n), bs.length = n := fun hh => by rw [← e1, Array.length_toList, hh]
      cases hx with
      | @slice id off n c c' i hi hc =>
        simp only [vfirst, Nat.mul_one] at hf
        split at hf
        · rename_i h0
          cases hf
          subst h0
          obtain rfl : bs = [] := by cases bs with | nil => rfl | cons b bs => simp at e1
          refine ⟨ρ, _, w, Rho.le_refl _, ?_, .string _, hw⟩
          exact run_convert_bytes_back w src dst e ⟨i.b, i.o + off, none⟩ c' [] hs he hd (fun j hj => by simp at hj)
        · cases hg : σ[id]? with
          | none => simp [hg] at hf
          | some o =>
            cases o with
            | map es cl => simp [hg] at hf
            | iter s p => simp [hg] at hf
            | rmap es cl => simp [hg] at hf
            | cells b =>
              simp only [hg] at hf
              split at hf
              case isFalse => cases hf
              rename_i hd2
              cases hf
              obtain ⟨i', cr, fz, hi', hr⟩ := hw.blk id b hg hd2.1
              obtain rfl : i = i' := by rw [hi] at hi'; exact Option.some.inj hi'
              have hlen := hr.len
              have hbl : bs.length = n := hn (by simp; omega)
              refine ⟨ρ, _, w, Rho.le_refl _, ?_, .string _, hw⟩
              have := run_convert_bytes_back (P := P) w src dst e ⟨i.b, i.o + off, none⟩ c' bs hs he hd (fun j hj => by
                rw [add_none]
                have hlt : i.o + (off + j) < cr.size := by omega
                have hv := hr.cells (off + j) (by omega) hlt
                have h3 := e2 j (by simp; omega) hj
                simp only [Array.getElem_toList, Array.getElem_extract] at h3
                rw [h3] at hv
                have h4 : cr[i.o + (off + j)] = .int .u8 (bs[j].toNat : Int) := cleanC_eq rfl hv
                simp only [World.cell?, hr.at_]
                simp only [Option.isSome_none, Bool.false_eq_true, if_false]
                rw [Nat.add_assoc, Array.getElem?_eq_getElem hlt, h4])
              rw [hbl] at this
              exact this
      | sliceOff id off a c' =>
        have hcs : cs = #[] := by simp [vfirst] at hf; exact hf
        subst hcs
        obtain rfl : bs = [] := by cases bs with | nil => rfl | cons b bs => simp at e1
        refine ⟨ρ, _, w, Rho.le_refl _, ?_, .string _, hw⟩
        exact run_convert_bytes_back w src dst e a c' [] hs he hd (fun j hj => by simp at hj)
  · rename_i t id off hs hd
    split at h
    case h_2 => cases h
    rename_i b j hg hj
    split at h
    case isFalse => cases h
    rename_i hc
    cases h
    cases hx with
    | ptr hi =>
      obtain ⟨i', cr, fz, hi', hr⟩ := hw.blk id b hg hc.1
      rw [hi] at hi'
      cases hi'
      have hlen := hr.len
      exact ⟨ρ, _, w, Rho.le_refl _, Lib.run_to_unsafe (e := b.elem) (cells := cr.size) w _ hs hd hj hc.2.1 (by simp [World.shape?, hr.at_]) (by simp only; omega), .ptr hi, hw⟩
  · rename_i u id off hs hd
    split at h
    case h_2 => cases h
    rename_i b j hg hj
    split at h
    case isFalse => cases h
    rename_i hc
    cases h
    cases hx with
    | ptr hi =>
      obtain ⟨i', cr, fz, hi', hr⟩ := hw.blk id b hg (by rw [hc.1]; decide)
      rw [hi] at hi'
      cases hi'
      obtain ⟨-, ho, hz⟩ := hr.ex hc.1
      exact ⟨ρ, _, w, Rho.le_refl _, Lib.run_from_unsafe (e := b.elem) (cells := cr.size) w _ hs hd hj (by simp [World.shape?, hr.at_]) (by rw [← hz]; simp only [ho, Nat.zero_add]; exact hc.2), .ptr hi, hw⟩
  · cases h

/-- One side is nil, the other one is not. -/
def vNil (P : Program) (t : TypeId) (x y : Value) : Bool :=
  match P.underlying t, x, y with
  | some (.pointer _), .pointer (some _), .pointer none | some (.pointer _), .pointer none, .pointer (some _) => true
  | some (.slice _), .slice (some _) _ _, .slice none _ _ | some (.slice _), .slice none _ _, .slice (some _) _ _ => true
  | some (.map _ _), .map (some _), .map none | some (.map _ _), .map none, .map (some _) => true
  | some (.func _ _ _), .func _ _ _, .nilFunc | some (.func _ _ _), .nilFunc, .func _ _ _ => true
  | _, _, _ => false
theorem vNil_ok {t : TypeId} {x x' y y' : Value} (hx : VRel ρ x x') (hy : VRel ρ y y') (h : vNil P t x y = true) : pv P (Op.equal t x' y') = some false := by
  unfold Op.equal Op.maxDepth
  rw [show (10000 : Nat) = 9999 + 1 from rfl]
  unfold Op.equalIn
  unfold vNil at h
  cases hu : P.underlying t with
  | none => simp [hu] at h
  | some d =>
    rw [pv_bind, pv_underlying hu]
    simp only [Option.bind_some]
    simp only [hu] at h
    cases d <;> first | (simp at h; done) | skip
    all_goals (cases hx <;> first | (simp at h; done) | skip)
    all_goals (cases hy <;> first | (simp at h; done) | rfl)
theorem vNil_guard {op : BinOp} {t : TypeId} {a b : Operand} {x x' y y' : Value} (hx : VRel ρ x x') (hy : VRel ρ y y') (h : vNil P t x y = true) : pv P (eqGuard op t a b x' y') = some () := by
  unfold eqGuard
  unfold vNil at h
  cases hu : P.underlying t with
  | none => simp [hu] at h
  | some d =>
    simp only [hu] at h
    cases d <;> first | (simp at h; done) | skip
    all_goals (cases hx <;> first | (simp at h; done) | skip)
    all_goals (cases hy <;> first | (simp at h; done) | (cases op <;> rfl))
theorem vNil_bin {t : TypeId} {x x' y y' : Value} (hx : VRel ρ x x') (hy : VRel ρ y y') (h : vNil P t x y = true) : pv P (binOp .eql t x' y') = some (.bool false) ∧ pv P (binOp .neq t x' y') = some (.bool true) := by
  have he := vNil_ok hx hy h
  unfold vNil at h
  cases hu : P.underlying t with
  | none => simp [hu] at h
  | some d =>
    simp only [hu] at h
    cases d <;> first | (simp at h; done) | skip
    all_goals (cases hx <;> first | (simp at h; done) | skip)
    all_goals (cases hy <;> first | (simp at h; done) | skip)
    all_goals exact ⟨by unfold binOp; rw [pv_bind, he]; rfl, by unfold binOp; rw [pv_bind, he]; rfl⟩
/-- Both sides are one address. -/
def vSame (P : Program) (t : TypeId) (x y : Value) : Bool :=
  match P.underlying t, x, y with
  | some (.pointer te), .pointer (some ⟨i, o, none⟩), .pointer (some ⟨j, p, none⟩) => i == j && o == p && (P.info? te).isSome
  | _, _, _ => false
theorem vSame_ok {t : TypeId} {x x' y y' : Value} (hx : VRel ρ x x') (hy : VRel ρ y y') (h : vSame P t x y = true) (w : World) (op : BinOp) (a b : Operand) :
    pv P (eqGuard op t a b x' y') = some () ∧ (binOp .eql t x' y').run P w = .ok (.bool true) w ∧ (binOp .neq t x' y').run P w = .ok (.bool false) w := by
  unfold vSame at h
  split at h
  case h_2 => cases h
  rename_i te i o j p hu
  simp only [Bool.and_eq_true, beq_iff_eq, Option.isSome_iff_exists] at h
  obtain ⟨⟨rfl, rfl⟩, q, hq⟩ := h
  cases hx with
  | ptr h1 =>
    cases hy with
    | ptr h2 =>
      rw [h1] at h2
      cases h2
      refine ⟨?_, run_eql_ptr_same w _ hu hq, Lib.run_neq_ptr_same w _ hu hq⟩
      unfold eqGuard
      cases op <;> first | rfl | simp [pv, hu]
end
end Vm
end Go.Proofs.Ytodjjnklelfgfaa
