/- More quick ways. -/
import Derived.Test.YtdbdmgmenojcaaaDoorG16
import Derived.Lib.Strings
set_option linter.unusedVariables false
set_option linter.unusedSimpArgs false
namespace Go.Proofs.YtdbdmgmenojcaaaDoor
namespace Vm
set_option linter.unusedSimpArgs false
set_option linter.unusedVariables false
open Go.RowKit

section
variable {P : Program} {h : HF} {σ : VHeap}
/-- What has a value by itself. -/
theorem pureOp_pv {o : Oper} {ev : Operand → Value} {u v : Value} (hp : pv P (execOp ev o) = some (.value v)) (h : pureOp P o ev = some u) : u = v := by
  unfold pureOp at h
  split at h
  · cases h
  · cases hc : o.op.operands.all (fun x => clean (ev x)) with
    | false => rw [hc] at h; cases h
    | true =>
      rw [hc, hp] at h
      simp only [cond_true] at h
      cases hv : clean v with
      | false => rw [hv] at h; cases h
      | true => rw [hv] at h; cases h; rfl
theorem pureOp_clean {o : Oper} {ev : Operand → Value} {v : Value} (hns : ∀ cs b, o.op ≠ .select cs b) (hc : o.op.operands.all (fun x => clean (ev x)) = true) (hp : pv P (execOp ev o) = some (.value v)) (hv : clean v = true) : pureOp P o ev = some v := by
  unfold pureOp
  split
  · rename_i cs b hs; exact absurd hs (hns cs b)
  · rw [hc, hp]
    simp only [cond_true, hv]
theorem vop_clean {o : Oper} {ev : Operand → Value} {v : Value} (hns : ∀ cs b, o.op ≠ .select cs b) (hc : o.op.operands.all (fun x => clean (ev x)) = true) (hp : pv P (execOp ev o) = some (.value v)) (hv : clean v = true) : vop P o ev σ = some (.val v σ) := by
  unfold vop
  rw [pureOp_clean hns hc hp hv]
def kEq : IntKind → IntKind → Bool
  | .i64, .i64 => true
  | .u8, .u8 => true
  | .u64, .u64 => true
  | .i32, .i32 => true
  | _, _ => false
theorem kEq_ok {a b : IntKind} (h : kEq a b = true) : a = b := by cases a <;> cases b <;> first | rfl | cases h
def binN (op : BinOp) (k : IntKind) (m n : Nat) : Option Value := match op with
  | .lss => some (.bool (Nat.blt m n))
  | .leq => some (.bool (Nat.ble m n))
  | .gtr => some (.bool (Nat.blt n m))
  | .geq => some (.bool (Nat.ble n m))
  | .eql => some (.bool (Nat.beq m n))
  | .neq => some (.bool (!Nat.beq m n))
  | .add => match k with
    | .i64 => bif Nat.blt (m + n) 9223372036854775808 then some (.int .i64 (.ofNat (m + n))) else none
    | _ => none
  | .sub => match k with
    | .i64 => bif Nat.blt m 9223372036854775808 && Nat.ble n m then some (.int .i64 (.ofNat (m - n))) else none
    | _ => none
  | _ => none
theorem blt_lt {m n : Nat} : Nat.blt m n = decide ((m : Int) < (n : Int)) := by
  rw [Bool.eq_iff_iff, decide_eq_true_iff]
  show Nat.ble (m + 1) n = true ↔ _
  rw [Nat.ble_eq]
  omega
theorem ble_le {m n : Nat} : Nat.ble m n = decide ((m : Int) ≤ (n : Int)) := by
  rw [Bool.eq_iff_iff, decide_eq_true_iff, Nat.ble_eq]
  omega
theorem wrap64 (n : Nat) (h : n < 9223372036854775808) : IntKind.i64.wrap (n : Int) = n := by
  simp [IntKind.wrap, IntKind.bits, IntKind.signed]
  omega
theorem binN_ok {op : BinOp} {k : IntKind} {m n : Nat} {t : TypeId} {v : Value} (hx : binN op k m n = some v) : pv P (binOp op t (.int k (.ofNat m)) (.int k (.ofNat n))) = some v ∧ clean v = true := by
  unfold binN at hx
  split at hx
  · cases hx; refine ⟨?_, rfl⟩; unfold binOp; simp only [ne_eq, not_true_eq_false, if_false, Op.intCmp]; rw [blt_lt]; rfl
  · cases hx; refine ⟨?_, rfl⟩; unfold binOp; simp only [ne_eq, not_true_eq_false, if_false, Op.intCmp]; rw [ble_le]; rfl
  · cases hx; refine ⟨?_, rfl⟩; unfold binOp; simp only [ne_eq, not_true_eq_false, if_false, Op.intCmp]; rw [blt_lt]; rfl
  · cases hx; refine ⟨?_, rfl⟩; unfold binOp; simp only [ne_eq, not_true_eq_false, if_false, Op.intCmp]; rw [ble_le]; rfl
  · cases hx; refine ⟨?_, rfl⟩; unfold binOp; simp only [ne_eq, not_true_eq_false, if_false, Op.intCmp]
    have : ((Int.ofNat m) == (Int.ofNat n)) = Nat.beq m n := by rw [Bool.eq_iff_iff, beq_iff_eq, Nat.beq_eq]; exact ⟨fun h => by cases h; rfl, fun h => by rw [h]⟩
    rw [this]; rfl
  · cases hx; refine ⟨?_, rfl⟩; unfold binOp; simp only [ne_eq, not_true_eq_false, if_false, Op.intCmp]
    have : ((Int.ofNat m) != (Int.ofNat n)) = !Nat.beq m n := by unfold bne; congr 1; rw [Bool.eq_iff_iff, beq_iff_eq, Nat.beq_eq]; exact ⟨fun h => by cases h; rfl, fun h => by rw [h]⟩
    rw [this]; rfl
  · split at hx
    · obtain ⟨hb, hx⟩ := bif_some hx
      cases hx
      have hlt : m + n < 9223372036854775808 := by rw [blt_lt, decide_eq_true_iff] at hb; omega
      refine ⟨?_, rfl⟩; unfold binOp; simp only [ne_eq, not_true_eq_false, if_false, Op.intArith]
      have := wrap64 (m + n) hlt
      rw [show (Int.ofNat m + Int.ofNat n) = ((m + n : Nat) : Int) from rfl, this]; rfl
    · cases hx
  · split at hx
    · obtain ⟨hb, hx⟩ := bif_some hx
      cases hx
      rw [Bool.and_eq_true, blt_lt, decide_eq_true_iff, Nat.ble_eq] at hb
      refine ⟨?_, rfl⟩; unfold binOp; simp only [ne_eq, not_true_eq_false, if_false, Op.intArith]
      have := wrap64 (m - n) (by omega)
      rw [show (Int.ofNat m - Int.ofNat n) = ((m - n : Nat) : Int) by simp only [Int.ofNat_eq_natCast]; omega, this]; rfl
    · cases hx
  · cases hx
theorem pv_vrun0 {α : Type} {P : Program} : ∀ {s : Sem α} {a : α}, pv P s = some a → ∀ σ, vrun P s σ = some (a, σ)
  | .pure b, a, h, σ => by cases h; rfl
  | .program k, a, h, σ => pv_vrun0 (s := k P) h σ
  | .mark m k, a, h, σ => pv_vrun0 (s := k) h σ
  | .load .., _, h, _ | .store .., _, h, _ | .new .., _, h, _ | .shape .., _, h, _ | .freeze .., _, h, _ | .frozen .., _, h, _ | .getObj .., _, h, _ | .setObj .., _, h, _
  | .choose .., _, h, _ | .sys .., _, h, _ | .halt .., _, h, _ => by cases h
def scalarB (P : Program) (t : TypeId) : Bool := match P.underlying t with
  | some (.struct _) => false
  | some (.array _ _) => false
  | some _ => true
  | none => false
theorem scalar_agg {t : TypeId} (hs : scalarB P t = true) (σ : VHeap) : vrun P (isAgg t) σ = some (false, σ) := by
  unfold isAgg
  unfold scalarB at hs
  cases hu : P.underlying t with
  | none => rw [hu] at hs; cases hs
  | some d =>
    rw [hu] at hs
    show vrun P ((underlying t).bind _) σ = _
    rw [vrun_bind, pv_vrun0 (pv_underlying hu)]
    simp only [andThen]
    cases d <;> first | rfl | cases hs
def foff (P : Program) (s : TypeId) (f : Nat) : Option Nat := match P.underlying s with
  | some (.struct fields) => match fields[f]? with
    | some fd => match P.info? fd.type with
      | some i => if i.size = 0 then none else some fd.offset
      | none => none
    | none => none
  | _ => none
theorem foff_ok {s : TypeId} {f n b o : Nat} (hf : foff P s f = some n) : pv P (Instr.fieldAt s (.pointer (some ⟨b, o, none⟩)) f) = some (.pointer (some ⟨b, o + n, none⟩)) := by
  unfold foff at hf
  split at hf
  case h_2 => cases hf
  rename_i fields hu
  split at hf
  case h_2 => cases hf
  rename_i fd hfd
  split at hf
  case h_2 => cases hf
  rename_i i hi
  split at hf
  · cases hf
  · rename_i hz
    cases hf
    unfold Instr.fieldAt
    rw [pv_bind, pv_underlying hu]
    simp only [Option.bind_some, hfd]
    rw [pv_bind, show pv P (Instr.sureAddr (.pointer (some ⟨b, o, none⟩))) = some ⟨b, o, none⟩ from rfl]
    simp only [Option.bind_some]
    rw [pv_bind]
    unfold fieldPlace
    rw [pv_bind, pv_sizeOf hi]
    simp only [Option.bind_some, if_neg hz]
    rw [add_none]
    rfl
noncomputable def quickF (P : Program) (o : Oper) (ev : Operand → Value) (h : HF) : Option VNF := match o.op with
  | .binOp op t x y _ => match ev x, ev y with
    | .int k (.ofNat m), .int k' (.ofNat n) => bif kEq k k' then (match binN op k m n with
      | some v => some (.val v h)
      | none => none) else none
    | _, _ => none
  | .unOp .not _ x => match ev x with
    | .bool b => some (.val (.bool (Bool.rec (motive := fun _ => Bool) true false b)) h)
    | _ => none
  | .extract t i => match ev t with
    | .tuple vs => match nthO vs.toList i with
      | some v => some (.val v h)
      | none => none
    | _ => none
  | .load t a => bif scalarB P t then match ev a with
    | .pointer (some ad) => match cellF h ad with
      | some v => some (.val v h)
      | none => none
    | _ => none
    else none
  | .fieldAddr s x f => match foff P s f with
    | some n => match ev x with
      | .pointer (some ⟨b, o, none⟩) => some (.val (.pointer (some ⟨b, o + n, none⟩)) h)
      | _ => none
    | none => none
  | _ => none
theorem quickF_ok (r : HRep h σ) {o : Oper} {ev : Operand → Value} {x : VNF} (hx : quickF P o ev h = some x) : ∃ y, vop P o ev σ = some y ∧ NRep x y := by
  unfold quickF at hx
  obtain ⟨dst, op, type, pos, after, guard⟩ := o
  dsimp only at hx
  split at hx
  · rename_i bop t a b yt
    split at hx
    · rename_i k m k' n ha hb
      obtain ⟨hk, hx2⟩ := bif_some hx
      clear hx
      have hk' := kEq_ok hk
      clear hk
      subst hk'
      have hx := hx2
      clear hx2
      split at hx
      case h_2 => cases hx
      rename_i v hv
      cases hx
      obtain ⟨h1, h2⟩ := binN_ok (P := P) (t := t) hv
      refine ⟨.val v σ, vop_clean (fun cs b e => by cases e) (by simp [Op.operands, ha, hb, clean, cleanC]) ?_ h2, rfl, r⟩
      unfold execOp
      dsimp only
      rw [pv_bind, pv_bind, ha, hb]
      have hg : pv P (eqGuard bop t a b (.int k (.ofNat m)) (.int k (.ofNat n))) = some () := by
        unfold eqGuard
        cases bop <;> rfl
      rw [hg]
      simp only [Option.bind_some, h1]
      rfl
    · cases hx
  · rename_i ty a
    split at hx
    case h_2 => cases hx
    rename_i b hb
    cases hx
    refine ⟨.val (.bool (!b)) σ, vop_clean (fun cs b e => by cases e) (by simp [Op.operands, hb, clean, cleanC]) ?_ rfl, by cases b <;> rfl, r⟩
    unfold execOp
    dsimp only
    rw [hb]
    rfl
  · rename_i t i
    split at hx
    case h_2 => cases hx
    rename_i vs hvs
    rw [nthO_eq, Array.getElem?_toList] at hx
    split at hx
    case h_2 => cases hx
    rename_i v hv
    cases hx
    have hp : pv P (Instr.extract (ev t) i) = some v := by
      rw [hvs]
      unfold Instr.extract
      simp only [hv]
      rfl
    refine ⟨.val v σ, ?_, rfl, r⟩
    unfold vop
    cases hq : pureOp P ⟨dst, .extract t i, type, pos, after, guard⟩ ev with
    | some u =>
      have : pv P (execOp ev ⟨dst, .extract t i, type, pos, after, guard⟩) = some (.value v) := by
        unfold execOp
        dsimp only
        rw [pv_bind, hp]
        rfl
      rw [pureOp_pv this hq]
    | none =>
      dsimp only
      rw [pv_vrun0 hp]
      rfl
  · rename_i t a
    obtain ⟨hs, hx⟩ := bif_some hx
    split at hx
    case h_2 => cases hx
    rename_i ad ha
    rw [cellF_eq r] at hx
    split at hx
    case h_2 => cases hx
    rename_i v hv
    cases hx
    refine ⟨.val v σ, ?_, rfl, r⟩
    have hpn : pureOp P ⟨dst, .load t a, type, pos, after, guard⟩ ev = none := by
      unfold pureOp
      dsimp only
      have : (Op.load t a).operands.all (fun x => clean (ev x)) = false := by simp [Op.operands, ha, clean, cleanC]
      rw [this]
      rfl
    unfold vop
    simp only [hpn, ha]
    have : vrun P (Instr.loadAt t (gres σ (.pointer (some ad)))) σ = some (v, σ) := by
      show vrun P (loadVar t ad) σ = _
      unfold loadVar
      show vrun P ((isAgg t).bind _) σ = _
      rw [vrun_bind, scalar_agg hs]
      simp only [andThen, Bool.false_eq_true, if_false]
      show vrun P (Sem.load .plain ad Sem.pure) σ = _
      simp only [vrun, hv]
    rw [this]
    rfl
  · rename_i s y f
    split at hx
    case h_2 => cases hx
    rename_i n hn
    split at hx
    case h_2 => cases hx
    rename_i b o hb
    cases hx
    have hp := foff_ok (b := b) (o := o) hn
    refine ⟨.val (.pointer (some ⟨b, o + n, none⟩)) σ, ?_, rfl, r⟩
    have hpn : pureOp P ⟨dst, .fieldAddr s y f, type, pos, after, guard⟩ ev = none := by
      unfold pureOp
      dsimp only
      have : (Op.fieldAddr s y f).operands.all (fun x => clean (ev x)) = false := by simp [Op.operands, hb, clean, cleanC]
      rw [this]
      rfl
    unfold vop
    simp only [hpn, hb]
    have e : gres σ (.pointer (some ⟨b, o, none⟩)) = .pointer (some ⟨b, o, none⟩) := rfl
    rw [e, pv_vrun0 hp]
    rfl
  · cases hx
/- Texts: lists of bytes, their spines computed to the end. -/
section
variable {α γ : Type}
noncomputable def dropK (l : List γ) : Nat → (List γ → α) → α := List.rec (motive := fun _ => Nat → (List γ → α) → α) (fun _ k => k []) (fun a l ih n k => Nat.rec (motive := fun _ => α) (k (a :: l)) (fun m _ => ih m k) n) l
theorem dropK_eq (l : List γ) : ∀ (n : Nat) (k : List γ → α), dropK l n k = k (l.drop n) := by
  induction l with
  | nil => intro n k; cases n <;> rfl
  | cons a l ih =>
    intro n k
    cases n with
    | zero => rfl
    | succ n => exact ih n k
noncomputable def takeK (l : List γ) : Nat → (List γ → α) → α := List.rec (motive := fun _ => Nat → (List γ → α) → α) (fun _ k => k []) (fun a l ih n k => Nat.rec (motive := fun _ => α) (k []) (fun m _ => ih m fun l => k (a :: l)) n) l
theorem takeK_eq (l : List γ) : ∀ (n : Nat) (k : List γ → α), takeK l n k = k (l.take n) := by
  induction l with
  | nil => intro n k; cases n <;> rfl
  | cons a l ih =>
    intro n k
    cases n with
    | zero => rfl
    | succ n => exact ih n fun l => k (a :: l)
noncomputable def appK (m l : List γ) : (List γ → α) → α := List.rec (motive := fun _ => (List γ → α) → α) (fun k => k m) (fun a _ ih k => ih fun l => k (a :: l)) l
theorem appK_eq (m l : List γ) : ∀ k : List γ → α, appK m l k = k (l ++ m) := by
  induction l with
  | nil => intro k; rfl
  | cons a l ih => intro k; exact ih fun l => k (a :: l)
end
def strB (P : Program) (t : TypeId) : Bool := match P.underlying t with
  | some .string => true
  | _ => false
noncomputable def textF (P : Program) (o : Oper) (ev : Operand → Value) (h : HF) : Option VNF := match o.op with
  | .slice t x lo hi none => bif strB P t && o.op.operands.all (fun x => clean (ev x)) then match ev x with
    | .string s => fNat (lenA s.data.toList 0) fun n => match pv P (Instr.sliceBounds false n n (lo.map ev) (hi.map ev) none) with
      | some (l, u, _) => match hi with
        | none => bif Nat.beq u n then dropK s.data.toList l fun r => some (.val (.string ⟨⟨r⟩⟩) h) else none
        | some _ => dropK s.data.toList l fun r => takeK r (u - l) fun r => some (.val (.string ⟨⟨r⟩⟩) h)
      | none => none
    | _ => none
    else none
  | .binOp op t x y _ => match ev x, ev y with
    | .string a, .string b => match op with
      | .add => bif Nat.ble (lenA a.data.toList (lenA b.data.toList 0)) 9223372036854775807 then appK b.data.toList a.data.toList fun r => some (.val (.string ⟨⟨r⟩⟩) h) else none
      | .eql => some (.val (.bool (eqS a.data.toList b.data.toList)) h)
      | .neq => some (.val (.bool (Bool.rec (motive := fun _ => Bool) true false (eqS a.data.toList b.data.toList))) h)
      | _ => none
    | _, _ => none
  | _ => none
theorem text_ext {a : List UInt8} {s : ByteArray} (h : a = s.data.toList) : (⟨⟨a⟩⟩ : ByteArray) = s := by
  subst h; rfl
theorem textF_pure {o : Oper} {ev : Operand → Value} {x : VNF} (hx : textF P o ev h = some x) : ∃ v, pureOp P o ev = some v ∧ x = .val v h := by
  unfold textF at hx
  obtain ⟨dst, op, type, pos, after, guard⟩ := o
  dsimp only at hx
  split at hx
  · rename_i t x lo hi
    obtain ⟨hb, hx2⟩ := bif_some hx
    clear hx
    rw [Bool.and_eq_true] at hb
    obtain ⟨hs, hc⟩ := hb
    have hu : P.underlying t = some .string := by
      unfold strB at hs
      split at hs
      · rename_i e; exact e
      · cases hs
    split at hx2
    case h_2 => cases hx2
    rename_i s hev
    have hsz : lenA s.data.toList 0 = s.size := by rw [lenA_eq, Nat.zero_add, Array.length_toList]; rfl
    rw [fNat_eq, hsz] at hx2
    split at hx2
    case h_2 => cases hx2
    rename_i l u q hb
    have hp : pv P (execOp ev ⟨dst, .slice t x lo hi none, type, pos, after, guard⟩) = some (.value (.string (s.extract l u))) := by
      unfold execOp
      dsimp only
      rw [pv_bind]
      unfold Instr.sliceAt
      rw [pv_bind, pv_underlying hu]
      simp only [Option.bind_some]
      unfold Instr.slice
      rw [pv_bind, pv_underlying hu, hev]
      simp only [Option.bind_some, Option.map_none, Option.isSome_none, Bool.false_eq_true, if_false]
      rw [pv_bind, hb]
      rfl
    have hval : ∀ (v : List UInt8), v = (s.data.toList.drop l).take (u - l) → x = x → (⟨⟨v⟩⟩ : ByteArray) = s.extract l u := fun v hv _ => text_ext (by
      rw [ByteArray.data_extract, Array.toList_extract, List.extract_eq_take_drop]
      exact hv)
    have hfin : ∀ (v : List UInt8), v = (s.data.toList.drop l).take (u - l) → ∃ y, pureOp P ⟨dst, .slice t x lo hi none, type, pos, after, guard⟩ ev = some y ∧ VNF.val (.string ⟨⟨v⟩⟩) h = .val y h := fun v hv =>
      ⟨.string (s.extract l u), pureOp_clean (fun cs b e => by cases e) hc hp rfl, by rw [hval v hv rfl]⟩
    split at hx2
    · obtain ⟨hq, hx3⟩ := bif_some hx2
      rw [dropK_eq] at hx3
      cases hx3
      refine hfin _ ?_
      have : u = s.size := Nat.eq_of_beq_eq_true hq
      rw [List.take_of_length_le]
      rw [List.length_drop, Array.length_toList, this]
      exact Nat.le_refl _
    · rw [dropK_eq, takeK_eq] at hx2
      cases hx2
      exact hfin _ rfl
  · rename_i bop t a b yt
    split at hx
    case h_2 => cases hx
    rename_i sa sb ha hb
    have hg : ∀ bop, pv P (eqGuard bop t a b (.string sa) (.string sb)) = some () := fun bop => by
      unfold eqGuard
      cases bop <;> rfl
    have hexec : ∀ (bop : BinOp) (v : Value), pv P (Op.stringOp bop sa sb) = some v → pv P (binOp bop t (.string sa) (.string sb)) = pv P (Op.stringOp bop sa sb) → clean v = true →
        pureOp P ⟨dst, .binOp bop t a b yt, type, pos, after, guard⟩ ev = some v := fun bop v hv he hcl => by
      refine pureOp_clean (fun cs b e => by cases e) (by simp [Op.operands, ha, hb, clean, cleanC]) ?_ hcl
      unfold execOp
      dsimp only
      rw [pv_bind, pv_bind, ha, hb, hg]
      simp only [Option.bind_some, he, hv]
      rfl
    have htl : (sa.toList == sb.toList) = eqS sa.data.toList sb.data.toList := by rw [eqS_eq, Lib.toList_data, Lib.toList_data]
    split at hx
    · obtain ⟨hle, hx2⟩ := bif_some hx
      rw [appK_eq] at hx2
      cases hx2
      rw [lenA_eq, lenA_eq, Nat.zero_add, Array.length_toList, Array.length_toList] at hle
      have hle' : sb.size + sa.size ≤ 9223372036854775807 := Nat.le_of_ble_eq_true hle
      refine ⟨.string (sa ++ sb), hexec .add _ ?_ rfl rfl, ?_⟩
      · unfold Op.stringOp
        dsimp only
        rw [if_neg]
        · rfl
        · have hm : IntKind.i64.max = 9223372036854775807 := rfl
          rw [hm]
          omega
      · congr 1
    · cases hx
      exact ⟨.bool (eqS sa.data.toList sb.data.toList), hexec .eql _ (by unfold Op.stringOp; dsimp only; rw [htl]; rfl) rfl rfl, rfl⟩
    · cases hx
      refine ⟨.bool (!eqS sa.data.toList sb.data.toList), hexec .neq _ (by unfold Op.stringOp; dsimp only; rw [htl]; rfl) rfl rfl, ?_⟩
      cases eqS sa.data.toList sb.data.toList <;> rfl
    · cases hx
  · cases hx
theorem textF_ok (r : HRep h σ) {o : Oper} {ev : Operand → Value} {x : VNF} (hx : textF P o ev h = some x) : ∃ y, vop P o ev σ = some y ∧ NRep x y := by
  obtain ⟨v, hp, rfl⟩ := textF_pure hx
  refine ⟨.val v σ, ?_, rfl, r⟩
  unfold vop
  rw [hp]
noncomputable def vopX (P : Program) (o : Oper) (ev : Operand → Value) (h : HF) : Option VNF := match fastF o ev h with
  | some r => some r
  | none => match quickF P o ev h with
    | some r => some r
    | none => match textF P o ev h with
      | some r => some r
      | none => vopF P o ev h
theorem vopX_ok (r : HRep h σ) {o : Oper} {ev : Operand → Value} {x : VNF} (hx : vopX P o ev h = some x) : ∃ y, vop P o ev σ = some y ∧ NRep x y := by
  unfold vopX at hx
  split at hx
  · rename_i q hq; cases hx; exact fastF_ok r hq
  · split at hx
    · rename_i q hq; cases hx; exact quickF_ok r hq
    · split at hx
      · rename_i q hq; cases hx; exact textF_ok r hq
      · exact vopF_ok r hx
end
end Vm
end Go.Proofs.YtdbdmgmenojcaaaDoor
namespace Go.Proofs.YtdbdmgmenojcaaaDoor
namespace Vm
set_option linter.unusedSimpArgs false
set_option linter.unusedVariables false
open Go.RowKit

section
variable {α β : Type} {P : Program} {h h1 h' : HF} {σ σ1 : VHeap}
noncomputable def nthD (l : List Value) : Nat → Value := List.rec (motive := fun _ => Nat → Value) (fun _ => undef) (fun a _ ih n => Nat.rec (motive := fun _ => Value) a (fun m _ => ih m) n) l
theorem nthD_eq (l : List Value) (n : Nat) : nthD l n = (⟨l⟩ : Array Value).getD n undef := by
  rw [Array.getD_eq_getD_getElem?, List.getElem?_toArray]
  induction l generalizing n with
  | nil => rfl
  | cons a l ih =>
    cases n with
    | zero => rfl
    | succ n => show nthD l n = _; rw [ih, List.getElem?_cons_succ]
noncomputable def vevF (t : List Value) : Operand → Value
  | .tmp i => nthD t i
  | .const v => v
  | .global g => .chan (some g)
  | .func f => .func (.func f) #[] #[]
theorem vevF_eq (t : List Value) : vevF t = vev ⟨t⟩ := by
  funext x
  cases x with
  | tmp i => exact nthD_eq t i
  | _ => rfl
/-- What an operation gave, computed to its end. -/
noncomputable def fRes (o : Op) (v : Value) (k : Value → α) : α := match o with
  | .convert .. => fStr v k
  | .call c => match c.callee with
    | .builtin _ => fStr v k
    | _ => fVal v k
  | _ => fVal v k
theorem fRes_eq (o : Op) (v : Value) (k : Value → α) : fRes o v k = k v := by
  unfold fRes
  split <;> first | exact fStr_eq _ _ | exact fVal_eq _ _ | (split <;> first | exact fStr_eq _ _ | exact fVal_eq _ _)
noncomputable def putF (o : Oper) (t : List Value) (v : Value) (k : List Value → α) : α := match o.dst with
  | some d => fRes o.op v fun v => setS v t d k
  | none => k t
theorem vput_list (t : List Value) (dst : Option Tmp) (v : Value) : vput ⟨t⟩ dst v = ⟨match dst with | some d => t.set d v | none => t⟩ := by
  unfold vput
  cases dst with
  | none => rfl
  | some d => apply Array.ext'; simp
theorem putF_ok {o : Oper} {t : List Value} {v : Value} {k : List Value → Option β} {x : β} (hx : putF o t v k = some x) : ∃ t', vput ⟨t⟩ o.dst v = ⟨t'⟩ ∧ k t' = some x := by
  unfold putF at hx
  rw [vput_list]
  split at hx
  · rename_i d hd
    rw [fRes_eq, setS_eq] at hx
    exact ⟨_, rfl, hx⟩
  · rename_i hd; exact ⟨t, rfl, hx⟩
/- Blocks hidden, and shown again. -/
noncomputable def mskF : List Nat → HF → (HF → Option β) → Option β
  | [], h, k => k h
  | i :: ids, h, k => h.del i fun h => mskF ids h k
theorem msk_cons (i : Nat) (ids : List Nat) (hi : i < σ.size) : mskL (σ.setIfInBounds i gone) ids = mskL σ (i :: ids) := by
  rw [mskL_eq, mskL_eq]
  apply heap_ext
  intro id
  rw [msk_get, msk_get, Array.getElem?_setIfInBounds, List.contains_cons]
  by_cases he : i = id
  · subst he
    simp [hi]
  · have : (id == i) = false := by simpa using Ne.symm he
    rw [if_neg he, this, Bool.false_or]
theorem mskF_ok : ∀ {ids : List Nat} {h : HF} {σ : VHeap} {k : HF → Option β} {x : β}, HRep h σ → mskF ids h k = some x → ∃ h', HRep h' (mskL σ ids) ∧ k h' = some x
  | [], h, σ, k, x, r, hx => ⟨h, r, hx⟩
  | i :: ids, h, σ, k, x, r, hx => by
    unfold mskF at hx
    obtain ⟨hi, h1, r1, hx⟩ := r.del hx
    obtain ⟨h2, r2, hx⟩ := mskF_ok r1 hx
    rw [msk_cons i ids hi] at r2
    exact ⟨h2, r2, hx⟩
noncomputable def backF (h : HF) : List Nat → HF → (HF → Option β) → Option β
  | [], h1, k => k h1
  | i :: ids, h1, k => match h.get i with
    | some o => h1.set i o fun h1 => backF h ids h1 k
    | none => none
theorem back_cons (i : Nat) (ids : List Nat) (o : VObj) (ho : σ[i]? = some o) (hi : i < σ1.size) : backL σ (σ1.setIfInBounds i o) ids = backL σ σ1 (i :: ids) := by
  rw [backL_eq, backL_eq]
  apply heap_ext
  intro id
  rw [back_get, back_get, Array.getElem?_setIfInBounds, List.contains_cons]
  by_cases he : i = id
  · subst he
    have : ∃ o1, σ1[i]? = some o1 := ⟨_, Array.getElem?_eq_getElem hi⟩
    obtain ⟨o1, h1⟩ := this
    simp [hi, ho, h1]
  · have : (id == i) = false := by simpa using Ne.symm he
    rw [if_neg he, this, Bool.false_or]
theorem backF_ok (r : HRep h σ) : ∀ {ids : List Nat} {h1 : HF} {σ1 : VHeap} {k : HF → Option β} {x : β}, HRep h1 σ1 → backF h ids h1 k = some x → ∃ h', HRep h' (backL σ σ1 ids) ∧ k h' = some x
  | [], h1, σ1, k, x, r1, hx => ⟨h1, r1, hx⟩
  | i :: ids, h1, σ1, k, x, r1, hx => by
    unfold backF at hx
    rw [r.look] at hx
    split at hx
    case h_2 => cases hx
    rename_i o ho
    have hi : i < σ1.size := by
      unfold HF.set at hx
      cases hb : Nat.ble (i + 1) h1.n with
      | false => rw [hb] at hx; cases hx
      | true => have := Nat.le_of_ble_eq_true hb; rw [← r1.size]; omega
    obtain ⟨h2, r2, hx⟩ := r1.set hx
    obtain ⟨h3, r3, hx⟩ := backF_ok r r2 hx
    rw [back_cons i ids o ho hi] at r3
    exact ⟨h3, r3, hx⟩
noncomputable def aloneF (h : HF) (ids : List Nat) : Bool := ids.all fun id => match h.get id with
  | some o => !o.live || o.alone
  | none => false
theorem aloneF_eq (r : HRep h σ) (ids : List Nat) : aloneF h ids = aloneAll σ ids := by
  unfold aloneF aloneAll
  simp only [r.look]
  rfl
noncomputable def veqQ (v w : Value) : Bool := match v, w with
  | .string a, .string b => eqS a.data.toList b.data.toList
  | v, w => veq v w
theorem veqQ_ok {v w : Value} (h : veqQ v w = true) : v = w := by
  unfold veqQ at h
  split at h
  · rename_i a b
    rw [eqS_eq, beq_iff_eq] at h
    obtain ⟨⟨a⟩⟩ := a
    obtain ⟨⟨b⟩⟩ := b
    simp only at h
    rw [h]
  · exact veq_ok h
noncomputable def stillF (P : Program) (ops : Array Oper) (pre : Nat → Nat → Bool) (al : List (Nat × Nat)) (t : List Value) (h : HF) : List (Nat × Value) → Bool
  | [] => true
  | x :: l => (match ops[x.1]? with
    | some o => isRd P o && (mskF (hid pre al x.1) h fun h1 => match vopF P o (vevF t) h1 with
      | some (.val v _) => bif veqQ v x.2 then some () else none
      | _ => none).isSome
    | none => false) && stillF P ops pre al t h l
theorem stillF_ok {ops : Array Oper} {pre : Nat → Nat → Bool} {al : List (Nat × Nat)} {t : List Value} (r : HRep h σ) : ∀ {l : List (Nat × Value)}, stillF P ops pre al t h l = true → Still P ops pre l al ⟨t⟩ σ
  | [], _, x, hx => by simp at hx
  | y :: l, hh, x, hx => by
    simp only [stillF, Bool.and_eq_true] at hh
    rcases List.mem_cons.1 hx with rfl | hx
    · have hh := hh.1
      split at hh
      case h_2 => cases hh
      rename_i o ho
      simp only [Bool.and_eq_true] at hh
      obtain ⟨hr, hh⟩ := hh
      obtain ⟨u, hu⟩ := Option.isSome_iff_exists.1 hh
      obtain ⟨h1, r1, hu⟩ := mskF_ok r hu
      split at hu
      case h_2 => cases hu
      rename_i v hv hvo
      cases hq : veqQ v x.2 with
      | false => rw [hq] at hu; cases hu
      | true =>
        obtain ⟨y, e1, e2⟩ := vopF_ok r1 hvo
        rw [vevF_eq] at e1
        obtain ⟨v', e⟩ := rd_same hr e1
        subst e
        obtain ⟨e3, _⟩ := e2
        rw [← veqQ_ok hq, e3]
        exact ⟨o, ho, e1⟩
    · exact stillF_ok r hh.2 x hx
abbrev SubF := Nat → FuncId → Array Value → HF → Option (Value × HF)
def SubOk (P : Program) (E : VCall) (sub : SubF) : Prop := ∀ m f args h v h' σ, sub m f args h = some (v, h') → HRep h σ → ∀ R : VC → Prop, (∀ σ', HRep h' σ' → R (.ret v σ')) → vcallOf P E (vwp P E m) f args σ R
noncomputable def planF (P : Program) (sub : FuncId → Array Value → HF → Option (Value × HF)) (ops : Array Oper) (pre : Nat → Nat → Bool) (eff : Nat → Bool) : List Nat → List (Nat × Value) → List (Nat × Nat) → List Value → HF → Option (List Value × HF)
  | [], _, _, t, h => some (t, h)
  | i :: l, pd, al, t, h =>
    match ops[i]? with
    | none => none
    | some o =>
      bif Region.wanted o (yielded ops ⟨t⟩) then
        bif o.op.operands.all constOk then
          bif eff i then
            bif aloneF h (hid pre al i) then
              mskF (hid pre al i) h fun hm =>
              match vopF P o (vevF t) hm with
              | some (.val v h1) => backF h (hid pre al i) h1 fun h2 => putF o t v fun t' =>
                  bif stillF P ops pre (al.filter fun x => !pre x.1 i) t' h2 (pd.filter fun x => !pre x.1 i) then planF P sub ops pre eff l (pd.filter fun x => !pre x.1 i) (al.filter fun x => !pre x.1 i) t' h2 else none
              | some (.skip h1) => backF h (hid pre al i) h1 fun h2 => putF o t undef fun t' =>
                  bif stillF P ops pre (al.filter fun x => !pre x.1 i) t' h2 (pd.filter fun x => !pre x.1 i) then planF P sub ops pre eff l (pd.filter fun x => !pre x.1 i) (al.filter fun x => !pre x.1 i) t' h2 else none
              | some (.enter f args h1) => match sub f args h1 with
                | some (v, h1) => backF h (hid pre al i) h1 fun h2 => putF o t v fun t' =>
                  bif stillF P ops pre (al.filter fun x => !pre x.1 i) t' h2 (pd.filter fun x => !pre x.1 i) then planF P sub ops pre eff l (pd.filter fun x => !pre x.1 i) (al.filter fun x => !pre x.1 i) t' h2 else none
                | none => none
              | _ => none
            else none
          else match textF P o (vevF t) h with
            | some (.val v _) => putF o t v fun t' => planF P sub ops pre eff l pd al t' h
            | _ => match nval P o (vevF t) with
            | some v => putF o t v fun t' => planF P sub ops pre eff l pd al t' h
            | none => match nalloc P o (vevF t) with
              | some (k, cs, e) => bif cs.all (leafB h.n) then h.push (k.obj cs e h.n) fun h1 => putF o t (k.val h.n) fun t' => planF P sub ops pre eff l pd ((i, h.n) :: al) t' h1 else none
              | none => bif isRd P o then mskF (hid pre al i) h fun hm => match vopF P o (vevF t) hm with
                | some (.val v _) => putF o t v fun t' => planF P sub ops pre eff l ((i, v) :: pd) al t' h
                | _ => none
                else none
        else none
      else putF o t undef fun t' => planF P sub ops pre eff l pd al t' h
theorem planF_ok {E : VCall} {sub : SubF} (hs : SubOk P E sub) {m : Nat} {ops : Array Oper} {pre : Nat → Nat → Bool} {eff : Nat → Bool} : ∀ (l : List Nat) (pd : List (Nat × Value)) (al : List (Nat × Nat)) (t : List Value) (h : HF) (t' : List Value) (h' : HF) (σ : VHeap),
    planF P (sub m) ops pre eff l pd al t h = some (t', h') → HRep h σ → ∀ Q : VPost, (∀ σ', HRep h' σ' → Q .normal ⟨t'⟩ σ') → vplan P (vcallOf P E (vwp P E m)) ops pre eff Q l pd al ⟨t⟩ σ := by
  intro l
  induction l with
  | nil => intro pd al t h t' h' σ hx r Q hq; unfold planF at hx; cases hx; exact hq _ r
  | cons i l ih =>
    intro pd al t h t' h' σ hx r Q hq
    unfold planF at hx
    unfold vplan
    split at hx
    · cases hx
    · rename_i o ho
      simp only [ho]
      cases hw : Region.wanted o (yielded ops ⟨t⟩) with
      | false =>
        rw [hw] at hx
        rw [if_neg (by simp)]
        obtain ⟨t1, e, hx⟩ := putF_ok hx
        rw [e]
        exact ih _ _ _ _ _ _ _ hx r Q hq
      | true =>
        rw [hw] at hx
        rw [if_pos rfl]
        simp only [cond_true] at hx
        obtain ⟨hc, hx⟩ := bif_some hx
        refine ⟨hc, ?_⟩
        cases he : eff i with
        | true =>
          rw [he] at hx
          rw [if_pos rfl]
          simp only [cond_true] at hx
          obtain ⟨hal, hx⟩ := bif_some hx
          rw [aloneF_eq r] at hal
          refine ⟨hal, ?_⟩
          obtain ⟨hm, rm, hx⟩ := mskF_ok r hx
          split at hx
          · rename_i v h1 hv
            obtain ⟨y, e1, e2⟩ := vopF_ok rm hv
            rw [vevF_eq] at e1
            cases y <;> simp only [NRep] at e2
            obtain ⟨rfl, r1⟩ := e2
            obtain ⟨h2, r2, hx⟩ := backF_ok r r1 hx
            obtain ⟨t1, e, hx⟩ := putF_ok hx
            obtain ⟨hst, hx⟩ := bif_some hx
            simp only [e1, e]
            exact ⟨stillF_ok r2 hst, ih _ _ _ _ _ _ _ hx r2 Q hq⟩
          · rename_i h1 hv
            obtain ⟨y, e1, e2⟩ := vopF_ok rm hv
            rw [vevF_eq] at e1
            cases y <;> simp only [NRep] at e2
            obtain ⟨h2, r2, hx⟩ := backF_ok r e2 hx
            obtain ⟨t1, e, hx⟩ := putF_ok hx
            obtain ⟨hst, hx⟩ := bif_some hx
            simp only [e1, e]
            exact ⟨stillF_ok r2 hst, ih _ _ _ _ _ _ _ hx r2 Q hq⟩
          · rename_i f args h1 hv
            obtain ⟨y, e1, e2⟩ := vopF_ok rm hv
            rw [vevF_eq] at e1
            cases y <;> simp only [NRep] at e2
            obtain ⟨rfl, rfl, r1⟩ := e2
            simp only [e1]
            split at hx
            case h_2 => cases hx
            rename_i v h2 hsub
            refine hs m _ _ _ _ _ _ hsub r1 _ fun σ2 r2 => ?_
            obtain ⟨h3, r3, hx⟩ := backF_ok r r2 hx
            obtain ⟨t1, e, hx⟩ := putF_ok hx
            obtain ⟨hst, hx⟩ := bif_some hx
            simp only [e]
            exact ⟨stillF_ok r3 hst, ih _ _ _ _ _ _ _ hx r3 Q hq⟩
          · cases hx
        | false =>
          rw [he] at hx
          rw [if_neg (by simp)]
          simp only [cond_false] at hx
          rw [vevF_eq] at hx
          split at hx
          · rename_i v hq htx
            obtain ⟨u, hp, e⟩ := textF_pure htx
            cases e
            have hv : nval P o (vev ⟨t⟩) = some v := by unfold nval; rw [hp]
            simp only [hv]
            obtain ⟨t1, e, hx⟩ := putF_ok hx
            rw [e]
            exact ih _ _ _ _ _ _ _ hx r Q hq
          split at hx
          · rename_i v hv
            simp only [hv]
            obtain ⟨t1, e, hx⟩ := putF_ok hx
            rw [e]
            exact ih _ _ _ _ _ _ _ hx r Q hq
          · rename_i hn
            simp only [hn]
            split at hx
            · rename_i k cs e hna
              obtain ⟨hlf, hx⟩ := bif_some hx
              rw [r.size] at hlf hx
              obtain ⟨h1, r1, hx⟩ := r.push hx
              obtain ⟨t1, e', hx⟩ := putF_ok hx
              simp only [hna, e']
              exact ⟨hlf, ih _ _ _ _ _ _ _ hx r1 Q hq⟩
            · rename_i hna
              simp only [hna]
              obtain ⟨hr, hx⟩ := bif_some hx
              obtain ⟨hm, rm, hx⟩ := mskF_ok r hx
              split at hx
              case h_2 => cases hx
              rename_i v h1 hv
              obtain ⟨y, e1, e2⟩ := vopF_ok rm hv
              cases y <;> simp only [NRep] at e2
              obtain ⟨rfl, -⟩ := e2
              obtain ⟨t1, e, hx⟩ := putF_ok hx
              simp only [hr, e1, e]
              exact ih _ _ _ _ _ _ _ hx r Q hq
end
end Vm
end Go.Proofs.YtdbdmgmenojcaaaDoor
namespace Go.Proofs.YtdbdmgmenojcaaaDoor
namespace Vm
set_option linter.unusedSimpArgs false
set_option linter.unusedVariables false
open Go.RowKit
section
variable {P : Program} {h h' : HF} {σ : VHeap}
theorem vrun_underlying {α : Type} {t : TypeId} {d : TypeDesc} (hu : P.underlying t = some d) (k : TypeDesc → Sem α) (σ : VHeap) : vrun P (underlying t >>= k) σ = vrun P (k d) σ := by
  show vrun P ((underlying t).bind k) σ = _
  rw [vrun_bind, pv_vrun0 (pv_underlying hu)]
  rfl
theorem vrun_checkKey {α : Type} {kt : TypeId} (hk : P.underlying kt = some .string) (b : Bool) (s : ByteArray) (k : Unit → Sem α) (σ : VHeap) : vrun P (Instr.checkKey b 10000 kt (.string s) >>= k) σ = vrun P (k ()) σ := by
  show vrun P ((Instr.checkKey b (9999 + 1) kt (.string s)).bind k) σ = _
  rw [vrun_bind]
  unfold Instr.checkKey
  rw [vrun_underlying hk]
  rfl
theorem vrun_findKey {α : Type} {kt : TypeId} (hk : P.underlying kt = some .string) {s : ByteArray} {es : List MapEntry} {q : Option (Nat × Value)} (hf : Instr.findNow .string (.string s) es 0 = some q) (k : Option (Nat × Value) → Sem α) (σ : VHeap) :
    vrun P (Instr.findKey kt (.string s) es >>= k) σ = vrun P (k q) σ := by
  show vrun P ((Instr.findKey kt (.string s) es).bind k) σ = _
  rw [vrun_bind]
  unfold Instr.findKey
  rw [vrun_underlying hk, hf]
  rfl
theorem delete_run {ts : Array TypeId} {ty mt kt et : TypeId} {r : Nat} {s : ByteArray} {es : Array MapEntry} {c i : Nat} {v : Value} (h0 : ts[0]? = some mt) (hu : P.underlying mt = some (.map kt et)) (hk : P.underlying kt = some .string)
    (hg : σ[r]? = some (.map es c)) (hf : Instr.findNow .string (.string s) es.toList 0 = some (some (i, v))) :
    vrun P (Builtin.delete_ ts ty #[.map (some r), .string s]) σ = some (.tuple #[], σ.setIfInBounds r (.map (es.eraseIdxIfInBounds i) c)) := by
  unfold Builtin.delete_
  simp only [h0, List.getElem?_toArray, List.getElem?_cons_zero, List.getElem?_cons_succ]
  rw [vrun_underlying hu]
  dsimp only
  show vrun P (Sem.getObj r _) σ = _
  simp only [vrun, hg]
  show vrun P (Instr.checkKey es.isEmpty 10000 kt (.string s) >>= fun _ => _) σ = _
  rw [vrun_checkKey hk]
  show vrun P (Instr.findKey kt (.string s) es.toList >>= fun _ => _) σ = _
  rw [vrun_findKey hk hf]
  dsimp only
  show vrun P (Sem.setObj r (.map (es.eraseIdxIfInBounds i) c) _) σ = _
  simp only [vrun, hg]
  rfl
theorem update_run {mt kt et : TypeId} {r : Nat} {s : ByteArray} {val : Value} {es : Array MapEntry} {c : Nat} (hu : P.underlying mt = some (.map kt et)) (hk : P.underlying kt = some .string)
    (hg : σ[r]? = some (.map es c)) (hf : Instr.findNow .string (.string s) es.toList 0 = some none) :
    vrun P (Instr.mapUpdate mt (.map (some r)) (.string s) val) σ = some ((), σ.setIfInBounds r (.map (es.push ⟨.string s, val, c⟩) (c + 1))) := by
  unfold Instr.mapUpdate
  rw [vrun_underlying hu]
  dsimp only
  show vrun P (Sem.getObj r _) σ = _
  simp only [vrun, hg]
  show vrun P (Instr.checkKey false 10000 kt (.string s) >>= fun _ => _) σ = _
  rw [vrun_checkKey hk]
  show vrun P (Instr.findKey kt (.string s) es.toList >>= fun _ => _) σ = _
  rw [vrun_findKey hk hf]
  dsimp only
  show vrun P (Sem.setObj r (.map (es.push ⟨.string s, val, c⟩) (c + 1)) _) σ = _
  simp only [vrun, hg]
theorem lookup_run {mt kt et : TypeId} {r : Nat} {s : ByteArray} {z : Value} {es : Array MapEntry} {c : Nat} {q : Option (Nat × Value)} (hu : P.underlying mt = some (.map kt et)) (hk : P.underlying kt = some .string) (hz : pv P (zeroValue et) = some z)
    (hg : σ[r]? = some (.map es c)) (hf : Instr.findNow .string (.string s) es.toList 0 = some q) (ok : Bool) :
    vrun P (Instr.lookup mt (.map (some r)) (.string s) ok) σ = some (match q with | some (_, v) => (if ok then .tuple #[v, .bool true] else v) | none => (if ok then .tuple #[z, .bool false] else z), σ) := by
  unfold Instr.lookup
  rw [vrun_underlying hu]
  dsimp only
  show vrun P (Sem.getObj r _) σ = _
  simp only [vrun, hg]
  show vrun P (Instr.checkKey es.isEmpty 10000 kt (.string s) >>= fun _ => _) σ = _
  rw [vrun_checkKey hk]
  show vrun P (Instr.findKey kt (.string s) es.toList >>= fun _ => _) σ = _
  rw [vrun_findKey hk hf]
  cases q with
  | some p => rfl
  | none =>
    dsimp only
    show vrun P ((zeroValue et).bind _) σ = _
    rw [vrun_bind, pv_vrun0 hz]
    rfl
/-- A key among the entries, quickly. -/
noncomputable def findS (s : List UInt8) (es : List MapEntry) : Nat → Option (Option (Nat × Value)) := List.rec (motive := fun _ => Nat → Option (Option (Nat × Value))) (fun _ => some none)
  (fun e _ ih i => match e.key with
    | .string a => Bool.rec (motive := fun _ => Option (Option (Nat × Value))) (fNat (Nat.succ i) ih) (some (some (i, e.val))) (eqS s a.data.toList)
    | _ => none) es
theorem findS_ok (s : ByteArray) : ∀ (es : List MapEntry) (i : Nat) (q : Option (Nat × Value)), findS s.data.toList es i = some q → Instr.findNow .string (.string s) es i = some q
  | [], i, q, h => h
  | e :: es, i, q, h => by
    have h : (match e.key with
      | .string a => Bool.rec (motive := fun _ => Option (Option (Nat × Value))) (fNat (Nat.succ i) (findS s.data.toList es)) (some (some (i, e.val))) (eqS s.data.toList a.data.toList)
      | _ => none) = some q := h
    unfold Instr.findNow
    split at h
    case h_2 => cases h
    rename_i a ha
    have hs : Instr.sameNow .string (.string s) e.key = some (eqS s.data.toList a.data.toList) := by
      rw [ha, eqS_eq]
      show some (s == a) = _
      congr 1
      obtain ⟨⟨x⟩⟩ := s
      obtain ⟨⟨y⟩⟩ := a
      show ((⟨x⟩ : Array UInt8) == ⟨y⟩) = (x == y)
      simp
    rw [hs]
    cases he : eqS s.data.toList a.data.toList with
    | true => rw [he] at h; exact h
    | false =>
      rw [he, fNat_eq] at h
      exact findS_ok s es (i + 1) q h
noncomputable def eraseK {α γ : Type} (l : List γ) : Nat → (List γ → α) → α := List.rec (motive := fun _ => Nat → (List γ → α) → α) (fun _ k => k []) (fun a l ih n k => Nat.rec (motive := fun _ => α) (k l) (fun m _ => ih m fun l => k (a :: l)) n) l
theorem eraseK_eq {α γ : Type} (l : List γ) : ∀ (n : Nat) (k : List γ → α), eraseK l n k = k (l.eraseIdx n) := by
  induction l with
  | nil => intro n k; rfl
  | cons a l ih =>
    intro n k
    cases n with
    | zero => rfl
    | succ n => exact ih n fun l => k (a :: l)
def mapTy (P : Program) (t : TypeId) : Option (TypeId × TypeId) := match P.underlying t with
  | some (.map kt et) => match P.underlying kt with
    | some .string => some (kt, et)
    | _ => none
  | _ => none
theorem mapTy_ok {t kt et : TypeId} (h : mapTy P t = some (kt, et)) : P.underlying t = some (.map kt et) ∧ P.underlying kt = some .string := by
  unfold mapTy at h
  split at h
  case h_2 => cases h
  rename_i kt' et' hu
  split at h
  case h_2 => cases h
  rename_i hk
  cases h
  exact ⟨hu, hk⟩
noncomputable def mapQ (P : Program) (o : Oper) (ev : Operand → Value) (h : HF) : Option VNF := match o.op with
  | .lookup t m k ok => match mapTy P t, ev m, ev k with
    | some (_, et), .map (some r), .string s => match h.get r, pv P (zeroValue et) with
      | some (.map es c), some z => bif basicKey P t && elemZeroOk P t then (match findS s.data.toList es.toList 0 with
        | some (some (_, v)) => some (.val (Bool.rec (motive := fun _ => Value) v (.tuple #[v, .bool true]) ok) h)
        | some none => some (.val (Bool.rec (motive := fun _ => Value) z (.tuple #[z, .bool false]) ok) h)
        | none => none) else none
      | _, _ => none
    | _, _, _ => none
  | .mapUpdate t m k x => match mapTy P t, ev m, ev k with
    | some (_, _), .map (some r), .string s => match h.get r with
      | some (.map es c) => bif basicKey P t then (match findS s.data.toList es.toList 0 with
        | some none => fVal (ev x) fun val => appK [⟨.string s, val, c⟩] es.toList fun l => h.set r (.map ⟨l⟩ (Nat.succ c)) fun h' => some (.skip h')
        | _ => none) else none
      | _ => none
    | _, _, _ => none
  | .call c => match c.callee with
    | .builtin .delete => match c.args.map ev, c.argTypes[0]? with
      | ⟨[.map (some r), .string s]⟩, some mt => match mapTy P mt, h.get r with
        | some (_, _), some (.map es cl) => bif basicKey P mt then (match findS s.data.toList es.toList 0 with
          | some (some (i, _)) => eraseK es.toList i fun l => h.set r (.map ⟨l⟩ cl) fun h' => some (.val (.tuple #[]) h')
          | _ => none) else none
        | _, _ => none
      | _, _ => none
    | _ => none
  | _ => none
theorem mapQ_ok (r : HRep h σ) {o : Oper} {ev : Operand → Value} {x : VNF} (hx : mapQ P o ev h = some x) : ∃ y, vop P o ev σ = some y ∧ NRep x y := by
  unfold mapQ at hx
  obtain ⟨dst, op, type, pos, after, guard⟩ := o
  dsimp only at hx
  split at hx
  · rename_i t m k ok
    split at hx
    case h_2 => cases hx
    rename_i kt et q s hm hem hek
    obtain ⟨hu, hk⟩ := mapTy_ok hm
    rw [r.look] at hx
    split at hx
    case h_2 => cases hx
    rename_i es c z hg hz
    obtain ⟨hb, hx2⟩ := bif_some hx
    clear hx
    have hpn : pureOp P ⟨dst, .lookup t m k ok, type, pos, after, guard⟩ ev = none := by
      unfold pureOp
      dsimp only
      have : (Op.lookup t m k ok).operands.all (fun x => clean (ev x)) = false := by simp [Op.operands, hem, clean, cleanC]
      rw [this]
      rfl
    have hv : ∀ v, vrun P (Instr.lookup t (.map (some q)) (.string s) ok) σ = some (v, σ) → vop P ⟨dst, .lookup t m k ok, type, pos, after, guard⟩ ev σ = some (.val v σ) := fun v hv => by
      unfold vop
      simp only [hpn, hem, hek]
      rw [show cleanC (.string s) = true from rfl, Bool.and_true, hb]
      simp only [cond_true, hv, vv]
    split at hx2
    · rename_i i v hf
      cases hx2
      have := lookup_run hu hk hz hg (findS_ok s _ _ _ hf) ok
      refine ⟨_, hv _ this, ?_, r⟩
      cases ok <;> rfl
    · rename_i hf
      cases hx2
      have := lookup_run hu hk hz hg (findS_ok s _ _ _ hf) ok
      refine ⟨_, hv _ this, ?_, r⟩
      cases ok <;> rfl
    · cases hx2
  · rename_i t m k y
    split at hx
    case h_2 => cases hx
    rename_i kt et q s hm hem hek
    obtain ⟨hu, hk⟩ := mapTy_ok hm
    rw [r.look] at hx
    split at hx
    case h_2 => cases hx
    rename_i es c hg
    obtain ⟨hb, hx2⟩ := bif_some hx
    clear hx
    split at hx2
    case h_2 => cases hx2
    rename_i hf
    rw [fVal_eq, appK_eq] at hx2
    obtain ⟨h1, r1, hx3⟩ := r.set hx2
    cases hx3
    have hpn : pureOp P ⟨dst, .mapUpdate t m k y, type, pos, after, guard⟩ ev = none := by
      unfold pureOp
      dsimp only
      have : (Op.mapUpdate t m k y).operands.all (fun x => clean (ev x)) = false := by simp [Op.operands, hem, clean, cleanC]
      rw [this]
      rfl
    have hrun := update_run (val := ev y) hu hk hg (findS_ok s _ _ _ hf)
    refine ⟨.skip _, ?_, r1⟩
    unfold vop
    simp only [hpn, hem, hek]
    rw [show cleanC (.string s) = true from rfl, Bool.and_true, hb]
    simp only [cond_true, hrun, vu]
    have e : (⟨es.toList ++ [⟨.string s, ev y, c⟩]⟩ : Array MapEntry) = es.push ⟨.string s, ev y, c⟩ := by apply Array.ext'; simp
    rw [e]
  · rename_i c
    split at hx
    case h_2 => cases hx
    rename_i hcal
    split at hx
    case h_2 => cases hx
    rename_i q s mt hargs hty
    rw [r.look] at hx
    split at hx
    case h_2 => cases hx
    rename_i kt et es cl hm hg
    obtain ⟨hu, hk⟩ := mapTy_ok hm
    obtain ⟨hb, hx2⟩ := bif_some hx
    clear hx
    split at hx2
    case h_2 => cases hx2
    rename_i i v hf
    rw [eraseK_eq] at hx2
    obtain ⟨h1, r1, hx3⟩ := r.set hx2
    cases hx3
    have hrun := delete_run (ts := c.argTypes) (ty := type) hty hu hk hg (findS_ok s _ _ _ hf)
    have e : (⟨es.toList.eraseIdx i⟩ : Array MapEntry) = es.eraseIdxIfInBounds i := by apply Array.ext'; simp
    have hpn : pureOp P ⟨dst, .call c, type, pos, after, guard⟩ ev = none := by
      unfold pureOp
      dsimp only
      have : (Op.call c).operands.all (fun x => clean (ev x)) = false := by
        have hsz : c.args.size = 2 := by have := congrArg Array.size hargs; simpa using this
        rw [← Bool.not_eq_true, Array.all_eq_true']
        intro hall
        have h0 : ev (c.args[0]'(by omega)) = .map (some q) := by
          have := congrArg (fun l : Array Value => l[0]?) hargs
          simpa [Array.getElem?_eq_getElem (show 0 < c.args.size by omega)] using this
        have := hall (c.args[0]'(by omega)) (by simp [Op.operands, Call.operands])
        rw [h0] at this
        cases this
      rw [this]
      rfl
    rw [e] at r1
    refine ⟨.val (.tuple #[]) (σ.setIfInBounds q (.map (es.eraseIdxIfInBounds i) cl)), ?_, rfl, r1⟩
    unfold vop
    simp only [hpn]
    unfold vcall
    simp only [hcal, hargs, hty, Option.all_some, hb, show cleanC (.string s) = true from rfl, Bool.and_true, cond_true, hrun, vv]
  · cases hx
noncomputable def vopY (P : Program) (o : Oper) (ev : Operand → Value) (h : HF) : Option VNF := match mapQ P o ev h with
  | some r => some r
  | none => vopX P o ev h
theorem vopY_ok (r : HRep h σ) {o : Oper} {ev : Operand → Value} {x : VNF} (hx : vopY P o ev h = some x) : ∃ y, vop P o ev σ = some y ∧ NRep x y := by
  unfold vopY at hx
  split at hx
  · rename_i q hq; cases hx; exact mapQ_ok r hq
  · exact vopX_ok r hx
end
end Vm
end Go.Proofs.YtdbdmgmenojcaaaDoor
