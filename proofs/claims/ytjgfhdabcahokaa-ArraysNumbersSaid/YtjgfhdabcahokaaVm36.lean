/- More quick ways. -/
import Derived.Test.YtjgfhdabcahokaaVm32
import Derived.Lib.Strings
namespace Go.Proofs.Ytjgfhdabcahokaa
namespace Vm
set_option linter.unusedSimpArgs false
set_option linter.unusedVariables false
open Go.RowKit

section
variable {P : Program} {h : HF} {σ : VHeap}
/-- What has a value by itself. -/
theorem pureOp_pv {o : Oper} {ev : Operand → Value} {u v : Value} (hp : pv P (execOp ev o) = some (.value v)) (h : pureOp P o ev = some u) : u = v := by
  unfold pureOp at h
  split at h
  · cases h
  · cases hc : o.op.operands.all (fun x => clean (ev x)) with
    | false => rw [hc] at h; cases h
    | true =>
      rw [hc, hp] at h
      simp only [cond_true] at h
      cases hv : clean v with
      | false => rw [hv] at h; cases h
      | true => rw [hv] at h; cases h; rfl
theorem pureOp_clean {o : Oper} {ev : Operand → Value} {v : Value} (hns : ∀ cs b, o.op ≠ .select cs b) (hc : o.op.operands.all (fun x => clean (ev x)) = true) (hp : pv P (execOp ev o) = some (.value v)) (hv : clean v = true) : pureOp P o ev = some v := by
  unfold pureOp
  split
  · rename_i cs b hs; exact absurd hs (hns cs b)
  · rw [hc, hp]
    simp only [cond_true, hv]
theorem vop_clean {o : Oper} {ev : Operand → Value} {v : Value} (hns : ∀ cs b, o.op ≠ .select cs b) (hc : o.op.operands.all (fun x => clean (ev x)) = true) (hp : pv P (execOp ev o) = some (.value v)) (hv : clean v = true) : vop P o ev σ = some (.val v σ) := by
  unfold vop
  rw [pureOp_clean hns hc hp hv]
def kEq : IntKind → IntKind → Bool
  | .i64, .i64 => true
  | .u8, .u8 => true
  | .u64, .u64 => true
  | .i32, .i32 => true
  | _, _ => false
theorem kEq_ok {a b : IntKind} (h : kEq a b = true) : a = b := by cases a <;> cases b <;> first | rfl | cases h
def binN (op : BinOp) (k : IntKind) (m n : Nat) : Option Value := match op with
  | .lss => some (.bool (Nat.blt m n))
  | .leq => some (.bool (Nat.ble m n))
  | .gtr => some (.bool (Nat.blt n m))
  | .geq => some (.bool (Nat.ble n m))
  | .eql => some (.bool (Nat.beq m n))
  | .neq => some (.bool (!Nat.beq m n))
  | .add => match k with
    | .i64 => bif Nat.blt (m + n) 9223372036854775808 then some (.int .i64 (.ofNat (m + n))) else none
    | _ => none
  | .sub => match k with
    | .i64 => bif Nat.blt m 9223372036854775808 && Nat.ble n m then some (.int .i64 (.ofNat (m - n))) else none
    | _ => none
  | _ => none
theorem blt_lt {m n : Nat} : Nat.blt m n = decide ((m : Int) < (n : Int)) := by
  rw [Bool.eq_iff_iff, decide_eq_true_iff]
  show Nat.ble (m + 1) n = true ↔ _
  rw [Nat.ble_eq]
  omega
theorem ble_le {m n : Nat} : Nat.ble m n = decide ((m : Int) ≤ (n : Int)) := by
  rw [Bool.eq_iff_iff, decide_eq_true_iff, Nat.ble_eq]
  omega
theorem wrap64 (n : Nat) (h : n < 9223372036854775808) : IntKind.i64.wrap (n : Int) = n := by
  simp [IntKind.wrap, IntKind.bits, IntKind.signed]
  omega
theorem binN_ok {op : BinOp} {k : IntKind} {m n : Nat} {t : TypeId} {v : Value} (hx : binN op k m n = some v) : pv P (binOp op t (.int k (.ofNat m)) (.int k (.ofNat n))) = some v ∧ clean v = true := by
  unfold binN at hx
  split at hx
  · cases hx; refine ⟨?_, rfl⟩; unfold binOp; simp only [ne_eq, not_true_eq_false, if_false, Op.intCmp]; rw [blt_lt]; rfl
  · cases hx; refine ⟨?_, rfl⟩; unfold binOp; simp only [ne_eq, not_true_eq_false, if_false, Op.intCmp]; rw [ble_le]; rfl
  · cases hx; refine ⟨?_, rfl⟩; unfold binOp; simp only [ne_eq, not_true_eq_false, if_false, Op.intCmp]; rw [blt_lt]; rfl
  · cases hx; refine ⟨?_, rfl⟩; unfold binOp; simp only [ne_eq, not_true_eq_false, if_false, Op.intCmp]; rw [ble_le]; rfl
  · cases hx; refine ⟨?_, rfl⟩; unfold binOp; simp only [ne_eq, not_true_eq_false, if_false, Op.intCmp]
    have : ((Int.ofNat m) == (Int.ofNat n)) = Nat.beq m n := by rw [Bool.eq_iff_iff, beq_iff_eq, Nat.beq_eq]; exact ⟨fun h => by cases h; rfl, fun h => by rw [h]⟩
    rw [this]; rfl
  · cases hx; refine ⟨?_, rfl⟩; unfold binOp; simp only [ne_eq, not_true_eq_false, if_false, Op.intCmp]
    have : ((Int.ofNat m) != (Int.ofNat n)) = !Nat.beq m n := by unfold bne; congr 1; rw [Bool.eq_iff_iff, beq_iff_eq, Nat.beq_eq]; exact ⟨fun h => by cases h; rfl, fun h => by rw [h]⟩
    rw [this]; rfl
  · split at hx
    · obtain ⟨hb, hx⟩ := bif_some hx
      cases hx
      have hlt : m + n < 9223372036854775808 := by rw [blt_lt, decide_eq_true_iff] at hb; omega
      refine ⟨?_, rfl⟩; unfold binOp; simp only [ne_eq, not_true_eq_false, if_false, Op.intArith]
      have := wrap64 (m + n) hlt
      rw [show (Int.ofNat m + Int.ofNat n) = ((m + n : Nat) : Int) from rfl, this]; rfl
    · cases hx
  · split at hx
    · obtain ⟨hb, hx⟩ := bif_some hx
      cases hx
      rw [Bool.and_eq_true, blt_lt, decide_eq_true_iff, Nat.ble_eq] at hb
      refine ⟨?_, rfl⟩; unfold binOp; simp only [ne_eq, not_true_eq_false, if_false, Op.intArith]
      have := wrap64 (m - n) (by omega)
      rw [show (Int.ofNat m - Int.ofNat n) = ((m - n : Nat) : Int) by simp only [Int.ofNat_eq_natCast]; omega, this]; rfl
    · cases hx
  · cases hx
theorem pv_vrun0 {α : Type} {P : Program} : ∀ {s : Sem α} {a : α}, pv P s = some a → ∀ σ, vrun P s σ = some (a, σ)
  | .pure b, a, h, σ => by cases h; rfl
  | .program k, a, h, σ => pv_vrun0 (s := k P) h σ
  | .mark m k, a, h, σ => pv_vrun0 (s := k) h σ
  | .load .., _, h, _ | .store .., _, h, _ | .new .., _, h, _ | .shape .., _, h, _ | .freeze .., _, h, _ | .frozen .., _, h, _ | .getObj .., _, h, _ | .setObj .., _, h, _
  | .choose .., _, h, _ | .sys .., _, h, _ | .halt .., _, h, _ => by cases h
def scalarB (P : Program) (t : TypeId) : Bool := match P.underlying t with
  | some (.struct _) => false
  | some (.array _ _) => false
  | some _ => true
  | none => false
theorem scalar_agg {t : TypeId} (hs : scalarB P t = true) (σ : VHeap) : vrun P (isAgg t) σ = some (false, σ) := by
  unfold isAgg
  unfold scalarB at hs
  cases hu : P.underlying t with
  | none => rw [hu] at hs; cases hs
  | some d =>
    rw [hu] at hs
    show vrun P ((underlying t).bind _) σ = _
    rw [vrun_bind, pv_vrun0 (pv_underlying hu)]
    simp only [andThen]
    cases d <;> first | rfl | cases hs
def foff (P : Program) (s : TypeId) (f : Nat) : Option Nat := match P.underlying s with
  | some (.struct fields) => match fields[f]? with
    | some fd => match P.info? fd.type with
      | some i => if i.size = 0 then none else some fd.offset
      | none => none
    | none => none
  | _ => none
theorem foff_ok {s : TypeId} {f n b o : Nat} (hf : foff P s f = some n) : pv P (Instr.fieldAt s (.pointer (some ⟨b, o, none⟩)) f) = some (.pointer (some ⟨b, o + n, none⟩)) := by
  unfold foff at hf
  split at hf
  case h_2 => cases hf
  rename_i fields hu
  split at hf
  case h_2 => cases hf
  rename_i fd hfd
  split at hf
  case h_2 => cases hf
  rename_i i hi
  split at hf
  · cases hf
  · rename_i hz
    cases hf
    unfold Instr.fieldAt
    rw [pv_bind, pv_underlying hu]
    simp only [Option.bind_some, hfd]
    rw [pv_bind, show pv P (Instr.sureAddr (.pointer (some ⟨b, o, none⟩))) = some ⟨b, o, none⟩ from rfl]
    simp only [Option.bind_some]
    rw [pv_bind]
    unfold fieldPlace
    rw [pv_bind, pv_sizeOf hi]
    simp only [Option.bind_some, if_neg hz]
    rw [add_none]
    rfl
noncomputable def quickF (P : Program) (o : Oper) (ev : Operand → Value) (h : HF) : Option VNF := match o.op with
  | .binOp op t x y _ => match ev x, ev y with
    | .int k (.ofNat m), .int k' (.ofNat n) => bif kEq k k' then (match binN op k m n with
      | some v => some (.val v h)
      | none => none) else none
    | _, _ => none
  | .unOp .not _ x => match ev x with
    | .bool b => some (.val (.bool (Bool.rec (motive := fun _ => Bool) true false b)) h)
    | _ => none
  | .extract t i => match ev t with
    | .tuple vs => match nthO vs.toList i with
      | some v => some (.val v h)
      | none => none
    | _ => none
  | .load t a => bif scalarB P t then match ev a with
    | .pointer (some ad) => match cellF h ad with
      | some v => some (.val v h)
      | none => none
    | _ => none
    else none
  | .fieldAddr s x f => match foff P s f with
    | some n => match ev x with
      | .pointer (some ⟨b, o, none⟩) => some (.val (.pointer (some ⟨b, o + n, none⟩)) h)
      | _ => none
    | none => none
  | _ => none
theorem quickF_ok (r : HRep h σ) {o : Oper} {ev : Operand → Value} {x : VNF} (hx : quickF P o ev h = some x) : ∃ y, vop P o ev σ = some y ∧ NRep x y := by
  unfold quickF at hx
  obtain ⟨dst, op, type, pos, after, guard⟩ := o
  dsimp only at hx
  split at hx
  · rename_i bop t a b yt
    split at hx
    · rename_i k m k' n ha hb
      obtain ⟨hk, hx2⟩ := bif_some hx
      clear hx
      have hk' := kEq_ok hk
      clear hk
      subst hk'
      have hx := hx2
      clear hx2
      split at hx
      case h_2 => cases hx
      rename_i v hv
      cases hx
      obtain ⟨h1, h2⟩ := binN_ok (P := P) (t := t) hv
      refine ⟨.val v σ, vop_clean (fun cs b e => by cases e) (by simp [Op.operands, ha, hb, clean, cleanC]) ?_ h2, rfl, r⟩
      unfold execOp
      dsimp only
      rw [pv_bind, pv_bind, ha, hb]
      have hg : pv P (eqGuard bop t a b (.int k (.ofNat m)) (.int k (.ofNat n))) = some () := by
        unfold eqGuard
        cases bop <;> rfl
      rw [hg]
      simp only [Option.bind_some, h1]
      rfl
    · cases hx
  · rename_i ty a
    split at hx
    case h_2 => cases hx
    rename_i b hb
    cases hx
    refine ⟨.val (.bool (!b)) σ, vop_clean (fun cs b e => by cases e) (by simp [Op.operands, hb, clean, cleanC]) ?_ rfl, by cases b <;> rfl, r⟩
    unfold execOp
    dsimp only
    rw [hb]
    rfl
  · rename_i t i
    split at hx
    case h_2 => cases hx
    rename_i vs hvs
    rw [nthO_eq, Array.getElem?_toList] at hx
    split at hx
    case h_2 => cases hx
    rename_i v hv
    cases hx
    have hp : pv P (Instr.extract (ev t) i) = some v := by
      rw [hvs]
      unfold Instr.extract
      simp only [hv]
      rfl
    refine ⟨.val v σ, ?_, rfl, r⟩
    unfold vop
    cases hq : pureOp P ⟨dst, .extract t i, type, pos, after, guard⟩ ev with
    | some u =>
      have : pv P (execOp ev ⟨dst, .extract t i, type, pos, after, guard⟩) = some (.value v) := by
        unfold execOp
        dsimp only
        rw [pv_bind, hp]
        rfl
      rw [pureOp_pv this hq]
    | none =>
      dsimp only
      rw [pv_vrun0 hp]
      rfl
  · rename_i t a
    obtain ⟨hs, hx⟩ := bif_some hx
    split at hx
    case h_2 => cases hx
    rename_i ad ha
    rw [cellF_eq r] at hx
    split at hx
    case h_2 => cases hx
    rename_i v hv
    cases hx
    refine ⟨.val v σ, ?_, rfl, r⟩
    have hpn : pureOp P ⟨dst, .load t a, type, pos, after, guard⟩ ev = none := by
      unfold pureOp
      dsimp only
      have : (Op.load t a).operands.all (fun x => clean (ev x)) = false := by simp [Op.operands, ha, clean, cleanC]
      rw [this]
      rfl
    unfold vop
    simp only [hpn, ha]
    have : vrun P (Instr.loadAt t (gres σ (.pointer (some ad)))) σ = some (v, σ) := by
      show vrun P (loadVar t ad) σ = _
      unfold loadVar
      show vrun P ((isAgg t).bind _) σ = _
      rw [vrun_bind, scalar_agg hs]
      simp only [andThen, Bool.false_eq_true, if_false]
      show vrun P (Sem.load .plain ad Sem.pure) σ = _
      simp only [vrun, hv]
    rw [this]
    rfl
  · rename_i s y f
    split at hx
    case h_2 => cases hx
    rename_i n hn
    split at hx
    case h_2 => cases hx
    rename_i b o hb
    cases hx
    have hp := foff_ok (b := b) (o := o) hn
    refine ⟨.val (.pointer (some ⟨b, o + n, none⟩)) σ, ?_, rfl, r⟩
    have hpn : pureOp P ⟨dst, .fieldAddr s y f, type, pos, after, guard⟩ ev = none := by
      unfold pureOp
      dsimp only
      have : (Op.fieldAddr s y f).operands.all (fun x => clean (ev x)) = false := by simp [Op.operands, hb, clean, cleanC]
      rw [this]
      rfl
    unfold vop
    simp only [hpn, hb]
    have e : gres σ (.pointer (some ⟨b, o, none⟩)) = .pointer (some ⟨b, o, none⟩) := rfl
    rw [e, pv_vrun0 hp]
    rfl
  · cases hx
/- Texts: lists of bytes, their spines computed to the end. -/
section
variable {α γ : Type}
noncomputable def dropK (l : List γ) : Nat → (List γ → α) → α := List.rec (motive := fun _ => Nat → (List γ → α) → α) (fun _ k => k []) (fun a l ih n k => Nat.rec (motive := fun _ => α) (k (a :: l)) (fun m _ => ih m k) n) l
theorem dropK_eq (l : List γ) : ∀ (n : Nat) (k : List γ → α), dropK l n k = k (l.drop n) := by
  induction l with
  | nil => intro n k; cases n <;> rfl
  | cons a l ih =>
    intro n k
    cases n with
    | zero => rfl
    | succ n => exact ih n k
noncomputable def takeK (l : List γ) : Nat → (List γ → α) → α := List.rec (motive := fun _ => Nat → (List γ → α) → α) (fun _ k => k []) (fun a l ih n k => Nat.rec (motive := fun _ => α) (k []) (fun m _ => ih m fun l => k (a :: l)) n) l
theorem takeK_eq (l : List γ) : ∀ (n : Nat) (k : List γ → α), takeK l n k = k (l.take n) := by
  induction l with
  | nil => intro n k; cases n <;> rfl
  | cons a l ih =>
    intro n k
    cases n with
    | zero => rfl
    | succ n => exact ih n fun l => k (a :: l)
noncomputable def appK (m l : List γ) : (List γ → α) → α := List.rec (motive := fun _ => (List γ → α) → α) (fun k => k m) (fun a _ ih k => ih fun l => k (a :: l)) l
theorem appK_eq (m l : List γ) : ∀ k : List γ → α, appK m l k = k (l ++ m) := by
  induction l with
  | nil => intro k; rfl
  | cons a l ih => intro k; exact ih fun l => k (a :: l)
end
def strB (P : Program) (t : TypeId) : Bool := match P.underlying t with
  | some .string => true
  | _ => false
noncomputable def textF (P : Program) (o : Oper) (ev : Operand → Value) (h : HF) : Option VNF := match o.op with
  | .slice t x lo hi none => bif strB P t && o.op.operands.all (fun x => clean (ev x)) then match ev x with
    | .string s => fNat (lenA s.data.toList 0) fun n => match pv P (Instr.sliceBounds false n n (lo.map ev) (hi.map ev) none) with
      | some (l, u, _) => match hi with
        | none => bif Nat.beq u n then dropK s.data.toList l fun r => some (.val (.string ⟨⟨r⟩⟩) h) else none
        | some _ => dropK s.data.toList l fun r => takeK r (u - l) fun r => some (.val (.string ⟨⟨r⟩⟩) h)
      | none => none
    | _ => none
    else none
  | .binOp op t x y _ => match ev x, ev y with
    | .string a, .string b => match op with
      | .add => bif Nat.ble (lenA a.data.toList (lenA b.data.toList 0)) 9223372036854775807 then appK b.data.toList a.data.toList fun r => some (.val (.string ⟨⟨r⟩⟩) h) else none
      | .eql => some (.val (.bool (eqS a.data.toList b.data.toList)) h)
      | .neq => some (.val (.bool (Bool.rec (motive := fun _ => Bool) true false (eqS a.data.toList b.data.toList))) h)
      | _ => none
    | _, _ => none
  | _ => none
theorem text_ext {a : List UInt8} {s : ByteArray} (h : a = s.data.toList) : (⟨⟨a⟩⟩ : ByteArray) = s := by
  subst h; rfl
theorem textF_pure {o : Oper} {ev : Operand → Value} {x : VNF} (hx : textF P o ev h = some x) : ∃ v, pureOp P o ev = some v ∧ x = .val v h := by
  unfold textF at hx
  obtain ⟨dst, op, type, pos, after, guard⟩ := o
  dsimp only at hx
  split at hx
  · rename_i t x lo hi
    obtain ⟨hb, hx2⟩ := bif_some hx
    clear hx
    rw [Bool.and_eq_true] at hb
    obtain ⟨hs, hc⟩ := hb
    have hu : P.underlying t = some .string := by
      unfold strB at hs
      split at hs
      · rename_i e; exact e
      · cases hs
    split at hx2
    case h_2 => cases hx2
    rename_i s hev
    have hsz : lenA s.data.toList 0 = s.size := by rw [lenA_eq, Nat.zero_add, Array.length_toList]; rfl
    rw [fNat_eq, hsz] at hx2
    split at hx2
    case h_2 => cases hx2
    rename_i l u q hb
    have hp : pv P (execOp ev ⟨dst, .slice t x lo hi none, type, pos, after, guard⟩) = some (.value (.string (s.extract l u))) := by
      unfold execOp
      dsimp only
      rw [pv_bind]
      unfold Instr.sliceAt
      rw [pv_bind, pv_underlying hu]
      simp only [Option.bind_some]
      unfold Instr.slice
      rw [pv_bind, pv_underlying hu, hev]
      simp only [Option.bind_some, Option.map_none, Option.isSome_none, Bool.false_eq_true, if_false]
      rw [pv_bind, hb]
      rfl
    have hval : ∀ (v : List UInt8), v = (s.data.toList.drop l).take (u - l) → x = x → (⟨⟨v⟩⟩ : ByteArray) = s.extract l u := fun v hv _ => text_ext (by
      rw [ByteArray.data_extract, Array.toList_extract, List.extract_eq_take_drop]
      exact hv)
    have hfin : ∀ (v : List UInt8), v = (s.data.toList.drop l).take (u - l) → ∃ y, pureOp P ⟨dst, .slice t x lo hi none, type, pos, after, guard⟩ ev = some y ∧ VNF.val (.string ⟨⟨v⟩⟩) h = .val y h := fun v hv =>
      ⟨.string (s.extract l u), pureOp_clean (fun cs b e => by cases e) hc hp rfl, by rw [hval v hv rfl]⟩
    split at hx2
    · obtain ⟨hq, hx3⟩ := bif_some hx2
      rw [dropK_eq] at hx3
      cases hx3
      refine hfin _ ?_
      have : u = s.size := Nat.eq_of_beq_eq_true hq
      rw [List.take_of_length_le]
      rw [List.length_drop, Array.length_toList, this]
      exact Nat.le_refl _
    · rw [dropK_eq, takeK_eq] at hx2
      cases hx2
      exact hfin _ rfl
  · rename_i bop t a b yt
    split at hx
    case h_2 => cases hx
    rename_i sa sb ha hb
    have hg : ∀ bop, pv P (eqGuard bop t a b (.string sa) (.string sb)) = some () := fun bop => by
      unfold eqGuard
      cases bop <;> rfl
    have hexec : ∀ (bop : BinOp) (v : Value), pv P (Op.stringOp bop sa sb) = some v → pv P (binOp bop t (.string sa) (.string sb)) = pv P (Op.stringOp bop sa sb) → clean v = true →
        pureOp P ⟨dst, .binOp bop t a b yt, type, pos, after, guard⟩ ev = some v := fun bop v hv he hcl => by
      refine pureOp_clean (fun cs b e => by cases e) (by simp [Op.operands, ha, hb, clean, cleanC]) ?_ hcl
      unfold execOp
      dsimp only
      rw [pv_bind, pv_bind, ha, hb, hg]
      simp only [Option.bind_some, he, hv]
      rfl
    have htl : (sa.toList == sb.toList) = eqS sa.data.toList sb.data.toList := by rw [eqS_eq, Lib.toList_data, Lib.toList_data]
    split at hx
    · obtain ⟨hle, hx2⟩ := bif_some hx
      rw [appK_eq] at hx2
      cases hx2
      rw [lenA_eq, lenA_eq, Nat.zero_add, Array.length_toList, Array.length_toList] at hle
      have hle' : sb.size + sa.size ≤ 9223372036854775807 := Nat.le_of_ble_eq_true hle
      refine ⟨.string (sa ++ sb), hexec .add _ ?_ rfl rfl, ?_⟩
      · unfold Op.stringOp
        dsimp only
        rw [if_neg]
        · rfl
        · have hm : IntKind.i64.max = 9223372036854775807 := rfl
          rw [hm]
          omega
      · congr 1
    · cases hx
      exact ⟨.bool (eqS sa.data.toList sb.data.toList), hexec .eql _ (by unfold Op.stringOp; dsimp only; rw [htl]; rfl) rfl rfl, rfl⟩
    · cases hx
      refine ⟨.bool (!eqS sa.data.toList sb.data.toList), hexec .neq _ (by unfold Op.stringOp; dsimp only; rw [htl]; rfl) rfl rfl, ?_⟩
      cases eqS sa.data.toList sb.data.toList <;> rfl
    · cases hx
  · cases hx
theorem textF_ok (r : HRep h σ) {o : Oper} {ev : Operand → Value} {x : VNF} (hx : textF P o ev h = some x) : ∃ y, vop P o ev σ = some y ∧ NRep x y := by
  obtain ⟨v, hp, rfl⟩ := textF_pure hx
  refine ⟨.val v σ, ?_, rfl, r⟩
  unfold vop
  rw [hp]
noncomputable def vopX (P : Program) (o : Oper) (ev : Operand → Value) (h : HF) : Option VNF := match fastF o ev h with
  | some r => some r
  | none => match quickF P o ev h with
    | some r => some r
    | none => match textF P o ev h with
      | some r => some r
      | none => vopF P o ev h
theorem vopX_ok (r : HRep h σ) {o : Oper} {ev : Operand → Value} {x : VNF} (hx : vopX P o ev h = some x) : ∃ y, vop P o ev σ = some y ∧ NRep x y := by
  unfold vopX at hx
  split at hx
  · rename_i q hq; cases hx; exact fastF_ok r hq
  · split at hx
    · rename_i q hq; cases hx; exact quickF_ok r hq
    · split at hx
      · rename_i q hq; cases hx; exact textF_ok r hq
      · exact vopF_ok r hx
end
end Vm
end Go.Proofs.Ytjgfhdabcahokaa
