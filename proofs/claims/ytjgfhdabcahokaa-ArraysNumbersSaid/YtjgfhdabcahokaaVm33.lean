/- Regions that draw their order, over the quick memory. -/
import Derived.Test.YtjgfhdabcahokaaVm36
namespace Go.Proofs.Ytjgfhdabcahokaa
namespace Vm
set_option linter.unusedSimpArgs false
set_option linter.unusedVariables false
open Go.RowKit

section
variable {α β : Type} {P : Program} {h h1 h' : HF} {σ σ1 : VHeap}
noncomputable def nthD (l : List Value) : Nat → Value := List.rec (motive := fun _ => Nat → Value) (fun _ => undef) (fun a _ ih n => Nat.rec (motive := fun _ => Value) a (fun m _ => ih m) n) l
theorem nthD_eq (l : List Value) (n : Nat) : nthD l n = (⟨l⟩ : Array Value).getD n undef := by
  rw [Array.getD_eq_getD_getElem?, List.getElem?_toArray]
  induction l generalizing n with
  | nil => rfl
  | cons a l ih =>
    cases n with
    | zero => rfl
    | succ n => show nthD l n = _; rw [ih, List.getElem?_cons_succ]
noncomputable def vevF (t : List Value) : Operand → Value
  | .tmp i => nthD t i
  | .const v => v
  | .global g => .chan (some g)
  | .func f => .func (.func f) #[] #[]
theorem vevF_eq (t : List Value) : vevF t = vev ⟨t⟩ := by
  funext x
  cases x with
  | tmp i => exact nthD_eq t i
  | _ => rfl
/-- What an operation gave, computed to its end. -/
noncomputable def fRes (o : Op) (v : Value) (k : Value → α) : α := match o with
  | .convert .. => fStr v k
  | .call c => match c.callee with
    | .builtin _ => fStr v k
    | _ => fVal v k
  | _ => fVal v k
theorem fRes_eq (o : Op) (v : Value) (k : Value → α) : fRes o v k = k v := by
  unfold fRes
  split <;> first | exact fStr_eq _ _ | exact fVal_eq _ _ | (split <;> first | exact fStr_eq _ _ | exact fVal_eq _ _)
noncomputable def putF (o : Oper) (t : List Value) (v : Value) (k : List Value → α) : α := match o.dst with
  | some d => fRes o.op v fun v => setS v t d k
  | none => k t
theorem vput_list (t : List Value) (dst : Option Tmp) (v : Value) : vput ⟨t⟩ dst v = ⟨match dst with | some d => t.set d v | none => t⟩ := by
  unfold vput
  cases dst with
  | none => rfl
  | some d => apply Array.ext'; simp
theorem putF_ok {o : Oper} {t : List Value} {v : Value} {k : List Value → Option β} {x : β} (hx : putF o t v k = some x) : ∃ t', vput ⟨t⟩ o.dst v = ⟨t'⟩ ∧ k t' = some x := by
  unfold putF at hx
  rw [vput_list]
  split at hx
  · rename_i d hd
    rw [fRes_eq, setS_eq] at hx
    exact ⟨_, rfl, hx⟩
  · rename_i hd; exact ⟨t, rfl, hx⟩
/- Blocks hidden, and shown again. -/
noncomputable def mskF : List Nat → HF → (HF → Option β) → Option β
  | [], h, k => k h
  | i :: ids, h, k => h.del i fun h => mskF ids h k
theorem msk_cons (i : Nat) (ids : List Nat) (hi : i < σ.size) : mskL (σ.setIfInBounds i gone) ids = mskL σ (i :: ids) := by
  rw [mskL_eq, mskL_eq]
  apply heap_ext
  intro id
  rw [msk_get, msk_get, Array.getElem?_setIfInBounds, List.contains_cons]
  by_cases he : i = id
  · subst he
    simp [hi]
  · have : (id == i) = false := by simpa using Ne.symm he
    rw [if_neg he, this, Bool.false_or]
theorem mskF_ok : ∀ {ids : List Nat} {h : HF} {σ : VHeap} {k : HF → Option β} {x : β}, HRep h σ → mskF ids h k = some x → ∃ h', HRep h' (mskL σ ids) ∧ k h' = some x
  | [], h, σ, k, x, r, hx => ⟨h, r, hx⟩
  | i :: ids, h, σ, k, x, r, hx => by
    unfold mskF at hx
    obtain ⟨hi, h1, r1, hx⟩ := r.del hx
    obtain ⟨h2, r2, hx⟩ := mskF_ok r1 hx
    rw [msk_cons i ids hi] at r2
    exact ⟨h2, r2, hx⟩
noncomputable def backF (h : HF) : List Nat → HF → (HF → Option β) → Option β
  | [], h1, k => k h1
  | i :: ids, h1, k => match h.get i with
    | some o => h1.set i o fun h1 => backF h ids h1 k
    | none => none
theorem back_cons (i : Nat) (ids : List Nat) (o : VObj) (ho : σ[i]? = some o) (hi : i < σ1.size) : backL σ (σ1.setIfInBounds i o) ids = backL σ σ1 (i :: ids) := by
  rw [backL_eq, backL_eq]
  apply heap_ext
  intro id
  rw [back_get, back_get, Array.getElem?_setIfInBounds, List.contains_cons]
  by_cases he : i = id
  · subst he
    have : ∃ o1, σ1[i]? = some o1 := ⟨_, Array.getElem?_eq_getElem hi⟩
    obtain ⟨o1, h1⟩ := this
    simp [hi, ho, h1]
  · have : (id == i) = false := by simpa using Ne.symm he
    rw [if_neg he, this, Bool.false_or]
theorem backF_ok (r : HRep h σ) : ∀ {ids : List Nat} {h1 : HF} {σ1 : VHeap} {k : HF → Option β} {x : β}, HRep h1 σ1 → backF h ids h1 k = some x → ∃ h', HRep h' (backL σ σ1 ids) ∧ k h' = some x
  | [], h1, σ1, k, x, r1, hx => ⟨h1, r1, hx⟩
  | i :: ids, h1, σ1, k, x, r1, hx => by
    unfold backF at hx
    rw [r.look] at hx
    split at hx
    case h_2 => cases hx
    rename_i o ho
    have hi : i < σ1.size := by
      unfold HF.set at hx
      cases hb : Nat.ble (i + 1) h1.n with
      | false => rw [hb] at hx; cases hx
      | true => have := Nat.le_of_ble_eq_true hb; rw [← r1.size]; omega
    obtain ⟨h2, r2, hx⟩ := r1.set hx
    obtain ⟨h3, r3, hx⟩ := backF_ok r r2 hx
    rw [back_cons i ids o ho hi] at r3
    exact ⟨h3, r3, hx⟩
noncomputable def aloneF (h : HF) (ids : List Nat) : Bool := ids.all fun id => match h.get id with
  | some o => !o.live || o.alone
  | none => false
theorem aloneF_eq (r : HRep h σ) (ids : List Nat) : aloneF h ids = aloneAll σ ids := by
  unfold aloneF aloneAll
  simp only [r.look]
  rfl
noncomputable def veqQ (v w : Value) : Bool := match v, w with
  | .string a, .string b => eqS a.data.toList b.data.toList
  | v, w => veq v w
theorem veqQ_ok {v w : Value} (h : veqQ v w = true) : v = w := by
  unfold veqQ at h
  split at h
  · rename_i a b
    rw [eqS_eq, beq_iff_eq] at h
    obtain ⟨⟨a⟩⟩ := a
    obtain ⟨⟨b⟩⟩ := b
    simp only at h
    rw [h]
  · exact veq_ok h
noncomputable def stillF (P : Program) (ops : Array Oper) (pre : Nat → Nat → Bool) (al : List (Nat × Nat)) (t : List Value) (h : HF) : List (Nat × Value) → Bool
  | [] => true
  | x :: l => (match ops[x.1]? with
    | some o => isRd P o && (mskF (hid pre al x.1) h fun h1 => match vopF P o (vevF t) h1 with
      | some (.val v _) => bif veqQ v x.2 then some () else none
      | _ => none).isSome
    | none => false) && stillF P ops pre al t h l
theorem stillF_ok {ops : Array Oper} {pre : Nat → Nat → Bool} {al : List (Nat × Nat)} {t : List Value} (r : HRep h σ) : ∀ {l : List (Nat × Value)}, stillF P ops pre al t h l = true → Still P ops pre l al ⟨t⟩ σ
  | [], _, x, hx => by simp at hx
  | y :: l, hh, x, hx => by
    simp only [stillF, Bool.and_eq_true] at hh
    rcases List.mem_cons.1 hx with rfl | hx
    · have hh := hh.1
      split at hh
      case h_2 => cases hh
      rename_i o ho
      simp only [Bool.and_eq_true] at hh
      obtain ⟨hr, hh⟩ := hh
      obtain ⟨u, hu⟩ := Option.isSome_iff_exists.1 hh
      obtain ⟨h1, r1, hu⟩ := mskF_ok r hu
      split at hu
      case h_2 => cases hu
      rename_i v hv hvo
      cases hq : veqQ v x.2 with
      | false => rw [hq] at hu; cases hu
      | true =>
        obtain ⟨y, e1, e2⟩ := vopF_ok r1 hvo
        rw [vevF_eq] at e1
        obtain ⟨v', e⟩ := rd_same hr e1
        subst e
        obtain ⟨e3, _⟩ := e2
        rw [← veqQ_ok hq, e3]
        exact ⟨o, ho, e1⟩
    · exact stillF_ok r hh.2 x hx
abbrev SubF := Nat → FuncId → Array Value → HF → Option (Value × HF)
def SubOk (P : Program) (E : VCall) (sub : SubF) : Prop := ∀ m f args h v h' σ, sub m f args h = some (v, h') → HRep h σ → ∀ R : VC → Prop, (∀ σ', HRep h' σ' → R (.ret v σ')) → vcallOf P E (vwp P E m) f args σ R
noncomputable def planF (P : Program) (sub : FuncId → Array Value → HF → Option (Value × HF)) (ops : Array Oper) (pre : Nat → Nat → Bool) (eff : Nat → Bool) : List Nat → List (Nat × Value) → List (Nat × Nat) → List Value → HF → Option (List Value × HF)
  | [], _, _, t, h => some (t, h)
  | i :: l, pd, al, t, h =>
    match ops[i]? with
    | none => none
    | some o =>
      bif Region.wanted o (yielded ops ⟨t⟩) then
        bif o.op.operands.all constOk then
          bif eff i then
            bif aloneF h (hid pre al i) then
              mskF (hid pre al i) h fun hm =>
              match vopF P o (vevF t) hm with
              | some (.val v h1) => backF h (hid pre al i) h1 fun h2 => putF o t v fun t' =>
                  bif stillF P ops pre (al.filter fun x => !pre x.1 i) t' h2 (pd.filter fun x => !pre x.1 i) then planF P sub ops pre eff l (pd.filter fun x => !pre x.1 i) (al.filter fun x => !pre x.1 i) t' h2 else none
              | some (.skip h1) => backF h (hid pre al i) h1 fun h2 => putF o t undef fun t' =>
                  bif stillF P ops pre (al.filter fun x => !pre x.1 i) t' h2 (pd.filter fun x => !pre x.1 i) then planF P sub ops pre eff l (pd.filter fun x => !pre x.1 i) (al.filter fun x => !pre x.1 i) t' h2 else none
              | some (.enter f args h1) => match sub f args h1 with
                | some (v, h1) => backF h (hid pre al i) h1 fun h2 => putF o t v fun t' =>
                  bif stillF P ops pre (al.filter fun x => !pre x.1 i) t' h2 (pd.filter fun x => !pre x.1 i) then planF P sub ops pre eff l (pd.filter fun x => !pre x.1 i) (al.filter fun x => !pre x.1 i) t' h2 else none
                | none => none
              | _ => none
            else none
          else match textF P o (vevF t) h with
            | some (.val v _) => putF o t v fun t' => planF P sub ops pre eff l pd al t' h
            | _ => match nval P o (vevF t) with
            | some v => putF o t v fun t' => planF P sub ops pre eff l pd al t' h
            | none => match nalloc P o (vevF t) with
              | some (k, cs, e) => bif cs.all (leafB h.n) then h.push (k.obj cs e h.n) fun h1 => putF o t (k.val h.n) fun t' => planF P sub ops pre eff l pd ((i, h.n) :: al) t' h1 else none
              | none => bif isRd P o then mskF (hid pre al i) h fun hm => match vopF P o (vevF t) hm with
                | some (.val v _) => putF o t v fun t' => planF P sub ops pre eff l ((i, v) :: pd) al t' h
                | _ => none
                else none
        else none
      else putF o t undef fun t' => planF P sub ops pre eff l pd al t' h
theorem planF_ok {E : VCall} {sub : SubF} (hs : SubOk P E sub) {m : Nat} {ops : Array Oper} {pre : Nat → Nat → Bool} {eff : Nat → Bool} : ∀ (l : List Nat) (pd : List (Nat × Value)) (al : List (Nat × Nat)) (t : List Value) (h : HF) (t' : List Value) (h' : HF) (σ : VHeap),
    planF P (sub m) ops pre eff l pd al t h = some (t', h') → HRep h σ → ∀ Q : VPost, (∀ σ', HRep h' σ' → Q .normal ⟨t'⟩ σ') → vplan P (vcallOf P E (vwp P E m)) ops pre eff Q l pd al ⟨t⟩ σ := by
  intro l
  induction l with
  | nil => intro pd al t h t' h' σ hx r Q hq; unfold planF at hx; cases hx; exact hq _ r
  | cons i l ih =>
    intro pd al t h t' h' σ hx r Q hq
    unfold planF at hx
    unfold vplan
    split at hx
    · cases hx
    · rename_i o ho
      simp only [ho]
      cases hw : Region.wanted o (yielded ops ⟨t⟩) with
      | false =>
        rw [hw] at hx
        rw [if_neg (by simp)]
        obtain ⟨t1, e, hx⟩ := putF_ok hx
        rw [e]
        exact ih _ _ _ _ _ _ _ hx r Q hq
      | true =>
        rw [hw] at hx
        rw [if_pos rfl]
        simp only [cond_true] at hx
        obtain ⟨hc, hx⟩ := bif_some hx
        refine ⟨hc, ?_⟩
        cases he : eff i with
        | true =>
          rw [he] at hx
          rw [if_pos rfl]
          simp only [cond_true] at hx
          obtain ⟨hal, hx⟩ := bif_some hx
          rw [aloneF_eq r] at hal
          refine ⟨hal, ?_⟩
          obtain ⟨hm, rm, hx⟩ := mskF_ok r hx
          split at hx
          · rename_i v h1 hv
            obtain ⟨y, e1, e2⟩ := vopF_ok rm hv
            rw [vevF_eq] at e1
            cases y <;> simp only [NRep] at e2
            obtain ⟨rfl, r1⟩ := e2
            obtain ⟨h2, r2, hx⟩ := backF_ok r r1 hx
            obtain ⟨t1, e, hx⟩ := putF_ok hx
            obtain ⟨hst, hx⟩ := bif_some hx
            simp only [e1, e]
            exact ⟨stillF_ok r2 hst, ih _ _ _ _ _ _ _ hx r2 Q hq⟩
          · rename_i h1 hv
            obtain ⟨y, e1, e2⟩ := vopF_ok rm hv
            rw [vevF_eq] at e1
            cases y <;> simp only [NRep] at e2
            obtain ⟨h2, r2, hx⟩ := backF_ok r e2 hx
            obtain ⟨t1, e, hx⟩ := putF_ok hx
            obtain ⟨hst, hx⟩ := bif_some hx
            simp only [e1, e]
            exact ⟨stillF_ok r2 hst, ih _ _ _ _ _ _ _ hx r2 Q hq⟩
          · rename_i f args h1 hv
            obtain ⟨y, e1, e2⟩ := vopF_ok rm hv
            rw [vevF_eq] at e1
            cases y <;> simp only [NRep] at e2
            obtain ⟨rfl, rfl, r1⟩ := e2
            simp only [e1]
            split at hx
            case h_2 => cases hx
            rename_i v h2 hsub
            refine hs m _ _ _ _ _ _ hsub r1 _ fun σ2 r2 => ?_
            obtain ⟨h3, r3, hx⟩ := backF_ok r r2 hx
            obtain ⟨t1, e, hx⟩ := putF_ok hx
            obtain ⟨hst, hx⟩ := bif_some hx
            simp only [e]
            exact ⟨stillF_ok r3 hst, ih _ _ _ _ _ _ _ hx r3 Q hq⟩
          · cases hx
        | false =>
          rw [he] at hx
          rw [if_neg (by simp)]
          simp only [cond_false] at hx
          rw [vevF_eq] at hx
          split at hx
          · rename_i v hq htx
            obtain ⟨u, hp, e⟩ := textF_pure htx
            cases e
            have hv : nval P o (vev ⟨t⟩) = some v := by unfold nval; rw [hp]
            simp only [hv]
            obtain ⟨t1, e, hx⟩ := putF_ok hx
            rw [e]
            exact ih _ _ _ _ _ _ _ hx r Q hq
          split at hx
          · rename_i v hv
            simp only [hv]
            obtain ⟨t1, e, hx⟩ := putF_ok hx
            rw [e]
            exact ih _ _ _ _ _ _ _ hx r Q hq
          · rename_i hn
            simp only [hn]
            split at hx
            · rename_i k cs e hna
              obtain ⟨hlf, hx⟩ := bif_some hx
              rw [r.size] at hlf hx
              obtain ⟨h1, r1, hx⟩ := r.push hx
              obtain ⟨t1, e', hx⟩ := putF_ok hx
              simp only [hna, e']
              exact ⟨hlf, ih _ _ _ _ _ _ _ hx r1 Q hq⟩
            · rename_i hna
              simp only [hna]
              obtain ⟨hr, hx⟩ := bif_some hx
              obtain ⟨hm, rm, hx⟩ := mskF_ok r hx
              split at hx
              case h_2 => cases hx
              rename_i v h1 hv
              obtain ⟨y, e1, e2⟩ := vopF_ok rm hv
              cases y <;> simp only [NRep] at e2
              obtain ⟨rfl, -⟩ := e2
              obtain ⟨t1, e, hx⟩ := putF_ok hx
              simp only [hr, e1, e]
              exact ih _ _ _ _ _ _ _ hx r Q hq
end
end Vm
end Go.Proofs.Ytjgfhdabcahokaa
