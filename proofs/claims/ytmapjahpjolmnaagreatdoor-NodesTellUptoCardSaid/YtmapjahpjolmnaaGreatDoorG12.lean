/- Regions whose operations may come in several orders, run once: as soon as they can; what reads is read again after everything that may turn it. -/
import Derived.Test.YtmapjahpjolmnaaGreatDoorG11
set_option linter.unusedVariables false
set_option linter.unusedSimpArgs false
namespace Go.Proofs.YtmapjahpjolmnaaGreatDoor
namespace Vm
set_option linter.unusedSimpArgs false
set_option linter.unusedVariables false
open Go.RowKit

structure Plan (ops : Array Oper) (pl : List Nat) (pre : Nat → Nat → Bool) (eff : Nat → Bool) : Prop where
  mem : ∀ i, i < ops.size → i ∈ pl
  lt : ∀ i ∈ pl, i < ops.size
  nodup : pl.Nodup
  edges : ∀ dn i rest o, pl = dn ++ i :: rest → ops[i]? = some o → ∀ e ∈ o.after, Region.binds .any e = true → e.on ∈ dn
  pres : ∀ (i : Nat) o, ops[i]? = some o → ∀ j, pre j i = true → ∃ e ∈ o.after, Region.binds .any e = true ∧ (e.on = j ∨ pre j e.on = true)
  dst : ∀ (i j : Nat) (oi oj : Oper) d, ops[i]? = some oi → ops[j]? = some oj → oi.dst = some d → oj.dst = some d → i = j
  see : ∀ (i j : Nat) (oi oj : Oper) d, ops[i]? = some oi → ops[j]? = some oj → oj.dst = some d → d ∈ oi.looksAt ops → pre j i = true ∨ (pre i j = true ∧ eff j = true)
  order : ∀ dn c rest, pl = dn ++ c :: rest → eff c = true → ∀ a ∈ rest, pre c a = true

section
variable {ops : Array Oper} {pl : List Nat} {pre : Nat → Nat → Bool} {eff : Nat → Bool}
theorem Plan.closed (h : Plan ops pl pre eff) {S : Nat → Prop} (hS : ∀ (i : Nat) o, S i → ops[i]? = some o → ∀ e ∈ o.after, Region.binds .any e = true → S e.on) :
    ∀ n dn i rest, dn.length < n → pl = dn ++ i :: rest → S i → ∀ j, pre j i = true → S j ∧ j ∈ dn := by
  intro n
  induction n with
  | zero => intro dn i rest hn; omega
  | succ n ih =>
    intro dn i rest hn hp hi j hj
    have hlt := h.lt i (by rw [hp]; simp)
    have ho := Array.getElem?_eq_getElem hlt
    obtain ⟨e, he, hb, hc⟩ := h.pres i _ ho j hj
    have hm := h.edges dn i rest _ hp ho e he hb
    have hs := hS i _ hi ho e he hb
    rcases hc with rfl | hc
    · exact ⟨hs, hm⟩
    · obtain ⟨d1, d2, rfl⟩ := List.append_of_mem hm
      have := ih d1 e.on (d2 ++ i :: rest) (by simp at hn; omega) (by rw [hp]; simp) hs j hc
      exact ⟨this.1, by simp [this.2]⟩
theorem Plan.before (h : Plan ops pl pre eff) {dn rest : List Nat} {i j : Nat} (hp : pl = dn ++ i :: rest) (hj : pre j i = true) : j ∈ dn :=
  (h.closed (S := fun _ => True) (fun _ _ _ _ _ _ _ => trivial) _ dn i rest (Nat.lt_succ_self _) hp trivial j hj).2
theorem Plan.fresh (h : Plan ops pl pre eff) {dn rest : List Nat} {i j : Nat} (hp : pl = dn ++ i :: rest) (hj : j ∈ dn) : pre i j = false := by
  cases hc : pre i j with
  | false => rfl
  | true =>
    exfalso
    obtain ⟨d1, d2, rfl⟩ := List.append_of_mem hj
    have hi := h.before (dn := d1) (i := j) (rest := d2 ++ i :: rest) (by rw [hp]; simp) hc
    have hn := h.nodup
    rw [hp] at hn
    have := (List.nodup_append.1 hn).2.2 i (by simp [hi]) i (by simp)
    exact this rfl
theorem Plan.irr (h : Plan ops pl pre eff) {dn rest : List Nat} {i : Nat} (hp : pl = dn ++ i :: rest) : pre i i = false := by
  cases hc : pre i i with
  | false => rfl
  | true =>
    have hi := h.before hp hc
    have hn := h.nodup
    rw [hp] at hn
    exact absurd rfl ((List.nodup_append.1 hn).2.2 i hi i (by simp))
theorem Plan.notin (h : Plan ops pl pre eff) {dn rest : List Nat} {i : Nat} (hp : pl = dn ++ rest) (hi : i ∈ rest) : i ∉ dn := fun hd => by
  have hn := h.nodup
  rw [hp] at hn
  exact (List.nodup_append.1 hn).2.2 i hd i hi rfl

/-- The blocks that are hidden from an operation: those that may come after it. -/
def hid (pre : Nat → Nat → Bool) (al : List (Nat × Nat)) (i : Nat) : List Nat := (al.filter fun x => !pre x.1 i).map (·.2)
def mskL (σ : VHeap) (ids : List Nat) : VHeap := match ids with
  | [] => σ
  | _ :: _ => msk σ fun id => ids.contains id
def backL (σ σ1 : VHeap) (ids : List Nat) : VHeap := match ids with
  | [] => σ1
  | _ :: _ => back σ σ1 fun id => ids.contains id
theorem mskL_eq (σ : VHeap) (ids : List Nat) : mskL σ ids = msk σ fun id => ids.contains id := by
  cases ids with
  | nil =>
    apply heap_ext
    intro id
    rw [msk_get]
    simp only [mskL, List.contains_nil, cond_false]
    cases σ[id]? <;> rfl
  | cons => rfl
theorem backL_eq (σ σ1 : VHeap) (ids : List Nat) : backL σ σ1 ids = back σ σ1 fun id => ids.contains id := by
  cases ids with
  | nil =>
    apply heap_ext
    intro id
    rw [back_get]
    simp only [backL, List.contains_nil, cond_false]
    cases σ1[id]? <;> rfl
  | cons => rfl
def aloneAll (σ : VHeap) (ids : List Nat) : Bool := ids.all fun id => match σ[id]? with
  | some o => !o.live || o.alone
  | none => false
def Still (P : Program) (ops : Array Oper) (pre : Nat → Nat → Bool) (pd : List (Nat × Value)) (al : List (Nat × Nat)) (t : Array Value) (σ : VHeap) : Prop :=
  ∀ x ∈ pd, ∃ o, ops[x.1]? = some o ∧ vop P o (vev t) (mskL σ (hid pre al x.1)) = some (.val x.2 (mskL σ (hid pre al x.1)))
def vplan (P : Program) (cl : VCall) (ops : Array Oper) (pre : Nat → Nat → Bool) (eff : Nat → Bool) (Q : VPost) : List Nat → List (Nat × Value) → List (Nat × Nat) → Array Value → VHeap → Prop
  | [], _, _, t, σ => Q .normal t σ
  | i :: l, pd, al, t, σ =>
    match ops[i]? with
    | none => False
    | some o =>
      if Region.wanted o (yielded ops t) = true then
        o.op.operands.all constOk = true ∧
        if eff i = true then
          aloneAll σ (hid pre al i) = true ∧
          match vop P o (vev t) (mskL σ (hid pre al i)) with
          | some (.val v σ1) => Still P ops pre (pd.filter fun x => !pre x.1 i) (al.filter fun x => !pre x.1 i) (vput t o.dst v) (backL σ σ1 (hid pre al i)) ∧
            vplan P cl ops pre eff Q l (pd.filter fun x => !pre x.1 i) (al.filter fun x => !pre x.1 i) (vput t o.dst v) (backL σ σ1 (hid pre al i))
          | some (.skip σ1) => Still P ops pre (pd.filter fun x => !pre x.1 i) (al.filter fun x => !pre x.1 i) (vput t o.dst undef) (backL σ σ1 (hid pre al i)) ∧
            vplan P cl ops pre eff Q l (pd.filter fun x => !pre x.1 i) (al.filter fun x => !pre x.1 i) (vput t o.dst undef) (backL σ σ1 (hid pre al i))
          | some (.enter f args σ1) => cl f args σ1 fun r => match r with
            | .ret v σ2 => Still P ops pre (pd.filter fun x => !pre x.1 i) (al.filter fun x => !pre x.1 i) (vput t o.dst v) (backL σ σ2 (hid pre al i)) ∧
              vplan P cl ops pre eff Q l (pd.filter fun x => !pre x.1 i) (al.filter fun x => !pre x.1 i) (vput t o.dst v) (backL σ σ2 (hid pre al i))
            | .pan _ _ => False
          | _ => False
        else match nval P o (vev t) with
          | some v => vplan P cl ops pre eff Q l pd al (vput t o.dst v) σ
          | none => match nalloc P o (vev t) with
            | some (k, cs, e) => cs.all (leafB σ.size) = true ∧ vplan P cl ops pre eff Q l pd ((i, σ.size) :: al) (vput t o.dst (k.val σ.size)) (σ.push (k.obj cs e σ.size))
            | none => match isRd P o, vop P o (vev t) (mskL σ (hid pre al i)) with
              | true, some (.val v _) => vplan P cl ops pre eff Q l ((i, v) :: pd) al (vput t o.dst v) σ
              | _, _ => False
      else vplan P cl ops pre eff Q l pd al (vput t o.dst undef) σ

def TRel (ρ : Rho) (D : Nat → Prop) (t tr : Array Value) : Prop := t.size = tr.size ∧ ∀ (k : Nat) (h : k < t.size) (h' : k < tr.size), ¬ D k → VRel ρ t[k] tr[k]
theorem TRel.ev {ρ : Rho} {D : Nat → Prop} {t tr : Array Value} {ds : List Deferred} (h : TRel ρ D t tr) (x : Operand) (hc : constOk x = true) (hd : ∀ d, x = .tmp d → ¬ D d) : VRel ρ (vev t x) ((⟨tr, ds⟩ : Act).eval x) := by
  cases x with
  | tmp i =>
    simp only [vev, Act.eval]
    by_cases hi : i < t.size
    · rw [Array.getD_eq_getD_getElem?, Array.getD_eq_getD_getElem?, Array.getElem?_eq_getElem hi, Array.getElem?_eq_getElem (h.1 ▸ hi)]
      exact h.2 i hi (h.1 ▸ hi) (hd i rfl)
    · rw [Array.getD_eq_getD_getElem?, Array.getD_eq_getD_getElem?, Array.getElem?_eq_none (Nat.le_of_not_lt hi), Array.getElem?_eq_none (h.1 ▸ Nat.le_of_not_lt hi)]
      exact undef_rel ρ
  | const v => exact clean_rel hc ρ
  | global g => exact .glob g
  | func f => exact .func _ rfl (fun k hk => by simp at hk) rfl (fun k hk => by simp at hk)
def asB : Option Value → Option Bool
  | some (.bool b) => some b
  | _ => none
theorem wanted_congr {o : Oper} {t u : Array Value} (h : ∀ d ∈ o.looksAt ops, asB t[d]? = asB u[d]?) : Region.wanted o (yielded ops t) = Region.wanted o (yielded ops u) := by
  unfold Region.wanted
  cases hg : o.guard with
  | none => rfl
  | some gw =>
    obtain ⟨g, want⟩ := gw
    have hy : yielded ops t g = yielded ops u g := by
      unfold yielded
      cases ht : (ops[g]?).bind (·.dst) with
      | none => rfl
      | some d => exact h d (by simp [Oper.looksAt, hg, ht])
    simp only [hy]
theorem TRel.wanted {ρ : Rho} {D : Nat → Prop} {t tr : Array Value} (h : TRel ρ D t tr) {o : Oper} (hd : ∀ d ∈ o.looksAt ops, ¬ D d) : Region.wanted o (yielded ops t) = Region.wanted o (yielded ops tr) := by
  refine wanted_congr fun d hl => ?_
  by_cases hi : d < t.size
  · rw [Array.getElem?_eq_getElem hi, Array.getElem?_eq_getElem (h.1 ▸ hi)]
    have hi' : d < tr.size := h.1 ▸ hi
    have := h.2 d hi hi' (hd d hl)
    generalize t[d] = a at this
    generalize tr[d] = b at this
    cases this <;> rfl
  · rw [Array.getElem?_eq_none (Nat.le_of_not_lt hi), Array.getElem?_eq_none (h.1 ▸ Nat.le_of_not_lt hi)]
theorem looks_tmp {o : Oper} {x : Operand} {d : Nat} (hx : x ∈ o.op.operands) (h : x = .tmp d) : d ∈ o.looksAt ops := by
  subst h
  exact List.mem_append_left _ (List.mem_filterMap.2 ⟨.tmp d, by simpa using hx, rfl⟩)
theorem vput_get {t : Array Value} {dst : Option Tmp} {v : Value} {k : Nat} (h : dst ≠ some k) : (vput t dst v)[k]? = t[k]? := by
  cases dst with
  | none => rfl
  | some d => exact Array.getElem?_setIfInBounds_ne (fun e => h (by rw [e]))
theorem vput_size {t : Array Value} {dst : Option Tmp} {v : Value} : (vput t dst v).size = t.size := by cases dst <;> simp [vput]
theorem vput_self {t : Array Value} {d : Nat} {v : Value} (h : d < t.size) : (vput t (some d) v)[d]? = some v := by simp [vput, h]
theorem vev_put {t : Array Value} {dst : Option Tmp} {v : Value} {x : Operand} (h : ∀ d, x = .tmp d → dst ≠ some d) : vev (vput t dst v) x = vev t x := by
  cases x with
  | tmp i => simp only [vev, Array.getD_eq_getD_getElem?, vput_get (h i rfl)]
  | _ => rfl

theorem sees_msk {σ τ : VHeap} {p q : Nat → Bool} (h : ∀ id b, σ[id]? = some (.cells b) → p id = false → q id = false ∧ τ[id]? = some (.cells b)) : Sees (msk σ p) (msk τ q) := by
  intro id b hb hd
  rw [msk_get] at hb ⊢
  cases hσ : σ[id]? with
  | none => rw [hσ] at hb; cases hb
  | some o =>
    rw [hσ] at hb
    simp only [Option.map_some, Option.some.injEq] at hb
    cases hp : p id with
    | true => rw [hp] at hb; simp only [cond_true, gone, VObj.cells.injEq] at hb; subst hb; exact absurd rfl hd
    | false =>
      rw [hp] at hb
      simp only [cond_false] at hb
      subst hb
      obtain ⟨h1, h2⟩ := h _ _ hσ hp
      rw [h2, h1]
      rfl
/-- What is known of an operation that may still be to come. -/
def Fact (P : Program) (ops : Array Oper) (pre : Nat → Nat → Bool) (t : Array Value) (σ : VHeap) (pd : List (Nat × Value)) (al : List (Nat × Nat)) (j : Nat) : Prop :=
  ∀ o, ops[j]? = some o →
    (Region.wanted o (yielded ops t) = true ∧ o.op.operands.all constOk = true ∧
      ((∃ v, (∀ d, o.dst = some d → d < t.size → t[d]? = some v) ∧ (∀ id, (j, id) ∉ al) ∧ nval P o (vev t) = some v) ∨
       (∃ v, (∀ d, o.dst = some d → d < t.size → t[d]? = some v) ∧ (∀ id, (j, id) ∉ al) ∧ (j, v) ∈ pd ∧ isRd P o = true ∧ vop P o (vev t) (mskL σ (hid pre al j)) = some (.val v (mskL σ (hid pre al j)))) ∨
       (∃ k cs e id, (∀ d, o.dst = some d → d < t.size → t[d]? = some (AKind.val k id)) ∧ nalloc P o (vev t) = some (k, cs, e) ∧ (j, id) ∈ al ∧ σ[id]? = some (AKind.obj k cs e id) ∧ cs.all (leafB id) = true))) ∨
    (Region.wanted o (yielded ops t) = false ∧ (∀ id, (j, id) ∉ al) ∧ ∀ d, o.dst = some d → d < t.size → t[d]? = some undef)
theorem Fact.put {P : Program} {t : Array Value} {σ σ' : VHeap} {pd pd' : List (Nat × Value)} {al al' : List (Nat × Nat)} {j : Nat} {dst : Option Tmp} {u : Value} (h : Fact P ops pre t σ pd al j)
    (h1 : ∀ o d, ops[j]? = some o → dst = some d → d ∉ o.looksAt ops ∧ o.dst ≠ some d)
    (h2 : ∀ o v, ops[j]? = some o → (j, v) ∈ pd → isRd P o = true → vop P o (vev t) (mskL σ (hid pre al j)) = some (.val v (mskL σ (hid pre al j))) →
      (j, v) ∈ pd' ∧ vop P o (vev (vput t dst u)) (mskL σ' (hid pre al' j)) = some (.val v (mskL σ' (hid pre al' j))))
    (h3 : ∀ id o, (j, id) ∈ al → σ[id]? = some o → (j, id) ∈ al' ∧ σ'[id]? = some o) (h4 : ∀ id, (j, id) ∈ al' → (j, id) ∈ al) : Fact P ops pre (vput t dst u) σ' pd' al' j := by
  intro o ho
  have hw : Region.wanted o (yielded ops (vput t dst u)) = Region.wanted o (yielded ops t) := wanted_congr fun d hd => by
    rw [vput_get fun e => (h1 o d ho e).1 hd]
  have hev : ∀ x ∈ o.op.operands, vev (vput t dst u) x = vev t x := fun x hx => vev_put fun d hxd e => (h1 o d ho e).1 (looks_tmp hx hxd)
  have hdst : ∀ {v : Value}, (∀ d, o.dst = some d → d < t.size → t[d]? = some v) → ∀ d, o.dst = some d → d < (vput t dst u).size → (vput t dst u)[d]? = some v := by
    intro v g d hd hlt
    rw [vput_get fun e => (h1 o d ho e).2 hd]
    exact g d hd (by rwa [vput_size] at hlt)
  rcases h o ho with ⟨g1, g2, g3⟩ | ⟨g1, g2, g3⟩
  · refine .inl ⟨hw.trans g1, g2, ?_⟩
    rcases g3 with ⟨v, k1, k2, k3⟩ | ⟨v, k1, k2, k3, k4, k5⟩ | ⟨k, cs, e, id, k1, k2, k3, k4, k5⟩
    · exact .inl ⟨v, hdst k1, fun id hi => k2 id (h4 id hi), (nval_congr hev).trans k3⟩
    · obtain ⟨m1, m2⟩ := h2 o v ho k3 k4 k5
      exact .inr (.inl ⟨v, hdst k1, fun id hi => k2 id (h4 id hi), m1, k4, m2⟩)
    · obtain ⟨m1, m2⟩ := h3 id _ k3 k4
      exact .inr (.inr ⟨k, cs, e, id, hdst k1, (nalloc_congr hev).trans k2, m1, m2, k5⟩)
  · exact .inr ⟨hw.trans g1, fun id hi => g2 id (h4 id hi), hdst g3⟩

def lag (L : Array Bool) (al : List (Nat × Nat)) (id : Nat) : Bool := al.any fun x => x.2 == id && !L.getD x.1 false
theorem lag_iff {L : Array Bool} {al : List (Nat × Nat)} {id : Nat} : lag L al id = true ↔ ∃ x ∈ al, x.2 = id ∧ L.getD x.1 false = false := by
  simp [lag, List.any_eq_true]
/-- The base while some blocks are still to come. -/
def lagBase (B0 : Base) (L : Array Bool) (al : List (Nat × Nat)) : Base := ⟨B0.U, fun id => B0.H id ∨ lag L al id = true, B0.Ro⟩
/-- Where a real run may stand when the plan stands behind 'dn'. -/
structure Inv (P : Program) (ops : Array Oper) (pre : Nat → Nat → Bool) (eff : Nat → Bool) (w0 : World) (B0 : Base) (dn : List Nat) (pd : List (Nat × Value)) (al : List (Nat × Nat)) (t : Array Value) (σ : VHeap) (L : Array Bool) (a : Act) (w : World) (ρ : Rho) : Prop where
  size : L.size = ops.size
  sub : ∀ j, L.getD j false = true → j ∈ dn
  effs : ∀ j ∈ dn, eff j = true → L.getD j false = true
  closed : ∀ (j : Nat) o, L.getD j false = true → ops[j]? = some o → ∀ e ∈ o.after, Region.binds .any e = true → L.getD e.on false = true
  rel : TRel ρ (fun k => ∃ j ∈ dn, L.getD j false = false ∧ ∃ o, ops[j]? = some o ∧ o.dst = some k) t a.tmps
  defers : a.defers = []
  wrel : WRel ρ (msk σ (lag L al)) w0 w (lagBase B0 L al)
  fact : ∀ j ∈ dn, L.getD j false = false → Fact P ops pre t σ pd al j
  als : ∀ x ∈ al, x.1 ∈ dn
  one : ∀ x ∈ al, ∀ y ∈ al, L.getD x.1 false = false → L.getD y.1 false = false → x.2 = y.2 → x.1 = y.1
  free : ∀ x ∈ al, L.getD x.1 false = false → ¬ B0.H x.2
  uniq : ∀ j p q, (j, p) ∈ al → (j, q) ∈ al → p = q

variable {P : Program} {w0 : World} {B0 : Base} {cl : VCall} {Q : VPost} {Qr : Exit → Act → World → Prop}
theorem plan_advance (hp : Plan ops pl pre eff) {L : Array Bool} {a : Act} {w : World} {ρ : Rho} : ∀ (rest dn : List Nat) (pd : List (Nat × Value)) (al : List (Nat × Nat)) (t : Array Value) (σ : VHeap),
    pl = dn ++ rest → vplan P cl ops pre eff Q rest pd al t σ → Inv P ops pre eff w0 B0 dn pd al t σ L a w ρ →
    ∃ dn' rest' pd' al' t' σ', pl = dn' ++ rest' ∧ vplan P cl ops pre eff Q rest' pd' al' t' σ' ∧ Inv P ops pre eff w0 B0 dn' pd' al' t' σ' L a w ρ ∧ (∀ c r, rest' = c :: r → eff c = true) := by
  intro rest
  induction rest with
  | nil => intro dn pd al t σ h1 h2 h3; exact ⟨dn, [], pd, al, t, σ, h1, h2, h3, fun c r e => by cases e⟩
  | cons i rest ih =>
    intro dn pd al t σ h1 h2 h3
    cases he : eff i with
    | true => exact ⟨dn, i :: rest, pd, al, t, σ, h1, h2, h3, fun c r e => by cases e; exact he⟩
    | false =>
      have hnot : i ∉ dn := hp.notin h1 (by simp)
      have hi : L.getD i false = false := by
        cases hc : L.getD i false with
        | false => rfl
        | true => exact absurd (h3.sub i hc) hnot
      have h1' : pl = (dn ++ [i]) ++ rest := by rw [h1]; simp
      have hnal : ∀ id, (i, id) ∉ al := fun id hm => hnot (h3.als _ hm)
      have step : ∀ {o : Oper} {v : Value} {pd' : List (Nat × Value)} {al' : List (Nat × Nat)} {σ' : VHeap}, ops[i]? = some o → (∀ x ∈ pd, x ∈ pd') → (∀ x ∈ al, x ∈ al') → (∀ x ∈ al', x ∈ al ∨ x.1 = i) →
          (∀ j ∈ dn, Sees (mskL σ (hid pre al j)) (mskL σ' (hid pre al' j))) → (∀ (id : Nat) ob, σ[id]? = some ob → σ'[id]? = some ob) →
          WRel ρ (msk σ' (lag L al')) w0 w (lagBase B0 L al') →
          (∀ x ∈ al', ∀ y ∈ al', L.getD x.1 false = false → L.getD y.1 false = false → x.2 = y.2 → x.1 = y.1) → (∀ x ∈ al', L.getD x.1 false = false → ¬ B0.H x.2) → (∀ j p q, (j, p) ∈ al' → (j, q) ∈ al' → p = q) →
          Fact P ops pre (vput t o.dst v) σ' pd' al' i → Inv P ops pre eff w0 B0 (dn ++ [i]) pd' al' (vput t o.dst v) σ' L a w ρ := by
        intro o v pd' al' σ' ho hpd hal hal' hsee hget hw' hone hfree huniq hf
        have hlook : ∀ j ∈ dn, ∀ oj d, ops[j]? = some oj → o.dst = some d → d ∉ oj.looksAt ops ∧ oj.dst ≠ some d := by
          intro j hj oj d hoj hd
          refine ⟨fun hl => ?_, fun hd' => ?_⟩
          · rcases hp.see j i oj o d hoj ho hd hl with this | this
            · rw [hp.fresh h1 hj] at this; cases this
            · rw [he] at this; cases this.2
          · have := hp.dst i j o oj d ho hoj hd hd'
            subst this
            exact hnot hj
        refine ⟨h3.size, fun j hj => by simp [h3.sub j hj], fun j hj hej => ?_, h3.closed, ?_, h3.defers, hw', fun j hj hlj => ?_, fun x hx => ?_, hone, hfree, huniq⟩
        · rw [List.mem_append] at hj
          rcases hj with hj | hj
          · exact h3.effs j hj hej
          · obtain rfl := List.mem_singleton.1 hj; rw [he] at hej; cases hej
        · refine ⟨vput_size.trans h3.rel.1, fun k hk hk' hD => ?_⟩
          have hne : o.dst ≠ some k := fun e => hD ⟨i, by simp, hi, o, ho, e⟩
          have hkt : k < t.size := by rwa [vput_size] at hk
          have hg := vput_get (t := t) (v := v) hne
          rw [Array.getElem?_eq_getElem hk, Array.getElem?_eq_getElem hkt] at hg
          rw [Option.some.inj hg]
          exact h3.rel.2 k hkt hk' fun ⟨j, hj, x⟩ => hD ⟨j, by simp [hj], x⟩
        · rw [List.mem_append] at hj
          rcases hj with hj | hj
          · refine (h3.fact j hj hlj).put (hlook j hj) (fun oj v' hoj hm hr hv => ⟨hpd _ hm, ?_⟩) (fun id ob hm hg => ⟨hal _ hm, hget _ _ hg⟩) fun id hm => ?_
            · refine rd_sees hr (hsee j hj) ?_ (σ' := mskL σ (hid pre al j))
              rw [vop_congr (ev' := vev t)]
              · exact hv
              · exact fun x hx => vev_put fun d hxd e => (hlook j hj oj d hoj e).1 (looks_tmp hx hxd)
            · rcases hal' _ hm with h | h
              · exact h
              · simp only at h; subst h; exact absurd hj hnot
          · obtain rfl := List.mem_singleton.1 hj; exact hf
        · rcases hal' x hx with h | h
          · simp [h3.als x h]
          · simp [h]
      unfold vplan at h2
      split at h2
      case h_1 => exact h2.elim
      rename_i o ho
      have hself : ∀ d, o.dst = some d → d ∉ o.looksAt ops := fun d hd hl => by
        rcases hp.see i i o o d ho ho hd hl with this | this
        · rw [hp.irr h1] at this; cases this
        · rw [hp.irr h1] at this; cases this.1
      have hwc : ∀ v, Region.wanted o (yielded ops (vput t o.dst v)) = Region.wanted o (yielded ops t) := fun v => wanted_congr fun d hd => by rw [vput_get fun e => hself d e hd]
      have hev : ∀ v, ∀ x ∈ o.op.operands, vev (vput t o.dst v) x = vev t x := fun v x hx => vev_put fun d hxd e => hself d e (looks_tmp hx hxd)
      have hdst : ∀ v d, o.dst = some d → d < (vput t o.dst v).size → (vput t o.dst v)[d]? = some v := fun v d hd hlt => by
        rw [vput_size] at hlt; rw [hd]; exact vput_self hlt
      have same : ∀ {v : Value} {pd' : List (Nat × Value)}, (∀ x ∈ pd, x ∈ pd') → Fact P ops pre (vput t o.dst v) σ pd' al i → Inv P ops pre eff w0 B0 (dn ++ [i]) pd' al (vput t o.dst v) σ L a w ρ :=
        fun hpd hf => step ho hpd (fun _ h => h) (fun _ h => .inl h) (fun _ _ _ _ h _ => h) (fun _ _ h => h) h3.wrel h3.one h3.free h3.uniq hf
      split at h2
      · rename_i hw
        obtain ⟨hc, h2⟩ := h2
        rw [if_neg (by rw [he]; simp)] at h2
        split at h2
        · rename_i v hv
          refine ih (dn ++ [i]) pd al _ σ h1' h2 (same (fun _ h => h) ?_)
          intro o' ho'
          rw [ho] at ho'; cases ho'
          exact .inl ⟨(hwc v).trans hw, hc, .inl ⟨v, hdst v, hnal, (nval_congr (hev v)).trans hv⟩⟩
        · split at h2
          · rename_i k cs e hna
            obtain ⟨hlf, h2⟩ := h2
            have hlagsz : ∀ id, lag L al id = true → id < σ.size := fun id hl => by
              have := (h3.wrel.hole id (.inr hl)).2
              rwa [msk_size] at this
            have hmsk : msk (σ.push (k.obj cs e σ.size)) (lag L ((i, σ.size) :: al)) = (msk σ (lag L al)).push gone := by
              apply heap_ext
              intro id
              rw [msk_get, Array.getElem?_push, Array.getElem?_push, msk_get, msk_size]
              by_cases hid : id = σ.size
              · rw [if_pos hid, if_pos hid]
                have : lag L ((i, σ.size) :: al) id = true := lag_iff.2 ⟨(i, σ.size), by simp, hid.symm, hi⟩
                simp only [Option.map_some, this, cond_true]
              · rw [if_neg hid, if_neg hid]
                have : lag L ((i, σ.size) :: al) id = lag L al id := by
                  simp only [lag, List.any_cons]
                  rw [show (σ.size == id) = false by simpa using Ne.symm hid]
                  rfl
                rw [this]
            refine ih (dn ++ [i]) pd _ _ _ h1' h2 (step ho (fun _ h => h) (fun x h => by simp [h]) (fun x h => by rcases List.mem_cons.1 h with rfl | h; exact .inr rfl; exact .inl h) (fun j hj => ?_) (fun id ob hg => ?_) ?_ ?_ ?_ ?_ ?_)
            · rw [mskL_eq, mskL_eq]
              refine sees_msk fun id b hg hp' => ?_
              have hlt := (Array.getElem?_eq_some_iff.1 hg).1
              refine ⟨?_, by rw [Array.getElem?_push, if_neg (by omega)]; exact hg⟩
              have hpf := hp.fresh h1 hj
              simp only [hid, List.filter_cons, hpf, Bool.not_false, if_true, List.map_cons, List.contains_cons, Bool.or_eq_false_iff]
              exact ⟨by simp; omega, hp'⟩
            · have hlt := (Array.getElem?_eq_some_iff.1 hg).1
              rw [Array.getElem?_push, if_neg (by omega)]
              exact hg
            · rw [hmsk]
              refine (h3.wrel.reserve).fewer rfl rfl fun id hid => ?_
              rcases hid with hid | hid
              · exact .inl (.inl hid)
              · obtain ⟨x, hx, hx2, hxl⟩ := lag_iff.1 hid
                rcases List.mem_cons.1 hx with rfl | hx
                · right; rw [msk_size]; exact hx2.symm
                · exact .inl (.inr (lag_iff.2 ⟨x, hx, hx2, hxl⟩))
            · intro x hx y hy hxl hyl hxy
              rcases List.mem_cons.1 hx with rfl | hx <;> rcases List.mem_cons.1 hy with rfl | hy
              · rfl
              · exfalso
                have := hlagsz _ (lag_iff.2 ⟨y, hy, rfl, hyl⟩)
                simp only at hxy
                omega
              · exfalso
                have := hlagsz _ (lag_iff.2 ⟨x, hx, rfl, hxl⟩)
                simp only at hxy
                omega
              · exact h3.one x hx y hy hxl hyl hxy
            · intro x hx hxl
              rcases List.mem_cons.1 hx with rfl | hx
              · intro hH
                have := (h3.wrel.hole σ.size (.inl hH)).2
                rw [msk_size] at this
                omega
              · exact h3.free x hx hxl
            · intro j p q hp' hq'
              rcases List.mem_cons.1 hp' with e1 | hp' <;> rcases List.mem_cons.1 hq' with e2 | hq'
              · cases e1; cases e2; rfl
              · cases e1; exact absurd hq' (hnal _)
              · cases e2; exact absurd hp' (hnal _)
              · exact h3.uniq j p q hp' hq'
            · intro o' ho'
              rw [ho] at ho'; cases ho'
              exact .inl ⟨(hwc _).trans hw, hc, .inr (.inr ⟨k, cs, e, σ.size, hdst _, (nalloc_congr (hev _)).trans hna, by simp, by simp, hlf⟩)⟩
          · split at h2
            · rename_i v σ1 hr hv
              obtain ⟨_, hx⟩ := rd_same hr hv
              cases hx
              refine ih (dn ++ [i]) _ al _ σ h1' h2 (same (fun _ h => by simp [h]) ?_)
              intro o' ho'
              rw [ho] at ho'; cases ho'
              exact .inl ⟨(hwc v).trans hw, hc, .inr (.inl ⟨v, hdst v, hnal, by simp, hr, (vop_congr (hev v) _).trans hv⟩)⟩
            · exact h2.elim
      · rename_i hw
        refine ih (dn ++ [i]) pd al _ σ h1' h2 (same (fun _ h => h) ?_)
        intro o' ho'
        rw [ho] at ho'; cases ho'
        exact .inr ⟨(hwc undef).trans (by simpa using hw), hnal, hdst undef⟩
end
end Vm
end Go.Proofs.YtmapjahpjolmnaaGreatDoor
namespace Go.Proofs.YtmapjahpjolmnaaGreatDoor
namespace Vm
set_option linter.unusedSimpArgs false
set_option linter.unusedVariables false
open Go.RowKit

section
variable {ops : Array Oper} {pl : List Nat} {pre : Nat → Nat → Bool} {eff : Nat → Bool} {P : Program} {w0 : World} {B0 : Base} {cl : VCall} {Q : VPost} {Qr : Exit → Act → World → Prop}
theorem countP_lt {α : Type} {p q : α → Bool} : ∀ {l : List α} {x : α}, (∀ y ∈ l, q y = true → p y = true) → x ∈ l → p x = true → q x = false → l.countP q < l.countP p := by
  intro l
  induction l with
  | nil => intro x _ hx; simp at hx
  | cons y l ih =>
    intro x h hx hpx hqx
    have hle : l.countP q ≤ l.countP p := List.countP_mono_left fun z hz => h z (by simp [hz])
    rcases List.mem_cons.1 hx with rfl | hx
    · rw [List.countP_cons_of_pos hpx, List.countP_cons_of_neg (by simp [hqx])]
      omega
    · have := ih (fun z hz => h z (by simp [hz])) hx hpx hqx
      have hy := h y (by simp)
      rw [List.countP_cons, List.countP_cons]
      cases hqy : q y
      · simp; omega
      · simp [hy hqy]; omega
def cnt (n : Nat) (L : Array Bool) : Nat := (List.range n).countP fun j => !L.getD j true
theorem getD_bool {L : Array Bool} {n j : Nat} (hs : L.size = n) (hj : j < n) : L.getD j true = L.getD j false := by
  rw [Array.getD_eq_getD_getElem?, Array.getD_eq_getD_getElem?, Array.getElem?_eq_getElem (hs ▸ hj)]; rfl
theorem set_getD {L : Array Bool} {n i j : Nat} {d : Bool} (hs : L.size = n) (hi : i < n) : (L.setIfInBounds i true).getD j d = if j = i then true else L.getD j d := by
  by_cases hij : j = i
  · subst hij
    rw [if_pos rfl, Array.getD_eq_getD_getElem?]
    simp [hs, hi]
  · rw [if_neg hij]
    exact getD_set_ne d (Ne.symm hij)
theorem cnt_set {L : Array Bool} {n i : Nat} (hs : L.size = n) (hi : i < n) (hl : L.getD i true = false) : cnt n (L.setIfInBounds i true) < cnt n L := by
  refine countP_lt (x := i) (fun y _ hy => ?_) (by simpa using hi) (by simp [hl]) ?_
  · rw [set_getD hs hi] at hy
    by_cases hyi : y = i
    · rw [if_pos hyi] at hy; simp at hy
    · rwa [if_neg hyi] at hy
  · rw [set_getD hs hi, if_pos rfl]; rfl
theorem first_not {α : Type} (p : α → Bool) : ∀ l : List α, (∀ x ∈ l, p x = true) ∨ ∃ dn i rest, l = dn ++ i :: rest ∧ (∀ j ∈ dn, p j = true) ∧ p i = false := by
  intro l
  induction l with
  | nil => exact .inl fun x hx => by simp at hx
  | cons x l ih =>
    cases hx : p x with
    | false => exact .inr ⟨[], x, l, rfl, fun j hj => by simp at hj, hx⟩
    | true =>
      rcases ih with h | ⟨dn, i, rest, h1, h2, h3⟩
      · exact .inl fun y hy => by rcases List.mem_cons.1 hy with rfl | hy <;> simp_all
      · exact .inr ⟨x :: dn, i, rest, by rw [h1]; rfl, fun j hj => by rcases List.mem_cons.1 hj with rfl | hj <;> simp_all, h3⟩
theorem all_listed (hp : Plan ops pl pre eff) {L : Array Bool} (hs : L.size = ops.size) (hr : Region.ready .any ops L = []) : ∀ j, j < ops.size → L.getD j false = true := by
  rcases first_not (fun j => L.getD j false) pl with h | ⟨dn, i, rest, h1, h2, h3⟩
  · exact fun j hj => h j (hp.mem j hj)
  · exfalso
    have hlt := hp.lt i (by rw [h1]; simp)
    have ho := Array.getElem?_eq_getElem hlt
    have : i ∈ Region.ready .any ops L := mem_ready.2 ⟨by rw [getD_bool hs hlt]; exact h3, _, ho, fun e he hb => h2 _ (hp.edges dn i rest _ h1 ho e he hb)⟩
    rw [hr] at this
    simp at this
theorem lag_none {L : Array Bool} {al : List (Nat × Nat)} (h : ∀ x ∈ al, L.getD x.1 false = true) : lag L al = fun _ => false := by
  funext id
  cases hc : lag L al id with
  | false => rfl
  | true =>
    obtain ⟨x, hx, -, hl⟩ := lag_iff.1 hc
    rw [h x hx] at hl
    cases hl
theorem msk_none (σ : VHeap) : msk σ (fun _ => false) = σ := by
  apply heap_ext
  intro id
  rw [msk_get]
  cases σ[id]? <;> rfl
theorem plan_done (hp : Plan ops pl pre eff) {dn rest : List Nat} {pd : List (Nat × Value)} {al : List (Nat × Nat)} {t : Array Value} {σ : VHeap} {L : Array Bool} {a : Act} {w : World} {ρ : Rho}
    (h1 : pl = dn ++ rest) (h2 : vplan P cl ops pre eff Q rest pd al t σ) (h3 : Inv P ops pre eff w0 B0 dn pd al t σ L a w ρ) (hq : PostOk Q Qr ρ w0 B0) (hr : Region.ready .any ops L = []) : Qr .normal a w := by
  have hall := all_listed hp h3.size hr
  cases rest with
  | cons c r =>
    exfalso
    have hc : c ∈ pl := by rw [h1]; simp
    exact hp.notin h1 (by simp) (h3.sub c (hall c (hp.lt c hc)))
  | nil =>
    unfold vplan at h2
    have hdn : ∀ j ∈ dn, L.getD j false = true := fun j hj => hall j (hp.lt j (by rw [h1]; simpa using hj))
    have hlag : lag L al = fun _ => false := lag_none fun x hx => hdn _ (h3.als x hx)
    have hw := h3.wrel
    unfold lagBase at hw
    rw [hlag, msk_none] at hw
    refine hq ρ .normal t σ a w (Rho.le_refl _) h2 ⟨h3.rel.1, fun k hk hk' => h3.rel.2 k hk hk' ?_⟩ h3.defers (hw.fewer rfl rfl fun id h => .inl h)
    rintro ⟨j, hj, hl, -⟩
    rw [hdn j hj] at hl
    cases hl
theorem put_rel {ρ ρ2 : Rho} {D D' : Nat → Prop} {t tr : Array Value} {ds : List Deferred} {dst : Option Tmp} {v v' : Value} (h : TRel ρ D t tr) (hle : ρ.le ρ2) (hv : VRel ρ2 v v') (hD : ∀ k, dst ≠ some k → D k → D' k) :
    TRel ρ2 D' (vput t dst v) ((⟨tr, ds⟩ : Act).put dst v').tmps := by
  have hs2 : ((⟨tr, ds⟩ : Act).put dst v').tmps.size = tr.size := by cases dst <;> simp [Act.put]
  refine ⟨vput_size.trans (h.1.trans hs2.symm), fun k hk hk' hDk => ?_⟩
  have hkt : k < t.size := by rwa [vput_size] at hk
  have hkr : k < tr.size := by rwa [hs2] at hk'
  by_cases hdk : dst = some k
  · subst hdk
    have e1 : (vput t (some k) v)[k]? = some v := vput_self hkt
    rw [Array.getElem?_eq_getElem hk] at e1
    have e2 : ((⟨tr, ds⟩ : Act).put (some k) v').tmps[k]? = some v' := by simp [Act.put, hkr]
    rw [Array.getElem?_eq_getElem hk'] at e2
    rw [Option.some.inj e1, Option.some.inj e2]
    exact hv
  · have e1 := vput_get (t := t) (v := v) hdk
    rw [Array.getElem?_eq_getElem hk, Array.getElem?_eq_getElem hkt] at e1
    have e2 : ((⟨tr, ds⟩ : Act).put dst v').tmps[k]? = tr[k]? := by
      cases hdd : dst with
      | none => rfl
      | some d => exact Array.getElem?_setIfInBounds_ne (fun e => hdk (by rw [hdd, e]))
    rw [Array.getElem?_eq_getElem hk', Array.getElem?_eq_getElem hkr] at e2
    rw [Option.some.inj e1, Option.some.inj e2]
    exact (h.2 k hkt hkr fun hd => hDk (hD k hdk hd)).mono hle
theorem vput_same {t : Array Value} {dst : Option Tmp} {v : Value} (h : ∀ d, dst = some d → d < t.size → t[d]? = some v) : vput t dst v = t := by
  cases dst with
  | none => rfl
  | some d =>
    apply Array.ext_getElem?
    intro k
    by_cases hk : d = k
    · subst hk
      by_cases hlt : d < t.size
      · rw [h d rfl hlt]; exact vput_self hlt
      · have h0 : t.size ≤ d := Nat.le_of_not_lt hlt
        have h1 : (vput t (some d) v).size ≤ d := by rw [vput_size]; exact h0
        rw [Array.getElem?_eq_none h1, Array.getElem?_eq_none h0]
    · exact vput_get (by simpa using hk)
theorem plan_ok (hcl : ClOk P cl) (hp : Plan ops pl pre eff) (Q : VPost) (Qr : Exit → Act → World → Prop) : ∀ (fuel : Nat) (dn rest : List Nat) (pd : List (Nat × Value)) (al : List (Nat × Nat)) (t : Array Value) (σ : VHeap) (L : Array Bool) (a : Act) (w : World) (ρ : Rho),
    pl = dn ++ rest → (∀ c r, rest = c :: r → eff c = true) → vplan P cl ops pre eff Q rest pd al t σ → Inv P ops pre eff w0 B0 dn pd al t σ L a w ρ → PostOk Q Qr ρ w0 B0 → cnt ops.size L ≤ fuel →
    wpAny P .any ops Qr fuel L a w := by
  intro fuel
  induction fuel with
  | zero =>
    intro dn rest pd al t σ L a w ρ h1 hh h2 h3 hq hf
    have hr : Region.ready .any ops L = [] := by
      cases hc : Region.ready .any ops L with
      | nil => rfl
      | cons i l =>
        exfalso
        obtain ⟨hl, o, ho, -⟩ := mem_ready.1 (show i ∈ Region.ready .any ops L by rw [hc]; simp)
        have hlt := (Array.getElem?_eq_some_iff.1 ho).1
        have := cnt_set h3.size hlt hl
        omega
    exact ⟨hr, plan_done hp h1 h2 h3 hq hr⟩
  | succ fuel ih =>
    intro dn rest pd al t σ L a w ρ h1 hh h2 h3 hq hf
    refine ⟨plan_done hp h1 h2 h3 hq, fun i hi => ?_⟩
    obtain ⟨hl, o, ho, hpre⟩ := mem_ready.1 hi
    have hlt := (Array.getElem?_eq_some_iff.1 ho).1
    have hl' : L.getD i false = false := by rw [← getD_bool h3.size hlt]; exact hl
    have hcnt := cnt_set h3.size hlt hl
    have hsz : (L.setIfInBounds i true).size = ops.size := by simpa using h3.size
    have hset : ∀ j, (L.setIfInBounds i true).getD j false = if j = i then true else L.getD j false := fun j => set_getD h3.size hlt
    -- what comes before i has been done
    have hbefore : ∀ j, pre j i = true → L.getD j false = true := by
      intro j hj
      obtain ⟨e, he, hb, hc⟩ := hp.pres i o ho j hj
      have hel := hpre e he hb
      rcases hc with rfl | hc
      · exact hel
      · have hem : e.on ∈ pl := by rw [h1]; simp [h3.sub _ hel]
        obtain ⟨d1, d2, hd⟩ := List.append_of_mem hem
        exact (hp.closed (S := fun j => L.getD j false = true) (fun j oj h => h3.closed j oj h) _ d1 e.on d2 (Nat.lt_succ_self _) hd hel j hc).1
    have hafter : ∀ j, L.getD j false = false → pre j i = false := fun j hj => by
      cases hc : pre j i with
      | false => rfl
      | true => rw [hbefore j hc] at hj; cases hj
    have hclosed : ∀ (j : Nat) oj, (L.setIfInBounds i true).getD j false = true → ops[j]? = some oj → ∀ e ∈ oj.after, Region.binds .any e = true → (L.setIfInBounds i true).getD e.on false = true := by
      intro j oj hj hoj e he hb
      rw [hset] at hj
      by_cases hji : j = i
      · subst hji
        rw [ho] at hoj; cases hoj
        exact getD_set_true (hpre e he hb)
      · rw [if_neg hji] at hj
        exact getD_set_true (h3.closed j oj hj hoj e he hb)
    have hunl : ∀ j, (L.setIfInBounds i true).getD j false = false → j ≠ i ∧ L.getD j false = false := by
      intro j hj
      rw [hset] at hj
      by_cases hji : j = i
      · rw [if_pos hji] at hj; cases hj
      · rw [if_neg hji] at hj; exact ⟨hji, hj⟩
    -- what it looks at is there
    have hD : ∀ d ∈ o.looksAt ops, ¬ ∃ j ∈ dn, L.getD j false = false ∧ ∃ oj, ops[j]? = some oj ∧ oj.dst = some d := by
      rintro d hd ⟨j, hj, hlj, oj, hoj, hdj⟩
      rcases hp.see i j o oj d ho hoj hdj hd with this | this
      · have := hbefore j this
        rw [hlj] at this; cases this
      · have := h3.effs j hj this.2
        rw [hlj] at this; cases this
    have hwant := h3.rel.wanted hD
    have hE : o.op.operands.all constOk = true → ∀ x ∈ o.op.operands, VRel ρ (vev t x) (a.eval x) := fun hc x hx => by
      have hrel := h3.rel
      obtain ⟨tr, ds⟩ := a
      obtain ⟨k, hk, hkx⟩ := Array.getElem_of_mem hx
      exact hrel.ev x (by have := Array.all_eq_true.1 hc k hk; rwa [hkx] at this) fun d hd => hD d (looks_tmp hx hd)
    have hlagsub : ∀ id, lag L al id = true → (hid pre al i).contains id = true := by
      intro id hid
      obtain ⟨x, hx, hx2, hxl⟩ := lag_iff.1 hid
      rw [List.contains_iff_mem]
      exact List.mem_map.2 ⟨x, List.mem_filter.2 ⟨hx, by simp [hafter _ hxl]⟩, hx2⟩
    have hlagL : ∀ al', (∀ x ∈ al', x ∈ al) → (∀ x ∈ al, L.getD x.1 false = false → x ∈ al') → (∀ id, (i, id) ∉ al) → lag (L.setIfInBounds i true) al' = lag L al := by
      intro al' g1 g2 g3
      funext id
      rw [Bool.eq_iff_iff, lag_iff, lag_iff]
      constructor
      · rintro ⟨x, hx, hx2, hxl⟩
        exact ⟨x, g1 x hx, hx2, (hunl _ hxl).2⟩
      · rintro ⟨x, hx, hx2, hxl⟩
        refine ⟨x, g2 x hx hxl, hx2, ?_⟩
        rw [hset, if_neg]
        · exact hxl
        · intro e; exact g3 x.2 (by rw [← e]; exact hx)
    unfold wpOp
    rw [ho]
    simp only
    rw [← hwant]
    rcases List.mem_append.1 (h1 ▸ hp.mem i hlt) with hdn | hrest
    · -- it lags behind
      have fin : ∀ {v v' : Value} {w' : World} {ρ2 : Rho}, ρ.le ρ2 → WRel ρ2 (msk σ (lag (L.setIfInBounds i true) al)) w0 w' (lagBase B0 (L.setIfInBounds i true) al) → VRel ρ2 v v' → (∀ d, o.dst = some d → d < t.size → t[d]? = some v) →
          wpAny P .any ops Qr fuel (L.setIfInBounds i true) (a.put o.dst v') w' := by
        intro v v' w' ρ2 hle hw' hv hd
        refine ih dn rest pd al t σ _ _ w' ρ2 h1 hh h2 ⟨hsz, fun j hj => ?_, fun j hj he => getD_set_true (h3.effs j hj he), hclosed, ?_, put_defers' h3.defers _ _, hw', fun j hj hlj => h3.fact j hj (hunl j hlj).2, h3.als,
          fun x hx y hy g1 g2 => h3.one x hx y hy (hunl _ g1).2 (hunl _ g2).2, fun x hx g => h3.free x hx (hunl _ g).2, h3.uniq⟩ (hq.up hle) (by omega)
        · rw [hset] at hj
          by_cases hji : j = i
          · rw [hji]; exact hdn
          · rw [if_neg hji] at hj; exact h3.sub j hj
        · obtain ⟨tr, ds⟩ := a
          have := put_rel (D' := fun k => ∃ j ∈ dn, (L.setIfInBounds i true).getD j false = false ∧ ∃ o, ops[j]? = some o ∧ o.dst = some k) (ds := ds) h3.rel hle hv (dst := o.dst) ?_
          · rwa [vput_same hd] at this
          · rintro k hk ⟨j, hj, hlj, oj, hoj, hdj⟩
            refine ⟨j, hj, ?_, oj, hoj, hdj⟩
            rw [hset, if_neg]
            · exact hlj
            · rintro rfl; rw [ho] at hoj; cases hoj; exact hk hdj
      have fin0 : ∀ {v v' : Value} {w' : World} {ρ2 : Rho}, (∀ id, (i, id) ∉ al) → ρ.le ρ2 → WRel ρ2 (msk σ (lag L al)) w0 w' (lagBase B0 L al) → VRel ρ2 v v' → (∀ d, o.dst = some d → d < t.size → t[d]? = some v) →
          wpAny P .any ops Qr fuel (L.setIfInBounds i true) (a.put o.dst v') w' := by
        intro v v' w' ρ2 hna hle hw' hv hd
        refine fin hle ?_ hv hd
        unfold lagBase
        rw [hlagL al (fun _ h => h) (fun _ h _ => h) hna]
        exact hw'
      rcases h3.fact i hdn hl' o ho with ⟨g1, g2, g3⟩ | ⟨g1, g2, g3⟩
      · rw [if_pos g1]
        left
        unfold Oper.wp
        rcases g3 with ⟨v, k1, k2, k3⟩ | ⟨v, k1, k2, k3, k4, k5⟩ | ⟨k, cs, e, id, k1, k2, k3, k4, k5⟩
        · obtain ⟨ρ2, v', w', m1, m2, m3, m4⟩ := vop_ok h3.wrel (hE g2) (nval_vop k3 _)
          rw [m2, Oper.upon_value]
          exact fin0 k2 m1 m4 m3 k1
        · have hv : vop P o (vev t) (msk σ (lag L al)) = some (.val v (msk σ (lag L al))) := by
            refine rd_sees k4 ?_ k5
            rw [mskL_eq]
            exact Sees.msk hlagsub
          obtain ⟨ρ2, v', w', m1, m2, m3, m4⟩ := vop_ok h3.wrel (hE g2) hv
          rw [m2, Oper.upon_value]
          exact fin0 k2 m1 m4 m3 k1
        · have hlagid : lag L al id = true := lag_iff.2 ⟨_, k3, rfl, hl'⟩
          obtain ⟨ρ2, v', w', m1, m2, m3, m4⟩ := vop_ok h3.wrel (hE g2) (nalloc_vop k2 _)
          rw [m2, Oper.upon_value]
          obtain ⟨ρ3, n1, n2, n3⟩ := h3.wrel.late (.inr hlagid) k5 m1 m4 m3
          have hlag' : ∀ id', lag (L.setIfInBounds i true) al id' = (lag L al id' && decide (id' ≠ id)) := by
            intro id'
            rw [Bool.eq_iff_iff, Bool.and_eq_true, decide_eq_true_eq, lag_iff, lag_iff]
            constructor
            · rintro ⟨x, hx, hx2, hxl⟩
              obtain ⟨hxi, hxl⟩ := hunl _ hxl
              refine ⟨⟨x, hx, hx2, hxl⟩, ?_⟩
              rintro rfl
              exact hxi (h3.one x hx _ k3 hxl hl' hx2)
            · rintro ⟨⟨x, hx, hx2, hxl⟩, hne⟩
              refine ⟨x, hx, hx2, ?_⟩
              rw [hset, if_neg]
              · exact hxl
              · intro hxi
                apply hne
                have hlg : (x.1, x.2) ∈ al := hx
                rw [hxi] at hlg
                -- one id for an operation
                exact hx2.symm.trans (h3.uniq i x.2 id hlg k3)
          refine fin (v := k.val id) n1 ?_ n2 k1
          have hh' : msk σ (lag (L.setIfInBounds i true) al) = (msk σ (lag L al)).setIfInBounds id (k.obj cs e id) := by
            apply heap_ext
            intro id'
            rw [msk_get, hlag']
            by_cases hne : id' = id
            · subst hne
              have hlt' : id' < (msk σ (lag L al)).size := (h3.wrel.hole id' (.inr hlagid)).2
              rw [Array.getElem?_setIfInBounds_self_of_lt hlt', k4]
              simp
            · rw [Array.getElem?_setIfInBounds_ne (Ne.symm hne), msk_get]
              simp [hne]
          rw [hh']
          refine n3.fewer rfl rfl fun id' hid' => ?_
          rcases hid' with hid' | hid'
          · exact ⟨.inl hid', fun e => h3.free _ k3 hl' (e ▸ hid')⟩
          · rw [hlag', Bool.and_eq_true, decide_eq_true_eq] at hid'
            exact ⟨.inr hid'.1, hid'.2⟩
      · rw [if_neg (by rw [g1]; simp)]
        exact fin0 g2 (Rho.le_refl _) h3.wrel (undef_rel ρ) g3
    · -- it is the next one that may turn memory
      cases rest with
      | nil => simp at hrest
      | cons c r =>
        have hce := hh c r rfl
        have hic : i = c := by
          rcases List.mem_cons.1 hrest with h | h
          · exact h
          · exact absurd (h3.sub c (hbefore c (hp.order dn c r h1 hce i h))) (hp.notin h1 (by simp))
        subst hic
        have hnot : i ∉ dn := hp.notin h1 (by simp)
        have hnal : ∀ id, (i, id) ∉ al := fun id hm => hnot (h3.als _ hm)
        have h1' : pl = (dn ++ [i]) ++ r := by rw [h1]; simp
        have hlook : ∀ j ∈ dn, L.getD j false = false → ∀ oj d, ops[j]? = some oj → o.dst = some d → d ∉ oj.looksAt ops ∧ oj.dst ≠ some d := by
          intro j hj hlj oj d hoj hd
          refine ⟨fun hl => ?_, fun hd' => ?_⟩
          · rcases hp.see j i oj o d hoj ho hd hl with this | this
            · rw [hp.fresh h1 hj] at this; cases this
            · rw [hafter j hlj] at this; cases this.1
          · have := hp.dst i j o oj d ho hoj hd hd'
            subst this
            exact hnot hj
        have fin : ∀ {v v' : Value} {w' : World} {ρ2 : Rho} {σ' : VHeap} {pd' : List (Nat × Value)} {al' : List (Nat × Nat)}, ρ.le ρ2 → (∀ x ∈ al', x ∈ al) → (∀ x ∈ al, L.getD x.1 false = false → x ∈ al') →
            WRel ρ2 (msk σ' (lag L al)) w0 w' (lagBase B0 L al) → VRel ρ2 v v' →
            (∀ j oj u, j ∈ dn → L.getD j false = false → pre j i = false → ops[j]? = some oj → (j, u) ∈ pd → isRd P oj = true → vop P oj (vev t) (mskL σ (hid pre al j)) = some (.val u (mskL σ (hid pre al j))) →
              (j, u) ∈ pd' ∧ vop P oj (vev (vput t o.dst v)) (mskL σ' (hid pre al' j)) = some (.val u (mskL σ' (hid pre al' j)))) →
            (∀ (j id : Nat) ob, L.getD j false = false → (j, id) ∈ al → σ[id]? = some ob → σ'[id]? = some ob) →
            vplan P cl ops pre eff Q r pd' al' (vput t o.dst v) σ' → wpAny P .any ops Qr fuel (L.setIfInBounds i true) (a.put o.dst v') w' := by
          intro v v' w' ρ2 σ' pd' al' hle ha1 ha2 hw' hv hpd hget h2'
          have hInv : Inv P ops pre eff w0 B0 (dn ++ [i]) pd' al' (vput t o.dst v) σ' (L.setIfInBounds i true) (a.put o.dst v') w' ρ2 := by
            have hlj' : ∀ j ∈ dn ++ [i], (L.setIfInBounds i true).getD j false = false → j ∈ dn ∧ L.getD j false = false := by
              intro j hj hlj
              obtain ⟨hji, hlj⟩ := hunl j hlj
              rw [List.mem_append, List.mem_singleton] at hj
              exact ⟨hj.resolve_right hji, hlj⟩
            refine ⟨hsz, fun j hj => ?_, fun j hj he => ?_, hclosed, ?_, put_defers' h3.defers _ _, ?_, fun j hj hlj => ?_, fun x hx => by simp [h3.als x (ha1 x hx)],
              fun x hx y hy g1 g2 => h3.one x (ha1 x hx) y (ha1 y hy) (hunl _ g1).2 (hunl _ g2).2, fun x hx g => h3.free x (ha1 x hx) (hunl _ g).2, fun j p q hp hq => h3.uniq j p q (ha1 _ hp) (ha1 _ hq)⟩
            · rw [hset] at hj
              by_cases hji : j = i
              · simp [hji]
              · rw [if_neg hji] at hj; simp [h3.sub j hj]
            · rw [List.mem_append, List.mem_singleton] at hj
              rcases hj with hj | rfl
              · exact getD_set_true (h3.effs j hj he)
              · rw [hset, if_pos rfl]
            · obtain ⟨tr, ds⟩ := a
              refine put_rel h3.rel hle hv ?_
              rintro k hk ⟨j, hj, hlj, oj, hoj, hdj⟩
              refine ⟨j, by simp [hj], ?_, oj, hoj, hdj⟩
              rw [hset, if_neg]
              · exact hlj
              · rintro rfl; rw [ho] at hoj; cases hoj; exact hk hdj
            · unfold lagBase
              rw [hlagL al' ha1 ha2 hnal]
              exact hw'
            · obtain ⟨hj, hlj⟩ := hlj' j hj hlj
              exact (h3.fact j hj hlj).put (hlook j hj hlj) (fun oj u hoj hm hr hu => hpd j oj u hj hlj (hafter j hlj) hoj hm hr hu) (fun id ob hm hg => ⟨ha2 _ hm hlj, hget j id ob hlj hm hg⟩) fun id hm => ha1 _ hm
          obtain ⟨dn', rest', pd'', al'', t', σ'', k1, k2, k3, k4⟩ := plan_advance hp r (dn ++ [i]) pd' al' _ _ h1' h2' hInv
          exact ih dn' rest' pd'' al'' t' σ'' _ _ w' ρ2 k1 k4 k2 k3 (hq.up hle) (by omega)
        have still : ∀ {v : Value} {σ' : VHeap}, Still P ops pre (pd.filter fun x => !pre x.1 i) (al.filter fun x => !pre x.1 i) (vput t o.dst v) σ' →
            ∀ j oj u, j ∈ dn → L.getD j false = false → pre j i = false → ops[j]? = some oj → (j, u) ∈ pd → isRd P oj = true → vop P oj (vev t) (mskL σ (hid pre al j)) = some (.val u (mskL σ (hid pre al j))) →
              (j, u) ∈ (pd.filter fun x => !pre x.1 i) ∧ vop P oj (vev (vput t o.dst v)) (mskL σ' (hid pre (al.filter fun x => !pre x.1 i) j)) = some (.val u (mskL σ' (hid pre (al.filter fun x => !pre x.1 i) j))) := by
          intro v σ' hs j oj u _ _ hji hoj hm _ _
          have hmem : (j, u) ∈ pd.filter fun x => !pre x.1 i := List.mem_filter.2 ⟨hm, by simp [hji]⟩
          obtain ⟨o', ho', hv⟩ := hs _ hmem
          simp only at ho'
          rw [hoj] at ho'; cases ho'
          exact ⟨hmem, hv⟩
        unfold vplan at h2
        rw [ho] at h2
        simp only at h2
        by_cases hw : Region.wanted o (yielded ops t) = true
        · rw [if_pos hw] at h2 ⊢
          obtain ⟨hc, h2⟩ := h2
          rw [if_pos hce] at h2
          obtain ⟨hal, h2⟩ := h2
          left
          unfold Oper.wp
          rw [mskL_eq] at h2
          have halone : ∀ (id : Nat) ob, (hid pre al i).contains id = true → (msk σ (lag L al))[id]? = some ob → ob.live = true → ob.alone = true := by
            intro id ob hid hob hlv
            obtain ⟨-, hob⟩ := msk_some hob hlv
            have := List.all_eq_true.1 hal id (List.contains_iff_mem.1 hid)
            rw [hob] at this
            simp only [hlv, Bool.not_true, Bool.false_or] at this
            exact this
          have hlagsz : ∀ id, lag L al id = true → id < σ.size := fun id hl => by
            have := (h3.wrel.hole id (.inr hl)).2
            rwa [msk_size] at this
          have hps : ∀ id, (hid pre al i).contains id = true → id < (msk σ (lag L al)).size := by
            intro id hid
            rw [msk_size]
            have := List.all_eq_true.1 hal id (List.contains_iff_mem.1 hid)
            cases hg : σ[id]? with
            | none => rw [hg] at this; cases this
            | some o => exact (Array.getElem?_eq_some_iff.1 hg).1
          have hW := h3.wrel.protect (fun id => (hid pre al i).contains id) halone
          have hmm : msk (msk σ (lag L al)) (fun id => (hid pre al i).contains id) = msk σ fun id => (hid pre al i).contains id := by
            rw [msk_msk]
            congr 1
            funext id
            cases hl : lag L al id with
            | false => rfl
            | true => rw [hlagsub id hl]; rfl
          rw [hmm] at hW
          have hback : ∀ (σ1 : VHeap), Vm.back (msk σ (lag L al)) σ1 (fun id => (hid pre al i).contains id) = msk (backL σ σ1 (hid pre al i)) (lag L al) := by
            intro σ1
            rw [backL_eq]
            apply heap_ext
            intro id
            rw [back_get, msk_get, msk_get, back_get]
            cases σ1[id]? with
            | none => rfl
            | some o1 =>
              simp only [Option.map_some]
              cases hl : lag L al id with
              | true =>
                rw [hlagsub id hl]
                rw [Array.getElem?_eq_getElem (hlagsz id hl)]
                rfl
              | false =>
                cases hid' : (hid pre al i).contains id with
                | false => rfl
                | true => cases σ[id]? <;> rfl
          have hdo : ∀ {v v' : Value} {w' : World} {ρ2 : Rho} {σ1 : VHeap}, ρ.le ρ2 →
              WRel ρ2 σ1 w w' ⟨fun k => (lagBase B0 L al).U k ∨ ∃ id o i', (hid pre al i).contains id = true ∧ (msk σ (lag L al))[id]? = some o ∧ o.live = true ∧ ρ id = some i' ∧ i'.b = k, (lagBase B0 L al).H, fun k => (lagBase B0 L al).U k ∧ (lagBase B0 L al).Ro k⟩ →
              VRel ρ2 v v' → Still P ops pre (pd.filter fun x => !pre x.1 i) (al.filter fun x => !pre x.1 i) (vput t o.dst v) (backL σ σ1 (hid pre al i)) →
              vplan P cl ops pre eff Q r (pd.filter fun x => !pre x.1 i) (al.filter fun x => !pre x.1 i) (vput t o.dst v) (backL σ σ1 (hid pre al i)) →
              wpAny P .any ops Qr fuel (L.setIfInBounds i true) (a.put o.dst v') w' := by
            intro v v' w' ρ2 σ1 hle hw1 hv hs h2'
            refine fin hle (fun x hx => (List.mem_filter.1 hx).1) (fun x hx hxl => List.mem_filter.2 ⟨hx, by simp [hafter _ hxl]⟩) ?_ hv (still hs) (fun j id ob hlj hm hg => ?_) h2'
            · rw [← hback]
              exact h3.wrel.back halone hps hle hw1
            · have hl : lag L al id = true := lag_iff.2 ⟨_, hm, rfl, hlj⟩
              have hlt1 : id < σ1.size := (hw1.hole id (.inr hl)).2
              rw [backL_eq, back_get, Array.getElem?_eq_getElem hlt1, hlagsub id hl, hg]
              rfl
          split at h2
          · rename_i v σ1 hv
            obtain ⟨ρ2, v', w', k1, k2, k3, k4⟩ := vop_ok hW (hE hc) hv
            rw [k2, Oper.upon_value]
            exact hdo k1 k4 k3 h2.1 h2.2
          · rename_i σ1 hv
            obtain ⟨ρ2, w', k1, k2, k4⟩ := vop_ok hW (hE hc) hv
            rw [k2, Oper.upon_skip]
            exact hdo k1 k4 (undef_rel _) h2.1 h2.2
          · rename_i f args σ1 hv
            obtain ⟨ρ2, args', w', k1, k2, k3, k4⟩ := vop_ok hW (hE hc) hv
            rw [k2, Oper.upon_enter]
            refine (hcl f args args' σ1 _ ρ2 w w' _ h2 k3 k4).mono fun e w2 he => ?_
            cases e with
            | returned v' =>
              obtain ⟨ρ3, v, σ3, m1, m2, m3, m4⟩ := he
              exact hdo (Rho.le_trans k1 m1) m4 m3 m2.1 m2.2
            | panicked ch =>
              obtain ⟨ρ3, v, v', σ3, m1, rfl, m2, m3, m4⟩ := he
              exact m2.elim
            | outgrown => exact he.elim
          · exact h2.elim
        · rw [if_neg hw] at h2 ⊢
          refine fin (v := undef) (Rho.le_refl _) (fun _ h => h) (fun _ h _ => h) h3.wrel (undef_rel ρ) (fun j oj u hj hlj hji hoj hm hr hu => ⟨hm, ?_⟩) (fun _ _ _ _ _ h => h) h2
          rw [vop_congr (ev' := vev t)]
          · exact hu
          · exact fun x hx => vev_put fun d hxd e => (hlook j hj hlj oj d hoj e).1 (looks_tmp hx hxd)
/-- A region that draws its order, run by its plan. -/
def vdraw (P : Program) (cl : VCall) (ops : Array Oper) (Q : VPost) (t : Array Value) (σ : VHeap) : Prop :=
  ∃ pl pre eff, Plan ops pl pre eff ∧ vplan P cl ops pre eff Q pl [] [] t σ
theorem vdraw_ok (hcl : ClOk P cl) {ρ : Rho} {t : Array Value} {σ : VHeap} {a : Act} {w : World} (h : vdraw P cl ops Q t σ) (ha : ARel ρ t a.tmps) (hd : a.defers = []) (hw : WRel ρ σ w0 w B0) (hq : PostOk Q Qr ρ w0 B0) :
    wpAny P .any ops Qr ops.size (Array.replicate ops.size false) a w := by
  obtain ⟨pl, pre, eff, hp, h⟩ := h
  have hrep : ∀ j, (Array.replicate ops.size false).getD j false = false := by
    intro j
    rw [Array.getD_eq_getD_getElem?, Array.getElem?_replicate]
    split <;> rfl
  have hInv : Inv P ops pre eff w0 B0 [] [] [] t σ (Array.replicate ops.size false) a w ρ := by
    refine ⟨by simp, fun j hj => ?_, fun j hj => by simp at hj, fun j o hj => ?_, ⟨ha.1, fun k hk hk' _ => ha.2 k hk hk'⟩, hd, ?_, fun j hj => by simp at hj, fun x hx => by simp at hx, fun x hx => by simp at hx, fun x hx => by simp at hx, fun j p q hp => by simp at hp⟩
    · rw [hrep] at hj; cases hj
    · rw [hrep] at hj; cases hj
    · rw [show lag (Array.replicate ops.size false) [] = fun _ => false from rfl, msk_none]
      refine hw.fewer rfl rfl fun id hid => ?_
      rcases hid with hid | hid
      · exact hid
      · cases hid
  obtain ⟨dn', rest', pd', al', t', σ', k1, k2, k3, k4⟩ := plan_advance hp pl [] [] [] t σ rfl h hInv
  refine plan_ok hcl hp Q Qr _ dn' rest' pd' al' t' σ' _ a w ρ k1 k4 k2 k3 hq ?_
  have := List.countP_le_length (p := fun j => !(Array.replicate ops.size false).getD j true) (l := List.range ops.size)
  rw [List.length_range] at this
  exact this
end
end Vm
end Go.Proofs.YtmapjahpjolmnaaGreatDoor
