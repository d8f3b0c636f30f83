/- Regions whose operations may come in several orders, run once: as soon as they can; what reads is read again after everything that may turn it. -/
import Derived.Test.YtodjjnklelfgfaaVm21
namespace Go.Proofs.Ytodjjnklelfgfaa
namespace Vm
set_option linter.unusedSimpArgs false
set_option linter.unusedVariables false
open Go.RowKit

structure Plan (ops : Array Oper) (pl : List Nat) (pre : Nat → Nat → Bool) (eff : Nat → Bool) : Prop where
  mem : ∀ i, i < ops.size → i ∈ pl
  lt : ∀ i ∈ pl, i < ops.size
  nodup : pl.Nodup
  edges : ∀ dn i rest o, pl = dn ++ i :: rest → ops[i]? = some o → ∀ e ∈ o.after, Region.binds .any e = true → e.on ∈ dn
  pres : ∀ (i : Nat) o, ops[i]? = some o → ∀ j, pre j i = true → ∃ e ∈ o.after, Region.binds .any e = true ∧ (e.on = j ∨ pre j e.on = true)
  dst : ∀ (i j : Nat) (oi oj : Oper) d, ops[i]? = some oi → ops[j]? = some oj → oi.dst = some d → oj.dst = some d → i = j
  see : ∀ (i j : Nat) (oi oj : Oper) d, ops[i]? = some oi → ops[j]? = some oj → oj.dst = some d → d ∈ oi.looksAt ops → pre j i = true ∨ (pre i j = true ∧ eff j = true)
  order : ∀ dn c rest, pl = dn ++ c :: rest → eff c = true → ∀ a ∈ rest, pre c a = true

section
variable {ops : Array Oper} {pl : List Nat} {pre : Nat → Nat → Bool} {eff : Nat → Bool}
theorem Plan.closed (h : Plan ops pl pre eff) {S : Nat → Prop} (hS : ∀ (i : Nat) o, S i → ops[i]? = some o → ∀ e ∈ o.after, Region.binds .any e = true → S e.on) :
    ∀ n dn i rest, dn.length < n → pl = dn ++ i :: rest → S i → ∀ j, pre j i = true → S j ∧ j ∈ dn := by
  intro n
  induction n with
  | zero => intro dn i rest hn; omega
  | succ n ih =>
    intro dn i rest hn hp hi j hj
    have hlt := h.lt i (by rw [hp]; simp)
    have ho := Array.getElem?_eq_getElem hlt
    obtain ⟨e, he, hb, hc⟩ := h.pres i _ ho j hj
    have hm := h.edges dn i rest _ hp ho e he hb
    have hs := hS i _ hi ho e he hb
    rcases hc with rfl | hc
    · exact ⟨hs, hm⟩
    · obtain ⟨d1, d2, rfl⟩ := List.append_of_mem hm
      have := ih d1 e.on (d2 ++ i :: rest) (by simp at hn; omega) (by rw [hp]; simp) hs j hc
      exact ⟨this.1, by simp [this.2]⟩
theorem Plan.before (h : Plan ops pl pre eff) {dn rest : List Nat} {i j : Nat} (hp : pl = dn ++ i :: rest) (hj : pre j i = true) : j ∈ dn :=
  (h.closed (S := fun _ => True) (fun _ _ _ _ _ _ _ => trivial) _ dn i rest (Nat.lt_succ_self _) hp trivial j hj).2
theorem Plan.fresh (h : Plan ops pl pre eff) {dn rest : List Nat} {i j : Nat} (hp : pl = dn ++ i :: rest) (hj : j ∈ dn) : pre i j = false := by
  cases hc : pre i j with
  | false => rfl
  | true =>
    exfalso
    obtain ⟨d1, d2, rfl⟩ := List.append_of_mem hj
    have hi := h.before (dn := d1) (i := j) (rest := d2 ++ i :: rest) (by rw [hp]; simp) hc
    have hn := h.nodup
    rw [hp] at hn
    have := (List.nodup_append.1 hn).2.2 i (by simp [hi]) i (by simp)
    exact this rfl
theorem Plan.irr (h : Plan ops pl pre eff) {dn rest : List Nat} {i : Nat} (hp : pl = dn ++ i :: rest) : pre i i = false := by
  cases hc : pre i i with
  | false => rfl
  | true =>
    have hi := h.before hp hc
    have hn := h.nodup
    rw [hp] at hn
    exact absurd rfl ((List.nodup_append.1 hn).2.2 i hi i (by simp))
theorem Plan.notin (h : Plan ops pl pre eff) {dn rest : List Nat} {i : Nat} (hp : pl = dn ++ rest) (hi : i ∈ rest) : i ∉ dn := fun hd => by
  have hn := h.nodup
  rw [hp] at hn
  exact (List.nodup_append.1 hn).2.2 i hd i hi rfl

/-- The blocks that are hidden from an operation: those that may come after it. -/
def hid (pre : Nat → Nat → Bool) (al : List (Nat × Nat)) (i : Nat) : List Nat := (al.filter fun x => !pre x.1 i).map (·.2)
def mskL (σ : VHeap) (ids : List Nat) : VHeap := match ids with
  | [] => σ
  | _ :: _ => msk σ fun id => ids.contains id
def backL (σ σ1 : VHeap) (ids : List Nat) : VHeap := match ids with
  | [] => σ1
  | _ :: _ => back σ σ1 fun id => ids.contains id
theorem mskL_eq (σ : VHeap) (ids : List Nat) : mskL σ ids = msk σ fun id => ids.contains id := by
  cases ids with
  | nil =>
    apply heap_ext
    intro id
    rw [msk_get]
    simp only [mskL, List.contains_nil, cond_false]
    cases σ[id]? <;> rfl
  | cons => rfl
theorem backL_eq (σ σ1 : VHeap) (ids : List Nat) : backL σ σ1 ids = back σ σ1 fun id => ids.contains id := by
  cases ids with
  | nil =>
    apply heap_ext
    intro id
    rw [back_get]
    simp only [backL, List.contains_nil, cond_false]
    cases σ1[id]? <;> rfl
  | cons => rfl
def aloneAll (σ : VHeap) (ids : List Nat) : Bool := ids.all fun id => match σ[id]? with
  | some o => !o.live || o.alone
  | none => false
def Still (P : Program) (ops : Array Oper) (pre : Nat → Nat → Bool) (pd : List (Nat × Value)) (al : List (Nat × Nat)) (t : Array Value) (σ : VHeap) : Prop :=
  ∀ x ∈ pd, ∃ o, ops[x.1]? = some o ∧ vop P o (vev t) (mskL σ (hid pre al x.1)) = some (.val x.2 (mskL σ (hid pre al x.1)))
def vplan (P : Program) (cl : VCall) (ops : Array Oper) (pre : Nat → Nat → Bool) (eff : Nat → Bool) (Q : VPost) : List Nat → List (Nat × Value) → List (Nat × Nat) → Array Value → VHeap → Prop
  | [], _, _, t, σ => Q .normal t σ
  | i :: l, pd, al, t, σ =>
    match ops[i]? with
    | none => False
    | some o =>
      if Region.wanted o (yielded ops t) = true then
        o.op.operands.all constOk = true ∧
        if eff i = true then
          aloneAll σ (hid pre al i) = true ∧
          match vop P o (vev t) (mskL σ (hid pre al i)) with
          | some (.val v σ1) => Still P ops pre (pd.filter fun x => !pre x.1 i) (al.filter fun x => !pre x.1 i) (vput t o.dst v) (backL σ σ1 (hid pre al i)) ∧
            vplan P cl ops pre eff Q l (pd.filter fun x => !pre x.1 i) (al.filter fun x => !pre x.1 i) (vput t o.dst v) (backL σ σ1 (hid pre al i))
          | some (.skip σ1) => Still P ops pre (pd.filter fun x => !pre x.1 i) (al.filter fun x => !pre x.1 i) (vput t o.dst undef) (backL σ σ1 (hid pre al i)) ∧
            vplan P cl ops pre eff Q l (pd.filter fun x => !pre x.1 i) (al.filter fun x => !pre x.1 i) (vput t o.dst undef) (backL σ σ1 (hid pre al i))
          | some (.enter f args σ1) => cl f args σ1 fun r => match r with
            | .ret v σ2 => Still P ops pre (pd.filter fun x => !pre x.1 i) (al.filter fun x => !pre x.1 i) (vput t o.dst v) (backL σ σ2 (hid pre al i)) ∧
              vplan P cl ops pre eff Q l (pd.filter fun x => !pre x.1 i) (al.filter fun x => !pre x.1 i) (vput t o.dst v) (backL σ σ2 (hid pre al i))
            | .pan _ _ => False
          | _ => False
        else match nval P o (vev t) with
          | some v => vplan P cl ops pre eff Q l pd al (vput t o.dst v) σ
          | none => match nalloc P o (vev t) with
            | some (k, cs, e) => cs.all (leafB σ.size) = true ∧ vplan P cl ops pre eff Q l pd ((i, σ.size) :: al) (vput t o.dst (k.val σ.size)) (σ.push (k.obj cs e σ.size))
            | none => match isRd P o, vop P o (vev t) (mskL σ (hid pre al i)) with
              | true, some (.val v _) => vplan P cl ops pre eff Q l ((i, v) :: pd) al (vput t o.dst v) σ
              | _, _ => False
      else vplan P cl ops pre eff Q l pd al (vput t o.dst undef) σ

def TRel (ρ : Rho) (D : Nat → Prop) (t tr : Array Value) : Prop := t.size = tr.size ∧ ∀ (k : Nat) (h : k < t.size) (h' : k < tr.size), ¬ D k → VRel ρ t[k] tr[k]
theorem TRel.ev {ρ : Rho} {D : Nat → Prop} {t tr : Array Value} {ds : List Deferred} (h : TRel ρ D t tr) (x : Operand) (hc : constOk x = true) (hd : ∀ d, x = .tmp d → ¬ D d) : VRel ρ (vev t x) ((⟨tr, ds⟩ : Act).eval x) := by
  cases x with
  | tmp i =>
    simp only [vev, Act.eval]
    by_cases hi : i < t.size
    · rw [Array.getD_eq_getD_getElem?, Array.getD_eq_getD_getElem?, Array.getElem?_eq_getElem hi, Array.getElem?_eq_getElem (h.1 ▸ hi)]
      exact h.2 i hi (h.1 ▸ hi) (hd i rfl)
    · rw [Array.getD_eq_getD_getElem?, Array.getD_eq_getD_getElem?, Array.getElem?_eq_none (Nat.le_of_not_lt hi), Array.getElem?_eq_none (h.1 ▸ Nat.le_of_not_lt hi)]
      exact undef_rel ρ
  | const v => exact clean_rel hc ρ
  | global g => exact .glob g
  | func f => exact .func _ rfl (fun k hk => by simp at hk) rfl (fun k hk => by simp at hk)
def asB : Option Value → Option Bool
  | some (.bool b) => some b
  | _ => none
theorem wanted_congr {o : Oper} {t u : Array Value} (h : ∀ d ∈ o.looksAt ops, asB t[d]? = asB u[d]?) : Region.wanted o (yielded ops t) = Region.wanted o (yielded ops u) := by
  unfold Region.wanted
  cases hg : o.guard with
  | none => rfl
  | some gw =>
    obtain ⟨g, want⟩ := gw
    have hy : yielded ops t g = yielded ops u g := by
      unfold yielded
      cases ht : (ops[g]?).bind (·.dst) with
      | none => rfl
      | some d => exact h d (by simp [Oper.looksAt, hg, ht])
    simp only [hy]
theorem TRel.wanted {ρ : Rho} {D : Nat → Prop} {t tr : Array Value} (h : TRel ρ D t tr) {o : Oper} (hd : ∀ d ∈ o.looksAt ops, ¬ D d) : Region.wanted o (yielded ops t) = Region.wanted o (yielded ops tr) := by
  refine wanted_congr fun d hl => ?_
  by_cases hi : d < t.size
  · rw [Array.getElem?_eq_getElem hi, Array.getElem?_eq_getElem (h.1 ▸ hi)]
    have hi' : d < tr.size := h.1 ▸ hi
    have := h.2 d hi hi' (hd d hl)
    generalize t[d] = a at this
    generalize tr[d] = b at this
    cases this <;> rfl
  · rw [Array.getElem?_eq_none (Nat.le_of_not_lt hi), Array.getElem?_eq_none (h.1 ▸ Nat.le_of_not_lt hi)]
theorem looks_tmp {o : Oper} {x : Operand} {d : Nat} (hx : x ∈ o.op.operands) (h : x = .tmp d) : d ∈ o.looksAt ops := by
  subst h
  exact List.mem_append_left _ (List.mem_filterMap.2 ⟨.tmp d, by simpa using hx, rfl⟩)
theorem vput_get {t : Array Value} {dst : Option Tmp} {v : Value} {k : Nat} (h : dst ≠ some k) : (vput t dst v)[k]? = t[k]? := by
  cases dst with
  | none => rfl
  | some d => exact Array.getElem?_setIfInBounds_ne (fun e => h (by rw [e]))
theorem vput_size {t : Array Value} {dst : Option Tmp} {v : Value} : (vput t dst v).size = t.size := by cases dst <;> simp [vput]
theorem vput_self {t : Array Value} {d : Nat} {v : Value} (h : d < t.size) : (vput t (some d) v)[d]? = some v := by simp [vput, h]
theorem vev_put {t : Array Value} {dst : Option Tmp} {v : Value} {x : Operand} (h : ∀ d, x = .tmp d → dst ≠ some d) : vev (vput t dst v) x = vev t x := by
  cases x with
  | tmp i => simp only [vev, Array.getD_eq_getD_getElem?, vput_get (h i rfl)]
  | _ => rfl

theorem sees_msk {σ τ : VHeap} {p q : Nat → Bool} (h : ∀ id b, σ[id]? = some (.cells b) → p id = false → q id = false ∧ τ[id]? = some (.cells b)) : Sees (msk σ p) (msk τ q) := by
  intro id b hb hd
  rw [msk_get] at hb ⊢
  cases hσ : σ[id]? with
  | none => rw [hσ] at hb; cases hb
  | some o =>
    rw [hσ] at hb
    simp only [Option.map_some, Option.some.injEq] at hb
    cases hp : p id with
    | true => rw [hp] at hb; simp only [cond_true, gone, VObj.cells.injEq] at hb; subst hb; exact absurd rfl hd
    | false =>
      rw [hp] at hb
      simp only [cond_false] at hb
      subst hb
      obtain ⟨h1, h2⟩ := h _ _ hσ hp
      rw [h2, h1]
      rfl
/-- What is known of an operation that may still be to come. -/
def Fact (P : Program) (ops : Array Oper) (pre : Nat → Nat → Bool) (t : Array Value) (σ : VHeap) (pd : List (Nat × Value)) (al : List (Nat × Nat)) (j : Nat) : Prop :=
  ∀ o, ops[j]? = some o →
    (Region.wanted o (yielded ops t) = true ∧ o.op.operands.all constOk = true ∧
      ((∃ v, (∀ d, o.dst = some d → d < t.size → t[d]? = some v) ∧ (∀ id, (j, id) ∉ al) ∧ nval P o (vev t) = some v) ∨
       (∃ v, (∀ d, o.dst = some d → d < t.size → t[d]? = some v) ∧ (∀ id, (j, id) ∉ al) ∧ (j, v) ∈ pd ∧ isRd P o = true ∧ vop P o (vev t) (mskL σ (hid pre al j)) = some (.val v (mskL σ (hid pre al j)))) ∨
       (∃ k cs e id, (∀ d, o.dst = some d → d < t.size → t[d]? = some (AKind.val k id)) ∧ nalloc P o (vev t) = some (k, cs, e) ∧ (j, id) ∈ al ∧ σ[id]? = some (AKind.obj k cs e id) ∧ cs.all (leafB id) = true))) ∨
    (Region.wanted o (yielded ops t) = false ∧ (∀ id, (j, id) ∉ al) ∧ ∀ d, o.dst = some d → d < t.size → t[d]? = some undef)
theorem Fact.put {P : Program} {t : Array Value} {σ σ' : VHeap} {pd pd' : List (Nat × Value)} {al al' : List (Nat × Nat)} {j : Nat} {dst : Option Tmp} {u : Value} (h : Fact P ops pre t σ pd al j)
    (h1 : ∀ o d, ops[j]? = some o → dst = some d → d ∉ o.looksAt ops ∧ o.dst ≠ some d)
    (h2 : ∀ o v, ops[j]? = some o → (j, v) ∈ pd → isRd P o = true → vop P o (vev t) (mskL σ (hid pre al j)) = some (.val v (mskL σ (hid pre al j))) →
      (j, v) ∈ pd' ∧ vop P o (vev (vput t dst u)) (mskL σ' (hid pre al' j)) = some (.val v (mskL σ' (hid pre al' j))))
    (h3 : ∀ id o, (j, id) ∈ al → σ[id]? = some o → (j, id) ∈ al' ∧ σ'[id]? = some o) (h4 : ∀ id, (j, id) ∈ al' → (j, id) ∈ al) : Fact P ops pre (vput t dst u) σ' pd' al' j := by
  intro o ho
  have hw : Region.wanted o (yielded ops (vput t dst u)) = Region.wanted o (yielded ops t) := wanted_congr fun d hd => by
    rw [vput_get fun e => (h1 o d ho e).1 hd]
  have hev : ∀ x ∈ o.op.operands, vev (vput t dst u) x = vev t x := fun x hx => vev_put fun d hxd e => (h1 o d ho e).1 (looks_tmp hx hxd)
  have hdst : ∀ {v : Value}, (∀ d, o.dst = some d → d < t.size → t[d]? = some v) → ∀ d, o.dst = some d → d < (vput t dst u).size → (vput t dst u)[d]? = some v := by
    intro v g d hd hlt
    rw [vput_get fun e => (h1 o d ho e).2 hd]
    exact g d hd (by rwa [vput_size] at hlt)
  rcases h o ho with ⟨g1, g2, g3⟩ | ⟨g1, g2, g3⟩
  · refine .inl ⟨hw.trans g1, g2, ?_⟩
    rcases g3 with ⟨v, k1, k2, k3⟩ | ⟨v, k1, k2, k3, k4, k5⟩ | ⟨k, cs, e, id, k1, k2, k3, k4, k5⟩
    · exact .inl ⟨v, hdst k1, fun id hi => k2 id (h4 id hi), (nval_congr hev).trans k3⟩
    · obtain ⟨m1, m2⟩ := h2 o v ho k3 k4 k5
      exact .inr (.inl ⟨v, hdst k1, fun id hi => k2 id (h4 id hi), m1, k4, m2⟩)
    · obtain ⟨m1, m2⟩ := h3 id _ k3 k4
      exact .inr (.inr ⟨k, cs, e, id, hdst k1, (nalloc_congr hev).trans k2, m1, m2, k5⟩)
  · exact .inr ⟨hw.trans g1, fun id hi => g2 id (h4 id hi), hdst g3⟩

def lag (L : Array Bool) (al : List (Nat × Nat)) (id : Nat) : Bool := al.any fun x => x.2 == id && !L.getD x.1 false
theorem lag_iff {L : Array Bool} {al : List (Nat × Nat)} {id : Nat} : lag L al id = true ↔ ∃ x ∈ al, x.2 = id ∧ L.getD x.1 false = false := by
  simp [lag, List.any_eq_true]
/-- The base while some blocks are still to come. -/
def lagBase (B0 : Base) (L : Array Bool) (al : List (Nat × Nat)) : Base := ⟨B0.U, fun id => B0.H id ∨ lag L al id = true, B0.Ro⟩
/-- Where a real run may stand when the plan stands behind 'dn'. -/
structure Inv (P : Program) (ops : Array Oper) (pre : Nat → Nat → Bool) (eff : Nat → Bool) (w0 : World) (B0 : Base) (dn : List Nat) (pd : List (Nat × Value)) (al : List (Nat × Nat)) (t : Array Value) (σ : VHeap) (L : Array Bool) (a : Act) (w : World) (ρ : Rho) : Prop where
  size : L.size = ops.size
  sub : ∀ j, L.getD j false = true → j ∈ dn
  effs : ∀ j ∈ dn, eff j = true → L.getD j false = true
  closed : ∀ (j : Nat) o, L.getD j false = true → ops[j]? = some o → ∀ e ∈ o.after, Region.binds .any e = true → L.getD e.on false = true
  rel : TRel ρ (fun k => ∃ j ∈ dn, L.getD j false = false ∧ ∃ o, ops[j]? = some o ∧ o.dst = some k) t a.tmps
  defers : a.defers = []
  wrel : WRel ρ (msk σ (lag L al)) w0 w (lagBase B0 L al)
  fact : ∀ j ∈ dn, L.getD j false = false → Fact P ops pre t σ pd al j
  als : ∀ x ∈ al, x.1 ∈ dn
  one : ∀ x ∈ al, ∀ y ∈ al, L.getD x.1 false = false → L.getD y.1 false = false → x.2 = y.2 → x.1 = y.1
  free : ∀ x ∈ al, L.getD x.1 false = false → ¬ B0.H x.2
  uniq : ∀ j p q, (j, p) ∈ al → (j, q) ∈ al → p = q

variable {P : Program} {w0 : World} {B0 : Base} {cl : VCall} {Q : VPost} {Qr : Exit → Act → World → Prop}
theorem plan_advance (hp : Plan ops pl pre eff) {L : Array Bool} {a : Act} {w : World} {ρ : Rho} : ∀ (rest dn : List Nat) (pd : List (Nat × Value)) (al : List (Nat × Nat)) (t : Array Value) (σ : VHeap),
    pl = dn ++ rest → vplan P cl ops pre eff Q rest pd al t σ → Inv P ops pre eff w0 B0 dn pd al t σ L a w ρ →
    ∃ dn' rest' pd' al' t' σ', pl = dn' ++ rest' ∧ vplan P cl ops pre eff Q rest' pd' al' t' σ' ∧ Inv P ops pre eff w0 B0 dn' pd' al' t' σ' L a w ρ ∧ (∀ c r, rest' = c :: r → eff c = true) := by
  intro rest
  induction rest with
  | nil => intro dn pd al t σ h1 h2 h3; exact ⟨dn, [], pd, al, t, σ, h1, h2, h3, fun c r e => by cases e⟩
  | cons i rest ih =>
    intro dn pd al t σ h1 h2 h3
    cases he : eff i with
    | true => exact ⟨dn, i :: rest, pd, al, t, σ, h1, h2, h3, fun c r e => by cases e; exact he⟩
    | false =>
      have hnot : i ∉ dn := hp.notin h1 (by simp)
      have hi : L.getD i false = false := by
        cases hc : L.getD i false with
        | false => rfl
        | true => exact absurd (h3.sub i hc) hnot
      have h1' : pl = (dn ++ [i]) ++ rest := by rw [h1]; simp
      have hnal : ∀ id, (i, id) ∉ al := fun id hm => hnot (h3.als _ hm)
      have step : ∀ {o : Oper} {v : Value} {pd' : List (Nat × Value)} {al' : List (Nat × Nat)} {σ' : VHeap}, ops[i]? = some o → (∀ x ∈ pd, x ∈ pd') → (∀ x ∈ al, x ∈ al') → (∀ x ∈ al', x ∈ al ∨ x.1 = i) →
          (∀ j ∈ dn, Sees (mskL σ (hid pre al j)) (mskL σ' (hid pre al' j))) → (∀ (id : Nat) ob, σ[id]? = some ob → σ'[id]? = some ob) →
          WRel ρ (msk σ' (lag L al')) w0 w (lagBase B0 L al') →
          (∀ x ∈ al', ∀ y ∈ al', L.getD x.1 false = false → L.getD y.1 false = false → x.2 = y.2 → x.1 = y.1) → (∀ x ∈ al', L.getD x.1 false = false → ¬ B0.H x.2) → (∀ j p q, (j, p) ∈ al' → (j, q) ∈ al' → p = q) →
          Fact P ops pre (vput t o.dst v) σ' pd' al' i → Inv P ops pre eff w0 B0 (dn ++ [i]) pd' al' (vput t o.dst v) σ' L a w ρ := by
        intro o v pd' al' σ' ho hpd hal hal' hsee hget hw' hone hfree huniq hf
        have hlook : ∀ j ∈ dn, ∀ oj d, ops[j]? = some oj → o.dst = some d → d ∉ oj.looksAt ops ∧ oj.dst ≠ some d := by
          intro j hj oj d hoj hd
          refine ⟨fun hl => ?_, fun hd' => ?_⟩
          · rcases hp.see j i oj o d hoj ho hd hl with this | this
            · rw [hp.fresh h1 hj] at this; cases this
            · rw [he] at this; cases this.2
          · have := hp.dst i j o oj d ho hoj hd hd'
            subst this
            exact hnot hj
        refine ⟨h3.size, fun j hj => by simp [h3.sub j hj], fun j hj hej => ?_, h3.closed, ?_, h3.defers, hw', fun j hj hlj => ?_, fun x hx => ?_, hone, hfree, huniq⟩
        · rw [List.mem_append] at hj
          rcases hj with hj | hj
          · exact h3.effs j hj hej
          · obtain rfl := List.mem_singleton.1 hj; rw [he] at hej; cases hej
        · refine ⟨vput_size.trans h3.rel.1, fun k hk hk' hD => ?_⟩
          have hne : o.dst ≠ some k := fun e => hD ⟨i, by simp, hi, o, ho, e⟩
          have hkt : k < t.size := by rwa [vput_size] at hk
          have hg := vput_get (t := t) (v := v) hne
          rw [Array.getElem?_eq_getElem hk, Array.getElem?_eq_getElem hkt] at hg
          rw [Option.some.inj hg]
          exact h3.rel.2 k hkt hk' fun ⟨j, hj, x⟩ => hD ⟨j, by simp [hj], x⟩
        · rw [List.mem_append] at hj
          rcases hj with hj | hj
          · refine (h3.fact j hj hlj).put (hlook j hj) (fun oj v' hoj hm hr hv => ⟨hpd _ hm, ?_⟩) (fun id ob hm hg => ⟨hal _ hm, hget _ _ hg⟩) fun id hm => ?_
            · refine rd_sees hr (hsee j hj) ?_ (σ' := mskL σ (hid pre al j))
              rw [vop_congr (ev' := vev t)]
              · exact hv
              · exact fun x hx => vev_put fun d hxd e => (hlook j hj oj d hoj e).1 (looks_tmp hx hxd)
            · rcases hal' _ hm with h | h
              · exact h
              · simp only at h; subst h; exact absurd hj hnot
          · obtain rfl := List.mem_singleton.1 hj; exact hf
        · rcases hal' x hx with h | h
          · simp [h3.als x h]
          · simp [h]
      unfold vplan at h2
      split at h2
      case h_1 => exact h2.elim
      rename_i o ho
      have hself : ∀ d, o.dst = some d → d ∉ o.looksAt ops := fun d hd hl => by
        rcases hp.see i i o o d ho ho hd hl with this | this
        · rw [hp.irr h1] at this; cases this
        · rw [hp.irr h1] at this; cases this.1
      have hwc : ∀ v, Region.wanted o (yielded ops (vput t o.dst v)) = Region.wanted o (yielded ops t) := fun v => wanted_congr fun d hd => by rw [vput_get fun e => hself d e hd]
      have hev : ∀ v, ∀ x ∈ o.op.operands, vev (vput t o.dst v) x = vev t x := fun v x hx => vev_put fun d hxd e => hself d e (looks_tmp hx hxd)
      have hdst : ∀ v d, o.dst = some d → d < (vput t o.dst v).size → (vput t o.dst v)[d]? = some v := fun v d hd hlt => by
        rw [vput_size] at hlt; rw [hd]; exact vput_self hlt
      have same : ∀ {v : Value} {pd' : List (Nat × Value)}, (∀ x ∈ pd, x ∈ pd') → Fact P ops pre (vput t o.dst v) σ pd' al i → Inv P ops pre eff w0 B0 (dn ++ [i]) pd' al (vput t o.dst v) σ L a w ρ :=
        fun hpd hf => step ho hpd (fun _ h => h) (fun _ h => .inl h) (fun _ _ _ _ h _ => h) (fun _ _ h => h) h3.wrel h3.one h3.free h3.uniq hf
      split at h2
      · rename_i hw
        obtain ⟨hc, h2⟩ := h2
        rw [if_neg (by rw [he]; simp)] at h2
        split at h2
        · rename_i v hv
          refine ih (dn ++ [i]) pd al _ σ h1' h2 (same (fun _ h => h) ?_)
          intro o' ho'
          rw [ho] at ho'; cases ho'
          exact .inl ⟨(hwc v).trans hw, hc, .inl ⟨v, hdst v, hnal, (nval_congr (hev v)).trans hv⟩⟩
        · split at h2
          · rename_i k cs e hna
            obtain ⟨hlf, h2⟩ := h2
            have hlagsz : ∀ id, lag L al id = true → id < σ.size := fun id hl => by
              have := (h3.wrel.hole id (.inr hl)).2
              rwa [msk_size] at this
            have hmsk : msk (σ.push (k.obj cs e σ.size)) (lag L ((i, σ.size) :: al)) = (msk σ (lag L al)).push gone := by
              apply heap_ext
              intro id
              rw [msk_get, Array.getElem?_push, Array.getElem?_push, msk_get, msk_size]
              by_cases hid : id = σ.size
              · rw [if_pos hid, if_pos hid]
                have : lag L ((i, σ.size) :: al) id = true := lag_iff.2 ⟨(i, σ.size), by simp, hid.symm, hi⟩
                simp only [Option.map_some, this, cond_true]
              · rw [if_neg hid, if_neg hid]
                have : lag L ((i, σ.size) :: al) id = lag L al id := by
                  simp only [lag, List.any_cons]
                  rw [show (σ.size == id) = false by simpa using Ne.symm hid]
                  rfl
                rw [this]
            refine ih (dn ++ [i]) pd _ _ _ h1' h2 (step ho (fun _ h => h) (fun x h => by simp [h]) (fun x h => by rcases List.mem_cons.1 h with rfl | h; exact .inr rfl; exact .inl h) (fun j hj => ?_) (fun id ob hg => ?_) ?_ ?_ ?_ ?_ ?_)
            · rw [mskL_eq, mskL_eq]
              refine sees_msk fun id b hg hp' => ?_
              have hlt := (Array.getElem?_eq_some_iff.1 hg).1
              refine ⟨?_, by rw [Array.getElem?_push, if_neg (by omega)]; exact hg⟩
              have hpf := hp.fresh h1 hj
              simp only [hid, List.filter_cons, hpf, Bool.not_false, if_true, List.map_cons, List.contains_cons, Bool.or_eq_false_iff]
              exact ⟨by simp; omega, hp'⟩
            · have hlt := (Array.getElem?_eq_some_iff.1 hg).1
              rw [Array.getElem?_push, if_neg (by omega)]
              exact hg
            · rw [hmsk]
              refine (h3.wrel.reserve).fewer rfl rfl fun id hid => ?_
              rcases hid with hid | hid
              · exact .inl (.inl hid)
              · obtain ⟨x, hx, hx2, hxl⟩ := lag_iff.1 hid
                rcases List.mem_cons.1 hx with rfl | hx
                · right; rw [msk_size]; exact hx2.symm
                · exact .inl (.inr (lag_iff.2 ⟨x, hx, hx2, hxl⟩))
            · intro x hx y hy hxl hyl hxy
              rcases List.mem_cons.1 hx with rfl | hx <;> rcases List.mem_cons.1 hy with rfl | hy
              · rfl
              · exfalso
                have := hlagsz _ (lag_iff.2 ⟨y, hy, rfl, hyl⟩)
                simp only at hxy
                omega
              · exfalso
                have := hlagsz _ (lag_iff.2 ⟨x, hx, rfl, hxl⟩)
                simp only at hxy
                omega
              · exact h3.one x hx y hy hxl hyl hxy
            · intro x hx hxl
              rcases List.mem_cons.1 hx with rfl | hx
              · intro hH
                have := (h3.wrel.hole σ.size (.inl hH)).2
                rw [msk_size] at this
                omega
              · exact h3.free x hx hxl
            · intro j p q hp' hq'
              rcases List.mem_cons.1 hp' with e1 | hp' <;> rcases List.mem_cons.1 hq' with e2 | hq'
              · cases e1; cases e2; rfl
              · cases e1; exact absurd hq' (hnal _)
              · cases e2; exact absurd hp' (hnal _)
              · exact h3.uniq j p q hp' hq'
            · intro o' ho'
              rw [ho] at ho'; cases ho'
              exact .inl ⟨(hwc _).trans hw, hc, .inr (.inr ⟨k, cs, e, σ.size, hdst _, (nalloc_congr (hev _)).trans hna, by simp, by simp, hlf⟩)⟩
          · split at h2
            · rename_i v σ1 hr hv
              obtain ⟨_, hx⟩ := rd_same hr hv
              cases hx
              refine ih (dn ++ [i]) _ al _ σ h1' h2 (same (fun _ h => by simp [h]) ?_)
              intro o' ho'
              rw [ho] at ho'; cases ho'
              exact .inl ⟨(hwc v).trans hw, hc, .inr (.inl ⟨v, hdst v, hnal, by simp, hr, (vop_congr (hev v) _).trans hv⟩)⟩
            · exact h2.elim
      · rename_i hw
        refine ih (dn ++ [i]) pd al _ σ h1' h2 (same (fun _ h => h) ?_)
        intro o' ho'
        rw [ho] at ho'; cases ho'
        exact .inr ⟨(hwc undef).trans (by simpa using hw), hnal, hdst undef⟩
end
end Vm
end Go.Proofs.Ytodjjnklelfgfaa
