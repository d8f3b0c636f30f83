/- What an operation looks at; operations that need no memory, or only read it. -/
import Derived.Test.YtodjjnklelfgfaaVm20
import Derived.Orders
namespace Go.Proofs.Ytodjjnklelfgfaa
namespace Vm
set_option linter.unusedSimpArgs false
set_option linter.unusedVariables false
open Go.RowKit

theorem pv_vrun {α : Type} {P : Program} : ∀ {s : Sem α} {a : α}, pv P s = some a → ∀ σ, vrun P s σ = some (a, σ)
  | .pure b, a, h, σ => by cases h; rfl
  | .program k, a, h, σ => pv_vrun (s := k P) h σ
  | .mark m k, a, h, σ => pv_vrun (s := k) h σ
  | .load .., _, h, _ | .store .., _, h, _ | .new .., _, h, _ | .shape .., _, h, _ | .freeze .., _, h, _ | .frozen .., _, h, _ | .getObj .., _, h, _ | .setObj .., _, h, _
  | .choose .., _, h, _ | .sys .., _, h, _ | .halt .., _, h, _ => by cases h
/-- The value of an operation that needs no memory. -/
def nval (P : Program) (o : Oper) (ev : Operand → Value) : Option Value :=
  match pureOp P o ev with
  | some v => some v
  | none => match o.op with
    | .move x | .assign x => some (ev x)
    | .pick c a b => match ev c with
      | .bool t => some (bif t then ev a else ev b)
      | _ => none
    | .build t parts => bif zeroOk P t then pv P (Instr.build t (parts.map fun (i, x) => (i, ev x))) else none
    | .nilCheck x => match ev x with
      | .pointer (some a) => some (.pointer (some a))
      | .func (.func f) xs ys => some (.func (.func f) xs ys)
      | _ => none
    | .binOp op t x y _ => bif vNil P t (ev x) (ev y) then (match op with
        | .eql => some (.bool false)
        | .neq => some (.bool true)
        | _ => none) else none
    | .makeInterface t x => pv P (Instr.makeInterface t (ev x))
    | .makeFunc fn xs ys => some (.func fn (xs.map ev) (ys.map ev))
    | .fieldAddr s x f => pv P (Instr.fieldAt s (ev x) f)
    | .field t x f => pv P (Instr.field t (ev x) f)
    | .indexAddr t x i => pv P (Instr.indexAt t (ev x) (ev i))
    | .index t x i => pv P (Instr.index t (ev x) (ev i))
    | .extract t i => pv P (Instr.extract (ev t) i)
    | .call c => match c.callee, c.args.map ev with
      | .builtin .len, ⟨[x]⟩ => match x with
        | .chan _ => none
        | x => pv P (Builtin.len_ c.argTypes o.type #[x])
      | _, _ => none
    | _ => none
theorem pv_fieldAt_chan (P : Program) (s : TypeId) (g : Option Nat) (f : Nat) : pv P (Instr.fieldAt s (.chan g) f) = none := by
  unfold Instr.fieldAt
  rw [pv_bind]
  cases pv P (underlying s) with
  | none => rfl
  | some d =>
    simp only [Option.bind_some]
    cases d <;> first | rfl | skip
    case struct fields =>
      dsimp only
      split <;> rfl
theorem pv_indexAt_chan (P : Program) (t : TypeId) (g : Option Nat) (i : Value) : pv P (Instr.indexAt t (.chan g) i) = none := by
  unfold Instr.indexAt
  rw [pv_bind]
  cases pv P (asIntOf i) with
  | none => rfl
  | some ki =>
    obtain ⟨k, i⟩ := ki
    simp only [Option.bind_some]
    rw [pv_bind]
    cases pv P (underlying t) with
    | none => rfl
    | some d =>
      simp only [Option.bind_some]
      cases d <;> rfl
theorem nval_vop {P : Program} {o : Oper} {ev : Operand → Value} {v : Value} (h : nval P o ev = some v) (σ : VHeap) : vop P o ev σ = some (.val v σ) := by
  unfold nval at h
  unfold vop
  cases hp : pureOp P o ev with
  | some u => rw [hp] at h; cases h; rfl
  | none =>
    rw [hp] at h
    simp only at h ⊢
    obtain ⟨dst, op, type, pos, after, guard⟩ := o
    cases op <;> dsimp only at h ⊢ <;> first | (cases h; done) | skip
    case move x => cases h; rfl
    case assign x => cases h; rfl
    case pick c a b => split at h <;> cases h; rename_i he; simp only [he]
    case build t parts =>
      cases hz : zeroOk P t with
      | false => rw [hz] at h; cases h
      | true => rw [hz] at h; simp only [cond_true] at h ⊢; rw [pv_vrun h]; rfl
    case nilCheck x => split at h <;> cases h <;> (rename_i he; simp only [he])
    case binOp op t x y yt =>
      cases hn : vNil P t (ev x) (ev y) with
      | false => rw [hn] at h; cases h
      | true =>
        rw [hn] at h
        simp only [cond_true] at h ⊢
        split at h <;> cases h <;> rfl
    case makeInterface t x => rw [pv_vrun h]; rfl
    case makeFunc fn xs ys => cases h; rfl
    case fieldAddr s x f =>
      have hg : gres σ (ev x) = ev x := by
        unfold gres
        split
        · rename_i g he; rw [he, pv_fieldAt_chan] at h; cases h
        · rfl
      rw [hg, pv_vrun h]; rfl
    case field t x f => rw [pv_vrun h]; rfl
    case indexAddr t x i =>
      have hg : gres σ (ev x) = ev x := by
        unfold gres
        split
        · rename_i g he; rw [he, pv_indexAt_chan] at h; cases h
        · rfl
      rw [hg, pv_vrun h]; rfl
    case index t x i => rw [pv_vrun h]; rfl
    case extract t i => rw [pv_vrun h]; rfl
    case call c =>
      unfold vcall
      split at h
      · rename_i x hc hx
        split at h
        · cases h
        · rename_i hnc
          simp only [hc, hx]
          rw [pv_vrun h]
          rfl
      · cases h
theorem vcall_congr {P : Program} {c : Call} {t : TypeId} {ev ev' : Operand → Value} (h : ∀ x ∈ c.operands, ev x = ev' x) (σ : VHeap) : vcall P ev c t σ = vcall P ev' c t σ := by
  have hargs : c.args.map ev = c.args.map ev' := Array.map_congr_left fun x hx => h x (by simp [Call.operands, hx])
  unfold vcall
  cases hc : c.callee with
  | value f =>
    have hf : ev f = ev' f := h f (by simp [Call.operands, hc])
    simp only [hf, hargs]
  | invoke r m => rfl
  | builtin b => simp only [hargs]
theorem pureOp_congr {P : Program} {o : Oper} {ev ev' : Operand → Value} (h : ∀ x ∈ o.op.operands, ev x = ev' x) : pureOp P o ev = pureOp P o ev' := by
  unfold pureOp
  split
  · rfl
  · rename_i hs
    rw [execOp_congr o (fun cs b e => hs cs b e) h]
    have hall : (o.op.operands.all fun x => clean (ev x)) = o.op.operands.all fun x => clean (ev' x) := by
      rw [Bool.eq_iff_iff, Array.all_eq_true', Array.all_eq_true']
      exact ⟨fun g x hx => h x hx ▸ g x hx, fun g x hx => (h x hx).symm ▸ g x hx⟩
    rw [hall]
theorem vop_congr {P : Program} {o : Oper} {ev ev' : Operand → Value} (h : ∀ x ∈ o.op.operands, ev x = ev' x) (σ : VHeap) : vop P o ev σ = vop P o ev' σ := by
  unfold vop
  rw [pureOp_congr h]
  cases pureOp P o ev' with
  | some v => rfl
  | none =>
    obtain ⟨dst, op, type, pos, after, guard⟩ := o
    have pairs : ∀ ps : Array (Nat × Operand), (∀ x ∈ ps.map (·.2), ev x = ev' x) →
        (ps.map fun (i, x) => (i, ev x)) = (ps.map fun (i, x) => (i, ev' x)) := fun ps hp =>
      Array.map_congr_left fun p hm => by
        obtain ⟨i, x⟩ := p
        simp only [hp x (Array.mem_map.2 ⟨(i, x), hm, rfl⟩)]
    cases op <;> simp only [Op.operands] at h <;> dsimp only
    case build t ps => rw [pairs ps fun x hx => h x (by simpa using hx)]
    case buildSlice t n ps => rw [pairs ps fun x hx => h x (by simpa using hx)]
    case makeFunc fn first captured =>
      rw [Array.map_congr_left (xs := first) fun x hx => h x (by simp [hx]), Array.map_congr_left (xs := captured) fun x hx => h x (by simp [hx])]
    case call c => rw [vcall_congr h]
    case makeMap t r => cases r <;> simp_all
    case slice t x lo hi mx => cases lo <;> cases hi <;> cases mx <;> simp_all
    case next it b => cases b <;> simp_all
    all_goals (first | rfl | (simp_all; done))
theorem nval_congr {P : Program} {o : Oper} {ev ev' : Operand → Value} (h : ∀ x ∈ o.op.operands, ev x = ev' x) : nval P o ev = nval P o ev' := by
  unfold nval
  rw [pureOp_congr h]
  cases pureOp P o ev' with
  | some v => rfl
  | none =>
    obtain ⟨dst, op, type, pos, after, guard⟩ := o
    have pairs : ∀ ps : Array (Nat × Operand), (∀ x ∈ ps.map (·.2), ev x = ev' x) →
        (ps.map fun (i, x) => (i, ev x)) = (ps.map fun (i, x) => (i, ev' x)) := fun ps hp =>
      Array.map_congr_left fun p hm => by
        obtain ⟨i, x⟩ := p
        simp only [hp x (Array.mem_map.2 ⟨(i, x), hm, rfl⟩)]
    cases op <;> simp only [Op.operands] at h <;> dsimp only
    case build t ps => rw [pairs ps fun x hx => h x (by simpa using hx)]
    case makeFunc fn first captured =>
      rw [Array.map_congr_left (xs := first) fun x hx => h x (by simp [hx]), Array.map_congr_left (xs := captured) fun x hx => h x (by simp [hx])]
    case call c => rw [Array.map_congr_left (xs := c.args) fun x hx => h x (by simp [Call.operands, hx])]
    all_goals (first | rfl | (simp_all; done))
theorem noW_vrun {α : Type} (P : Program) (s : Sem α) : ∀ (σ : VHeap) (a : α) (σ' : VHeap), noW s → vrun P s σ = some (a, σ') → σ' = σ := by
  induction s with
  | pure b => intro σ a σ' _ h; cases h; rfl
  | load m ad f ih =>
    intro σ a σ' g h
    cases m
    · simp only [vrun] at h
      split at h
      · exact ih _ _ _ _ (g _) h
      · cases h
    · cases h
  | program f ih => intro σ a σ' g h; exact ih P σ a σ' (g P) h
  | mark m f ih => intro σ a σ' g h; exact ih σ a σ' g h
  | halt x => intro σ a σ' _ h; cases h
  | _ => intro σ a σ' g h; exact g.elim
/-- Operations that only read. -/
def isRd (P : Program) (o : Oper) : Bool := match o.op with
  | .load _ _ => true
  | .slice .. => true
  | .convert s d _ => match P.underlying s, P.underlying d with
    | some (.slice _), some .string => true
    | _, _ => false
  | _ => false
theorem noW_loadAt (t : TypeId) (v : Value) : noW (Instr.loadAt t v) := noW_bind _ _ (by unfold Instr.sureAddr; split <;> exact trivial) fun a => noW_loadVar t a
theorem rd_same {P : Program} {o : Oper} {ev : Operand → Value} {σ : VHeap} {r : VN} (ho : isRd P o = true) (h : vop P o ev σ = some r) : ∃ v, r = .val v σ := by
  unfold vop at h
  split at h
  · cases h; exact ⟨_, rfl⟩
  · rename_i hnp
    clear hnp
    obtain ⟨dst, op, type, pos, after, guard⟩ := o
    cases op <;> simp only [isRd, Bool.false_eq_true] at ho <;> dsimp only at h
    case load t a =>
      unfold vv at h
      split at h
      case h_2 => cases h
      rename_i v σ' hv
      cases h
      rw [noW_vrun P _ _ _ _ (noW_loadAt t (gres σ (ev a))) hv]
      exact ⟨v, rfl⟩
    case slice t x lo hi mx =>
      split at h
      case h_2 => cases h
      cases h
      exact ⟨_, rfl⟩
    case convert src dst x =>
      split at ho
      case h_2 => cases ho
      rename_i e hs hd
      unfold vv at h
      split at h
      case h_2 => cases h
      rename_i v σ' hv
      cases h
      unfold vconvert at hv
      rw [hs, hd] at hv
      split at hv
      · rename_i h1 h2; cases h1
      · split at hv
        · split at hv
          · cases hv; exact ⟨_, rfl⟩
          · cases hv
        · cases hv
      · rename_i h1 h2; cases h1
      · rename_i h1 h2; cases h1
      · cases hv
/-- More may be looked at. -/
def Sees (σ τ : VHeap) : Prop := ∀ (id : Nat) b, σ[id]? = some (.cells b) → b.fl ≠ .dead → τ[id]? = some (.cells b)
theorem Sees.cell {σ τ : VHeap} (hs : Sees σ τ) (a : Addr) (v : Value) (hv : cell? σ a = some v) : cell? τ a = some v := by
  unfold cell? at hv ⊢
  split at hv
  · rename_i b hsp hb
    by_cases hd : b.fl = .dead
    · rw [if_pos hd] at hv; cases hv
    · rw [hsp, hs _ _ hb hd]
      exact hv
  · cases hv
theorem noW_sees {α : Type} {P : Program} {σ τ : VHeap} (hs : Sees σ τ) (s : Sem α) : ∀ (a : α) (σ' : VHeap), noW s → vrun P s σ = some (a, σ') → vrun P s τ = some (a, τ) := by
  induction s with
  | pure b => intro a σ' _ h; cases h; rfl
  | load m ad f ih =>
    intro a σ' g h
    cases m
    · simp only [vrun] at h ⊢
      split at h
      · rename_i v hv; rw [hs.cell _ _ hv]; exact ih v _ _ (g _) h
      · cases h
    · cases h
  | program f ih => intro a σ' g h; exact ih P a σ' (g P) h
  | mark m f ih => intro a σ' g h; exact ih a σ' g h
  | halt x => intro a σ' _ h; cases h
  | _ => intro a σ' g h; exact g.elim
theorem vfirst_sees {σ τ : VHeap} (hs : Sees σ τ) {size m : Nat} {x : Value} {cs : Array Value} (h : vfirst σ size m x = some cs) : vfirst τ size m x = some cs := by
  unfold vfirst at h ⊢
  split at h
  · rename_i a n c
    try dsimp only
    split at h
    · rename_i h0; rw [if_pos h0]; exact h
    · rename_i h0
      rw [if_neg h0]
      split at h
      · rename_i b h1 h2
        split at h
        · rename_i hd
          simp only [h1, hs _ _ h2 hd.1, if_pos hd]
          exact h
        · cases h
      · cases h
  · exact h
  · exact h
  · cases h
theorem vslice_sees {P : Program} {σ τ : VHeap} (hs : Sees σ τ) {t : TypeId} {x v : Value} {lo hi mx : Option Value} (h : vslice P σ t x lo hi mx = some v) : vslice P τ t x lo hi mx = some v := by
  unfold vslice at h ⊢
  split at h
  · rename_i elem a n c hu
    try simp only [hu]
    split at h
    · rename_i info l h' m b h1 h2 h3 h4
      by_cases hd : b.fl = .dead
      · rw [hd] at h; cases h
      · simp only [h1, h2, h3, hs _ _ h4 hd]
        exact h
    · rename_i h1 h2 h3
      simp only [h1, h2, h3]
      exact h
    · cases h
  · rename_i n elem a hu
    try simp only [hu]
    split at h
    · rename_i info l h' m b h1 h2 h3
      split at h
      · rename_i hfl
        have hd : b.fl ≠ .dead := by rcases hfl with e | e <;> rw [e] <;> decide
        simp only [h1, h2, hs _ _ h3 hd, if_pos hfl]
        exact h
      · cases h
    · cases h
  · rename_i arr a hu
    try simp only [hu]
    split at h
    · rename_i n elem ha
      try simp only [ha]
      split at h
      · rename_i info l h' m b h1 h2 h3
        split at h
        · rename_i hfl
          have hd : b.fl ≠ .dead := by rcases hfl with e | e <;> rw [e] <;> decide
          simp only [h1, h2, hs _ _ h3 hd, if_pos hfl]
          exact h
        · cases h
      · cases h
    · cases h
  · cases h
theorem gfind_sees {σ τ : VHeap} (hs : Sees σ τ) {g : Nat} : ∀ {n k id : Nat}, gfind σ g n k = some id → gfind τ g n k = some id
  | 0, _, _, h => by cases h
  | n + 1, k, id, h => by
    unfold gfind at h ⊢
    split at h
    case h_2 => cases h
    rename_i b hb
    cases hc : decide (b.fl = .ro) && b.kin with
    | false => rw [hc] at h; cases h
    | true =>
      rw [hc] at h
      simp only [cond_true] at h
      have hc' := hc
      simp only [Bool.and_eq_true, decide_eq_true_eq] at hc'
      simp only [hs k b hb (by rw [hc'.1]; decide), hc, cond_true]
      cases hg : b.root == g with
      | false => rw [hg] at h; exact gfind_sees hs h
      | true => rw [hg] at h; exact h
theorem gres_sees {σ τ : VHeap} (hs : Sees σ τ) (v : Value) : gres τ v = gres σ v ∨ ∃ g, v = .chan (some g) ∧ gres σ v = v := by
  unfold gres
  split
  · rename_i g
    cases h : gfind σ g 16 0 with
    | some id => rw [gfind_sees hs h]; exact .inl rfl
    | none => exact .inr ⟨g, rfl, rfl⟩
  · exact .inl rfl
theorem vrun_loadAt_chan (P : Program) (t : TypeId) (g : Option Nat) (σ : VHeap) : vrun P (Instr.loadAt t (.chan g)) σ = none := rfl
theorem vslice_chan (P : Program) (σ : VHeap) (t : TypeId) (g : Option Nat) (lo hi mx : Option Value) : vslice P σ t (.chan g) lo hi mx = none := by
  unfold vslice
  split
  · rename_i h; cases h
  · rename_i h; cases h
  · rename_i h; cases h
  · rfl
theorem rd_sees {P : Program} {o : Oper} {ev : Operand → Value} {σ τ : VHeap} {v : Value} {σ' : VHeap} (ho : isRd P o = true) (hs : Sees σ τ) (h : vop P o ev σ = some (.val v σ')) : vop P o ev τ = some (.val v τ) := by
  unfold vop at h ⊢
  cases hp : pureOp P o ev with
  | some u => rw [hp] at h; cases h; rfl
  | none =>
    rw [hp] at h
    obtain ⟨dst, op, type, pos, after, guard⟩ := o
    cases op <;> simp only [isRd, Bool.false_eq_true] at ho <;> dsimp only at h ⊢
    case load t a =>
      unfold vv at h
      split at h
      case h_2 => cases h
      rename_i v σ' hv
      cases h
      rcases gres_sees hs (ev a) with e | ⟨g, e1, e2⟩
      · rw [e, noW_sees hs _ _ _ (noW_loadAt t (gres σ (ev a))) hv]
        rfl
      · rw [e2, e1, vrun_loadAt_chan] at hv; cases hv
    case slice t x lo hi mx =>
      split at h
      case h_2 => cases h
      rename_i u hv
      cases h
      rcases gres_sees hs (ev x) with e | ⟨g, e1, e2⟩
      · rw [e, vslice_sees hs hv]
      · rw [e2, e1, vslice_chan] at hv; cases hv
    case convert src dst x =>
      split at ho
      case h_2 => cases ho
      rename_i e hs' hd
      unfold vv at h
      split at h
      case h_2 => cases h
      rename_i v σ' hv
      cases h
      unfold vconvert at hv ⊢
      rw [hs', hd] at hv ⊢
      split at hv
      · rename_i h1 h2; cases h1
      · rename_i e' a n c h1 h2 h3
        cases h1
        try simp only [h3]
        split at hv
        · rename_i hu
          try simp only [hu]
          split at hv
          · rename_i bs hb
            cases hb' : vfirst σ 1 n (.slice (some a) n c) with
            | none => rw [hb'] at hb; cases hb
            | some cs =>
              rw [vfirst_sees hs hb']
              rw [hb'] at hb
              simp only [hb]
              cases hv
              rfl
          · cases hv
        · cases hv
      · rename_i h1 h2; cases h1
      · rename_i h1 h2; cases h1
      · cases hv
theorem Sees.msk {σ : VHeap} {p q : Nat → Bool} (h : ∀ id, q id = true → p id = true) : Sees (Vm.msk σ p) (Vm.msk σ q) := by
  intro id b hb hd
  rw [msk_get] at hb ⊢
  cases hσ : σ[id]? with
  | none => rw [hσ] at hb; cases hb
  | some o =>
    rw [hσ] at hb
    simp only [Option.map_some, Option.some.injEq] at hb ⊢
    cases hp : p id with
    | true => rw [hp] at hb; simp only [cond_true, gone, VObj.cells.injEq] at hb; subst hb; exact absurd rfl hd
    | false =>
      rw [hp] at hb
      cases hq : q id with
      | true => rw [h _ hq] at hp; cases hp
      | false => exact hb
/-- The row of a slice that is written out. -/
def sliceRow (P : Program) (t : TypeId) (len : Nat) (parts : Array (Nat × Value)) : Option (Array Value × TypeId) :=
  match pv P (underlying t) with
  | some (.slice elem) => match pv P (sizeOf elem) with
    | some size => if len * size > 2 ^ 24 then none else
      match (if len * size = 0 then some #[] else (pv P (zeroValue elem)).map (·.cells)) with
      | some zero => match Instr.fill (fun i => some (i * size, size)) ((Array.range (len * size)).map (zero[· % zero.size]!)) parts.toList with
        | some cells => some (cells, elem)
        | none => none
      | none => none
    | none => none
  | _ => none
theorem vrun_pv {α β : Type} {P : Program} {s : Sem α} {a : α} (h : pv P s = some a) (f : α → Sem β) (σ : VHeap) : vrun P (s >>= f) σ = vrun P (f a) σ := by
  rw [show s >>= f = s.bind f from rfl, vrun_bind, pv_vrun h]
  rfl
theorem sliceRow_ok {P : Program} {t : TypeId} {len : Nat} {parts : Array (Nat × Value)} {cs : Array Value} {e : TypeId} (h : sliceRow P t len parts = some (cs, e)) (σ : VHeap) :
    vrun P (Instr.buildSlice t len parts) σ = some (.slice (some ⟨σ.size, 0, none⟩) len len, σ.push (.cells ⟨cs, e, .ex, false, σ.size, 0⟩)) := by
  unfold sliceRow at h
  split at h
  case h_2 => cases h
  rename_i elem hu
  split at h
  case h_2 => cases h
  rename_i size hs
  split at h
  case isTrue => cases h
  rename_i hbig
  split at h
  case h_2 => cases h
  rename_i zero hz
  split at h
  case h_2 => cases h
  rename_i cells hc
  cases h
  unfold Instr.buildSlice
  rw [vrun_pv hu]
  dsimp only
  rw [vrun_pv hs]
  rw [if_neg hbig]
  by_cases h0 : len * size = 0
  · rw [if_pos h0] at hz ⊢
    cases hz
    rw [vrun_pv (s := Pure.pure #[]) (a := #[]) rfl, hc]
    rfl
  · rw [if_neg h0] at hz ⊢
    cases hv : pv P (zeroValue e) with
    | none => rw [hv] at hz; cases hz
    | some z =>
      rw [hv] at hz
      cases hz
      rw [vrun_pv (s := zeroValue e) (a := z) hv]
      rw [vrun_pv (s := Pure.pure z.cells) (a := z.cells) rfl, hc]
      rfl
def nalloc (P : Program) (o : Oper) (ev : Operand → Value) : Option (AKind × Array Value × TypeId) :=
  match pureOp P o ev with
  | some _ => none
  | none => match o.op with
    | .alloc e => bif zeroOk P e then (match pv P (zeroValue e) with
      | some z => some (.ptr, z.cells, e)
      | none => none) else none
    | .box e x => some (.ptr, (ev x).cells, e)
    | .makeMap _ none => some (.map, #[], 0)
    | .buildSlice t n parts => bif elemZeroOk P t then (match sliceRow P t n (parts.map fun (i, x) => (i, ev x)) with
      | some (cs, e) => some (.slice n n, cs, e)
      | none => none) else none
    | _ => none
theorem nalloc_vop {P : Program} {o : Oper} {ev : Operand → Value} {k : AKind} {cs : Array Value} {e : TypeId} (h : nalloc P o ev = some (k, cs, e)) (σ : VHeap) : vop P o ev σ = some (.val (k.val σ.size) (σ.push (k.obj cs e σ.size))) := by
  unfold nalloc at h
  unfold vop
  cases hp : pureOp P o ev with
  | some u => rw [hp] at h; cases h
  | none =>
    rw [hp] at h
    simp only at h ⊢
    obtain ⟨dst, op, type, pos, after, guard⟩ := o
    cases op <;> dsimp only at h ⊢ <;> first | (cases h; done) | skip
    case alloc t =>
      cases hz : zeroOk P t with
      | false => rw [hz] at h; cases h
      | true =>
        rw [hz] at h
        simp only [cond_true] at h ⊢
        split at h
        case h_2 => cases h
        rename_i z hv
        cases h
        unfold Instr.alloc
        rw [vrun_pv hv]
        rfl
    case box t x => cases h; rfl
    case makeMap t r =>
      cases r with
      | some x => cases h
      | none => cases h; rfl
    case buildSlice t n parts =>
      cases hz : elemZeroOk P t with
      | false => rw [hz] at h; cases h
      | true =>
        rw [hz] at h
        simp only [cond_true] at h ⊢
        split at h
        case h_2 => cases h
        rename_i cs' e' hs
        cases h
        rw [sliceRow_ok hs]
        rfl
theorem nalloc_congr {P : Program} {o : Oper} {ev ev' : Operand → Value} (h : ∀ x ∈ o.op.operands, ev x = ev' x) : nalloc P o ev = nalloc P o ev' := by
  unfold nalloc
  rw [pureOp_congr h]
  cases pureOp P o ev' with
  | some v => rfl
  | none =>
    obtain ⟨dst, op, type, pos, after, guard⟩ := o
    have pairs : ∀ ps : Array (Nat × Operand), (∀ x ∈ ps.map (·.2), ev x = ev' x) →
        (ps.map fun (i, x) => (i, ev x)) = (ps.map fun (i, x) => (i, ev' x)) := fun ps hp =>
      Array.map_congr_left fun p hm => by
        obtain ⟨i, x⟩ := p
        simp only [hp x (Array.mem_map.2 ⟨(i, x), hm, rfl⟩)]
    cases op <;> simp only [Op.operands] at h <;> dsimp only
    case buildSlice t n ps => rw [pairs ps fun x hx => h x (by simpa using hx)]
    case makeMap t r => cases r <;> rfl
    all_goals (first | rfl | (simp_all; done))
end Vm
end Go.Proofs.Ytodjjnklelfgfaa
