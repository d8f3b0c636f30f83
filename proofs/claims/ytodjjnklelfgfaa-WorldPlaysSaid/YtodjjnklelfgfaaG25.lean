/- What an operation looks at; operations that need no memory, or only read it. -/
import Derived.Test.YtodjjnklelfgfaaG24
import Derived.Orders
set_option linter.unusedVariables false
set_option linter.unusedSimpArgs false
namespace Go.Proofs.Ytodjjnklelfgfaa
namespace Vm
set_option linter.unusedSimpArgs false
set_option linter.unusedVariables false
open Go.RowKit

theorem pv_vrun {α : Type} {P : Program} : ∀ {s : Sem α} {a : α}, pv P s = some a → ∀ σ, vrun P s σ = some (a, σ)
  | .pure b, a, h, σ => by cases h; rfl
  | .program k, a, h, σ => pv_vrun (s := k P) h σ
  | .mark m k, a, h, σ => pv_vrun (s := k) h σ
  | .load .., _, h, _ | .store .., _, h, _ | .new .., _, h, _ | .shape .., _, h, _ | .freeze .., _, h, _ | .frozen .., _, h, _ | .getObj .., _, h, _ | .setObj .., _, h, _
  | .choose .., _, h, _ | .sys .., _, h, _ | .halt .., _, h, _ => by cases h
/-- The value of an operation that needs no memory. -/
def nval (P : Program) (o : Oper) (ev : Operand → Value) : Option Value :=
  match pureOp P o ev with
  | some v => some v
  | none => match o.op with
    | .move x | .assign x => some (ev x)
    | .pick c a b => match ev c with
      | .bool t => some (bif t then ev a else ev b)
      | _ => none
    | .build t parts => bif zeroOk P t then pv P (Instr.build t (parts.map fun (i, x) => (i, ev x))) else none
    | .nilCheck x => match ev x with
      | .pointer (some a) => some (.pointer (some a))
      | .func (.func f) xs ys => some (.func (.func f) xs ys)
      | _ => none
    | .binOp op t x y _ => bif vNil P t (ev x) (ev y) then (match op with
        | .eql => some (.bool false)
        | .neq => some (.bool true)
        | _ => none) else none
    | .makeInterface t x => pv P (Instr.makeInterface t (ev x))
    | .makeFunc fn xs ys => some (.func fn (xs.map ev) (ys.map ev))
    | .fieldAddr s x f => pv P (Instr.fieldAt s (ev x) f)
    | .field t x f => pv P (Instr.field t (ev x) f)
    | .indexAddr t x i => pv P (Instr.indexAt t (ev x) (ev i))
    | .index t x i => pv P (Instr.index t (ev x) (ev i))
    | .extract t i => pv P (Instr.extract (ev t) i)
    | .call c => match c.callee, c.args.map ev with
      | .builtin .len, ⟨[x]⟩ => match x with
        | .chan _ => none
        | x => pv P (Builtin.len_ c.argTypes o.type #[x])
      | _, _ => none
    | _ => none
theorem pv_fieldAt_chan (P : Program) (s : TypeId) (g : Option Nat) (f : Nat) : pv P (Instr.fieldAt s (.chan g) f) = none := by
  unfold Instr.fieldAt
  rw [pv_bind]
  cases pv P (underlying s) with
  | none => rfl
  | some d =>
    simp only [Option.bind_some]
    cases d <;> first | rfl | skip
    case struct fields =>
      dsimp only
      split <;> rfl
theorem pv_indexAt_chan (P : Program) (t : TypeId) (g : Option Nat) (i : Value) : pv P (Instr.indexAt t (.chan g) i) = none := by
  unfold Instr.indexAt
  rw [pv_bind]
  cases pv P (asIntOf i) with
  | none => rfl
  | some ki =>
    obtain ⟨k, i⟩ := ki
    simp only [Option.bind_some]
    rw [pv_bind]
    cases pv P (underlying t) with
    | none => rfl
    | some d =>
      simp only [Option.bind_some]
      cases d <;> rfl
theorem nval_vop {P : Program} {o : Oper} {ev : Operand → Value} {v : Value} (h : nval P o ev = some v) (σ : VHeap) : vop P o ev σ = some (.val v σ) := by
  unfold nval at h
  unfold vop
  cases hp : pureOp P o ev with
  | some u => rw [hp] at h; cases h; rfl
  | none =>
    rw [hp] at h
    simp only at h ⊢
    obtain ⟨dst, op, type, pos, after, guard⟩ := o
    cases op <;> dsimp only at h ⊢ <;> first | (cases h; done) | skip
    case move x => cases h; rfl
    case assign x => cases h; rfl
    case pick c a b => split at h <;> cases h; rename_i he; simp only [he]
    case build t parts =>
      cases hz : zeroOk P t with
      | false => rw [hz] at h; cases h
      | true => rw [hz] at h; simp only [cond_true] at h ⊢; rw [pv_vrun h]; rfl
    case nilCheck x => split at h <;> cases h <;> (rename_i he; simp only [he])
    case binOp op t x y yt =>
      cases hn : vNil P t (ev x) (ev y) with
      | false => rw [hn] at h; cases h
      | true =>
        rw [hn] at h
        simp only [cond_true] at h ⊢
        split at h <;> cases h <;> rfl
    case makeInterface t x => rw [pv_vrun h]; rfl
    case makeFunc fn xs ys => cases h; rfl
    case fieldAddr s x f =>
      have hg : gres σ (ev x) = ev x := by
        unfold gres
        split
        · rename_i g he; rw [he, pv_fieldAt_chan] at h; cases h
        · rfl
      rw [hg, pv_vrun h]; rfl
    case field t x f => rw [pv_vrun h]; rfl
    case indexAddr t x i =>
      have hg : gres σ (ev x) = ev x := by
        unfold gres
        split
        · rename_i g he; rw [he, pv_indexAt_chan] at h; cases h
        · rfl
      rw [hg, pv_vrun h]; rfl
    case index t x i => rw [pv_vrun h]; rfl
    case extract t i => rw [pv_vrun h]; rfl
    case call c =>
      unfold vcall
      split at h
      · rename_i x hc hx
        split at h
        · cases h
        · rename_i hnc
          simp only [hc, hx]
          rw [pv_vrun h]
          rfl
      · cases h
theorem vcall_congr {P : Program} {c : Call} {t : TypeId} {ev ev' : Operand → Value} (h : ∀ x ∈ c.operands, ev x = ev' x) (σ : VHeap) : vcall P ev c t σ = vcall P ev' c t σ := by
  have hargs : c.args.map ev = c.args.map ev' := Array.map_congr_left fun x hx => h x (by simp [Call.operands, hx])
  unfold vcall
  cases hc : c.callee with
  | value f =>
    have hf : ev f = ev' f := h f (by simp [Call.operands, hc])
    simp only [hf, hargs]
  | invoke r m => rfl
  | builtin b => simp only [hargs]
theorem pureOp_congr {P : Program} {o : Oper} {ev ev' : Operand → Value} (h : ∀ x ∈ o.op.operands, ev x = ev' x) : pureOp P o ev = pureOp P o ev' := by
  unfold pureOp
  split
  · rfl
  · rename_i hs
    rw [execOp_congr o (fun cs b e => hs cs b e) h]
    have hall : (o.op.operands.all fun x => clean (ev x)) = o.op.operands.all fun x => clean (ev' x) := by
      rw [Bool.eq_iff_iff, Array.all_eq_true', Array.all_eq_true']
      exact ⟨fun g x hx => h x hx ▸ g x hx, fun g x hx => (h x hx).symm ▸ g x hx⟩
    rw [hall]
theorem vop_congr {P : Program} {o : Oper} {ev ev' : Operand → Value} (h : ∀ x ∈ o.op.operands, ev x = ev' x) (σ : VHeap) : vop P o ev σ = vop P o ev' σ := by
  unfold vop
  rw [pureOp_congr h]
  cases pureOp P o ev' with
  | some v => rfl
  | none =>
    obtain ⟨dst, op, type, pos, after, guard⟩ := o
    have pairs : ∀ ps : Array (Nat × Operand), (∀ x ∈ ps.map (·.2), ev x = ev' x) →
        (ps.map fun (i, x) => (i, ev x)) = (ps.map fun (i, x) => (i, ev' x)) := fun ps hp =>
      Array.map_congr_left fun p hm => by
        obtain ⟨i, x⟩ := p
        simp only [hp x (Array.mem_map.2 ⟨(i, x), hm, rfl⟩)]
    cases op <;> simp only [Op.operands] at h <;> dsimp only
    case build t ps => rw [pairs ps fun x hx => h x (by simpa using hx)]
    case buildSlice t n ps => rw [pairs ps fun x hx => h x (by simpa using hx)]
    case makeFunc fn first captured =>
      rw [Array.map_congr_left (xs := first) fun x hx => h x (by simp [hx]), Array.map_congr_left (xs := captured) fun x hx => h x (by simp [hx])]
    case call c => rw [vcall_congr h]
    case makeMap t r => cases r <;> simp_all
    case slice t x lo hi mx => cases lo <;> cases hi <;> cases mx <;> simp_all
    case next it b => cases b <;> simp_all
    all_goals (first | rfl | (simp_all; done))
theorem nval_congr {P : Program} {o : Oper} {ev ev' : Operand → Value} (h : ∀ x ∈ o.op.operands, ev x = ev' x) : nval P o ev = nval P o ev' := by
  unfold nval
  rw [pureOp_congr h]
  cases pureOp P o ev' with
  | some v => rfl
  | none =>
    obtain ⟨dst, op, type, pos, after, guard⟩ := o
    have pairs : ∀ ps : Array (Nat × Operand), (∀ x ∈ ps.map (·.2), ev x = ev' x) →
        (ps.map fun (i, x) => (i, ev x)) = (ps.map fun (i, x) => (i, ev' x)) := fun ps hp =>
      Array.map_congr_left fun p hm => by
        obtain ⟨i, x⟩ := p
        simp only [hp x (Array.mem_map.2 ⟨(i, x), hm, rfl⟩)]
    cases op <;> simp only [Op.operands] at h <;> dsimp only
    case build t ps => rw [pairs ps fun x hx => h x (by simpa using hx)]
    case makeFunc fn first captured =>
      rw [Array.map_congr_left (xs := first) fun x hx => h x (by simp [hx]), Array.map_congr_left (xs := captured) fun x hx => h x (by simp [hx])]
    case call c => rw [Array.map_congr_left (xs := c.args) fun x hx => h x (by simp [Call.operands, hx])]
    all_goals (first | rfl | (simp_all; done))
theorem noW_vrun {α : Type} (P : Program) (s : Sem α) : ∀ (σ : VHeap) (a : α) (σ' : VHeap), noW s → vrun P s σ = some (a, σ') → σ' = σ := by
  induction s with
  | pure b => intro σ a σ' _ h; cases h; rfl
  | load m ad f ih =>
    intro σ a σ' g h
    cases m
    · simp only [vrun] at h
      split at h
      · exact ih _ _ _ _ (g _) h
      · cases h
    · cases h
  | program f ih => intro σ a σ' g h; exact ih P σ a σ' (g P) h
  | mark m f ih => intro σ a σ' g h; exact ih σ a σ' g h
  | halt x => intro σ a σ' _ h; cases h
  | _ => intro σ a σ' g h; exact g.elim
/-- Operations that only read. -/
def isRd (P : Program) (o : Oper) : Bool := match o.op with
  | .load _ _ => true
  | .slice .. => true
  | .convert s d _ => match P.underlying s, P.underlying d with
    | some (.slice _), some .string => true
    | _, _ => false
  | _ => false
theorem noW_loadAt (t : TypeId) (v : Value) : noW (Instr.loadAt t v) := noW_bind _ _ (by unfold Instr.sureAddr; split <;> exact trivial) fun a => noW_loadVar t a
theorem rd_same {P : Program} {o : Oper} {ev : Operand → Value} {σ : VHeap} {r : VN} (ho : isRd P o = true) (h : vop P o ev σ = some r) : ∃ v, r = .val v σ := by
  unfold vop at h
  split at h
  · cases h; exact ⟨_, rfl⟩
  · rename_i hnp
    clear hnp
    obtain ⟨dst, op, type, pos, after, guard⟩ := o
    cases op <;> simp only [isRd, Bool.false_eq_true] at ho <;> dsimp only at h
    case load t a =>
      unfold vv at h
      split at h
      case h_2 => cases h
      rename_i v σ' hv
      cases h
      rw [noW_vrun P _ _ _ _ (noW_loadAt t (gres σ (ev a))) hv]
      exact ⟨v, rfl⟩
    case slice t x lo hi mx =>
      split at h
      case h_2 => cases h
      cases h
      exact ⟨_, rfl⟩
    case convert src dst x =>
      split at ho
      case h_2 => cases ho
      rename_i e hs hd
      unfold vv at h
      split at h
      case h_2 => cases h
      rename_i v σ' hv
      cases h
      unfold vconvert at hv
      rw [hs, hd] at hv
      split at hv
      · rename_i h1 h2; cases h1
      · split at hv
        · split at hv
          · cases hv; exact ⟨_, rfl⟩
          · cases hv
        · cases hv
      · rename_i h1 h2; cases h1
      · rename_i h1 h2; cases h1
      · cases hv
/-- More may be looked at. -/
def Sees (σ τ : VHeap) : Prop := ∀ (id : Nat) b, σ[id]? = some (.cells b) → b.fl ≠ .dead → τ[id]? = some (.cells b)
theorem Sees.cell {σ τ : VHeap} (hs : Sees σ τ) (a : Addr) (v : Value) (hv : cell? σ a = some v) : cell? τ a = some v := by
  unfold cell? at hv ⊢
  split at hv
  · rename_i b hsp hb
    by_cases hd : b.fl = .dead
    · rw [if_pos hd] at hv; cases hv
    · rw [hsp, hs _ _ hb hd]
      exact hv
  · cases hv
theorem noW_sees {α : Type} {P : Program} {σ τ : VHeap} (hs : Sees σ τ) (s : Sem α) : ∀ (a : α) (σ' : VHeap), noW s → vrun P s σ = some (a, σ') → vrun P s τ = some (a, τ) := by
  induction s with
  | pure b => intro a σ' _ h; cases h; rfl
  | load m ad f ih =>
    intro a σ' g h
    cases m
    · simp only [vrun] at h ⊢
      split at h
      · rename_i v hv; rw [hs.cell _ _ hv]; exact ih v _ _ (g _) h
      · cases h
    · cases h
  | program f ih => intro a σ' g h; exact ih P a σ' (g P) h
  | mark m f ih => intro a σ' g h; exact ih a σ' g h
  | halt x => intro a σ' _ h; cases h
  | _ => intro a σ' g h; exact g.elim
theorem vfirst_sees {σ τ : VHeap} (hs : Sees σ τ) {size m : Nat} {x : Value} {cs : Array Value} (h : vfirst σ size m x = some cs) : vfirst τ size m x = some cs := by
  unfold vfirst at h ⊢
  split at h
  · rename_i a n c
    try dsimp only
    split at h
    · rename_i h0; rw [if_pos h0]; exact h
    · rename_i h0
      rw [if_neg h0]
      split at h
      · rename_i b h1 h2
        split at h
        · rename_i hd
          simp only [h1, hs _ _ h2 hd.1, if_pos hd]
          exact h
        · cases h
      · cases h
  · exact h
  · exact h
  · cases h
theorem vslice_sees {P : Program} {σ τ : VHeap} (hs : Sees σ τ) {t : TypeId} {x v : Value} {lo hi mx : Option Value} (h : vslice P σ t x lo hi mx = some v) : vslice P τ t x lo hi mx = some v := by
  unfold vslice at h ⊢
  split at h
  · rename_i elem a n c hu
    try simp only [hu]
    split at h
    · rename_i info l h' m b h1 h2 h3 h4
      by_cases hd : b.fl = .dead
      · rw [hd] at h; cases h
      · simp only [h1, h2, h3, hs _ _ h4 hd]
        exact h
    · rename_i h1 h2 h3
      simp only [h1, h2, h3]
      exact h
    · cases h
  · rename_i n elem a hu
    try simp only [hu]
    split at h
    · rename_i info l h' m b h1 h2 h3
      split at h
      · rename_i hfl
        have hd : b.fl ≠ .dead := by rcases hfl with e | e <;> rw [e] <;> decide
        simp only [h1, h2, hs _ _ h3 hd, if_pos hfl]
        exact h
      · cases h
    · cases h
  · rename_i arr a hu
    try simp only [hu]
    split at h
    · rename_i n elem ha
      try simp only [ha]
      split at h
      · rename_i info l h' m b h1 h2 h3
        split at h
        · rename_i hfl
          have hd : b.fl ≠ .dead := by rcases hfl with e | e <;> rw [e] <;> decide
          simp only [h1, h2, hs _ _ h3 hd, if_pos hfl]
          exact h
        · cases h
      · cases h
    · cases h
  · cases h
theorem gfind_sees {σ τ : VHeap} (hs : Sees σ τ) {g : Nat} : ∀ {n k id : Nat}, gfind σ g n k = some id → gfind τ g n k = some id
  | 0, _, _, h => by cases h
  | n + 1, k, id, h => by
    unfold gfind at h ⊢
    split at h
    case h_2 => cases h
    rename_i b hb
    cases hc : decide (b.fl = .ro) && b.kin with
    | false => rw [hc] at h; cases h
    | true =>
      rw [hc] at h
      simp only [cond_true] at h
      have hc' := hc
      simp only [Bool.and_eq_true, decide_eq_true_eq] at hc'
      simp only [hs k b hb (by rw [hc'.1]; decide), hc, cond_true]
      cases hg : b.root == g with
      | false => rw [hg] at h; exact gfind_sees hs h
      | true => rw [hg] at h; exact h
theorem gres_sees {σ τ : VHeap} (hs : Sees σ τ) (v : Value) : gres τ v = gres σ v ∨ ∃ g, v = .chan (some g) ∧ gres σ v = v := by
  unfold gres
  split
  · rename_i g
    cases h : gfind σ g 16 0 with
    | some id => rw [gfind_sees hs h]; exact .inl rfl
    | none => exact .inr ⟨g, rfl, rfl⟩
  · exact .inl rfl
theorem vrun_loadAt_chan (P : Program) (t : TypeId) (g : Option Nat) (σ : VHeap) : vrun P (Instr.loadAt t (.chan g)) σ = none := rfl
theorem vslice_chan (P : Program) (σ : VHeap) (t : TypeId) (g : Option Nat) (lo hi mx : Option Value) : vslice P σ t (.chan g) lo hi mx = none := by
  unfold vslice
  split
  · rename_i h; cases h
  · rename_i h; cases h
  · rename_i h; cases h
  · rfl
theorem rd_sees {P : Program} {o : Oper} {ev : Operand → Value} {σ τ : VHeap} {v : Value} {σ' : VHeap} (ho : isRd P o = true) (hs : Sees σ τ) (h : vop P o ev σ = some (.val v σ')) : vop P o ev τ = some (.val v τ) := by
  unfold vop at h ⊢
  cases hp : pureOp P o ev with
  | some u => rw [hp] at h; cases h; rfl
  | none =>
    rw [hp] at h
    obtain ⟨dst, op, type, pos, after, guard⟩ := o
    cases op <;> simp only [isRd, Bool.false_eq_true] at ho <;> dsimp only at h ⊢
    case load t a =>
      unfold vv at h
      split at h
      case h_2 => cases h
      rename_i v σ' hv
      cases h
      rcases gres_sees hs (ev a) with e | ⟨g, e1, e2⟩
      · rw [e, noW_sees hs _ _ _ (noW_loadAt t (gres σ (ev a))) hv]
        rfl
      · rw [e2, e1, vrun_loadAt_chan] at hv; cases hv
    case slice t x lo hi mx =>
      split at h
      case h_2 => cases h
      rename_i u hv
      cases h
      rcases gres_sees hs (ev x) with e | ⟨g, e1, e2⟩
      · rw [e, vslice_sees hs hv]
      · rw [e2, e1, vslice_chan] at hv; cases hv
    case convert src dst x =>
      split at ho
      case h_2 => cases ho
      rename_i e hs' hd
      unfold vv at h
      split at h
      case h_2 => cases h
      rename_i v σ' hv
      cases h
      unfold vconvert at hv ⊢
      rw [hs', hd] at hv ⊢
      split at hv
      · rename_i h1 h2; cases h1
      · rename_i e' a n c h1 h2 h3
        cases h1
        try simp only [h3]
        split at hv
        · rename_i hu
          try simp only [hu]
          split at hv
          · rename_i bs hb
            cases hb' : vfirst σ 1 n (.slice (some a) n c) with
            | none => rw [hb'] at hb; cases hb
            | some cs =>
              rw [vfirst_sees hs hb']
              rw [hb'] at hb
              simp only [hb]
              cases hv
              rfl
          · cases hv
        · cases hv
      · rename_i h1 h2; cases h1
      · rename_i h1 h2; cases h1
      · cases hv
theorem Sees.msk {σ : VHeap} {p q : Nat → Bool} (h : ∀ id, q id = true → p id = true) : Sees (Vm.msk σ p) (Vm.msk σ q) := by
  intro id b hb hd
  rw [msk_get] at hb ⊢
  cases hσ : σ[id]? with
  | none => rw [hσ] at hb; cases hb
  | some o =>
    rw [hσ] at hb
    simp only [Option.map_some, Option.some.injEq] at hb ⊢
    cases hp : p id with
    | true => rw [hp] at hb; simp only [cond_true, gone, VObj.cells.injEq] at hb; subst hb; exact absurd rfl hd
    | false =>
      rw [hp] at hb
      cases hq : q id with
      | true => rw [h _ hq] at hp; cases hp
      | false => exact hb
/-- The row of a slice that is written out. -/
def sliceRow (P : Program) (t : TypeId) (len : Nat) (parts : Array (Nat × Value)) : Option (Array Value × TypeId) :=
  match pv P (underlying t) with
  | some (.slice elem) => match pv P (sizeOf elem) with
    | some size => if len * size > 2 ^ 24 then none else
      match (if len * size = 0 then some #[] else (pv P (zeroValue elem)).map (·.cells)) with
      | some zero => match Instr.fill (fun i => some (i * size, size)) ((Array.range (len * size)).map (zero[· % zero.size]!)) parts.toList with
        | some cells => some (cells, elem)
        | none => none
      | none => none
    | none => none
  | _ => none
theorem vrun_pv {α β : Type} {P : Program} {s : Sem α} {a : α} (h : pv P s = some a) (f : α → Sem β) (σ : VHeap) : vrun P (s >>= f) σ = vrun P (f a) σ := by
  rw [show s >>= f = s.bind f from rfl, vrun_bind, pv_vrun h]
  rfl
theorem sliceRow_ok {P : Program} {t : TypeId} {len : Nat} {parts : Array (Nat × Value)} {cs : Array Value} {e : TypeId} (h : sliceRow P t len parts = some (cs, e)) (σ : VHeap) :
    vrun P (Instr.buildSlice t len parts) σ = some (.slice (some ⟨σ.size, 0, none⟩) len len, σ.push (.cells ⟨cs, e, .ex, false, σ.size, 0⟩)) := by
  unfold sliceRow at h
  split at h
  case h_2 => cases h
  rename_i elem hu
  split at h
  case h_2 => cases h
  rename_i size hs
  split at h
  case isTrue => cases h
  rename_i hbig
  split at h
  case h_2 => cases h
  rename_i zero hz
  split at h
  case h_2 => cases h
  rename_i cells hc
  cases h
  unfold Instr.buildSlice
  rw [vrun_pv hu]
  dsimp only
  rw [vrun_pv hs]
  rw [if_neg hbig]
  by_cases h0 : len * size = 0
  · rw [if_pos h0] at hz ⊢
    cases hz
    rw [vrun_pv (s := Pure.pure #[]) (a := #[]) rfl, hc]
    rfl
  · rw [if_neg h0] at hz ⊢
    cases hv : pv P (zeroValue e) with
    | none => rw [hv] at hz; cases hz
    | some z =>
      rw [hv] at hz
      cases hz
      rw [vrun_pv (s := zeroValue e) (a := z) hv]
      rw [vrun_pv (s := Pure.pure z.cells) (a := z.cells) rfl, hc]
      rfl
def nalloc (P : Program) (o : Oper) (ev : Operand → Value) : Option (AKind × Array Value × TypeId) :=
  match pureOp P o ev with
  | some _ => none
  | none => match o.op with
    | .alloc e => bif zeroOk P e then (match pv P (zeroValue e) with
      | some z => some (.ptr, z.cells, e)
      | none => none) else none
    | .box e x => some (.ptr, (ev x).cells, e)
    | .makeMap _ none => some (.map, #[], 0)
    | .buildSlice t n parts => bif elemZeroOk P t then (match sliceRow P t n (parts.map fun (i, x) => (i, ev x)) with
      | some (cs, e) => some (.slice n n, cs, e)
      | none => none) else none
    | _ => none
theorem nalloc_vop {P : Program} {o : Oper} {ev : Operand → Value} {k : AKind} {cs : Array Value} {e : TypeId} (h : nalloc P o ev = some (k, cs, e)) (σ : VHeap) : vop P o ev σ = some (.val (k.val σ.size) (σ.push (k.obj cs e σ.size))) := by
  unfold nalloc at h
  unfold vop
  cases hp : pureOp P o ev with
  | some u => rw [hp] at h; cases h
  | none =>
    rw [hp] at h
    simp only at h ⊢
    obtain ⟨dst, op, type, pos, after, guard⟩ := o
    cases op <;> dsimp only at h ⊢ <;> first | (cases h; done) | skip
    case alloc t =>
      cases hz : zeroOk P t with
      | false => rw [hz] at h; cases h
      | true =>
        rw [hz] at h
        simp only [cond_true] at h ⊢
        split at h
        case h_2 => cases h
        rename_i z hv
        cases h
        unfold Instr.alloc
        rw [vrun_pv hv]
        rfl
    case box t x => cases h; rfl
    case makeMap t r =>
      cases r with
      | some x => cases h
      | none => cases h; rfl
    case buildSlice t n parts =>
      cases hz : elemZeroOk P t with
      | false => rw [hz] at h; cases h
      | true =>
        rw [hz] at h
        simp only [cond_true] at h ⊢
        split at h
        case h_2 => cases h
        rename_i cs' e' hs
        cases h
        rw [sliceRow_ok hs]
        rfl
theorem nalloc_congr {P : Program} {o : Oper} {ev ev' : Operand → Value} (h : ∀ x ∈ o.op.operands, ev x = ev' x) : nalloc P o ev = nalloc P o ev' := by
  unfold nalloc
  rw [pureOp_congr h]
  cases pureOp P o ev' with
  | some v => rfl
  | none =>
    obtain ⟨dst, op, type, pos, after, guard⟩ := o
    have pairs : ∀ ps : Array (Nat × Operand), (∀ x ∈ ps.map (·.2), ev x = ev' x) →
        (ps.map fun (i, x) => (i, ev x)) = (ps.map fun (i, x) => (i, ev' x)) := fun ps hp =>
      Array.map_congr_left fun p hm => by
        obtain ⟨i, x⟩ := p
        simp only [hp x (Array.mem_map.2 ⟨(i, x), hm, rfl⟩)]
    cases op <;> simp only [Op.operands] at h <;> dsimp only
    case buildSlice t n ps => rw [pairs ps fun x hx => h x (by simpa using hx)]
    case makeMap t r => cases r <;> rfl
    all_goals (first | rfl | (simp_all; done))
end Vm
end Go.Proofs.Ytodjjnklelfgfaa
namespace Go.Proofs.Ytodjjnklelfgfaa
namespace Vm
set_option linter.unusedSimpArgs false
set_option linter.unusedVariables false
open Go.RowKit

structure Plan (ops : Array Oper) (pl : List Nat) (pre : Nat → Nat → Bool) (eff : Nat → Bool) : Prop where
  mem : ∀ i, i < ops.size → i ∈ pl
  lt : ∀ i ∈ pl, i < ops.size
  nodup : pl.Nodup
  edges : ∀ dn i rest o, pl = dn ++ i :: rest → ops[i]? = some o → ∀ e ∈ o.after, Region.binds .any e = true → e.on ∈ dn
  pres : ∀ (i : Nat) o, ops[i]? = some o → ∀ j, pre j i = true → ∃ e ∈ o.after, Region.binds .any e = true ∧ (e.on = j ∨ pre j e.on = true)
  dst : ∀ (i j : Nat) (oi oj : Oper) d, ops[i]? = some oi → ops[j]? = some oj → oi.dst = some d → oj.dst = some d → i = j
  see : ∀ (i j : Nat) (oi oj : Oper) d, ops[i]? = some oi → ops[j]? = some oj → oj.dst = some d → d ∈ oi.looksAt ops → pre j i = true ∨ (pre i j = true ∧ eff j = true)
  order : ∀ dn c rest, pl = dn ++ c :: rest → eff c = true → ∀ a ∈ rest, pre c a = true

section
variable {ops : Array Oper} {pl : List Nat} {pre : Nat → Nat → Bool} {eff : Nat → Bool}
theorem Plan.closed (h : Plan ops pl pre eff) {S : Nat → Prop} (hS : ∀ (i : Nat) o, S i → ops[i]? = some o → ∀ e ∈ o.after, Region.binds .any e = true → S e.on) :
    ∀ n dn i rest, dn.length < n → pl = dn ++ i :: rest → S i → ∀ j, pre j i = true → S j ∧ j ∈ dn := by
  intro n
  induction n with
  | zero => intro dn i rest hn; omega
  | succ n ih =>
    intro dn i rest hn hp hi j hj
    have hlt := h.lt i (by rw [hp]; simp)
    have ho := Array.getElem?_eq_getElem hlt
    obtain ⟨e, he, hb, hc⟩ := h.pres i _ ho j hj
    have hm := h.edges dn i rest _ hp ho e he hb
    have hs := hS i _ hi ho e he hb
    rcases hc with rfl | hc
    · exact ⟨hs, hm⟩
    · obtain ⟨d1, d2, rfl⟩ := List.append_of_mem hm
      have := ih d1 e.on (d2 ++ i :: rest) (by simp at hn; omega) (by rw [hp]; simp) hs j hc
      exact ⟨this.1, by simp [this.2]⟩
theorem Plan.before (h : Plan ops pl pre eff) {dn rest : List Nat} {i j : Nat} (hp : pl = dn ++ i :: rest) (hj : pre j i = true) : j ∈ dn :=
  (h.closed (S := fun _ => True) (fun _ _ _ _ _ _ _ => trivial) _ dn i rest (Nat.lt_succ_self _) hp trivial j hj).2
theorem Plan.fresh (h : Plan ops pl pre eff) {dn rest : List Nat} {i j : Nat} (hp : pl = dn ++ i :: rest) (hj : j ∈ dn) : pre i j = false := by
  cases hc : pre i j with
  | false => rfl
  | true =>
    exfalso
    obtain ⟨d1, d2, rfl⟩ := List.append_of_mem hj
    have hi := h.before (dn := d1) (i := j) (rest := d2 ++ i :: rest) (by rw [hp]; simp) hc
    have hn := h.nodup
    rw [hp] at hn
    have := (List.nodup_append.1 hn).2.2 i (by simp [hi]) i (by simp)
    exact this rfl
theorem Plan.irr (h : Plan ops pl pre eff) {dn rest : List Nat} {i : Nat} (hp : pl = dn ++ i :: rest) : pre i i = false := by
  cases hc : pre i i with
  | false => rfl
  | true =>
    have hi := h.before hp hc
    have hn := h.nodup
    rw [hp] at hn
    exact absurd rfl ((List.nodup_append.1 hn).2.2 i hi i (by simp))
theorem Plan.notin (h : Plan ops pl pre eff) {dn rest : List Nat} {i : Nat} (hp : pl = dn ++ rest) (hi : i ∈ rest) : i ∉ dn := fun hd => by
  have hn := h.nodup
  rw [hp] at hn
  exact (List.nodup_append.1 hn).2.2 i hd i hi rfl

/-- The blocks that are hidden from an operation: those that may come after it. -/
def hid (pre : Nat → Nat → Bool) (al : List (Nat × Nat)) (i : Nat) : List Nat := (al.filter fun x => !pre x.1 i).map (·.2)
def mskL (σ : VHeap) (ids : List Nat) : VHeap := match ids with
  | [] => σ
  | _ :: _ => msk σ fun id => ids.contains id
def backL (σ σ1 : VHeap) (ids : List Nat) : VHeap := match ids with
  | [] => σ1
  | _ :: _ => back σ σ1 fun id => ids.contains id
theorem mskL_eq (σ : VHeap) (ids : List Nat) : mskL σ ids = msk σ fun id => ids.contains id := by
  cases ids with
  | nil =>
    apply heap_ext
    intro id
    rw [msk_get]
    simp only [mskL, List.contains_nil, cond_false]
    cases σ[id]? <;> rfl
  | cons => rfl
theorem backL_eq (σ σ1 : VHeap) (ids : List Nat) : backL σ σ1 ids = back σ σ1 fun id => ids.contains id := by
  cases ids with
  | nil =>
    apply heap_ext
    intro id
    rw [back_get]
    simp only [backL, List.contains_nil, cond_false]
    cases σ1[id]? <;> rfl
  | cons => rfl
def aloneAll (σ : VHeap) (ids : List Nat) : Bool := ids.all fun id => match σ[id]? with
  | some o => !o.live || o.alone
  | none => false
def Still (P : Program) (ops : Array Oper) (pre : Nat → Nat → Bool) (pd : List (Nat × Value)) (al : List (Nat × Nat)) (t : Array Value) (σ : VHeap) : Prop :=
  ∀ x ∈ pd, ∃ o, ops[x.1]? = some o ∧ vop P o (vev t) (mskL σ (hid pre al x.1)) = some (.val x.2 (mskL σ (hid pre al x.1)))
def vplan (P : Program) (cl : VCall) (ops : Array Oper) (pre : Nat → Nat → Bool) (eff : Nat → Bool) (Q : VPost) : List Nat → List (Nat × Value) → List (Nat × Nat) → Array Value → VHeap → Prop
  | [], _, _, t, σ => Q .normal t σ
  | i :: l, pd, al, t, σ =>
    match ops[i]? with
    | none => False
    | some o =>
      if Region.wanted o (yielded ops t) = true then
        o.op.operands.all constOk = true ∧
        if eff i = true then
          aloneAll σ (hid pre al i) = true ∧
          match vop P o (vev t) (mskL σ (hid pre al i)) with
          | some (.val v σ1) => Still P ops pre (pd.filter fun x => !pre x.1 i) (al.filter fun x => !pre x.1 i) (vput t o.dst v) (backL σ σ1 (hid pre al i)) ∧
            vplan P cl ops pre eff Q l (pd.filter fun x => !pre x.1 i) (al.filter fun x => !pre x.1 i) (vput t o.dst v) (backL σ σ1 (hid pre al i))
          | some (.skip σ1) => Still P ops pre (pd.filter fun x => !pre x.1 i) (al.filter fun x => !pre x.1 i) (vput t o.dst undef) (backL σ σ1 (hid pre al i)) ∧
            vplan P cl ops pre eff Q l (pd.filter fun x => !pre x.1 i) (al.filter fun x => !pre x.1 i) (vput t o.dst undef) (backL σ σ1 (hid pre al i))
          | some (.enter f args σ1) => cl f args σ1 fun r => match r with
            | .ret v σ2 => Still P ops pre (pd.filter fun x => !pre x.1 i) (al.filter fun x => !pre x.1 i) (vput t o.dst v) (backL σ σ2 (hid pre al i)) ∧
              vplan P cl ops pre eff Q l (pd.filter fun x => !pre x.1 i) (al.filter fun x => !pre x.1 i) (vput t o.dst v) (backL σ σ2 (hid pre al i))
            | .pan _ _ => False
          | _ => False
        else match nval P o (vev t) with
          | some v => vplan P cl ops pre eff Q l pd al (vput t o.dst v) σ
          | none => match nalloc P o (vev t) with
            | some (k, cs, e) => cs.all (leafB σ.size) = true ∧ vplan P cl ops pre eff Q l pd ((i, σ.size) :: al) (vput t o.dst (k.val σ.size)) (σ.push (k.obj cs e σ.size))
            | none => match isRd P o, vop P o (vev t) (mskL σ (hid pre al i)) with
              | true, some (.val v _) => vplan P cl ops pre eff Q l ((i, v) :: pd) al (vput t o.dst v) σ
              | _, _ => False
      else vplan P cl ops pre eff Q l pd al (vput t o.dst undef) σ

def TRel (ρ : Rho) (D : Nat → Prop) (t tr : Array Value) : Prop := t.size = tr.size ∧ ∀ (k : Nat) (h : k < t.size) (h' : k < tr.size), ¬ D k → VRel ρ t[k] tr[k]
theorem TRel.ev {ρ : Rho} {D : Nat → Prop} {t tr : Array Value} {ds : List Deferred} (h : TRel ρ D t tr) (x : Operand) (hc : constOk x = true) (hd : ∀ d, x = .tmp d → ¬ D d) : VRel ρ (vev t x) ((⟨tr, ds⟩ : Act).eval x) := by
  cases x with
  | tmp i =>
    simp only [vev, Act.eval]
    by_cases hi : i < t.size
    · rw [Array.getD_eq_getD_getElem?, Array.getD_eq_getD_getElem?, Array.getElem?_eq_getElem hi, Array.getElem?_eq_getElem (h.1 ▸ hi)]
      exact h.2 i hi (h.1 ▸ hi) (hd i rfl)
    · rw [Array.getD_eq_getD_getElem?, Array.getD_eq_getD_getElem?, Array.getElem?_eq_none (Nat.le_of_not_lt hi), Array.getElem?_eq_none (h.1 ▸ Nat.le_of_not_lt hi)]
      exact undef_rel ρ
  | const v => exact clean_rel hc ρ
  | global g => exact .glob g
  | func f => exact .func _ rfl (fun k hk => by simp at hk) rfl (fun k hk => by simp at hk)
def asB : Option Value → Option Bool
  | some (.bool b) => some b
  | _ => none
theorem wanted_congr {o : Oper} {t u : Array Value} (h : ∀ d ∈ o.looksAt ops, asB t[d]? = asB u[d]?) : Region.wanted o (yielded ops t) = Region.wanted o (yielded ops u) := by
  unfold Region.wanted
  cases hg : o.guard with
  | none => rfl
  | some gw =>
    obtain ⟨g, want⟩ := gw
    have hy : yielded ops t g = yielded ops u g := by
      unfold yielded
      cases ht : (ops[g]?).bind (·.dst) with
      | none => rfl
      | some d => exact h d (by simp [Oper.looksAt, hg, ht])
    simp only [hy]
theorem TRel.wanted {ρ : Rho} {D : Nat → Prop} {t tr : Array Value} (h : TRel ρ D t tr) {o : Oper} (hd : ∀ d ∈ o.looksAt ops, ¬ D d) : Region.wanted o (yielded ops t) = Region.wanted o (yielded ops tr) := by
  refine wanted_congr fun d hl => ?_
  by_cases hi : d < t.size
  · rw [Array.getElem?_eq_getElem hi, Array.getElem?_eq_getElem (h.1 ▸ hi)]
    have hi' : d < tr.size := h.1 ▸ hi
    have := h.2 d hi hi' (hd d hl)
    generalize t[d] = a at this
    generalize tr[d] = b at this
    cases this <;> rfl
  · rw [Array.getElem?_eq_none (Nat.le_of_not_lt hi), Array.getElem?_eq_none (h.1 ▸ Nat.le_of_not_lt hi)]
theorem looks_tmp {o : Oper} {x : Operand} {d : Nat} (hx : x ∈ o.op.operands) (h : x = .tmp d) : d ∈ o.looksAt ops := by
  subst h
  exact List.mem_append_left _ (List.mem_filterMap.2 ⟨.tmp d, by simpa using hx, rfl⟩)
theorem vput_get {t : Array Value} {dst : Option Tmp} {v : Value} {k : Nat} (h : dst ≠ some k) : (vput t dst v)[k]? = t[k]? := by
  cases dst with
  | none => rfl
  | some d => exact Array.getElem?_setIfInBounds_ne (fun e => h (by rw [e]))
theorem vput_size {t : Array Value} {dst : Option Tmp} {v : Value} : (vput t dst v).size = t.size := by cases dst <;> simp [vput]
theorem vput_self {t : Array Value} {d : Nat} {v : Value} (h : d < t.size) : (vput t (some d) v)[d]? = some v := by simp [vput, h]
theorem vev_put {t : Array Value} {dst : Option Tmp} {v : Value} {x : Operand} (h : ∀ d, x = .tmp d → dst ≠ some d) : vev (vput t dst v) x = vev t x := by
  cases x with
  | tmp i => simp only [vev, Array.getD_eq_getD_getElem?, vput_get (h i rfl)]
  | _ => rfl

theorem sees_msk {σ τ : VHeap} {p q : Nat → Bool} (h : ∀ id b, σ[id]? = some (.cells b) → p id = false → q id = false ∧ τ[id]? = some (.cells b)) : Sees (msk σ p) (msk τ q) := by
  intro id b hb hd
  rw [msk_get] at hb ⊢
  cases hσ : σ[id]? with
  | none => rw [hσ] at hb; cases hb
  | some o =>
    rw [hσ] at hb
    simp only [Option.map_some, Option.some.injEq] at hb
    cases hp : p id with
    | true => rw [hp] at hb; simp only [cond_true, gone, VObj.cells.injEq] at hb; subst hb; exact absurd rfl hd
    | false =>
      rw [hp] at hb
      simp only [cond_false] at hb
      subst hb
      obtain ⟨h1, h2⟩ := h _ _ hσ hp
      rw [h2, h1]
      rfl
/-- What is known of an operation that may still be to come. -/
def Fact (P : Program) (ops : Array Oper) (pre : Nat → Nat → Bool) (t : Array Value) (σ : VHeap) (pd : List (Nat × Value)) (al : List (Nat × Nat)) (j : Nat) : Prop :=
  ∀ o, ops[j]? = some o →
    (Region.wanted o (yielded ops t) = true ∧ o.op.operands.all constOk = true ∧
      ((∃ v, (∀ d, o.dst = some d → d < t.size → t[d]? = some v) ∧ (∀ id, (j, id) ∉ al) ∧ nval P o (vev t) = some v) ∨
       (∃ v, (∀ d, o.dst = some d → d < t.size → t[d]? = some v) ∧ (∀ id, (j, id) ∉ al) ∧ (j, v) ∈ pd ∧ isRd P o = true ∧ vop P o (vev t) (mskL σ (hid pre al j)) = some (.val v (mskL σ (hid pre al j)))) ∨
       (∃ k cs e id, (∀ d, o.dst = some d → d < t.size → t[d]? = some (AKind.val k id)) ∧ nalloc P o (vev t) = some (k, cs, e) ∧ (j, id) ∈ al ∧ σ[id]? = some (AKind.obj k cs e id) ∧ cs.all (leafB id) = true))) ∨
    (Region.wanted o (yielded ops t) = false ∧ (∀ id, (j, id) ∉ al) ∧ ∀ d, o.dst = some d → d < t.size → t[d]? = some undef)
theorem Fact.put {P : Program} {t : Array Value} {σ σ' : VHeap} {pd pd' : List (Nat × Value)} {al al' : List (Nat × Nat)} {j : Nat} {dst : Option Tmp} {u : Value} (h : Fact P ops pre t σ pd al j)
    (h1 : ∀ o d, ops[j]? = some o → dst = some d → d ∉ o.looksAt ops ∧ o.dst ≠ some d)
    (h2 : ∀ o v, ops[j]? = some o → (j, v) ∈ pd → isRd P o = true → vop P o (vev t) (mskL σ (hid pre al j)) = some (.val v (mskL σ (hid pre al j))) →
      (j, v) ∈ pd' ∧ vop P o (vev (vput t dst u)) (mskL σ' (hid pre al' j)) = some (.val v (mskL σ' (hid pre al' j))))
    (h3 : ∀ id o, (j, id) ∈ al → σ[id]? = some o → (j, id) ∈ al' ∧ σ'[id]? = some o) (h4 : ∀ id, (j, id) ∈ al' → (j, id) ∈ al) : Fact P ops pre (vput t dst u) σ' pd' al' j := by
  intro o ho
  have hw : Region.wanted o (yielded ops (vput t dst u)) = Region.wanted o (yielded ops t) := wanted_congr fun d hd => by
    rw [vput_get fun e => (h1 o d ho e).1 hd]
  have hev : ∀ x ∈ o.op.operands, vev (vput t dst u) x = vev t x := fun x hx => vev_put fun d hxd e => (h1 o d ho e).1 (looks_tmp hx hxd)
  have hdst : ∀ {v : Value}, (∀ d, o.dst = some d → d < t.size → t[d]? = some v) → ∀ d, o.dst = some d → d < (vput t dst u).size → (vput t dst u)[d]? = some v := by
    intro v g d hd hlt
    rw [vput_get fun e => (h1 o d ho e).2 hd]
    exact g d hd (by rwa [vput_size] at hlt)
  rcases h o ho with ⟨g1, g2, g3⟩ | ⟨g1, g2, g3⟩
  · refine .inl ⟨hw.trans g1, g2, ?_⟩
    rcases g3 with ⟨v, k1, k2, k3⟩ | ⟨v, k1, k2, k3, k4, k5⟩ | ⟨k, cs, e, id, k1, k2, k3, k4, k5⟩
    · exact .inl ⟨v, hdst k1, fun id hi => k2 id (h4 id hi), (nval_congr hev).trans k3⟩
    · obtain ⟨m1, m2⟩ := h2 o v ho k3 k4 k5
      exact .inr (.inl ⟨v, hdst k1, fun id hi => k2 id (h4 id hi), m1, k4, m2⟩)
    · obtain ⟨m1, m2⟩ := h3 id _ k3 k4
      exact .inr (.inr ⟨k, cs, e, id, hdst k1, (nalloc_congr hev).trans k2, m1, m2, k5⟩)
  · exact .inr ⟨hw.trans g1, fun id hi => g2 id (h4 id hi), hdst g3⟩

def lag (L : Array Bool) (al : List (Nat × Nat)) (id : Nat) : Bool := al.any fun x => x.2 == id && !L.getD x.1 false
theorem lag_iff {L : Array Bool} {al : List (Nat × Nat)} {id : Nat} : lag L al id = true ↔ ∃ x ∈ al, x.2 = id ∧ L.getD x.1 false = false := by
  simp [lag, List.any_eq_true]
/-- The base while some blocks are still to come. -/
def lagBase (B0 : Base) (L : Array Bool) (al : List (Nat × Nat)) : Base := ⟨B0.U, fun id => B0.H id ∨ lag L al id = true, B0.Ro⟩
/-- Where a real run may stand when the plan stands behind 'dn'. -/
structure Inv (P : Program) (ops : Array Oper) (pre : Nat → Nat → Bool) (eff : Nat → Bool) (w0 : World) (B0 : Base) (dn : List Nat) (pd : List (Nat × Value)) (al : List (Nat × Nat)) (t : Array Value) (σ : VHeap) (L : Array Bool) (a : Act) (w : World) (ρ : Rho) : Prop where
  size : L.size = ops.size
  sub : ∀ j, L.getD j false = true → j ∈ dn
  effs : ∀ j ∈ dn, eff j = true → L.getD j false = true
  closed : ∀ (j : Nat) o, L.getD j false = true → ops[j]? = some o → ∀ e ∈ o.after, Region.binds .any e = true → L.getD e.on false = true
  rel : TRel ρ (fun k => ∃ j ∈ dn, L.getD j false = false ∧ ∃ o, ops[j]? = some o ∧ o.dst = some k) t a.tmps
  defers : a.defers = []
  wrel : WRel ρ (msk σ (lag L al)) w0 w (lagBase B0 L al)
  fact : ∀ j ∈ dn, L.getD j false = false → Fact P ops pre t σ pd al j
  als : ∀ x ∈ al, x.1 ∈ dn
  one : ∀ x ∈ al, ∀ y ∈ al, L.getD x.1 false = false → L.getD y.1 false = false → x.2 = y.2 → x.1 = y.1
  free : ∀ x ∈ al, L.getD x.1 false = false → ¬ B0.H x.2
  uniq : ∀ j p q, (j, p) ∈ al → (j, q) ∈ al → p = q

variable {P : Program} {w0 : World} {B0 : Base} {cl : VCall} {Q : VPost} {Qr : Exit → Act → World → Prop}
theorem plan_advance (hp : Plan ops pl pre eff) {L : Array Bool} {a : Act} {w : World} {ρ : Rho} : ∀ (rest dn : List Nat) (pd : List (Nat × Value)) (al : List (Nat × Nat)) (t : Array Value) (σ : VHeap),
    pl = dn ++ rest → vplan P cl ops pre eff Q rest pd al t σ → Inv P ops pre eff w0 B0 dn pd al t σ L a w ρ →
    ∃ dn' rest' pd' al' t' σ', pl = dn' ++ rest' ∧ vplan P cl ops pre eff Q rest' pd' al' t' σ' ∧ Inv P ops pre eff w0 B0 dn' pd' al' t' σ' L a w ρ ∧ (∀ c r, rest' = c :: r → eff c = true) := by
  intro rest
  induction rest with
  | nil => intro dn pd al t σ h1 h2 h3; exact ⟨dn, [], pd, al, t, σ, h1, h2, h3, fun c r e => by cases e⟩
  | cons i rest ih =>
    intro dn pd al t σ h1 h2 h3
    cases he : eff i with
    | true => exact ⟨dn, i :: rest, pd, al, t, σ, h1, h2, h3, fun c r e => by cases e; exact he⟩
    | false =>
      have hnot : i ∉ dn := hp.notin h1 (by simp)
      have hi : L.getD i false = false := by
        cases hc : L.getD i false with
        | false => rfl
        | true => exact absurd (h3.sub i hc) hnot
      have h1' : pl = (dn ++ [i]) ++ rest := by rw [h1]; simp
      have hnal : ∀ id, (i, id) ∉ al := fun id hm => hnot (h3.als _ hm)
      have step : ∀ {o : Oper} {v : Value} {pd' : List (Nat × Value)} {al' : List (Nat × Nat)} {σ' : VHeap}, ops[i]? = some o → (∀ x ∈ pd, x ∈ pd') → (∀ x ∈ al, x ∈ al') → (∀ x ∈ al', x ∈ al ∨ x.1 = i) →
          (∀ j ∈ dn, Sees (mskL σ (hid pre al j)) (mskL σ' (hid pre al' j))) → (∀ (id : Nat) ob, σ[id]? = some ob → σ'[id]? = some ob) →
          WRel ρ (msk σ' (lag L al')) w0 w (lagBase B0 L al') →
          (∀ x ∈ al', ∀ y ∈ al', L.getD x.1 false = false → L.getD y.1 false = false → x.2 = y.2 → x.1 = y.1) → (∀ x ∈ al', L.getD x.1 false = false → ¬ B0.H x.2) → (∀ j p q, (j, p) ∈ al' → (j, q) ∈ al' → p = q) →
          Fact P ops pre (vput t o.dst v) σ' pd' al' i → Inv P ops pre eff w0 B0 (dn ++ [i]) pd' al' (vput t o.dst v) σ' L a w ρ := by
        intro o v pd' al' σ' ho hpd hal hal' hsee hget hw' hone hfree huniq hf
        have hlook : ∀ j ∈ dn, ∀ oj d, ops[j]? = some oj → o.dst = some d → d ∉ oj.looksAt ops ∧ oj.dst ≠ some d := by
          intro j hj oj d hoj hd
          refine ⟨fun hl => ?_, fun hd' => ?_⟩
          · rcases hp.see j i oj o d hoj ho hd hl with this | this
            · rw [hp.fresh h1 hj] at this; cases this
            · rw [he] at this; cases this.2
          · have := hp.dst i j o oj d ho hoj hd hd'
            subst this
            exact hnot hj
        refine ⟨h3.size, fun j hj => by simp [h3.sub j hj], fun j hj hej => ?_, h3.closed, ?_, h3.defers, hw', fun j hj hlj => ?_, fun x hx => ?_, hone, hfree, huniq⟩
        · rw [List.mem_append] at hj
          rcases hj with hj | hj
          · exact h3.effs j hj hej
          · obtain rfl := List.mem_singleton.1 hj; rw [he] at hej; cases hej
        · refine ⟨vput_size.trans h3.rel.1, fun k hk hk' hD => ?_⟩
          have hne : o.dst ≠ some k := fun e => hD ⟨i, by simp, hi, o, ho, e⟩
          have hkt : k < t.size := by rwa [vput_size] at hk
          have hg := vput_get (t := t) (v := v) hne
          rw [Array.getElem?_eq_getElem hk, Array.getElem?_eq_getElem hkt] at hg
          rw [Option.some.inj hg]
          exact h3.rel.2 k hkt hk' fun ⟨j, hj, x⟩ => hD ⟨j, by simp [hj], x⟩
        · rw [List.mem_append] at hj
          rcases hj with hj | hj
          · refine (h3.fact j hj hlj).put (hlook j hj) (fun oj v' hoj hm hr hv => ⟨hpd _ hm, ?_⟩) (fun id ob hm hg => ⟨hal _ hm, hget _ _ hg⟩) fun id hm => ?_
            · refine rd_sees hr (hsee j hj) ?_ (σ' := mskL σ (hid pre al j))
              rw [vop_congr (ev' := vev t)]
              · exact hv
              · exact fun x hx => vev_put fun d hxd e => (hlook j hj oj d hoj e).1 (looks_tmp hx hxd)
            · rcases hal' _ hm with h | h
              · exact h
              · simp only at h; subst h; exact absurd hj hnot
          · obtain rfl := List.mem_singleton.1 hj; exact hf
        · rcases hal' x hx with h | h
          · simp [h3.als x h]
          · simp [h]
      unfold vplan at h2
      split at h2
      case h_1 => exact h2.elim
      rename_i o ho
      have hself : ∀ d, o.dst = some d → d ∉ o.looksAt ops := fun d hd hl => by
        rcases hp.see i i o o d ho ho hd hl with this | this
        · rw [hp.irr h1] at this; cases this
        · rw [hp.irr h1] at this; cases this.1
      have hwc : ∀ v, Region.wanted o (yielded ops (vput t o.dst v)) = Region.wanted o (yielded ops t) := fun v => wanted_congr fun d hd => by rw [vput_get fun e => hself d e hd]
      have hev : ∀ v, ∀ x ∈ o.op.operands, vev (vput t o.dst v) x = vev t x := fun v x hx => vev_put fun d hxd e => hself d e (looks_tmp hx hxd)
      have hdst : ∀ v d, o.dst = some d → d < (vput t o.dst v).size → (vput t o.dst v)[d]? = some v := fun v d hd hlt => by
        rw [vput_size] at hlt; rw [hd]; exact vput_self hlt
      have same : ∀ {v : Value} {pd' : List (Nat × Value)}, (∀ x ∈ pd, x ∈ pd') → Fact P ops pre (vput t o.dst v) σ pd' al i → Inv P ops pre eff w0 B0 (dn ++ [i]) pd' al (vput t o.dst v) σ L a w ρ :=
        fun hpd hf => step ho hpd (fun _ h => h) (fun _ h => .inl h) (fun _ _ _ _ h _ => h) (fun _ _ h => h) h3.wrel h3.one h3.free h3.uniq hf
      split at h2
      · rename_i hw
        obtain ⟨hc, h2⟩ := h2
        rw [if_neg (by rw [he]; simp)] at h2
        split at h2
        · rename_i v hv
          refine ih (dn ++ [i]) pd al _ σ h1' h2 (same (fun _ h => h) ?_)
          intro o' ho'
          rw [ho] at ho'; cases ho'
          exact .inl ⟨(hwc v).trans hw, hc, .inl ⟨v, hdst v, hnal, (nval_congr (hev v)).trans hv⟩⟩
        · split at h2
          · rename_i k cs e hna
            obtain ⟨hlf, h2⟩ := h2
            have hlagsz : ∀ id, lag L al id = true → id < σ.size := fun id hl => by
              have := (h3.wrel.hole id (.inr hl)).2
              rwa [msk_size] at this
            have hmsk : msk (σ.push (k.obj cs e σ.size)) (lag L ((i, σ.size) :: al)) = (msk σ (lag L al)).push gone := by
              apply heap_ext
              intro id
              rw [msk_get, Array.getElem?_push, Array.getElem?_push, msk_get, msk_size]
              by_cases hid : id = σ.size
              · rw [if_pos hid, if_pos hid]
                have : lag L ((i, σ.size) :: al) id = true := lag_iff.2 ⟨(i, σ.size), by simp, hid.symm, hi⟩
                simp only [Option.map_some, this, cond_true]
              · rw [if_neg hid, if_neg hid]
                have : lag L ((i, σ.size) :: al) id = lag L al id := by
                  simp only [lag, List.any_cons]
                  rw [show (σ.size == id) = false by simpa using Ne.symm hid]
                  rfl
                rw [this]
            refine ih (dn ++ [i]) pd _ _ _ h1' h2 (step ho (fun _ h => h) (fun x h => by simp [h]) (fun x h => by rcases List.mem_cons.1 h with rfl | h; exact .inr rfl; exact .inl h) (fun j hj => ?_) (fun id ob hg => ?_) ?_ ?_ ?_ ?_ ?_)
            · rw [mskL_eq, mskL_eq]
              refine sees_msk fun id b hg hp' => ?_
              have hlt := (Array.getElem?_eq_some_iff.1 hg).1
              refine ⟨?_, by rw [Array.getElem?_push, if_neg (by omega)]; exact hg⟩
              have hpf := hp.fresh h1 hj
              simp only [hid, List.filter_cons, hpf, Bool.not_false, if_true, List.map_cons, List.contains_cons, Bool.or_eq_false_iff]
              exact ⟨by simp; omega, hp'⟩
            · have hlt := (Array.getElem?_eq_some_iff.1 hg).1
              rw [Array.getElem?_push, if_neg (by omega)]
              exact hg
            · rw [hmsk]
              refine (h3.wrel.reserve).fewer rfl rfl fun id hid => ?_
              rcases hid with hid | hid
              · exact .inl (.inl hid)
              · obtain ⟨x, hx, hx2, hxl⟩ := lag_iff.1 hid
                rcases List.mem_cons.1 hx with rfl | hx
                · right; rw [msk_size]; exact hx2.symm
                · exact .inl (.inr (lag_iff.2 ⟨x, hx, hx2, hxl⟩))
            · intro x hx y hy hxl hyl hxy
              rcases List.mem_cons.1 hx with rfl | hx <;> rcases List.mem_cons.1 hy with rfl | hy
              · rfl
              · exfalso
                have := hlagsz _ (lag_iff.2 ⟨y, hy, rfl, hyl⟩)
                simp only at hxy
                omega
              · exfalso
                have := hlagsz _ (lag_iff.2 ⟨x, hx, rfl, hxl⟩)
                simp only at hxy
                omega
              · exact h3.one x hx y hy hxl hyl hxy
            · intro x hx hxl
              rcases List.mem_cons.1 hx with rfl | hx
              · intro hH
                have := (h3.wrel.hole σ.size (.inl hH)).2
                rw [msk_size] at this
                omega
              · exact h3.free x hx hxl
            · intro j p q hp' hq'
              rcases List.mem_cons.1 hp' with e1 | hp' <;> rcases List.mem_cons.1 hq' with e2 | hq'
              · cases e1; cases e2; rfl
              · cases e1; exact absurd hq' (hnal _)
              · cases e2; exact absurd hp' (hnal _)
              · exact h3.uniq j p q hp' hq'
            · intro o' ho'
              rw [ho] at ho'; cases ho'
              exact .inl ⟨(hwc _).trans hw, hc, .inr (.inr ⟨k, cs, e, σ.size, hdst _, (nalloc_congr (hev _)).trans hna, by simp, by simp, hlf⟩)⟩
          · split at h2
            · rename_i v σ1 hr hv
              obtain ⟨_, hx⟩ := rd_same hr hv
              cases hx
              refine ih (dn ++ [i]) _ al _ σ h1' h2 (same (fun _ h => by simp [h]) ?_)
              intro o' ho'
              rw [ho] at ho'; cases ho'
              exact .inl ⟨(hwc v).trans hw, hc, .inr (.inl ⟨v, hdst v, hnal, by simp, hr, (vop_congr (hev v) _).trans hv⟩)⟩
            · exact h2.elim
      · rename_i hw
        refine ih (dn ++ [i]) pd al _ σ h1' h2 (same (fun _ h => h) ?_)
        intro o' ho'
        rw [ho] at ho'; cases ho'
        exact .inr ⟨(hwc undef).trans (by simpa using hw), hnal, hdst undef⟩
end
end Vm
end Go.Proofs.Ytodjjnklelfgfaa
