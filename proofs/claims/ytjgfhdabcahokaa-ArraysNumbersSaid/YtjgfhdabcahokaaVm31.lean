/- The virtual answer of every operation, over the quick memory. -/
import Derived.Test.YtjgfhdabcahokaaVm30
namespace Go.Proofs.Ytjgfhdabcahokaa
namespace Vm
set_option linter.unusedSimpArgs false
set_option linter.unusedVariables false
open Go.RowKit

section
variable {α β : Type} {P : Program} {h h' : HF} {σ : VHeap}
theorem vfitF_ok (r : HRep h σ) {base : Option Addr} {n c m size : Nat} {news : List Value} {v : Value} (hx : vfitF P h base n c m size news = some (v, h')) : ∃ σ', vfit P σ base n c m size ⟨news⟩ = some (v, σ') ∧ HRep h' σ' := by
  unfold vfitF at hx
  unfold vfit
  split at hx
  case isFalse => cases hx
  rename_i hfit
  rw [if_pos hfit]
  split at hx
  · cases hx; exact ⟨σ, rfl, r⟩
  · rename_i a
    split at hx
    case h_2 => cases hx
    rename_i u h1 hv
    cases hx
    obtain ⟨σ', e, r'⟩ := vrunF_ok _ r hv
    exact ⟨σ', by simp only [e], r'⟩
theorem vfit_none {base : Option Addr} {n c m size : Nat} {news : Array Value} (hn : ¬ n + m ≤ c) : vfit P σ base n c m size news = none := by
  unfold vfit
  rw [if_neg hn]
/-- A tip's end: nothing has room there. -/
theorem store_end (P : Program) {id off : Nat} {b : Blk} (hb : σ[id]? = some (.cells b)) (v : Value) (l : List Value) (hoff : b.cells.size ≤ off) : vrun P (storeCells ⟨id, off, none⟩ (v :: l)) σ = none := by
  unfold storeCells
  have e : (⟨id, off, none⟩ : Addr).add 0 = ⟨id, off, none⟩ := by simp [Addr.add]
  have h1 : ∀ w, setCell σ ⟨id, off, none⟩ w = none := fun w => by
    unfold setCell
    simp only [hb]
    rw [if_neg (by simpa using hoff)]
  show vrun P ((store ((⟨id, off, none⟩ : Addr).add 0) v).bind _) σ = none
  rw [e, vrun_bind]
  have : vrun P (store ⟨id, off, none⟩ v) σ = none := by
    show (match v.oneCell', setCell σ ⟨id, off, none⟩ v with
      | true, some σ' => vrun P (Sem.pure ()) σ'
      | _, _ => none) = none
    rw [h1]
    split
    · rename_i h2; cases h2
    · rfl
  rw [this]
  rfl
theorem vfit_end {a : Addr} {b : Blk} {n c m size : Nat} {news : List Value} (hsp : a.spot = none) (hb : σ[a.block]? = some (.cells b)) (hend : a.off + n * size = b.cells.size) (hn : news.length = m * size) (hc : ¬ n + m ≤ c ∨ 0 < m * size) :
    vfit P σ (some a) n c m size ⟨news⟩ = none := by
  by_cases hfit : n + m ≤ c
  · have hpos : 0 < m * size := by rcases hc with d4 | d4; exact absurd hfit d4; exact d4
    unfold vfit
    rw [if_pos hfit]
    obtain ⟨bl, o, sp⟩ := a
    simp only at hsp
    subst hsp
    simp only
    cases news with
    | nil => simp at hn; omega
    | cons y l =>
      have := store_end P (off := o + n * size) hb y l (by simp only at hend; omega)
      have e0 : (⟨bl, o, none⟩ : Addr).add (n * size) = ⟨bl, o + n * size, none⟩ := add_none ..
      rw [e0, this]
  · exact vfit_none hfit
noncomputable def vappendF (P : Program) (h : HF) (ts : Array TypeId) (s x : Value) : Option (Value × HF) :=
  match ts[0]?, ts[1]?, s, vlen x with
  | some t0, some t1, .slice base n c, some m =>
    match P.underlying t0, P.underlying t1 with
    | some (.slice e), some d1 =>
      match P.info? e with
      | some info =>
        bif isIntT d1 then none else
        match info.zero, vfirstF h info.size m x with
        | some z, some news =>
          match vfitF P h base n c m info.size news with
          | some r => some r
          | none =>
            if (2 * (n + m) + 256) * info.bytes ≤ 2 ^ 48 ∧ 0 < info.bytes ∧ z.cells.size = info.size ∧ allF Value.oneCell' news = true ∧ lenA news 0 = m * info.size then
              match base with
              | none => if n = 0 ∧ ¬ n + m ≤ c then h.push (.cells ⟨⟨news⟩, e, .tip, false, h.n, info.size⟩) fun h' => some (.slice (some ⟨h.n, 0, none⟩) (n + m) (n + m), h') else none
              | some a =>
                match a.spot, h.get a.block, vfirstF h info.size n (.slice (some a) n c) with
                | none, some (.cells b), some olds =>
                  match b.fl with
                  | .ex => if ¬ n + m ≤ c then h.push (.cells ⟨⟨appF olds news⟩, e, .tip, false, h.n, info.size⟩) fun h' => some (.slice (some ⟨h.n, 0, none⟩) (n + m) (n + m), h') else none
                  | .tip =>
                    if a.off + n * info.size = lenA b.cells.toList 0 ∧ b.esz = info.size ∧ b.elem = e ∧ (¬ n + m ≤ c ∨ 0 < m * info.size) then
                      h.set a.block (.cells ⟨b.cells, b.elem, .old, b.kin, b.root, b.esz⟩) fun h1 => h1.push (.cells ⟨⟨appF olds news⟩, e, .tip, true, b.root, info.size⟩) fun h' => some (.slice (some ⟨h.n, 0, none⟩) (n + m) (n + m), h')
                    else none
                  | _ => none
                | _, _, _ => none
            else none
        | _, _ => none
      | none => none
    | _, _ => none
  | _, _, _, _ => none
theorem app_arr (a b : List Value) : (⟨appF a b⟩ : Array Value) = (⟨a⟩ : Array Value) ++ ⟨b⟩ := by
  rw [appF_eq]; simp
theorem vappendF_ok (r : HRep h σ) {ts : Array TypeId} {s x v : Value} (hx : vappendF P h ts s x = some (v, h')) : ∃ σ', vappend P σ ts s x = some (v, σ') ∧ HRep h' σ' := by
  unfold vappendF at hx
  unfold vappend
  split at hx
  case h_2 => cases hx
  rename_i t0 t1 base n c m h0 h1 hl
  simp only [h0, h1, hl]
  split at hx
  case h_2 => cases hx
  rename_i e d1 hu0 hu1
  simp only [hu0, hu1]
  split at hx
  case h_2 => cases hx
  rename_i info hi
  simp only [hi]
  cases hd : isIntT d1 with
  | true => rw [hd] at hx; cases hx
  | false =>
    rw [hd] at hx
    simp only [cond_false] at hx
    rw [if_neg (by simp)]
    split at hx
    case h_2 => cases hx
    rename_i z news hz hnews
    simp only [hz, vfirstF_ok r hnews]
    split at hx
    · rename_i q hq
      cases hx
      obtain ⟨σ', e1, r'⟩ := vfitF_ok r hq
      exact ⟨σ', by simp only [e1], r'⟩
    · split at hx
      case isFalse => cases hx
      rename_i hc
      obtain ⟨c1, c2, c3, c4, c5⟩ := hc
      rw [allF_eq] at c4
      rw [lenA_eq, Nat.zero_add] at c5
      have hcond : (2 * (n + m) + 256) * info.bytes ≤ 2 ^ 48 ∧ 0 < info.bytes ∧ z.cells.size = info.size ∧ (⟨news⟩ : Array Value).all Value.oneCell' ∧ (⟨news⟩ : Array Value).size = m * info.size := ⟨c1, c2, c3, by simpa using c4, by simpa using c5⟩
      split at hx
      · split at hx
        case isFalse => cases hx
        rename_i hn
        rw [r.size] at hx
        obtain ⟨h1, r1, hx⟩ := r.push hx
        cases hx
        rw [vfit_none hn.2]
        simp only [if_pos hcond, if_pos hn]
        exact ⟨_, rfl, r1⟩
      · rename_i a _
        rw [r.look] at hx
        split at hx
        case h_2 => cases hx
        rename_i b olds hsp hb hold
        have hold' := vfirstF_ok r hold
        split at hx
        · rename_i hfl
          split at hx
          case isFalse => cases hx
          rename_i hfit
          rw [r.size] at hx
          obtain ⟨h1, r1, hx⟩ := r.push hx
          cases hx
          rw [vfit_none hfit]
          simp only [if_pos hcond, hsp, hb, hold', hfl, if_pos hfit, ← app_arr]
          exact ⟨_, rfl, r1⟩
        · rename_i hfl
          split at hx
          case isFalse => cases hx
          rename_i hc2
          obtain ⟨d1', d2, d3, d4⟩ := hc2
          rw [lenA_eq, Nat.zero_add] at d1'
          have d1 : a.off + n * info.size = b.cells.size := by simpa using d1'
          obtain ⟨h1, r1, hx⟩ := r.set hx
          rw [r.size] at hx
          have hs1 : σ.size = (σ.setIfInBounds a.block (.cells b.aged)).size := by simp
          obtain ⟨h2, r2, hx⟩ := r1.push hx
          cases hx
          have hvf : vfit P σ (some a) n c m info.size ⟨news⟩ = none := vfit_end hsp hb d1 (by simpa using c5) d4
          rw [hvf]
          simp only [if_pos hcond, hsp, hb, hold', hfl, if_pos (show a.off + n * info.size = b.cells.size ∧ b.esz = info.size ∧ b.elem = e from ⟨d1, d2, d3⟩), ← app_arr]
          exact ⟨_, rfl, r2⟩
        · cases hx
/-- The whole of a row, and more behind it: in one pass. -/
noncomputable def appN {α : Type} (news : List α) (l : List α) : Nat → (List α → Option β) → Option β :=
  List.rec (motive := fun _ => Nat → (List α → Option β) → Option β) (fun r k => Nat.rec (motive := fun _ => Option β) (k news) (fun _ _ => none) r)
    (fun a _ ih r k => Nat.rec (motive := fun _ => Option β) none (fun r' _ => ih r' fun l => k (a :: l)) r) l
theorem appN_ok {α : Type} (news : List α) : ∀ (l : List α) (r : Nat) (k : List α → Option β) (x : β), appN news l r k = some x → l.length = r ∧ k (l ++ news) = some x
  | [], r, k, x, h => by
    cases r with
    | zero => exact ⟨rfl, h⟩
    | succ r => cases h
  | a :: l, r, k, x, h => by
    cases r with
    | zero => cases h
    | succ r =>
      have h : appN news l r (fun l => k (a :: l)) = some x := h
      obtain ⟨h1, h2⟩ := appN_ok news l r _ x h
      exact ⟨by rw [List.length_cons, h1], h2⟩
noncomputable def HF.pushN (h : HF) (o : VObj) (k : HF → Option β) : Option β := Bool.rec (motive := fun _ => Option β) none (h.t.setF o 13 h.n fun t => k ⟨Nat.succ h.n, t⟩) (Nat.ble (h.n + 1) 8192)
theorem HF.pushN_eq (h : HF) (o : VObj) (k : HF → Option β) : h.pushN o k = h.push o k := by
  unfold HF.pushN HF.push
  rw [fObj_eq]
noncomputable def vappendQ (P : Program) (h : HF) (ts : Array TypeId) (s x : Value) : Option (Value × HF) :=
  match ts[0]?, ts[1]?, s, vlen x with
  | some t0, some t1, .slice (some ⟨id, 0, none⟩) n c, some m =>
    match P.underlying t0, P.underlying t1 with
    | some (.slice e), some d1 =>
      match P.info? e with
      | some info =>
        bif isIntT d1 then none else
        match info.zero, vfirstF h info.size m x with
        | some z, some news =>
            if (2 * (n + m) + 256) * info.bytes ≤ 2 ^ 48 ∧ 0 < info.bytes ∧ z.cells.size = info.size ∧ allF Value.oneCell' news = true ∧ lenA news 0 = m * info.size ∧ 0 < n * info.size then
              fList fLeaf news fun news =>
              match h.get id with
              | some (.cells b) =>
                  match b.fl with
                  | .tip =>
                    if b.esz = info.size ∧ b.elem = e ∧ (¬ n + m ≤ c ∨ 0 < m * info.size) then
                      appN news b.cells.toList (n * info.size) fun l =>
                      h.set id (.cells ⟨b.cells, b.elem, .old, b.kin, b.root, b.esz⟩) fun h1 => h1.pushN (.cells ⟨⟨l⟩, e, .tip, true, b.root, info.size⟩) fun h' => fNat (n + m) fun q => some (.slice (some ⟨h.n, 0, none⟩) q q, h')
                    else none
                  | _ => none
              | _ => none
            else none
        | _, _ => none
      | none => none
    | _, _ => none
  | _, _, _, _ => none
theorem vappendQ_ok (r : HRep h σ) {ts : Array TypeId} {s x v : Value} (hx : vappendQ P h ts s x = some (v, h')) : ∃ σ', vappend P σ ts s x = some (v, σ') ∧ HRep h' σ' := by
  unfold vappendQ at hx
  unfold vappend
  split at hx
  case h_2 => cases hx
  rename_i t0 t1 id n c m h0 h1 hl
  simp only [h0, h1, hl]
  split at hx
  case h_2 => cases hx
  rename_i e d1 hu0 hu1
  simp only [hu0, hu1]
  split at hx
  case h_2 => cases hx
  rename_i info hi
  simp only [hi]
  cases hd : isIntT d1 with
  | true => rw [hd] at hx; cases hx
  | false =>
    rw [hd] at hx
    simp only [cond_false] at hx
    rw [if_neg (by simp)]
    split at hx
    case h_2 => cases hx
    rename_i z news hz hnews
    simp only [hz, vfirstF_ok r hnews]
    split at hx
    case isFalse => cases hx
    rename_i hc
    obtain ⟨c1, c2, c3, c4, c5, c6⟩ := hc
    rw [allF_eq] at c4
    rw [lenA_eq, Nat.zero_add] at c5
    have hcond : (2 * (n + m) + 256) * info.bytes ≤ 2 ^ 48 ∧ 0 < info.bytes ∧ z.cells.size = info.size ∧ (⟨news⟩ : Array Value).all Value.oneCell' ∧ (⟨news⟩ : Array Value).size = m * info.size := ⟨c1, c2, c3, by simpa using c4, by simpa using c5⟩
    rw [fList_eq fLeaf_eq, r.look] at hx
    split at hx
    case h_2 => cases hx
    rename_i b hb
    split at hx
    case h_2 => cases hx
    rename_i hfl
    split at hx
    case isFalse => cases hx
    rename_i hc2
    obtain ⟨d2, d3, d4⟩ := hc2
    obtain ⟨d1, hx⟩ := appN_ok _ _ _ _ _ hx
    rw [Array.length_toList] at d1
    obtain ⟨h2, r2, hx⟩ := r.set hx
    rw [HF.pushN_eq, r.size] at hx
    obtain ⟨h3, r3, hx⟩ := r2.push hx
    rw [fNat_eq] at hx
    cases hx
    have hend : (⟨id, 0, none⟩ : Addr).off + n * info.size = b.cells.size := by simp [d1]
    have hvf : vfit P σ (some ⟨id, 0, none⟩) n c m info.size ⟨news⟩ = none := vfit_end rfl hb hend (by simpa using c5) d4
    rw [hvf]
    have hold : vfirst σ info.size n (.slice (some ⟨id, 0, none⟩) n c) = some b.cells := by
      unfold vfirst
      dsimp only
      rw [if_neg (by omega)]
      simp only [hb]
      rw [if_pos ⟨by rw [hfl]; decide, by omega⟩]
      congr 1
      apply Array.ext'
      rw [Array.toList_extract, List.extract_eq_take_drop]
      simp [← d1]
      exact List.take_of_length_le (by simp)
    simp only [if_pos hcond, hb, hold, hfl, if_pos (show 0 + n * info.size = b.cells.size ∧ b.esz = info.size ∧ b.elem = e from ⟨by omega, d2, d3⟩)]
    refine ⟨_, rfl, ?_⟩
    have e1 : (⟨b.cells.toList ++ news⟩ : Array Value) = b.cells ++ ⟨news⟩ := by apply Array.ext'; simp
    rw [← e1]
    exact r3
noncomputable def u8F (s : ByteArray) : List Value := mapF (fun b => .int .u8 (b.toNat : Int)) s.data.toList
noncomputable def vconvertF (P : Program) (h : HF) (src dst : TypeId) (x : Value) : Option (Value × HF) :=
  match P.underlying src, P.underlying dst, x with
  | some .string, some (.slice e), .string s =>
    match P.underlying e with
    | some (.int .u8) => fNat s.size fun n => h.push (.cells ⟨⟨u8F s⟩, e, .tip, false, h.n, 1⟩) fun h' => some (.slice (some ⟨h.n, 0, none⟩) n n, h')
    | _ => none
  | some (.slice e), some .string, .slice (some a) n c =>
    match P.underlying e with
    | some (.int .u8) =>
      match vfirstF h 1 n (.slice (some a) n c) with
      | some cs => match toBytes cs with
        | some bs => some (.string ⟨⟨bs⟩⟩, h)
        | none => none
      | none => none
    | _ => none
  | some (.pointer t), some .unsafePointer, .pointer (some ⟨id, off, none⟩) =>
    match h.get id, P.info? t with
    | some (.cells b), some j => if b.fl ≠ .dead ∧ j.size ≠ 0 ∧ off < b.cells.size then some (.pointer (some ⟨id, off, none⟩), h) else none
    | _, _ => none
  | some .unsafePointer, some (.pointer u), .pointer (some ⟨id, off, none⟩) =>
    match h.get id, P.info? u with
    | some (.cells b), some _ => if b.fl = .ex ∧ liesAt P P.depth b.elem (b.cells.size / P.cellsOf b.elem) off u 1 = true then some (.pointer (some ⟨id, off, none⟩), h) else none
    | _, _ => none
  | _, _, _ => none
theorem u8F_eq (s : ByteArray) : (⟨u8F s⟩ : Array Value) = u8s s := by
  unfold u8F u8s
  rw [mapF_eq]
  apply Array.ext'
  simp
theorem vconvertF_ok (r : HRep h σ) {src dst : TypeId} {x v : Value} (hx : vconvertF P h src dst x = some (v, h')) : ∃ σ', vconvert P σ src dst x = some (v, σ') ∧ HRep h' σ' := by
  unfold vconvertF at hx
  unfold vconvert
  split at hx
  · rename_i e s hs hd
    simp only [hs, hd]
    split at hx
    case h_2 => cases hx
    rename_i he
    simp only [he]
    rw [fNat_eq, r.size] at hx
    obtain ⟨h1, r1, hx⟩ := r.push hx
    cases hx
    rw [u8F_eq] at r1
    exact ⟨_, rfl, r1⟩
  · rename_i e a n c hs hd
    simp only [hs, hd]
    split at hx
    case h_2 => cases hx
    rename_i he
    simp only [he]
    split at hx
    case h_2 => cases hx
    rename_i cs hcs
    split at hx
    case h_2 => cases hx
    rename_i bs hbs
    cases hx
    simp only [vfirstF_ok r hcs, Option.map_some, hbs]
    exact ⟨σ, rfl, r⟩
  · rename_i t id off hs hd
    simp only [hs, hd]
    rw [r.look] at hx
    split at hx
    case h_2 => cases hx
    rename_i b j h1 h2
    split at hx
    case isFalse => cases hx
    rename_i hc
    cases hx
    simp only [h1, h2, if_pos hc]
    exact ⟨σ, rfl, r⟩
  · rename_i u id off hs hd
    simp only [hs, hd]
    rw [r.look] at hx
    split at hx
    case h_2 => cases hx
    rename_i b j h1 h2
    split at hx
    case isFalse => cases hx
    rename_i hc
    cases hx
    simp only [h1, h2, if_pos hc]
    exact ⟨σ, rfl, r⟩
  · cases hx
noncomputable def vmnzF (P : Program) (fn : Func) (args : Array Value) (h : HF) : Option (Value × HF) :=
  match fn.resultTypes, args with
  | ⟨[t]⟩, ⟨[.int .i64 (.ofNat n)]⟩ =>
    match P.underlying t with
    | some (.slice e) => if n ≤ 281474976710656 then h.push (.cells ⟨#[], e, .tip, false, h.n, 1⟩) fun h' => some (.slice (some ⟨h.n, 0, none⟩) n n, h') else none
    | _ => none
  | _, _ => none
theorem vmnzF_ok (r : HRep h σ) {fn : Func} {args : Array Value} {v : Value} (hx : vmnzF P fn args h = some (v, h')) : ∃ σ', vmnz P fn args σ = some (v, σ') ∧ HRep h' σ' := by
  unfold vmnzF at hx
  unfold vmnz
  split at hx
  case h_2 => cases hx
  rename_i t n hr
  split at hx
  case h_2 => cases hx
  rename_i e hu
  split at hx
  case isFalse => cases hx
  rename_i hn
  rw [r.size] at hx
  obtain ⟨h1, r1, hx⟩ := r.push hx
  cases hx
  simp only [hr, hu, if_pos hn]
  exact ⟨_, rfl, r1⟩
noncomputable def vustrF (P : Program) (h : HF) (ts : Array TypeId) (p len : Value) : Option (Value × HF) :=
  match ts, p, len with
  | ⟨[pt, _]⟩, .pointer (some ⟨id, off, none⟩), .int .i64 (.ofNat n) =>
    match P.underlying pt, h.get id with
    | some (.pointer e), some (.cells b) =>
      if b.fl = .tip ∧ b.elem = e ∧ P.cellsOf e = 1 ∧ 0 < n ∧ off + n ≤ lenA b.cells.toList 0 ∧ n ≤ 9223372036854775807 then
        match toBytes (takeF (dropF b.cells.toList off) n) with
        | some bs => h.set id (.cells ⟨b.cells, b.elem, .old, b.kin, b.root, b.esz⟩) fun h' => some (.string ⟨⟨bs⟩⟩, h')
        | none => none
      else none
    | _, _ => none
  | _, _, _ => none
theorem vustrF_ok (r : HRep h σ) {ts : Array TypeId} {p len v : Value} (hx : vustrF P h ts p len = some (v, h')) : ∃ σ', vustr P σ ts p len = some (v, σ') ∧ HRep h' σ' := by
  unfold vustrF at hx
  unfold vustr
  split at hx
  case h_2 => cases hx
  rename_i pt it id off n
  rw [r.look] at hx
  split at hx
  case h_2 => cases hx
  rename_i e b hu hg
  split at hx
  case isFalse => cases hx
  rename_i hc
  rw [lenA_eq, Nat.zero_add] at hc
  split at hx
  case h_2 => cases hx
  rename_i bs hbs
  obtain ⟨h1, r1, hx⟩ := r.set hx
  cases hx
  have hc' : b.fl = .tip ∧ b.elem = e ∧ P.cellsOf e = 1 ∧ 0 < n ∧ off + n ≤ b.cells.size ∧ n ≤ 9223372036854775807 := by simpa using hc
  rw [takeF_eq, dropF_eq] at hbs
  have hbs' : toBytes (b.cells.extract off (off + n)).toList = some bs := by
    rw [Array.toList_extract, List.extract_eq_take_drop, show off + n - off = n by omega]
    exact hbs
  simp only [hu, hg, if_pos hc', hbs']
  exact ⟨_, rfl, r1⟩
end
end Vm
end Go.Proofs.Ytjgfhdabcahokaa
