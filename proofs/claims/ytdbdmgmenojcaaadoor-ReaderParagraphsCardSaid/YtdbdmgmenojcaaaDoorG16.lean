/- The machine's own code run over the quick memory; the operations that have rules of their own, over it. -/
import Derived.Test.YtdbdmgmenojcaaaDoorG15
set_option linter.unusedVariables false
set_option linter.unusedSimpArgs false
namespace Go.Proofs.YtdbdmgmenojcaaaDoor
namespace Vm
set_option linter.unusedSimpArgs false
set_option linter.unusedVariables false
open Go.RowKit

section
variable {α β : Type} {P : Program} {h h' : HF} {σ : VHeap}
noncomputable def cellF (h : HF) (a : Addr) : Option Value := match a.spot with
  | none => match h.get a.block with
    | some (.cells b) => match b.fl with
      | .dead => none
      | _ => nthO b.cells.toList a.off
    | _ => none
  | _ => none
theorem cellF_eq (r : HRep h σ) (a : Addr) : cellF h a = cell? σ a := by
  unfold cellF cell?
  rw [r.look]
  cases a.spot with
  | some x => rfl
  | none =>
    cases σ[a.block]? with
    | none => rfl
    | some o =>
      cases o with
      | cells b =>
        dsimp only
        cases hb : b.fl <;> simp [nthO_eq]
      | _ => rfl
noncomputable def setCellF (h : HF) (a : Addr) (v : Value) (k : HF → Option β) : Option β := match a.spot with
  | none => match h.get a.block with
    | some (.cells b) => match nthO b.cells.toList a.off with
      | some _ => match b.fl with
        | .ex => fLeaf v fun v => setS v b.cells.toList a.off fun l => h.set a.block (.cells ⟨⟨l⟩, b.elem, .ex, false, b.root, b.esz⟩) k
        | .tip => Bool.rec (motive := fun _ => Option β) (fLeaf v fun v => setS v b.cells.toList a.off fun l => h.set a.block (.cells ⟨⟨l⟩, b.elem, .tip, false, b.root, b.esz⟩) k)
            (h.kill b.root fun h => fLeaf v fun v => setS v b.cells.toList a.off fun l => h.set a.block (.cells ⟨⟨l⟩, b.elem, .tip, false, b.root, b.esz⟩) k) b.kin
        | _ => none
      | none => none
    | _ => none
  | _ => none
theorem put_eq (b : Blk) (i : Nat) (v : Value) : b.put i v = ⟨⟨b.cells.toList.set i v⟩, b.elem, b.fl, false, b.root, b.esz⟩ := by
  unfold Blk.put
  congr 1
  apply Array.ext'
  simp
theorem setCellF_ok (r : HRep h σ) {a : Addr} {v : Value} {k : HF → Option β} {x : β} (hx : setCellF h a v k = some x) : ∃ σ' h', setCell σ a v = some σ' ∧ HRep h' σ' ∧ k h' = some x := by
  unfold setCellF at hx
  unfold setCell
  rw [r.look] at hx
  split at hx
  case h_2 => cases hx
  rename_i hsp
  split at hx
  case h_2 => cases hx
  rename_i b hb
  rw [nthO_eq] at hx
  split at hx
  case h_2 => cases hx
  rename_i u hu
  have hlt : a.off < b.cells.size := by
    have := (List.getElem?_eq_some_iff.1 hu).1
    simpa using this
  simp only [hsp, hb, hlt, if_true]
  split at hx
  · rename_i hfl
    rw [fLeaf_eq, setS_eq] at hx
    obtain ⟨h', r', hx⟩ := r.set hx
    refine ⟨_, h', by rw [hfl], ?_, hx⟩
    rw [put_eq, hfl]; exact r'
  · rename_i hfl
    cases hk : b.kin with
    | false =>
      rw [hk] at hx
      have hx : (fLeaf v fun v => setS v b.cells.toList a.off fun l => h.set a.block (.cells ⟨⟨l⟩, b.elem, .tip, false, b.root, b.esz⟩) k) = some x := hx
      rw [fLeaf_eq, setS_eq] at hx
      obtain ⟨h', r', hx⟩ := r.set hx
      refine ⟨_, h', by rw [hfl], ?_, hx⟩
      rw [put_eq, hfl]; exact r'
    | true =>
      rw [hk] at hx
      have hx : (h.kill b.root fun h => fLeaf v fun v => setS v b.cells.toList a.off fun l => h.set a.block (.cells ⟨⟨l⟩, b.elem, .tip, false, b.root, b.esz⟩) k) = some x := hx
      obtain ⟨h1, r1, hx⟩ := r.kill hx
      rw [fLeaf_eq, setS_eq] at hx
      obtain ⟨h', r', hx⟩ := r1.set hx
      refine ⟨_, h', by rw [hfl], ?_, hx⟩
      rw [put_eq, hfl]; exact r'
  · cases hx
noncomputable def vrunF (P : Program) (s : Sem α) : HF → Option (α × HF) :=
  Sem.rec (motive := fun _ => HF → Option (α × HF))
    (fun a h => some (a, h))
    (fun m a k ih h => match m with
      | .plain => match cellF h a with
        | some v => ih v h
        | none => none
      | _ => none)
    (fun m a v k ih h => match m with
      | .plain => Bool.rec (motive := fun _ => Option (α × HF)) none (setCellF h a v ih) v.oneCell'
      | _ => none)
    (fun o k ih h => match o with
      | .cells c e (0, 0) => h.push (.cells ⟨c, e, .ex, false, h.n, 0⟩) (ih h.n)
      | .map ⟨[]⟩ 0 => h.push (.map #[] 0) (ih h.n)
      | .stringIter s p => h.push (.iter s p) (ih h.n)
      | _ => none)
    (fun _ _ _ _ => none) (fun _ _ _ _ _ => none) (fun _ _ _ _ => none)
    (fun r k ih h => match h.get r with
      | some (.map es c) => ih (.map es c) h
      | some (.rmap es c) => ih (.map es c) h
      | some (.iter s p) => ih (.stringIter s p) h
      | _ => none)
    (fun r o k ih h => match h.get r, o with
      | some (.map _ _), .map es c => fObj (.map es c) fun o => h.set r o ih
      | some (.iter _ _), .stringIter s p => fObj (.iter s p) fun o => h.set r o ih
      | _, _ => none)
    (fun _ _ _ _ => none) (fun _ _ _ _ => none)
    (fun k ih => ih P) (fun _ k ih => ih) (fun _ _ => none) s
theorem vrunF_load (m : Mode) (ad : Addr) (k : Value → Sem α) (h : HF) : vrunF P (.load m ad k) h = match m with
      | .plain => match cellF h ad with
        | some v => vrunF P (k v) h
        | none => none
      | _ => none := rfl
theorem vrunF_store (m : Mode) (ad : Addr) (v : Value) (k : Sem α) (h : HF) : vrunF P (.store m ad v k) h = match m with
      | .plain => Bool.rec (motive := fun _ => Option (α × HF)) none (setCellF h ad v (vrunF P k)) v.oneCell'
      | _ => none := rfl
theorem vrunF_new (o : Obj) (k : Nat → Sem α) (h : HF) : vrunF P (.new o k) h = match o with
      | .cells c e (0, 0) => h.push (.cells ⟨c, e, .ex, false, h.n, 0⟩) (vrunF P (k h.n))
      | .map ⟨[]⟩ 0 => h.push (.map #[] 0) (vrunF P (k h.n))
      | .stringIter s p => h.push (.iter s p) (vrunF P (k h.n))
      | _ => none := rfl
theorem vrunF_getObj (q : Nat) (k : Obj → Sem α) (h : HF) : vrunF P (.getObj q k) h = match h.get q with
      | some (.map es c) => vrunF P (k (.map es c)) h
      | some (.rmap es c) => vrunF P (k (.map es c)) h
      | some (.iter s p) => vrunF P (k (.stringIter s p)) h
      | _ => none := rfl
theorem vrunF_setObj (q : Nat) (o : Obj) (k : Sem α) (h : HF) : vrunF P (.setObj q o k) h = match h.get q, o with
      | some (.map _ _), .map es c => fObj (.map es c) fun o => h.set q o (vrunF P k)
      | some (.iter _ _), .stringIter s p => fObj (.iter s p) fun o => h.set q o (vrunF P k)
      | _, _ => none := rfl
theorem vrunF_ok (s : Sem α) : ∀ {h : HF} {σ : VHeap} {a : α} {h' : HF}, HRep h σ → vrunF P s h = some (a, h') → ∃ σ', vrun P s σ = some (a, σ') ∧ HRep h' σ' := by
  induction s with
  | pure b => intro h σ a h' r hx; cases hx; exact ⟨σ, rfl, r⟩
  | load m ad k ih =>
    intro h σ a h' r hx
    cases m with
    | atomic => cases hx
    | plain =>
      rw [vrunF_load] at hx
      dsimp only at hx
      rw [cellF_eq r] at hx
      simp only [vrun]
      split at hx
      · rename_i v hv; simp only [hv]; exact ih v r hx
      · cases hx
  | store m ad v k ih =>
    intro h σ a h' r hx
    cases m with
    | atomic => cases hx
    | plain =>
      rw [vrunF_store] at hx
      dsimp only at hx
      simp only [vrun]
      cases ho : v.oneCell' with
      | false => rw [ho] at hx; cases hx
      | true =>
        rw [ho] at hx
        obtain ⟨σ1, h1, e1, r1, hx⟩ := setCellF_ok r hx
        simp only [e1]
        exact ih r1 hx
  | new o k ih =>
    intro h σ a h' r hx
    rw [vrunF_new] at hx
    rw [r.size] at hx
    split at hx
    · obtain ⟨h1, r1, hx⟩ := r.push hx; exact ih _ r1 hx
    · obtain ⟨h1, r1, hx⟩ := r.push hx; exact ih _ r1 hx
    · obtain ⟨h1, r1, hx⟩ := r.push hx; exact ih _ r1 hx
    · cases hx
  | shape r k ih => intro h σ a h' r hx; cases hx
  | freeze a n k ih => intro h σ a h' r hx; cases hx
  | frozen a k ih => intro h σ a h' r hx; cases hx
  | getObj q k ih =>
    intro h σ a h' r hx
    rw [vrunF_getObj] at hx
    rw [r.look] at hx
    simp only [vrun]
    split at hx
    · rename_i es c hg; simp only [hg]; exact ih _ r hx
    · rename_i es c hg; simp only [hg]; exact ih _ r hx
    · rename_i es c hg; simp only [hg]; exact ih _ r hx
    · cases hx
  | setObj q o k ih =>
    intro h σ a h' r hx
    rw [vrunF_setObj] at hx
    rw [r.look] at hx
    simp only [vrun]
    split at hx
    · rename_i es c es' c' hg
      simp only [hg]
      rw [fObj_eq] at hx
      obtain ⟨h1, r1, hx⟩ := r.set hx
      exact ih r1 hx
    · rename_i es c es' c' hg
      simp only [hg]
      rw [fObj_eq] at hx
      obtain ⟨h1, r1, hx⟩ := r.set hx
      exact ih r1 hx
    · cases hx
  | choose q k ih => intro h σ a h' r hx; cases hx
  | sys c k ih => intro h σ a h' r hx; cases hx
  | program k ih => intro h σ a h' r hx; exact ih P r hx
  | mark m k ih => intro h σ a h' r hx; exact ih r hx
  | halt x => intro h σ a h' r hx; cases hx
/- Lists, quickly. -/
noncomputable def lenA (l : List β) : Nat → Nat := List.rec (motive := fun _ => Nat → Nat) (fun n => n) (fun _ _ ih n => fNat (Nat.succ n) ih) l
theorem lenA_eq (l : List β) (n : Nat) : lenA l n = n + l.length := by
  induction l generalizing n with
  | nil => rfl
  | cons a l ih =>
    show fNat (Nat.succ n) (lenA l) = _
    rw [fNat_eq, ih, List.length_cons]; omega
noncomputable def takeF (l : List β) : Nat → List β := List.rec (motive := fun _ => Nat → List β) (fun _ => []) (fun a _ ih n => Nat.rec (motive := fun _ => List β) [] (fun m _ => a :: ih m) n) l
theorem takeF_eq (l : List β) (n : Nat) : takeF l n = l.take n := by
  induction l generalizing n with
  | nil => cases n <;> rfl
  | cons a l ih =>
    cases n with
    | zero => rfl
    | succ n => show a :: takeF l n = _; rw [ih]; rfl
noncomputable def dropF (l : List β) : Nat → List β := List.rec (motive := fun _ => Nat → List β) (fun _ => []) (fun a l ih n => Nat.rec (motive := fun _ => List β) (a :: l) (fun m _ => ih m) n) l
theorem dropF_eq (l : List β) (n : Nat) : dropF l n = l.drop n := by
  induction l generalizing n with
  | nil => cases n <;> rfl
  | cons a l ih =>
    cases n with
    | zero => rfl
    | succ n => show dropF l n = _; rw [ih]; rfl
noncomputable def appF (l m : List β) : List β := List.rec (motive := fun _ => List β) m (fun a _ ih => a :: ih) l
theorem appF_eq (l m : List β) : appF l m = l ++ m := by
  induction l with
  | nil => rfl
  | cons a l ih => show a :: appF l m = _; rw [ih]; rfl
noncomputable def mapF (f : α → β) (l : List α) : List β := List.rec (motive := fun _ => List β) [] (fun a _ ih => f a :: ih) l
theorem mapF_eq (f : α → β) (l : List α) : mapF f l = l.map f := by
  induction l with
  | nil => rfl
  | cons a l ih => show f a :: mapF f l = _; rw [ih]; rfl
noncomputable def allF (f : α → Bool) (l : List α) : Bool := List.rec (motive := fun _ => Bool) true (fun a _ ih => Bool.rec (motive := fun _ => Bool) false ih (f a)) l
theorem allF_eq (f : α → Bool) (l : List α) : allF f l = l.all f := by
  induction l with
  | nil => rfl
  | cons a l ih =>
    show Bool.rec (motive := fun _ => Bool) false (allF f l) (f a) = _
    rw [ih, List.all_cons]
    cases f a <;> rfl
/- The operations. -/
noncomputable def gfindF (h : HF) (g : Nat) : Nat → Nat → Option Nat
  | 0, _ => none
  | n + 1, k => match h.get k with
    | some (.cells b) => bif decide (b.fl = .ro) && b.kin then (bif b.root == g then some k else gfindF h g n (k + 1)) else none
    | _ => none
theorem gfindF_eq (r : HRep h σ) (g : Nat) : ∀ n k, gfindF h g n k = gfind σ g n k
  | 0, _ => rfl
  | n + 1, k => by
    unfold gfindF gfind
    rw [r.look]
    cases σ[k]? with
    | none => rfl
    | some o => cases o <;> simp only [gfindF_eq r g n]
noncomputable def gresF (h : HF) (v : Value) : Value := match v with
  | .chan (some g) => match gfindF h g 16 0 with
    | some id => .pointer (some ⟨id, 0, none⟩)
    | none => v
  | v => v
theorem gresF_eq (r : HRep h σ) (v : Value) : gresF h v = gres σ v := by
  unfold gresF gres
  split
  · simp only [gfindF_eq r]
    rfl
  · rename_i hv; split
    · rename_i g; exact absurd rfl (hv g)
    · rfl
noncomputable def vsliceF (P : Program) (h : HF) (t : TypeId) (x : Value) (lo hi mx : Option Value) : Option Value :=
  match P.underlying t, x with
  | some (.slice elem), .slice (some a) n c =>
    match P.info? elem, pv P (Instr.sliceBounds true n c lo hi mx), a.spot, h.get a.block with
    | some info, some (l, h, m), none, some (.cells b) =>
      match b.fl with
      | .ex => some (.slice (some (if m = l then a else a.add (l * info.size))) (h - l) (m - l))
      | .dead => none
      | fl =>
        if l < m then (if fl = .ro ∨ b.esz = info.size then some (.slice (some (a.add (l * info.size))) (h - l) (m - l)) else none)
        else if h = l then some (.slice (some ⟨a.block, a.off, some 0⟩) 0 0) else none
    | some _, some (_, _, _), some 0, _ => some (.slice (some a) 0 0)
    | _, _, _, _ => none
  | some (.array n elem), .pointer (some a) =>
    match P.info? elem, pv P (Instr.sliceBounds false n n lo hi mx), h.get a.block with
    | some info, some (l, h, m), some (.cells b) => if b.fl = .ex ∨ b.fl = .ro then some (.slice (some (if m = l then a else a.add (l * info.size))) (h - l) (m - l)) else none
    | _, _, _ => none
  | some (.pointer arr), .pointer (some a) =>
    match P.underlying arr with
    | some (.array n elem) =>
      match P.info? elem, pv P (Instr.sliceBounds false n n lo hi mx), h.get a.block with
      | some info, some (l, h, m), some (.cells b) => if b.fl = .ex ∨ b.fl = .ro then some (.slice (some (if m = l then a else a.add (l * info.size))) (h - l) (m - l)) else none
      | _, _, _ => none
    | _ => none
  | _, _ => none
theorem vsliceF_eq (r : HRep h σ) (t : TypeId) (x : Value) (lo hi mx : Option Value) : vsliceF P h t x lo hi mx = vslice P σ t x lo hi mx := by
  unfold vsliceF vslice
  simp only [r.look]
  rfl
noncomputable def vfirstF (h : HF) (size m : Nat) : Value → Option (List Value)
  | .slice (some a) _ _ =>
    if m * size = 0 then some [] else
    match a.spot, h.get a.block with
    | none, some (.cells b) => match b.fl with
      | .dead => none
      | _ => if a.off + m * size ≤ lenA b.cells.toList 0 then some (takeF (dropF b.cells.toList a.off) (m * size)) else none
    | _, _ => none
  | .slice none _ _ => some []
  | .string s => some (mapF (fun b => .int .u8 b.toNat) (takeF s.data.toList m))
  | _ => none
theorem vfirstF_ok (r : HRep h σ) {size m : Nat} {x : Value} {l : List Value} (hx : vfirstF h size m x = some l) : vfirst σ size m x = some ⟨l⟩ := by
  unfold vfirstF at hx
  unfold vfirst
  split at hx
  · rename_i a n c
    dsimp only
    split at hx
    · rename_i h0; cases hx; rw [if_pos h0]
    · rename_i h0
      rw [if_neg h0]
      rw [r.look] at hx
      split at hx
      · rename_i b h1 h2
        simp only [h1, h2]
        split at hx
        · cases hx
        · rename_i hd
          split at hx
          case isFalse => cases hx
          rename_i hle
          rw [lenA_eq] at hle
          cases hx
          have hle' : a.off + m * size ≤ b.cells.size := by simpa using hle
          rw [if_pos ⟨fun e => hd e, hle'⟩, takeF_eq, dropF_eq]
          congr 1
          apply Array.ext'
          rw [Array.toList_extract, List.extract_eq_take_drop]
          simp
      · cases hx
  · cases hx; rfl
  · rename_i s
    cases hx
    dsimp only
    congr 1
    apply Array.ext'
    rw [mapF_eq, takeF_eq]
    rw [ByteArray.data_extract]
    simp
  · cases hx
noncomputable def vfitF (P : Program) (h : HF) (base : Option Addr) (n c m size : Nat) (news : List Value) : Option (Value × HF) :=
  if n + m ≤ c then
    match base with
    | none => some (.slice none (n + m) c, h)
    | some a =>
      match vrunF P (storeCells (a.add (n * size)) news) h with
      | some (_, h') => some (.slice (some a) (n + m) c, h')
      | none => none
  else none
end
end Vm
end Go.Proofs.YtdbdmgmenojcaaaDoor
namespace Go.Proofs.YtdbdmgmenojcaaaDoor
namespace Vm
set_option linter.unusedSimpArgs false
set_option linter.unusedVariables false
open Go.RowKit

section
variable {α β : Type} {P : Program} {h h' : HF} {σ : VHeap}
theorem vfitF_ok (r : HRep h σ) {base : Option Addr} {n c m size : Nat} {news : List Value} {v : Value} (hx : vfitF P h base n c m size news = some (v, h')) : ∃ σ', vfit P σ base n c m size ⟨news⟩ = some (v, σ') ∧ HRep h' σ' := by
  unfold vfitF at hx
  unfold vfit
  split at hx
  case isFalse => cases hx
  rename_i hfit
  rw [if_pos hfit]
  split at hx
  · cases hx; exact ⟨σ, rfl, r⟩
  · rename_i a
    split at hx
    case h_2 => cases hx
    rename_i u h1 hv
    cases hx
    obtain ⟨σ', e, r'⟩ := vrunF_ok _ r hv
    exact ⟨σ', by simp only [e], r'⟩
theorem vfit_none {base : Option Addr} {n c m size : Nat} {news : Array Value} (hn : ¬ n + m ≤ c) : vfit P σ base n c m size news = none := by
  unfold vfit
  rw [if_neg hn]
/-- A tip's end: nothing has room there. -/
theorem store_end (P : Program) {id off : Nat} {b : Blk} (hb : σ[id]? = some (.cells b)) (v : Value) (l : List Value) (hoff : b.cells.size ≤ off) : vrun P (storeCells ⟨id, off, none⟩ (v :: l)) σ = none := by
  unfold storeCells
  have e : (⟨id, off, none⟩ : Addr).add 0 = ⟨id, off, none⟩ := by simp [Addr.add]
  have h1 : ∀ w, setCell σ ⟨id, off, none⟩ w = none := fun w => by
    unfold setCell
    simp only [hb]
    rw [if_neg (by simpa using hoff)]
  show vrun P ((store ((⟨id, off, none⟩ : Addr).add 0) v).bind _) σ = none
  rw [e, vrun_bind]
  have : vrun P (store ⟨id, off, none⟩ v) σ = none := by
    show (match v.oneCell', setCell σ ⟨id, off, none⟩ v with
      | true, some σ' => vrun P (Sem.pure ()) σ'
      | _, _ => none) = none
    rw [h1]
    split
    · rename_i h2; cases h2
    · rfl
  rw [this]
  rfl
theorem vfit_end {a : Addr} {b : Blk} {n c m size : Nat} {news : List Value} (hsp : a.spot = none) (hb : σ[a.block]? = some (.cells b)) (hend : a.off + n * size = b.cells.size) (hn : news.length = m * size) (hc : ¬ n + m ≤ c ∨ 0 < m * size) :
    vfit P σ (some a) n c m size ⟨news⟩ = none := by
  by_cases hfit : n + m ≤ c
  · have hpos : 0 < m * size := by rcases hc with d4 | d4; exact absurd hfit d4; exact d4
    unfold vfit
    rw [if_pos hfit]
    obtain ⟨bl, o, sp⟩ := a
    simp only at hsp
    subst hsp
    simp only
    cases news with
    | nil => simp at hn; omega
    | cons y l =>
      have := store_end P (off := o + n * size) hb y l (by simp only at hend; omega)
      have e0 : (⟨bl, o, none⟩ : Addr).add (n * size) = ⟨bl, o + n * size, none⟩ := add_none ..
      rw [e0, this]
  · exact vfit_none hfit
noncomputable def vappendF (P : Program) (h : HF) (ts : Array TypeId) (s x : Value) : Option (Value × HF) :=
  match ts[0]?, ts[1]?, s, vlen x with
  | some t0, some t1, .slice base n c, some m =>
    match P.underlying t0, P.underlying t1 with
    | some (.slice e), some d1 =>
      match P.info? e with
      | some info =>
        bif isIntT d1 then none else
        match info.zero, vfirstF h info.size m x with
        | some z, some news =>
          match vfitF P h base n c m info.size news with
          | some r => some r
          | none =>
            if (2 * (n + m) + 256) * info.bytes ≤ 2 ^ 48 ∧ 0 < info.bytes ∧ z.cells.size = info.size ∧ allF Value.oneCell' news = true ∧ lenA news 0 = m * info.size then
              match base with
              | none => if n = 0 ∧ ¬ n + m ≤ c then h.push (.cells ⟨⟨news⟩, e, .tip, false, h.n, info.size⟩) fun h' => some (.slice (some ⟨h.n, 0, none⟩) (n + m) (n + m), h') else none
              | some a =>
                match a.spot, h.get a.block, vfirstF h info.size n (.slice (some a) n c) with
                | none, some (.cells b), some olds =>
                  match b.fl with
                  | .ex => if ¬ n + m ≤ c then h.push (.cells ⟨⟨appF olds news⟩, e, .tip, false, h.n, info.size⟩) fun h' => some (.slice (some ⟨h.n, 0, none⟩) (n + m) (n + m), h') else none
                  | .tip =>
                    if a.off + n * info.size = lenA b.cells.toList 0 ∧ b.esz = info.size ∧ b.elem = e ∧ (¬ n + m ≤ c ∨ 0 < m * info.size) then
                      h.set a.block (.cells ⟨b.cells, b.elem, .old, b.kin, b.root, b.esz⟩) fun h1 => h1.push (.cells ⟨⟨appF olds news⟩, e, .tip, true, b.root, info.size⟩) fun h' => some (.slice (some ⟨h.n, 0, none⟩) (n + m) (n + m), h')
                    else none
                  | _ => none
                | _, _, _ => none
            else none
        | _, _ => none
      | none => none
    | _, _ => none
  | _, _, _, _ => none
theorem app_arr (a b : List Value) : (⟨appF a b⟩ : Array Value) = (⟨a⟩ : Array Value) ++ ⟨b⟩ := by
  rw [appF_eq]; simp
theorem vappendF_ok (r : HRep h σ) {ts : Array TypeId} {s x v : Value} (hx : vappendF P h ts s x = some (v, h')) : ∃ σ', vappend P σ ts s x = some (v, σ') ∧ HRep h' σ' := by
  unfold vappendF at hx
  unfold vappend
  split at hx
  case h_2 => cases hx
  rename_i t0 t1 base n c m h0 h1 hl
  simp only [h0, h1, hl]
  split at hx
  case h_2 => cases hx
  rename_i e d1 hu0 hu1
  simp only [hu0, hu1]
  split at hx
  case h_2 => cases hx
  rename_i info hi
  simp only [hi]
  cases hd : isIntT d1 with
  | true => rw [hd] at hx; cases hx
  | false =>
    rw [hd] at hx
    simp only [cond_false] at hx
    rw [if_neg (by simp)]
    split at hx
    case h_2 => cases hx
    rename_i z news hz hnews
    simp only [hz, vfirstF_ok r hnews]
    split at hx
    · rename_i q hq
      cases hx
      obtain ⟨σ', e1, r'⟩ := vfitF_ok r hq
      exact ⟨σ', by simp only [e1], r'⟩
    · split at hx
      case isFalse => cases hx
      rename_i hc
      obtain ⟨c1, c2, c3, c4, c5⟩ := hc
      rw [allF_eq] at c4
      rw [lenA_eq, Nat.zero_add] at c5
      have hcond : (2 * (n + m) + 256) * info.bytes ≤ 2 ^ 48 ∧ 0 < info.bytes ∧ z.cells.size = info.size ∧ (⟨news⟩ : Array Value).all Value.oneCell' ∧ (⟨news⟩ : Array Value).size = m * info.size := ⟨c1, c2, c3, by simpa using c4, by simpa using c5⟩
      split at hx
      · split at hx
        case isFalse => cases hx
        rename_i hn
        rw [r.size] at hx
        obtain ⟨h1, r1, hx⟩ := r.push hx
        cases hx
        rw [vfit_none hn.2]
        simp only [if_pos hcond, if_pos hn]
        exact ⟨_, rfl, r1⟩
      · rename_i a _
        rw [r.look] at hx
        split at hx
        case h_2 => cases hx
        rename_i b olds hsp hb hold
        have hold' := vfirstF_ok r hold
        split at hx
        · rename_i hfl
          split at hx
          case isFalse => cases hx
          rename_i hfit
          rw [r.size] at hx
          obtain ⟨h1, r1, hx⟩ := r.push hx
          cases hx
          rw [vfit_none hfit]
          simp only [if_pos hcond, hsp, hb, hold', hfl, if_pos hfit, ← app_arr]
          exact ⟨_, rfl, r1⟩
        · rename_i hfl
          split at hx
          case isFalse => cases hx
          rename_i hc2
          obtain ⟨d1', d2, d3, d4⟩ := hc2
          rw [lenA_eq, Nat.zero_add] at d1'
          have d1 : a.off + n * info.size = b.cells.size := by simpa using d1'
          obtain ⟨h1, r1, hx⟩ := r.set hx
          rw [r.size] at hx
          have hs1 : σ.size = (σ.setIfInBounds a.block (.cells b.aged)).size := by simp
          obtain ⟨h2, r2, hx⟩ := r1.push hx
          cases hx
          have hvf : vfit P σ (some a) n c m info.size ⟨news⟩ = none := vfit_end hsp hb d1 (by simpa using c5) d4
          rw [hvf]
          simp only [if_pos hcond, hsp, hb, hold', hfl, if_pos (show a.off + n * info.size = b.cells.size ∧ b.esz = info.size ∧ b.elem = e from ⟨d1, d2, d3⟩), ← app_arr]
          exact ⟨_, rfl, r2⟩
        · cases hx
/-- The whole of a row, and more behind it: in one pass. -/
noncomputable def appN {α : Type} (news : List α) (l : List α) : Nat → (List α → Option β) → Option β :=
  List.rec (motive := fun _ => Nat → (List α → Option β) → Option β) (fun r k => Nat.rec (motive := fun _ => Option β) (k news) (fun _ _ => none) r)
    (fun a _ ih r k => Nat.rec (motive := fun _ => Option β) none (fun r' _ => ih r' fun l => k (a :: l)) r) l
theorem appN_ok {α : Type} (news : List α) : ∀ (l : List α) (r : Nat) (k : List α → Option β) (x : β), appN news l r k = some x → l.length = r ∧ k (l ++ news) = some x
  | [], r, k, x, h => by
    cases r with
    | zero => exact ⟨rfl, h⟩
    | succ r => cases h
  | a :: l, r, k, x, h => by
    cases r with
    | zero => cases h
    | succ r =>
      have h : appN news l r (fun l => k (a :: l)) = some x := h
      obtain ⟨h1, h2⟩ := appN_ok news l r _ x h
      exact ⟨by rw [List.length_cons, h1], h2⟩
noncomputable def HF.pushN (h : HF) (o : VObj) (k : HF → Option β) : Option β := Bool.rec (motive := fun _ => Option β) none (h.t.setF o 13 h.n fun t => k ⟨Nat.succ h.n, t⟩) (Nat.ble (h.n + 1) 8192)
theorem HF.pushN_eq (h : HF) (o : VObj) (k : HF → Option β) : h.pushN o k = h.push o k := by
  unfold HF.pushN HF.push
  rw [fObj_eq]
noncomputable def vappendQ (P : Program) (h : HF) (ts : Array TypeId) (s x : Value) : Option (Value × HF) :=
  match ts[0]?, ts[1]?, s, vlen x with
  | some t0, some t1, .slice (some ⟨id, 0, none⟩) n c, some m =>
    match P.underlying t0, P.underlying t1 with
    | some (.slice e), some d1 =>
      match P.info? e with
      | some info =>
        bif isIntT d1 then none else
        match info.zero, vfirstF h info.size m x with
        | some z, some news =>
            if (2 * (n + m) + 256) * info.bytes ≤ 2 ^ 48 ∧ 0 < info.bytes ∧ z.cells.size = info.size ∧ allF Value.oneCell' news = true ∧ lenA news 0 = m * info.size ∧ 0 < n * info.size then
              fList fLeaf news fun news =>
              match h.get id with
              | some (.cells b) =>
                  match b.fl with
                  | .tip =>
                    if b.esz = info.size ∧ b.elem = e ∧ (¬ n + m ≤ c ∨ 0 < m * info.size) then
                      appN news b.cells.toList (n * info.size) fun l =>
                      h.set id (.cells ⟨b.cells, b.elem, .old, b.kin, b.root, b.esz⟩) fun h1 => h1.pushN (.cells ⟨⟨l⟩, e, .tip, true, b.root, info.size⟩) fun h' => fNat (n + m) fun q => some (.slice (some ⟨h.n, 0, none⟩) q q, h')
                    else none
                  | _ => none
              | _ => none
            else none
        | _, _ => none
      | none => none
    | _, _ => none
  | _, _, _, _ => none
theorem vappendQ_ok (r : HRep h σ) {ts : Array TypeId} {s x v : Value} (hx : vappendQ P h ts s x = some (v, h')) : ∃ σ', vappend P σ ts s x = some (v, σ') ∧ HRep h' σ' := by
  unfold vappendQ at hx
  unfold vappend
  split at hx
  case h_2 => cases hx
  rename_i t0 t1 id n c m h0 h1 hl
  simp only [h0, h1, hl]
  split at hx
  case h_2 => cases hx
  rename_i e d1 hu0 hu1
  simp only [hu0, hu1]
  split at hx
  case h_2 => cases hx
  rename_i info hi
  simp only [hi]
  cases hd : isIntT d1 with
  | true => rw [hd] at hx; cases hx
  | false =>
    rw [hd] at hx
    simp only [cond_false] at hx
    rw [if_neg (by simp)]
    split at hx
    case h_2 => cases hx
    rename_i z news hz hnews
    simp only [hz, vfirstF_ok r hnews]
    split at hx
    case isFalse => cases hx
    rename_i hc
    obtain ⟨c1, c2, c3, c4, c5, c6⟩ := hc
    rw [allF_eq] at c4
    rw [lenA_eq, Nat.zero_add] at c5
    have hcond : (2 * (n + m) + 256) * info.bytes ≤ 2 ^ 48 ∧ 0 < info.bytes ∧ z.cells.size = info.size ∧ (⟨news⟩ : Array Value).all Value.oneCell' ∧ (⟨news⟩ : Array Value).size = m * info.size := ⟨c1, c2, c3, by simpa using c4, by simpa using c5⟩
    rw [fList_eq fLeaf_eq, r.look] at hx
    split at hx
    case h_2 => cases hx
    rename_i b hb
    split at hx
    case h_2 => cases hx
    rename_i hfl
    split at hx
    case isFalse => cases hx
    rename_i hc2
    obtain ⟨d2, d3, d4⟩ := hc2
    obtain ⟨d1, hx⟩ := appN_ok _ _ _ _ _ hx
    rw [Array.length_toList] at d1
    obtain ⟨h2, r2, hx⟩ := r.set hx
    rw [HF.pushN_eq, r.size] at hx
    obtain ⟨h3, r3, hx⟩ := r2.push hx
    rw [fNat_eq] at hx
    cases hx
    have hend : (⟨id, 0, none⟩ : Addr).off + n * info.size = b.cells.size := by simp [d1]
    have hvf : vfit P σ (some ⟨id, 0, none⟩) n c m info.size ⟨news⟩ = none := vfit_end rfl hb hend (by simpa using c5) d4
    rw [hvf]
    have hold : vfirst σ info.size n (.slice (some ⟨id, 0, none⟩) n c) = some b.cells := by
      unfold vfirst
      dsimp only
      rw [if_neg (by omega)]
      simp only [hb]
      rw [if_pos ⟨by rw [hfl]; decide, by omega⟩]
      congr 1
      apply Array.ext'
      rw [Array.toList_extract, List.extract_eq_take_drop]
      simp [← d1]
      exact List.take_of_length_le (by simp)
    simp only [if_pos hcond, hb, hold, hfl, if_pos (show 0 + n * info.size = b.cells.size ∧ b.esz = info.size ∧ b.elem = e from ⟨by omega, d2, d3⟩)]
    refine ⟨_, rfl, ?_⟩
    have e1 : (⟨b.cells.toList ++ news⟩ : Array Value) = b.cells ++ ⟨news⟩ := by apply Array.ext'; simp
    rw [← e1]
    exact r3
noncomputable def u8F (s : ByteArray) : List Value := mapF (fun b => .int .u8 (b.toNat : Int)) s.data.toList
noncomputable def vconvertF (P : Program) (h : HF) (src dst : TypeId) (x : Value) : Option (Value × HF) :=
  match P.underlying src, P.underlying dst, x with
  | some .string, some (.slice e), .string s =>
    match P.underlying e with
    | some (.int .u8) => fNat s.size fun n => h.push (.cells ⟨⟨u8F s⟩, e, .tip, false, h.n, 1⟩) fun h' => some (.slice (some ⟨h.n, 0, none⟩) n n, h')
    | _ => none
  | some (.slice e), some .string, .slice (some a) n c =>
    match P.underlying e with
    | some (.int .u8) =>
      match vfirstF h 1 n (.slice (some a) n c) with
      | some cs => match toBytes cs with
        | some bs => some (.string ⟨⟨bs⟩⟩, h)
        | none => none
      | none => none
    | _ => none
  | some (.pointer t), some .unsafePointer, .pointer (some ⟨id, off, none⟩) =>
    match h.get id, P.info? t with
    | some (.cells b), some j => if b.fl ≠ .dead ∧ j.size ≠ 0 ∧ off < b.cells.size then some (.pointer (some ⟨id, off, none⟩), h) else none
    | _, _ => none
  | some .unsafePointer, some (.pointer u), .pointer (some ⟨id, off, none⟩) =>
    match h.get id, P.info? u with
    | some (.cells b), some _ => if b.fl = .ex ∧ liesAt P P.depth b.elem (b.cells.size / P.cellsOf b.elem) off u 1 = true then some (.pointer (some ⟨id, off, none⟩), h) else none
    | _, _ => none
  | _, _, _ => none
theorem u8F_eq (s : ByteArray) : (⟨u8F s⟩ : Array Value) = u8s s := by
  unfold u8F u8s
  rw [mapF_eq]
  apply Array.ext'
  simp
theorem vconvertF_ok (r : HRep h σ) {src dst : TypeId} {x v : Value} (hx : vconvertF P h src dst x = some (v, h')) : ∃ σ', vconvert P σ src dst x = some (v, σ') ∧ HRep h' σ' := by
  unfold vconvertF at hx
  unfold vconvert
  split at hx
  · rename_i e s hs hd
    simp only [hs, hd]
    split at hx
    case h_2 => cases hx
    rename_i he
    simp only [he]
    rw [fNat_eq, r.size] at hx
    obtain ⟨h1, r1, hx⟩ := r.push hx
    cases hx
    rw [u8F_eq] at r1
    exact ⟨_, rfl, r1⟩
  · rename_i e a n c hs hd
    simp only [hs, hd]
    split at hx
    case h_2 => cases hx
    rename_i he
    simp only [he]
    split at hx
    case h_2 => cases hx
    rename_i cs hcs
    split at hx
    case h_2 => cases hx
    rename_i bs hbs
    cases hx
    simp only [vfirstF_ok r hcs, Option.map_some, hbs]
    exact ⟨σ, rfl, r⟩
  · rename_i t id off hs hd
    simp only [hs, hd]
    rw [r.look] at hx
    split at hx
    case h_2 => cases hx
    rename_i b j h1 h2
    split at hx
    case isFalse => cases hx
    rename_i hc
    cases hx
    simp only [h1, h2, if_pos hc]
    exact ⟨σ, rfl, r⟩
  · rename_i u id off hs hd
    simp only [hs, hd]
    rw [r.look] at hx
    split at hx
    case h_2 => cases hx
    rename_i b j h1 h2
    split at hx
    case isFalse => cases hx
    rename_i hc
    cases hx
    simp only [h1, h2, if_pos hc]
    exact ⟨σ, rfl, r⟩
  · cases hx
noncomputable def vmnzF (P : Program) (fn : Func) (args : Array Value) (h : HF) : Option (Value × HF) :=
  match fn.resultTypes, args with
  | ⟨[t]⟩, ⟨[.int .i64 (.ofNat n)]⟩ =>
    match P.underlying t with
    | some (.slice e) => if n ≤ 281474976710656 then h.push (.cells ⟨#[], e, .tip, false, h.n, 1⟩) fun h' => some (.slice (some ⟨h.n, 0, none⟩) n n, h') else none
    | _ => none
  | _, _ => none
theorem vmnzF_ok (r : HRep h σ) {fn : Func} {args : Array Value} {v : Value} (hx : vmnzF P fn args h = some (v, h')) : ∃ σ', vmnz P fn args σ = some (v, σ') ∧ HRep h' σ' := by
  unfold vmnzF at hx
  unfold vmnz
  split at hx
  case h_2 => cases hx
  rename_i t n hr
  split at hx
  case h_2 => cases hx
  rename_i e hu
  split at hx
  case isFalse => cases hx
  rename_i hn
  rw [r.size] at hx
  obtain ⟨h1, r1, hx⟩ := r.push hx
  cases hx
  simp only [hr, hu, if_pos hn]
  exact ⟨_, rfl, r1⟩
noncomputable def vustrF (P : Program) (h : HF) (ts : Array TypeId) (p len : Value) : Option (Value × HF) :=
  match ts, p, len with
  | ⟨[pt, _]⟩, .pointer (some ⟨id, off, none⟩), .int .i64 (.ofNat n) =>
    match P.underlying pt, h.get id with
    | some (.pointer e), some (.cells b) =>
      if b.fl = .tip ∧ b.elem = e ∧ P.cellsOf e = 1 ∧ 0 < n ∧ off + n ≤ lenA b.cells.toList 0 ∧ n ≤ 9223372036854775807 then
        match toBytes (takeF (dropF b.cells.toList off) n) with
        | some bs => h.set id (.cells ⟨b.cells, b.elem, .old, b.kin, b.root, b.esz⟩) fun h' => some (.string ⟨⟨bs⟩⟩, h')
        | none => none
      else none
    | _, _ => none
  | _, _, _ => none
theorem vustrF_ok (r : HRep h σ) {ts : Array TypeId} {p len v : Value} (hx : vustrF P h ts p len = some (v, h')) : ∃ σ', vustr P σ ts p len = some (v, σ') ∧ HRep h' σ' := by
  unfold vustrF at hx
  unfold vustr
  split at hx
  case h_2 => cases hx
  rename_i pt it id off n
  rw [r.look] at hx
  split at hx
  case h_2 => cases hx
  rename_i e b hu hg
  split at hx
  case isFalse => cases hx
  rename_i hc
  rw [lenA_eq, Nat.zero_add] at hc
  split at hx
  case h_2 => cases hx
  rename_i bs hbs
  obtain ⟨h1, r1, hx⟩ := r.set hx
  cases hx
  have hc' : b.fl = .tip ∧ b.elem = e ∧ P.cellsOf e = 1 ∧ 0 < n ∧ off + n ≤ b.cells.size ∧ n ≤ 9223372036854775807 := by simpa using hc
  rw [takeF_eq, dropF_eq] at hbs
  have hbs' : toBytes (b.cells.extract off (off + n)).toList = some bs := by
    rw [Array.toList_extract, List.extract_eq_take_drop, show off + n - off = n by omega]
    exact hbs
  simp only [hu, hg, if_pos hc', hbs']
  exact ⟨_, rfl, r1⟩
end
end Vm
end Go.Proofs.YtdbdmgmenojcaaaDoor
namespace Go.Proofs.YtdbdmgmenojcaaaDoor
namespace Vm
set_option linter.unusedSimpArgs false
set_option linter.unusedVariables false
open Go.RowKit

inductive VNF where
  | val (v : Value) (h : HF)
  | skip (h : HF)
  | enter (f : FuncId) (args : Array Value) (h : HF)
  | pan (v : Value) (h : HF)
def vvF (r : Option (Value × HF)) : Option VNF :=
  match r with
  | some (v, h) => some (.val v h)
  | none => none
def vuF (r : Option (Unit × HF)) : Option VNF :=
  match r with
  | some (_, h) => some (.skip h)
  | none => none
noncomputable def vcallF (P : Program) (ev : Operand → Value) (c : Call) (type : TypeId) (h : HF) : Option VNF :=
  match c.callee with
  | .value f =>
    match ev f with
    | .func (.func g) first captured =>
      match P.funcs[g]? with
      | some fn => if fn.body.isSome = true ∧ fn.name ≠ "runtime.NumGoroutine" then some (.enter g (first ++ c.args.map ev ++ captured) h)
        else if fn.name = "internal/abi.NoEscape" ∧ fn.body.isNone = true ∧ (Extern.findNext fn).isNone = true then match first ++ c.args.map ev ++ captured with
          | ⟨[x]⟩ => some (.val x h)
          | _ => none
        else if fn.name = "internal/bytealg.MakeNoZero" ∧ fn.body.isNone = true ∧ (Extern.findNext fn).isNone = true then vvF (vmnzF P fn (first ++ c.args.map ev ++ captured) h)
        else none
      | none => none
    | _ => none
  | .invoke _ _ => none
  | .builtin b =>
    match b, c.args.map ev with
    | .append, ⟨[s, x]⟩ => match vappendQ P h c.argTypes s x with
      | some (v, h') => some (.val v h')
      | none => vvF (vappendF P h c.argTypes s x)
    | .len, ⟨[x]⟩ => match x with
      | .chan _ => none
      | x => vvF (vrunF P (Builtin.len_ c.argTypes type #[x]) h)
    | .copy, ⟨[x, y]⟩ => vvF (vrunF P (Builtin.copy_ c.argTypes type #[x, y]) h)
    | .delete, ⟨[m, k]⟩ => bif ((c.argTypes[0]?).all (basicKey P)) && cleanC k then vvF (vrunF P (Builtin.delete_ c.argTypes type #[m, k]) h) else none
    | .clear, ⟨[x]⟩ => bif ((c.argTypes[0]?).all (elemZeroOk P)) then vvF (vrunF P (Builtin.clear_ c.argTypes type #[x]) h) else none
    | .unsafeSliceData, ⟨[x]⟩ => match vsdata x with
      | some v => some (.val v h)
      | none => none
    | .unsafeString, ⟨[x, y]⟩ => vvF (vustrF P h c.argTypes x y)
    | _, _ => none
noncomputable def vopF (P : Program) (o : Oper) (ev : Operand → Value) (h : HF) : Option VNF :=
  match pureOp P o ev with
  | some v => some (.val v h)
  | none =>
    match o.op with
    | .move x | .assign x => some (.val (ev x) h)
    | .pick c a b => match ev c with
      | .bool t => some (.val (bif t then ev a else ev b) h)
      | _ => none
    | .alloc e => bif zeroOk P e then vvF (vrunF P (Instr.alloc e true (.tuple #[])) h) else none
    | .box e x => vvF (vrunF P (Instr.box e (ev x)) h)
    | .build t parts => bif zeroOk P t then vvF (vrunF P (Instr.build t (parts.map fun (i, x) => (i, ev x))) h) else none
    | .buildSlice t n parts => bif elemZeroOk P t then vvF (vrunF P (Instr.buildSlice t n (parts.map fun (i, x) => (i, ev x))) h) else none
    | .load t a => vvF (vrunF P (Instr.loadAt t (gresF h (ev a))) h)
    | .store t a x => vuF (vrunF P (Instr.storeAt t (ev a) (ev x)) h)
    | .nilCheck x => match ev x with
      | .pointer (some a) => some (.val (.pointer (some a)) h)
      | .func (.func f) xs ys => some (.val (.func (.func f) xs ys) h)
      | _ => none
    | .binOp op t x y _ => bif vNil P t (ev x) (ev y) then (match op with
        | .eql => some (.val (.bool false) h)
        | .neq => some (.val (.bool true) h)
        | _ => none) else bif vSame P t (ev x) (ev y) then (match op with
        | .eql => some (.val (.bool true) h)
        | .neq => some (.val (.bool false) h)
        | _ => none) else none
    | .convert src dst x => vvF (vconvertF P h src dst (ev x))
    | .makeInterface t x => vvF (vrunF P (Instr.makeInterface t (ev x)) h)
    | .makeFunc fn xs ys => some (.val (.func fn (xs.map ev) (ys.map ev)) h)
    | .makeMap t r => vvF (vrunF P (Instr.makeMap t (r.map ev)) h)
    | .makeSlice t l c => bif elemZeroOk P t then vvF (vrunF P (Instr.makeSlice t (ev l) (ev c)) h) else none
    | .slice t x lo hi mx => match vsliceF P h t (gresF h (ev x)) (lo.map ev) (hi.map ev) (mx.map ev) with
      | some v => some (.val v h)
      | none => none
    | .fieldAddr s x f => vvF (vrunF P (Instr.fieldAt s (gresF h (ev x)) f) h)
    | .field t x f => vvF (vrunF P (Instr.field t (ev x) f) h)
    | .indexAddr t x i => vvF (vrunF P (Instr.indexAt t (gresF h (ev x)) (ev i)) h)
    | .index t x i => vvF (vrunF P (Instr.index t (ev x) (ev i)) h)
    | .lookup t m k ok => bif basicKey P t && elemZeroOk P t && cleanC (ev k) then vvF (vrunF P (Instr.lookup t (ev m) (ev k) ok) h) else none
    | .mapUpdate t m k x | .insert t m k x => bif basicKey P t && cleanC (ev k) then vuF (vrunF P (Instr.mapUpdate t (ev m) (ev k) (ev x)) h) else none
    | .mapEntry t m k => bif basicKey P t && elemZeroOk P t && cleanC (ev k) then vvF (vrunF P (Instr.mapEntry t (ev m) (ev k)) h) else none
    | .entryStore t m s x => vuF (vrunF P (Instr.entryStore t (ev m) (ev s) (ev x)) h)
    | .range t x => match ev x with
      | .string s => vvF (vrunF P (Instr.range t (.string s)) h)
      | _ => none
    | .next it true => vvF (vrunF P (Instr.next (ev it) true o.type) h)
    | .extract t i => vvF (vrunF P (Instr.extract (ev t) i) h)
    | .panic x => match ev x with
      | .iface t v => some (.pan (.iface t v) h)
      | _ => none
    | .call c => vcallF P ev c o.type h
    | _ => none
section
variable {P : Program} {h : HF} {σ : VHeap}
def NRep : VNF → VN → Prop
  | .val v h, .val v' σ => v = v' ∧ HRep h σ
  | .skip h, .skip σ => HRep h σ
  | .enter f a h, .enter f' a' σ => f = f' ∧ a = a' ∧ HRep h σ
  | .pan v h, .pan v' σ => v = v' ∧ HRep h σ
  | _, _ => False
theorem vvF_ok (r : HRep h σ) {s : Sem Value} {x : VNF} (hx : vvF (vrunF P s h) = some x) : ∃ y, vv (vrun P s σ) = some y ∧ NRep x y := by
  unfold vvF at hx
  split at hx
  case h_2 => cases hx
  rename_i v h1 hv
  cases hx
  obtain ⟨σ', e, r'⟩ := vrunF_ok _ r hv
  exact ⟨.val v σ', by simp only [e, vv], rfl, r'⟩
theorem vuF_ok (r : HRep h σ) {s : Sem Unit} {x : VNF} (hx : vuF (vrunF P s h) = some x) : ∃ y, vu (vrun P s σ) = some y ∧ NRep x y := by
  unfold vuF at hx
  split at hx
  case h_2 => cases hx
  rename_i v h1 hv
  cases hx
  obtain ⟨σ', e, r'⟩ := vrunF_ok _ r hv
  exact ⟨.skip σ', by simp only [e, vu], r'⟩
theorem vpF_ok {s : Option (Value × HF)} {t : Option (Value × VHeap)} (hs : ∀ v h', s = some (v, h') → ∃ σ', t = some (v, σ') ∧ HRep h' σ') {x : VNF} (hx : vvF s = some x) : ∃ y, vv t = some y ∧ NRep x y := by
  unfold vvF at hx
  split at hx
  case h_2 => cases hx
  rename_i v h1
  cases hx
  obtain ⟨σ', e, r'⟩ := hs _ _ rfl
  exact ⟨.val v σ', by simp only [e, vv], rfl, r'⟩
theorem val_rep (r : HRep h σ) (v : Value) : ∃ y, some (VN.val v σ) = some y ∧ NRep (.val v h) y := ⟨_, rfl, rfl, r⟩
theorem bif_rep {b : Bool} {x : VNF} {s : Option VNF} {t : Option VN} (ht : s = some x → ∃ y, t = some y ∧ NRep x y) (hx : (bif b then s else none) = some x) : ∃ y, (bif b then t else none) = some y ∧ NRep x y := by
  cases b
  · cases hx
  · exact ht hx
theorem vcallF_ok (r : HRep h σ) {ev : Operand → Value} {c : Call} {type : TypeId} {x : VNF} (hx : vcallF P ev c type h = some x) : ∃ y, vcall P ev c type σ = some y ∧ NRep x y := by
  unfold vcallF at hx
  unfold vcall
  cases hc : c.callee with
  | invoke a b => rw [hc] at hx; cases hx
  | value f =>
    rw [hc] at hx
    dsimp only at hx ⊢
    split at hx
    case h_2 => cases hx
    rename_i g first captured he
    simp only [he]
    split at hx
    case h_2 => cases hx
    rename_i fn hfn
    simp only [hfn]
    split at hx
    · rename_i h1; rw [if_pos h1]; cases hx; exact ⟨_, rfl, rfl, rfl, r⟩
    · rename_i h1
      rw [if_neg h1]
      split at hx
      · rename_i h2
        rw [if_pos h2]
        split at hx
        case h_2 => cases hx
        rename_i y hy
        cases hx
        simp only [hy]
        exact val_rep r y
      · rename_i h2
        rw [if_neg h2]
        split at hx
        case isFalse => cases hx
        rename_i h3
        rw [if_pos h3]
        exact vpF_ok (fun v h' e => vmnzF_ok r e) hx
  | builtin b =>
    rw [hc] at hx
    dsimp only at hx ⊢
    split at hx
    · rename_i s y hxs
      simp only [hxs]
      split at hx
      · rename_i v h1 hq
        cases hx
        obtain ⟨σ', e, r'⟩ := vappendQ_ok r hq
        exact ⟨.val v σ', by simp only [e, vv], rfl, r'⟩
      · exact vpF_ok (fun v h' e => vappendF_ok r e) hx
    · rename_i y hxs
      simp only [hxs]
      split at hx
      · cases hx
      · rename_i hnc
        split
        · rename_i q; exact absurd rfl (hnc q)
        · exact vvF_ok r hx
    · rename_i y z hxs; simp only [hxs]; exact vvF_ok r hx
    · rename_i m k hxs; simp only [hxs]; exact bif_rep (vvF_ok r) hx
    · rename_i y hxs; simp only [hxs]; exact bif_rep (vvF_ok r) hx
    · rename_i y hxs
      simp only [hxs]
      split at hx
      case h_2 => cases hx
      rename_i v hv
      cases hx
      simp only [hv]
      exact val_rep r v
    · rename_i y z hxs; simp only [hxs]; exact vpF_ok (fun v h' e => vustrF_ok r e) hx
    · cases hx
theorem vopF_ok (r : HRep h σ) {o : Oper} {ev : Operand → Value} {x : VNF} (hx : vopF P o ev h = some x) : ∃ y, vop P o ev σ = some y ∧ NRep x y := by
  unfold vopF at hx
  unfold vop
  split at hx
  · rename_i v hv; cases hx; simp only [hv]; exact val_rep r v
  · rename_i hn
    simp only [hn]
    obtain ⟨dst, op, type, pos, after, guard⟩ := o
    dsimp only at hx ⊢
    cases op <;> (try dsimp only at hx ⊢) <;> first | (cases hx; done) | skip
    case move y => cases hx; exact val_rep r _
    case assign y => cases hx; exact val_rep r _
    case pick c a b =>
      split at hx
      case h_2 => cases hx
      rename_i t ht
      cases hx
      simp only [ht]
      exact val_rep r _
    case alloc e => exact bif_rep (vvF_ok r) hx
    case box e y => exact vvF_ok r hx
    case build t ps => exact bif_rep (vvF_ok r) hx
    case buildSlice t n ps => exact bif_rep (vvF_ok r) hx
    case load t a => rw [gresF_eq r] at hx; exact vvF_ok r hx
    case store t a y => exact vuF_ok r hx
    case nilCheck y =>
      split at hx
      · rename_i a ha; cases hx; simp only [ha]; exact val_rep r _
      · rename_i f xs ys ha; cases hx; simp only [ha]; exact val_rep r _
      · cases hx
    case binOp op t y z yt =>
      cases h1 : vNil P t (ev y) (ev z) with
      | true =>
        rw [h1] at hx
        simp only [cond_true] at hx ⊢
        split at hx <;> first | (cases hx; done) | (cases hx; exact val_rep r _)
      | false =>
        rw [h1] at hx
        simp only [cond_false] at hx ⊢
        refine bif_rep (fun hx => ?_) hx
        split at hx <;> first | (cases hx; done) | (cases hx; exact val_rep r _)
    case convert src dst y => exact vpF_ok (fun v h' e => vconvertF_ok r e) hx
    case makeInterface t y => exact vvF_ok r hx
    case makeFunc fn xs ys => cases hx; exact val_rep r _
    case makeMap t q => exact vvF_ok r hx
    case makeSlice t l c => exact bif_rep (vvF_ok r) hx
    case slice t y lo hi mx =>
      rw [gresF_eq r, vsliceF_eq r] at hx
      split at hx
      case h_2 => cases hx
      rename_i v hv
      cases hx
      simp only [hv]
      exact val_rep r v
    case fieldAddr s y f => rw [gresF_eq r] at hx; exact vvF_ok r hx
    case field t y f => exact vvF_ok r hx
    case indexAddr t y i => rw [gresF_eq r] at hx; exact vvF_ok r hx
    case index t y i => exact vvF_ok r hx
    case lookup t m k ok => exact bif_rep (vvF_ok r) hx
    case mapUpdate t m k y => exact bif_rep (vuF_ok r) hx
    case insert t m k y => exact bif_rep (vuF_ok r) hx
    case mapEntry t m k => exact bif_rep (vvF_ok r) hx
    case entryStore t m s y => exact vuF_ok r hx
    case range t y =>
      split at hx
      case h_2 => cases hx
      rename_i s hs
      simp only [hs]
      exact vvF_ok r hx
    case next it b =>
      cases b with
      | false => cases hx
      | true => exact vvF_ok r hx
    case extract t i => exact vvF_ok r hx
    case panic y =>
      split at hx
      case h_2 => cases hx
      rename_i t v hv
      cases hx
      simp only [hv]
      exact ⟨_, rfl, rfl, r⟩
    case call c => exact vcallF_ok r hx
/-- Quick ways for what is met most. -/
noncomputable def fastF (o : Oper) (ev : Operand → Value) (h : HF) : Option VNF := match o.op with
  | .move x | .assign x => some (.val (ev x) h)
  | .nilCheck x => match ev x with
    | .pointer (some a) => some (.val (.pointer (some a)) h)
    | _ => none
  | .pick c a b => match ev c with
    | .bool t => some (.val (Bool.rec (motive := fun _ => Value) (ev b) (ev a) t) h)
    | _ => none
  | _ => none
theorem pureOp_move {o : Oper} {ev : Operand → Value} {x : Operand} (ho : o.op = .move x ∨ o.op = .assign x) {v : Value} (h : pureOp P o ev = some v) : v = ev x := by
  obtain ⟨dst, op, type, pos, after, guard⟩ := o
  unfold pureOp at h
  rcases ho with rfl | rfl <;> dsimp only at h
  all_goals
    cases hc : (Op.operands (_ : Op)).all (fun x => clean (ev x)) with
    | false => rw [hc] at h; cases h
    | true =>
      rw [hc] at h
      simp only [cond_true] at h
      split at h
      case h_2 => cases h
      rename_i u hu
      have hu : some (Next.value (ev x)) = some (.value u) := hu
      cases hu
      cases hv : clean (ev x) with
      | false => rw [hv] at h; cases h
      | true => rw [hv] at h; cases h; rfl
theorem pureOp_pick {o : Oper} {ev : Operand → Value} {c a b : Operand} {t : Bool} (ho : o.op = .pick c a b) (ht : ev c = .bool t) {v : Value} (h : pureOp P o ev = some v) : v = bif t then ev a else ev b := by
  obtain ⟨dst, op, type, pos, after, guard⟩ := o
  unfold pureOp at h
  dsimp only at ho
  subst ho
  dsimp only at h
  cases hc : (Op.pick c a b).operands.all (fun x => clean (ev x)) with
  | false => rw [hc] at h; cases h
  | true =>
    rw [hc] at h
    simp only [cond_true] at h
    split at h
    case h_2 => cases h
    rename_i u hu
    have he : pv P (execOp ev ⟨dst, .pick c a b, type, pos, after, guard⟩) = some (.value (if t then ev a else ev b)) := by
      unfold execOp
      dsimp only
      rw [ht]
      rfl
    rw [he] at hu
    cases hu
    cases hv : clean (if t then ev a else ev b) with
    | false => rw [hv] at h; cases h
    | true => rw [hv] at h; cases h; cases t <;> rfl
theorem fastF_ok (r : HRep h σ) {o : Oper} {ev : Operand → Value} {x : VNF} (hx : fastF o ev h = some x) : ∃ y, vop P o ev σ = some y ∧ NRep x y := by
  unfold fastF at hx
  split at hx
  · rename_i y ho
    cases hx
    refine ⟨.val (ev y) σ, ?_, rfl, r⟩
    unfold vop
    cases hp : pureOp P o ev with
    | some v => rw [pureOp_move (.inl ho) hp]
    | none => simp only [ho]
  · rename_i y ho
    cases hx
    refine ⟨.val (ev y) σ, ?_, rfl, r⟩
    unfold vop
    cases hp : pureOp P o ev with
    | some v => rw [pureOp_move (.inr ho) hp]
    | none => simp only [ho]
  · rename_i y ho
    split at hx
    case h_2 => cases hx
    rename_i a ha
    cases hx
    refine ⟨.val (.pointer (some a)) σ, ?_, rfl, r⟩
    have hp : pureOp P o ev = none := by
      unfold pureOp
      simp only [ho]
      have : (Op.nilCheck y).operands.all (fun x => clean (ev x)) = false := by simp [Op.operands, ha, clean, cleanC]
      rw [this]
      rfl
    unfold vop
    simp only [hp, ho, ha]
  · rename_i c a b ho
    split at hx
    case h_2 => cases hx
    rename_i t ht
    cases hx
    have e : (Bool.rec (motive := fun _ => Value) (ev b) (ev a) t) = bif t then ev a else ev b := by cases t <;> rfl
    refine ⟨.val (bif t then ev a else ev b) σ, ?_, e, r⟩
    unfold vop
    cases hp : pureOp P o ev with
    | some v => rw [pureOp_pick ho ht hp]
    | none => simp only [ho, ht]
  · cases hx
noncomputable def vopQ (P : Program) (o : Oper) (ev : Operand → Value) (h : HF) : Option VNF := match fastF o ev h with
  | some r => some r
  | none => vopF P o ev h
theorem vopQ_ok (r : HRep h σ) {o : Oper} {ev : Operand → Value} {x : VNF} (hx : vopQ P o ev h = some x) : ∃ y, vop P o ev σ = some y ∧ NRep x y := by
  unfold vopQ at hx
  split at hx
  · rename_i q hq; cases hx; exact fastF_ok r hq
  · exact vopF_ok r hx
end
end Vm
end Go.Proofs.YtdbdmgmenojcaaaDoor
