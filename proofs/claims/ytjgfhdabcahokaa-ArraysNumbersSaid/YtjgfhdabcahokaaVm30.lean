/- The machine's own code run over the quick memory; the operations that have rules of their own, over it. -/
import Derived.Test.YtjgfhdabcahokaaVm29
namespace Go.Proofs.Ytjgfhdabcahokaa
namespace Vm
set_option linter.unusedSimpArgs false
set_option linter.unusedVariables false
open Go.RowKit

section
variable {α β : Type} {P : Program} {h h' : HF} {σ : VHeap}
noncomputable def cellF (h : HF) (a : Addr) : Option Value := match a.spot with
  | none => match h.get a.block with
    | some (.cells b) => match b.fl with
      | .dead => none
      | _ => nthO b.cells.toList a.off
    | _ => none
  | _ => none
theorem cellF_eq (r : HRep h σ) (a : Addr) : cellF h a = cell? σ a := by
  unfold cellF cell?
  rw [r.look]
  cases a.spot with
  | some x => rfl
  | none =>
    cases σ[a.block]? with
    | none => rfl
    | some o =>
      cases o with
      | cells b =>
        dsimp only
        cases hb : b.fl <;> simp [nthO_eq]
      | _ => rfl
noncomputable def setCellF (h : HF) (a : Addr) (v : Value) (k : HF → Option β) : Option β := match a.spot with
  | none => match h.get a.block with
    | some (.cells b) => match nthO b.cells.toList a.off with
      | some _ => match b.fl with
        | .ex => fLeaf v fun v => setS v b.cells.toList a.off fun l => h.set a.block (.cells ⟨⟨l⟩, b.elem, .ex, false, b.root, b.esz⟩) k
        | .tip => Bool.rec (motive := fun _ => Option β) (fLeaf v fun v => setS v b.cells.toList a.off fun l => h.set a.block (.cells ⟨⟨l⟩, b.elem, .tip, false, b.root, b.esz⟩) k)
            (h.kill b.root fun h => fLeaf v fun v => setS v b.cells.toList a.off fun l => h.set a.block (.cells ⟨⟨l⟩, b.elem, .tip, false, b.root, b.esz⟩) k) b.kin
        | _ => none
      | none => none
    | _ => none
  | _ => none
theorem put_eq (b : Blk) (i : Nat) (v : Value) : b.put i v = ⟨⟨b.cells.toList.set i v⟩, b.elem, b.fl, false, b.root, b.esz⟩ := by
  unfold Blk.put
  congr 1
  apply Array.ext'
  simp
theorem setCellF_ok (r : HRep h σ) {a : Addr} {v : Value} {k : HF → Option β} {x : β} (hx : setCellF h a v k = some x) : ∃ σ' h', setCell σ a v = some σ' ∧ HRep h' σ' ∧ k h' = some x := by
  unfold setCellF at hx
  unfold setCell
  rw [r.look] at hx
  split at hx
  case h_2 => cases hx
  rename_i hsp
  split at hx
  case h_2 => cases hx
  rename_i b hb
  rw [nthO_eq] at hx
  split at hx
  case h_2 => cases hx
  rename_i u hu
  have hlt : a.off < b.cells.size := by
    have := (List.getElem?_eq_some_iff.1 hu).1
    simpa using this
  simp only [hsp, hb, hlt, if_true]
  split at hx
  · rename_i hfl
    rw [fLeaf_eq, setS_eq] at hx
    obtain ⟨h', r', hx⟩ := r.set hx
    refine ⟨_, h', by rw [hfl], ?_, hx⟩
    rw [put_eq, hfl]; exact r'
  · rename_i hfl
    cases hk : b.kin with
    | false =>
      rw [hk] at hx
      have hx : (fLeaf v fun v => setS v b.cells.toList a.off fun l => h.set a.block (.cells ⟨⟨l⟩, b.elem, .tip, false, b.root, b.esz⟩) k) = some x := hx
      rw [fLeaf_eq, setS_eq] at hx
      obtain ⟨h', r', hx⟩ := r.set hx
      refine ⟨_, h', by rw [hfl], ?_, hx⟩
      rw [put_eq, hfl]; exact r'
    | true =>
      rw [hk] at hx
      have hx : (h.kill b.root fun h => fLeaf v fun v => setS v b.cells.toList a.off fun l => h.set a.block (.cells ⟨⟨l⟩, b.elem, .tip, false, b.root, b.esz⟩) k) = some x := hx
      obtain ⟨h1, r1, hx⟩ := r.kill hx
      rw [fLeaf_eq, setS_eq] at hx
      obtain ⟨h', r', hx⟩ := r1.set hx
      refine ⟨_, h', by rw [hfl], ?_, hx⟩
      rw [put_eq, hfl]; exact r'
  · cases hx
noncomputable def vrunF (P : Program) (s : Sem α) : HF → Option (α × HF) :=
  Sem.rec (motive := fun _ => HF → Option (α × HF))
    (fun a h => some (a, h))
    (fun m a k ih h => match m with
      | .plain => match cellF h a with
        | some v => ih v h
        | none => none
      | _ => none)
    (fun m a v k ih h => match m with
      | .plain => Bool.rec (motive := fun _ => Option (α × HF)) none (setCellF h a v ih) v.oneCell'
      | _ => none)
    (fun o k ih h => match o with
      | .cells c e (0, 0) => h.push (.cells ⟨c, e, .ex, false, h.n, 0⟩) (ih h.n)
      | .map ⟨[]⟩ 0 => h.push (.map #[] 0) (ih h.n)
      | .stringIter s p => h.push (.iter s p) (ih h.n)
      | _ => none)
    (fun _ _ _ _ => none) (fun _ _ _ _ _ => none) (fun _ _ _ _ => none)
    (fun r k ih h => match h.get r with
      | some (.map es c) => ih (.map es c) h
      | some (.rmap es c) => ih (.map es c) h
      | some (.iter s p) => ih (.stringIter s p) h
      | _ => none)
    (fun r o k ih h => match h.get r, o with
      | some (.map _ _), .map es c => fObj (.map es c) fun o => h.set r o ih
      | some (.iter _ _), .stringIter s p => fObj (.iter s p) fun o => h.set r o ih
      | _, _ => none)
    (fun _ _ _ _ => none) (fun _ _ _ _ => none)
    (fun k ih => ih P) (fun _ k ih => ih) (fun _ _ => none) s
theorem vrunF_load (m : Mode) (ad : Addr) (k : Value → Sem α) (h : HF) : vrunF P (.load m ad k) h = match m with
      | .plain => match cellF h ad with
        | some v => vrunF P (k v) h
        | none => none
      | _ => none := rfl
theorem vrunF_store (m : Mode) (ad : Addr) (v : Value) (k : Sem α) (h : HF) : vrunF P (.store m ad v k) h = match m with
      | .plain => Bool.rec (motive := fun _ => Option (α × HF)) none (setCellF h ad v (vrunF P k)) v.oneCell'
      | _ => none := rfl
theorem vrunF_new (o : Obj) (k : Nat → Sem α) (h : HF) : vrunF P (.new o k) h = match o with
      | .cells c e (0, 0) => h.push (.cells ⟨c, e, .ex, false, h.n, 0⟩) (vrunF P (k h.n))
      | .map ⟨[]⟩ 0 => h.push (.map #[] 0) (vrunF P (k h.n))
      | .stringIter s p => h.push (.iter s p) (vrunF P (k h.n))
      | _ => none := rfl
theorem vrunF_getObj (q : Nat) (k : Obj → Sem α) (h : HF) : vrunF P (.getObj q k) h = match h.get q with
      | some (.map es c) => vrunF P (k (.map es c)) h
      | some (.rmap es c) => vrunF P (k (.map es c)) h
      | some (.iter s p) => vrunF P (k (.stringIter s p)) h
      | _ => none := rfl
theorem vrunF_setObj (q : Nat) (o : Obj) (k : Sem α) (h : HF) : vrunF P (.setObj q o k) h = match h.get q, o with
      | some (.map _ _), .map es c => fObj (.map es c) fun o => h.set q o (vrunF P k)
      | some (.iter _ _), .stringIter s p => fObj (.iter s p) fun o => h.set q o (vrunF P k)
      | _, _ => none := rfl
theorem vrunF_ok (s : Sem α) : ∀ {h : HF} {σ : VHeap} {a : α} {h' : HF}, HRep h σ → vrunF P s h = some (a, h') → ∃ σ', vrun P s σ = some (a, σ') ∧ HRep h' σ' := by
  induction s with
  | pure b => intro h σ a h' r hx; cases hx; exact ⟨σ, rfl, r⟩
  | load m ad k ih =>
    intro h σ a h' r hx
    cases m with
    | atomic => cases hx
    | plain =>
      rw [vrunF_load] at hx
      dsimp only at hx
      rw [cellF_eq r] at hx
      simp only [vrun]
      split at hx
      · rename_i v hv; simp only [hv]; exact ih v r hx
      · cases hx
  | store m ad v k ih =>
    intro h σ a h' r hx
    cases m with
    | atomic => cases hx
    | plain =>
      rw [vrunF_store] at hx
      dsimp only at hx
      simp only [vrun]
      cases ho : v.oneCell' with
      | false => rw [ho] at hx; cases hx
      | true =>
        rw [ho] at hx
        obtain ⟨σ1, h1, e1, r1, hx⟩ := setCellF_ok r hx
        simp only [e1]
        exact ih r1 hx
  | new o k ih =>
    intro h σ a h' r hx
    rw [vrunF_new] at hx
    rw [r.size] at hx
    split at hx
    · obtain ⟨h1, r1, hx⟩ := r.push hx; exact ih _ r1 hx
    · obtain ⟨h1, r1, hx⟩ := r.push hx; exact ih _ r1 hx
    · obtain ⟨h1, r1, hx⟩ := r.push hx; exact ih _ r1 hx
    · cases hx
  | shape r k ih => intro h σ a h' r hx; cases hx
  | freeze a n k ih => intro h σ a h' r hx; cases hx
  | frozen a k ih => intro h σ a h' r hx; cases hx
  | getObj q k ih =>
    intro h σ a h' r hx
    rw [vrunF_getObj] at hx
    rw [r.look] at hx
    simp only [vrun]
    split at hx
    · rename_i es c hg; simp only [hg]; exact ih _ r hx
    · rename_i es c hg; simp only [hg]; exact ih _ r hx
    · rename_i es c hg; simp only [hg]; exact ih _ r hx
    · cases hx
  | setObj q o k ih =>
    intro h σ a h' r hx
    rw [vrunF_setObj] at hx
    rw [r.look] at hx
    simp only [vrun]
    split at hx
    · rename_i es c es' c' hg
      simp only [hg]
      rw [fObj_eq] at hx
      obtain ⟨h1, r1, hx⟩ := r.set hx
      exact ih r1 hx
    · rename_i es c es' c' hg
      simp only [hg]
      rw [fObj_eq] at hx
      obtain ⟨h1, r1, hx⟩ := r.set hx
      exact ih r1 hx
    · cases hx
  | choose q k ih => intro h σ a h' r hx; cases hx
  | sys c k ih => intro h σ a h' r hx; cases hx
  | program k ih => intro h σ a h' r hx; exact ih P r hx
  | mark m k ih => intro h σ a h' r hx; exact ih r hx
  | halt x => intro h σ a h' r hx; cases hx
/- Lists, quickly. -/
noncomputable def lenA (l : List β) : Nat → Nat := List.rec (motive := fun _ => Nat → Nat) (fun n => n) (fun _ _ ih n => fNat (Nat.succ n) ih) l
theorem lenA_eq (l : List β) (n : Nat) : lenA l n = n + l.length := by
  induction l generalizing n with
  | nil => rfl
  | cons a l ih =>
    show fNat (Nat.succ n) (lenA l) = _
    rw [fNat_eq, ih, List.length_cons]; omega
noncomputable def takeF (l : List β) : Nat → List β := List.rec (motive := fun _ => Nat → List β) (fun _ => []) (fun a _ ih n => Nat.rec (motive := fun _ => List β) [] (fun m _ => a :: ih m) n) l
theorem takeF_eq (l : List β) (n : Nat) : takeF l n = l.take n := by
  induction l generalizing n with
  | nil => cases n <;> rfl
  | cons a l ih =>
    cases n with
    | zero => rfl
    | succ n => show a :: takeF l n = _; rw [ih]; rfl
noncomputable def dropF (l : List β) : Nat → List β := List.rec (motive := fun _ => Nat → List β) (fun _ => []) (fun a l ih n => Nat.rec (motive := fun _ => List β) (a :: l) (fun m _ => ih m) n) l
theorem dropF_eq (l : List β) (n : Nat) : dropF l n = l.drop n := by
  induction l generalizing n with
  | nil => cases n <;> rfl
  | cons a l ih =>
    cases n with
    | zero => rfl
    | succ n => show dropF l n = _; rw [ih]; rfl
noncomputable def appF (l m : List β) : List β := List.rec (motive := fun _ => List β) m (fun a _ ih => a :: ih) l
theorem appF_eq (l m : List β) : appF l m = l ++ m := by
  induction l with
  | nil => rfl
  | cons a l ih => show a :: appF l m = _; rw [ih]; rfl
noncomputable def mapF (f : α → β) (l : List α) : List β := List.rec (motive := fun _ => List β) [] (fun a _ ih => f a :: ih) l
theorem mapF_eq (f : α → β) (l : List α) : mapF f l = l.map f := by
  induction l with
  | nil => rfl
  | cons a l ih => show f a :: mapF f l = _; rw [ih]; rfl
noncomputable def allF (f : α → Bool) (l : List α) : Bool := List.rec (motive := fun _ => Bool) true (fun a _ ih => Bool.rec (motive := fun _ => Bool) false ih (f a)) l
theorem allF_eq (f : α → Bool) (l : List α) : allF f l = l.all f := by
  induction l with
  | nil => rfl
  | cons a l ih =>
    show Bool.rec (motive := fun _ => Bool) false (allF f l) (f a) = _
    rw [ih, List.all_cons]
    cases f a <;> rfl
/- The operations. -/
noncomputable def gfindF (h : HF) (g : Nat) : Nat → Nat → Option Nat
  | 0, _ => none
  | n + 1, k => match h.get k with
    | some (.cells b) => bif decide (b.fl = .ro) && b.kin then (bif b.root == g then some k else gfindF h g n (k + 1)) else none
    | _ => none
theorem gfindF_eq (r : HRep h σ) (g : Nat) : ∀ n k, gfindF h g n k = gfind σ g n k
  | 0, _ => rfl
  | n + 1, k => by
    unfold gfindF gfind
    rw [r.look]
    cases σ[k]? with
    | none => rfl
    | some o => cases o <;> simp only [gfindF_eq r g n]
noncomputable def gresF (h : HF) (v : Value) : Value := match v with
  | .chan (some g) => match gfindF h g 16 0 with
    | some id => .pointer (some ⟨id, 0, none⟩)
    | none => v
  | v => v
theorem gresF_eq (r : HRep h σ) (v : Value) : gresF h v = gres σ v := by
  unfold gresF gres
  split
  · simp only [gfindF_eq r]
    rfl
  · rename_i hv; split
    · rename_i g; exact absurd rfl (hv g)
    · rfl
noncomputable def vsliceF (P : Program) (h : HF) (t : TypeId) (x : Value) (lo hi mx : Option Value) : Option Value :=
  match P.underlying t, x with
  | some (.slice elem), .slice (some a) n c =>
    match P.info? elem, pv P (Instr.sliceBounds true n c lo hi mx), a.spot, h.get a.block with
    | some info, some (l, h, m), none, some (.cells b) =>
      match b.fl with
      | .ex => some (.slice (some (if m = l then a else a.add (l * info.size))) (h - l) (m - l))
      | .dead => none
      | fl =>
        if l < m then (if fl = .ro ∨ b.esz = info.size then some (.slice (some (a.add (l * info.size))) (h - l) (m - l)) else none)
        else if h = l then some (.slice (some ⟨a.block, a.off, some 0⟩) 0 0) else none
    | some _, some (_, _, _), some 0, _ => some (.slice (some a) 0 0)
    | _, _, _, _ => none
  | some (.array n elem), .pointer (some a) =>
    match P.info? elem, pv P (Instr.sliceBounds false n n lo hi mx), h.get a.block with
    | some info, some (l, h, m), some (.cells b) => if b.fl = .ex ∨ b.fl = .ro then some (.slice (some (if m = l then a else a.add (l * info.size))) (h - l) (m - l)) else none
    | _, _, _ => none
  | some (.pointer arr), .pointer (some a) =>
    match P.underlying arr with
    | some (.array n elem) =>
      match P.info? elem, pv P (Instr.sliceBounds false n n lo hi mx), h.get a.block with
      | some info, some (l, h, m), some (.cells b) => if b.fl = .ex ∨ b.fl = .ro then some (.slice (some (if m = l then a else a.add (l * info.size))) (h - l) (m - l)) else none
      | _, _, _ => none
    | _ => none
  | _, _ => none
theorem vsliceF_eq (r : HRep h σ) (t : TypeId) (x : Value) (lo hi mx : Option Value) : vsliceF P h t x lo hi mx = vslice P σ t x lo hi mx := by
  unfold vsliceF vslice
  simp only [r.look]
  rfl
noncomputable def vfirstF (h : HF) (size m : Nat) : Value → Option (List Value)
  | .slice (some a) _ _ =>
    if m * size = 0 then some [] else
    match a.spot, h.get a.block with
    | none, some (.cells b) => match b.fl with
      | .dead => none
      | _ => if a.off + m * size ≤ lenA b.cells.toList 0 then some (takeF (dropF b.cells.toList a.off) (m * size)) else none
    | _, _ => none
  | .slice none _ _ => some []
  | .string s => some (mapF (fun b => .int .u8 b.toNat) (takeF s.data.toList m))
  | _ => none
theorem vfirstF_ok (r : HRep h σ) {size m : Nat} {x : Value} {l : List Value} (hx : vfirstF h size m x = some l) : vfirst σ size m x = some ⟨l⟩ := by
  unfold vfirstF at hx
  unfold vfirst
  split at hx
  · rename_i a n c
    dsimp only
    split at hx
    · rename_i h0; cases hx; rw [if_pos h0]
    · rename_i h0
      rw [if_neg h0]
      rw [r.look] at hx
      split at hx
      · rename_i b h1 h2
        simp only [h1, h2]
        split at hx
        · cases hx
        · rename_i hd
          split at hx
          case isFalse => cases hx
          rename_i hle
          rw [lenA_eq] at hle
          cases hx
          have hle' : a.off + m * size ≤ b.cells.size := by simpa using hle
          rw [if_pos ⟨fun e => hd e, hle'⟩, takeF_eq, dropF_eq]
          congr 1
          apply Array.ext'
          rw [Array.toList_extract, List.extract_eq_take_drop]
          simp
      · cases hx
  · cases hx; rfl
  · rename_i s
    cases hx
    dsimp only
    congr 1
    apply Array.ext'
    rw [mapF_eq, takeF_eq]
    rw [ByteArray.data_extract]
    simp
  · cases hx
noncomputable def vfitF (P : Program) (h : HF) (base : Option Addr) (n c m size : Nat) (news : List Value) : Option (Value × HF) :=
  if n + m ≤ c then
    match base with
    | none => some (.slice none (n + m) c, h)
    | some a =>
      match vrunF P (storeCells (a.add (n * size)) news) h with
      | some (_, h') => some (.slice (some a) (n + m) c, h')
      | none => none
  else none
end
end Vm
end Go.Proofs.Ytjgfhdabcahokaa
