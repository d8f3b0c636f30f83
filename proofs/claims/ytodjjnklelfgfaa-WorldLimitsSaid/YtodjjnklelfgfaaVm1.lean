/- A virtual machine beside the real one: virtual memory, the machine's own code run over it, and the relation between the two memories. -/
import Derived.Calls
import Derived.Below
import Derived.Laws.Sem
import Derived.Laws.World
namespace Go.Proofs.Ytodjjnklelfgfaa
namespace Vm
set_option linter.unusedSimpArgs false
set_option linter.unusedVariables false
open Go.RowKit

/-- What may be done to a block: ro: it came in; ex: its row is just so long; tip: the youngest of its line; old: a younger one has been made of it; dead: nobody may look at it any more. -/
inductive Fl where
  | ro | ex | tip | old | dead
  deriving DecidableEq, Inhabited
structure Blk where
  cells : Array Value
  elem : TypeId
  fl : Fl
  kin : Bool
  root : Nat
  esz : Nat
  deriving Inhabited
inductive VObj where
  | cells (b : Blk)
  | map (es : Array MapEntry) (clock : Nat)
  | iter (s : ByteArray) (pos : Nat)
  | rmap (es : Array MapEntry) (clock : Nat)
  deriving Inhabited
abbrev VHeap := Array VObj

def VObj.live : VObj → Bool
  | .cells b => b.fl != .dead
  | _ => true
def VObj.own : VObj → Bool
  | .cells b => b.fl != .dead && b.fl != .ro
  | .rmap _ _ => false
  | _ => true

def cell? (σ : VHeap) (a : Addr) : Option Value :=
  match a.spot, σ[a.block]? with
  | none, some (.cells b) => if b.fl = .dead then none else b.cells[a.off]?
  | _, _ => none
/-- The elders of a line are looked at no more. -/
def killed (r : Nat) : VObj → VObj
  | .cells b => if b.root = r ∧ b.fl = .old then .cells { b with fl := .dead } else .cells b
  | o => o
def kill (σ : VHeap) (r : Nat) : VHeap := σ.map (killed r)
def Blk.put (b : Blk) (i : Nat) (v : Value) : Blk := { b with cells := b.cells.setIfInBounds i v, kin := false }
def setCell (σ : VHeap) (a : Addr) (v : Value) : Option VHeap :=
  match a.spot, σ[a.block]? with
  | none, some (.cells b) =>
    if a.off < b.cells.size then
      match b.fl with
      | .ex => some (σ.setIfInBounds a.block (.cells (b.put a.off v)))
      | .tip => some ((bif b.kin then kill σ b.root else σ).setIfInBounds a.block (.cells (b.put a.off v)))
      | _ => none
    else none
  | _, _ => none

/-- The machine's own code, run over virtual memory: what has no virtual answer ends it. -/
def vrun {α : Type} (P : Program) : Sem α → VHeap → Option (α × VHeap)
  | .pure a, σ => some (a, σ)
  | .load .plain a k, σ => match cell? σ a with
    | some v => vrun P (k v) σ
    | none => none
  | .store .plain a v k, σ => match v.oneCell', setCell σ a v with
    | true, some σ' => vrun P k σ'
    | _, _ => none
  | .new (.cells c e (0, 0)) k, σ => vrun P (k σ.size) (σ.push (.cells ⟨c, e, .ex, false, σ.size, 0⟩))
  | .new (.map es 0) k, σ => match es with
    | ⟨[]⟩ => vrun P (k σ.size) (σ.push (.map #[] 0))
    | _ => none
  | .new (.stringIter s p) k, σ => vrun P (k σ.size) (σ.push (.iter s p))
  | .getObj r k, σ => match σ[r]? with
    | some (.map es c) => vrun P (k (.map es c)) σ
    | some (.rmap es c) => vrun P (k (.map es c)) σ
    | some (.iter s p) => vrun P (k (.stringIter s p)) σ
    | _ => none
  | .setObj r o k, σ => match σ[r]?, o with
    | some (.map _ _), .map es c => vrun P k (σ.setIfInBounds r (.map es c))
    | some (.iter _ _), .stringIter s p => vrun P k (σ.setIfInBounds r (.iter s p))
    | _, _ => none
  | .program k, σ => vrun P (k P) σ
  | .mark _ k, σ => vrun P k σ
  | _, _ => none

def andThen {α β : Type} (r : Option (α × VHeap)) (f : α → VHeap → Option (β × VHeap)) : Option (β × VHeap) :=
  match r with
  | some (a, σ) => f a σ
  | none => none

theorem vrun_bind {α β : Type} (P : Program) (x : Sem α) (f : α → Sem β) (σ : VHeap) :
    vrun P (x.bind f) σ = andThen (vrun P x σ) fun a σ' => vrun P (f a) σ' := by
  induction x generalizing σ with
  | pure a => rfl
  | load m a k ih =>
    cases m <;> simp only [Sem.bind, vrun]
    · split <;> simp [ih, andThen]
    · rfl
  | store m a v k ih =>
    cases m <;> simp only [Sem.bind, vrun]
    · split <;> simp [ih, andThen]
    · rfl
  | new o k ih =>
    unfold Sem.bind
    cases o with
    | cells c e f =>
      obtain ⟨lo, hi⟩ := f
      cases lo <;> cases hi <;> first | exact ih _ _ | rfl
    | map es c =>
      cases c with
      | zero =>
        obtain ⟨l⟩ := es
        cases l with
        | nil => exact ih _ _
        | cons a l => rfl
      | succ n => rfl
    | stringIter s p => exact ih _ _
    | _ => rfl
  | shape r k ih => rfl
  | freeze a n k ih => rfl
  | frozen a k ih => rfl
  | getObj r k ih =>
    simp only [Sem.bind, vrun]
    split <;> simp [ih, andThen]
  | setObj r o k ih =>
    simp only [Sem.bind, vrun]
    split <;> simp [ih, andThen]
  | choose q k ih => rfl
  | sys c k ih => rfl
  | program k ih => simp [Sem.bind, vrun, ih]
  | mark m k ih => simp [Sem.bind, vrun, ih]
  | halt h => rfl

/-- What a virtual block is in the real memory: the row, the place of its first cell there, the cells of an element and of the whole row; what is known of capacities. -/
inductive Kind where
  | ex | gr | ro
  deriving DecidableEq
structure Info where
  b : Nat
  o : Nat
  esz : Nat
  tot : Nat
  kind : Kind
abbrev Rho := Nat → Option Info
def Rho.le (ρ ρ' : Rho) : Prop := ∀ id i, ρ id = some i → ρ' id = some i
theorem Rho.le_refl (ρ : Rho) : ρ.le ρ := fun _ _ h => h
theorem Rho.le_trans {a b c : Rho} (h : a.le b) (k : b.le c) : a.le c := fun _ _ x => k _ _ (h _ _ x)

def CapOk (i : Info) (off c c' : Nat) : Prop :=
  match i.kind with
  | .ex => c = c'
  | .gr => c ≤ c' ∧ i.o + off + c' * i.esz ≤ i.tot
  | .ro => c ≤ c'

inductive VRel (ρ : Rho) : Value → Value → Prop where
  | bool (b : Bool) : VRel ρ (.bool b) (.bool b)
  | int (k : IntKind) (n : Int) : VRel ρ (.int k n) (.int k n)
  | float (k : FloatKind) (n : Nat) : VRel ρ (.float k n) (.float k n)
  | complex (k : FloatKind) (a b : Nat) : VRel ρ (.complex k a b) (.complex k a b)
  | string (s : ByteArray) : VRel ρ (.string s) (.string s)
  | ptrNil : VRel ρ (.pointer none) (.pointer none)
  | ptr {id off : Nat} {i : Info} (h : ρ id = some i) : VRel ρ (.pointer (some ⟨id, off, none⟩)) (.pointer (some ⟨i.b, i.o + off, none⟩))
  | sliceNil (n c : Nat) : VRel ρ (.slice none n c) (.slice none n c)
  | slice {id off n c c' : Nat} {i : Info} (h : ρ id = some i) (hc : CapOk i off c c') : VRel ρ (.slice (some ⟨id, off, none⟩) n c) (.slice (some ⟨i.b, i.o + off, none⟩) n c')
  | sliceOff (id off : Nat) (a : Addr) (c' : Nat) : VRel ρ (.slice (some ⟨id, off, some 0⟩) 0 0) (.slice (some a) 0 c')
  | glob (g : Nat) : VRel ρ (.chan (some g)) (.pointer (some ⟨g, 0, none⟩))
  | mapNil : VRel ρ (.map none) (.map none)
  | map {id : Nat} {i : Info} (h : ρ id = some i) : VRel ρ (.map (some id)) (.map (some i.b))
  | func (fn : Fn) {xs ys us vs : Array Value} (h1 : xs.size = ys.size) (h2 : ∀ (k : Nat) (h : k < xs.size) (h' : k < ys.size), VRel ρ xs[k] ys[k])
      (g1 : us.size = vs.size) (g2 : ∀ (k : Nat) (h : k < us.size) (h' : k < vs.size), VRel ρ us[k] vs[k]) : VRel ρ (.func fn xs us) (.func fn ys vs)
  | nilFunc : VRel ρ .nilFunc .nilFunc
  | iface (t : TypeId) {v v' : Value} (h : VRel ρ v v') : VRel ρ (.iface t v) (.iface t v')
  | nilIface : VRel ρ .nilIface .nilIface
  | agg {xs ys : Array Value} (h1 : xs.size = ys.size) (h2 : ∀ (k : Nat) (h : k < xs.size) (h' : k < ys.size), VRel ρ xs[k] ys[k]) : VRel ρ (.agg xs) (.agg ys)
  | tuple {xs ys : Array Value} (h1 : xs.size = ys.size) (h2 : ∀ (k : Nat) (h : k < xs.size) (h' : k < ys.size), VRel ρ xs[k] ys[k]) : VRel ρ (.tuple xs) (.tuple ys)

theorem VRel.mono {ρ ρ' : Rho} (hle : ρ.le ρ') {v v' : Value} (h : VRel ρ v v') : VRel ρ' v v' := by
  induction h with
  | bool b => exact .bool b
  | int k n => exact .int k n
  | float k n => exact .float k n
  | complex k a b => exact .complex k a b
  | string s => exact .string s
  | ptrNil => exact .ptrNil
  | ptr h => exact .ptr (hle _ _ h)
  | sliceNil n c => exact .sliceNil n c
  | slice h hc => exact .slice (hle _ _ h) hc
  | sliceOff id off a c' => exact .sliceOff id off a c'
  | glob g => exact .glob g
  | mapNil => exact .mapNil
  | map h => exact .map (hle _ _ h)
  | func fn h1 _ g1 _ ih ih' => exact .func fn h1 ih g1 ih'
  | nilFunc => exact .nilFunc
  | iface t _ ih => exact .iface t ih
  | nilIface => exact .nilIface
  | agg h1 _ ih => exact .agg h1 ih
  | tuple h1 _ ih => exact .tuple h1 ih

/-- Arrays of values, place by place. -/
def ARel (ρ : Rho) (xs ys : Array Value) : Prop := xs.size = ys.size ∧ ∀ (k : Nat) (h : k < xs.size) (h' : k < ys.size), VRel ρ xs[k] ys[k]
theorem ARel.mono {ρ ρ' : Rho} (hle : ρ.le ρ') {xs ys : Array Value} (h : ARel ρ xs ys) : ARel ρ' xs ys := ⟨h.1, fun k a b => (h.2 k a b).mono hle⟩
theorem ARel.nil (ρ : Rho) : ARel ρ #[] #[] := ⟨rfl, fun k h => by simp at h⟩
theorem ARel.push {ρ : Rho} {xs ys : Array Value} {v v' : Value} (h : ARel ρ xs ys) (hv : VRel ρ v v') : ARel ρ (xs.push v) (ys.push v') := by
  refine ⟨by simp [h.1], fun k a b => ?_⟩
  simp only [Array.getElem_push]
  by_cases hk : k < xs.size
  · rw [dif_pos hk, dif_pos (h.1 ▸ hk)]; exact h.2 k hk _
  · rw [dif_neg hk, dif_neg (h.1 ▸ hk)]; exact hv
theorem ARel.append {ρ : Rho} {xs ys us vs : Array Value} (h : ARel ρ xs ys) (g : ARel ρ us vs) : ARel ρ (xs ++ us) (ys ++ vs) := by
  refine ⟨by simp [h.1, g.1], fun k a b => ?_⟩
  simp only [Array.getElem_append]
  by_cases hk : k < xs.size
  · rw [dif_pos hk, dif_pos (h.1 ▸ hk)]; exact h.2 k hk _
  · rw [dif_neg hk, dif_neg (h.1 ▸ hk)]
    simp only [Array.size_append] at a b
    have h1 := h.1
    have g1 := g.1
    have e : vs[k - ys.size]'(by omega) = vs[k - xs.size]'(by omega) := getElem_congr_idx (by rw [h1])
    rw [e]
    exact g.2 _ _ _
theorem ARel.set {ρ : Rho} {xs ys : Array Value} {v v' : Value} (h : ARel ρ xs ys) (i : Nat) (hv : VRel ρ v v') : ARel ρ (xs.setIfInBounds i v) (ys.setIfInBounds i v') := by
  refine ⟨by simp [h.1], fun k a b => ?_⟩
  have a' : k < xs.size := by simpa using a
  have b' : k < ys.size := by simpa using b
  rw [Array.getElem_setIfInBounds a', Array.getElem_setIfInBounds b']
  by_cases hk : i = k
  · rw [if_pos hk, if_pos hk]; exact hv
  · rw [if_neg hk, if_neg hk]; exact h.2 k _ _
theorem ARel.extract {ρ : Rho} {xs ys : Array Value} (h : ARel ρ xs ys) (i j : Nat) : ARel ρ (xs.extract i j) (ys.extract i j) := by
  refine ⟨by simp [h.1], fun k a b => ?_⟩
  simp only [Array.getElem_extract]
  exact h.2 _ _ _
theorem ARel.get? {ρ : Rho} {xs ys : Array Value} (h : ARel ρ xs ys) {i : Nat} {v : Value} (hv : xs[i]? = some v) : ∃ v', ys[i]? = some v' ∧ VRel ρ v v' := by
  obtain ⟨hi, rfl⟩ := Array.getElem?_eq_some_iff.1 hv
  exact ⟨ys[i]'(h.1 ▸ hi), Array.getElem?_eq_getElem _, h.2 i hi _⟩
theorem ARel.get_none {ρ : Rho} {xs ys : Array Value} (h : ARel ρ xs ys) {i : Nat} (hv : xs[i]? = none) : ys[i]? = none := by
  rw [Array.getElem?_eq_none_iff] at hv ⊢; rw [← h.1]; exact hv
theorem ARel.map {ρ : Rho} {α : Type} (l : Array α) (f g : α → Value) (h : ∀ x ∈ l, VRel ρ (f x) (g x)) : ARel ρ (l.map f) (l.map g) :=
  ⟨by simp, fun k a b => by simp only [Array.getElem_map]; exact h _ (Array.getElem_mem _)⟩

theorem VRel.cells {ρ : Rho} {v v' : Value} (h : VRel ρ v v') : ARel ρ v.cells v'.cells := by
  cases h with
  | agg h1 h2 => exact ⟨h1, h2⟩
  | _ => refine ⟨rfl, fun k a b => ?_⟩; (simp only [Value.cells, List.size_toArray, List.length_singleton] at a; obtain rfl : k = 0 := by omega); simp only [Value.cells, List.getElem_toArray, List.getElem_cons_zero]; constructor <;> assumption
theorem VRel.one {ρ : Rho} {v v' : Value} (h : VRel ρ v v') : v.oneCell' = v'.oneCell' := by cases h <;> rfl

def cleanC : Value → Bool
  | .bool _ | .int _ _ | .float _ _ | .complex _ _ _ | .string _ | .pointer none | .slice none _ _ | .map none | .nilFunc | .nilIface => true
  | _ => false
/-- The entries of a map, one by one: keys without addresses. -/
def ERel (ρ : Rho) (es fs : Array MapEntry) : Prop :=
  es.size = fs.size ∧ ∀ (k : Nat) (h : k < es.size) (h' : k < fs.size), es[k].key = fs[k].key ∧ cleanC es[k].key = true ∧ VRel ρ es[k].val fs[k].val ∧ es[k].born = fs[k].born
theorem ERel.mono {ρ ρ' : Rho} (hle : ρ.le ρ') {es fs : Array MapEntry} (h : ERel ρ es fs) : ERel ρ' es fs :=
  ⟨h.1, fun k a b => ⟨(h.2 k a b).1, (h.2 k a b).2.1, (h.2 k a b).2.2.1.mono hle, (h.2 k a b).2.2.2⟩⟩

/-- Real blocks that nothing may turn, and virtual ones that have no real block yet. -/
structure Base where
  U : Nat → Prop
  H : Nat → Prop
  Ro : Nat → Prop
structure Keeps (U : Nat → Prop) (w w' : World) : Prop where
  os : w'.os = w.os
  tape : w'.tape = w.tape
  output : w'.output = w.output
  size : w.heap.size ≤ w'.heap.size
  block : ∀ k, U k → w'.heap[k]? = w.heap[k]?
theorem Keeps.refl (U : Nat → Prop) (w : World) : Keeps U w w := ⟨rfl, rfl, rfl, Nat.le_refl _, fun _ _ => rfl⟩
theorem Keeps.trans {U : Nat → Prop} {a b c : World} (h : Keeps U a b) (k : Keeps U b c) : Keeps U a c :=
  ⟨k.os.trans h.os, k.tape.trans h.tape, k.output.trans h.output, Nat.le_trans h.size k.size, fun i hi => (k.block i hi).trans (h.block i hi)⟩
theorem Keeps.mono {U V : Nat → Prop} {a b : World} (h : Keeps U a b) (hUV : ∀ k, V k → U k) : Keeps V a b := ⟨h.os, h.tape, h.output, h.size, fun k hk => h.block k (hUV k hk)⟩
theorem Keeps.of_below {U : Nat → Prop} {n : Nat} {a b : World} (h : Below n a b) (hU : ∀ k, U k → k < n) : Keeps U a b := ⟨h.os, h.tape, h.output, h.size, fun k hk => h.block k (hU k hk)⟩
theorem Keeps.setCell {U : Nat → Prop} {a w : World} (h : Keeps U a w) {p : Addr} (hp : ¬ U p.block) (u : Value) : Keeps U a (w.setCell p u) :=
  h.trans ⟨rfl, rfl, rfl, by simp [World.setCell], fun k hk => Below.heap_setCell _ _ _ _ (fun e => hp (e ▸ hk))⟩
structure BlkRel (ρ : Rho) (w : World) (B0 : Base) (b : Blk) (i : Info) (cs : Array Value) (fz : Nat × Nat) : Prop where
  at_ : w.heap[i.b]? = some (.cells cs b.elem fz)
  len : i.o + b.cells.size ≤ cs.size
  cells : ∀ (k : Nat) (h : k < b.cells.size) (h' : i.o + k < cs.size), VRel ρ b.cells[k] cs[i.o + k]
  ro : b.fl = .ro → (B0.U i.b ∧ B0.Ro i.b) ∧ i.kind = .ro ∧ (b.kin = true → i.b = b.root ∧ i.o = 0)
  mine : b.fl ≠ .ro → ¬ B0.U i.b ∧ i.tot = cs.size ∧ (b.fl ≠ .old → ∀ k, k < cs.size → ¬ (fz.1 ≤ k ∧ k < fz.2))
  ex : b.fl = .ex → i.kind = .ex ∧ i.o = 0 ∧ b.cells.size = cs.size
  gr : b.fl = .tip ∨ b.fl = .old → i.kind = .gr ∧ i.esz = b.esz

def Kin (o1 o2 : VObj) (i1 i2 : Info) : Prop :=
  match o1, o2 with
  | .cells b1, .cells b2 => b1.root = b2.root ∧ b1.fl ≠ .ex ∧ b2.fl ≠ .ex ∧ (b1.fl = .tip → b2.fl = .old ∧ b1.kin = true ∧ i2.o + b2.cells.size ≤ i1.o + b1.cells.size)
  | _, _ => False

structure WRel (ρ : Rho) (σ : VHeap) (w0 w : World) (B0 : Base) : Prop where
  dom : ∀ id, σ.size ≤ id → ρ id = none
  blk : ∀ id b, σ[id]? = some (.cells b) → b.fl ≠ .dead → ∃ i cs fz, ρ id = some i ∧ BlkRel ρ w B0 b i cs fz
  map : ∀ id es c, σ[id]? = some (.map es c) → ∃ i fs, ρ id = some i ∧ i.o = 0 ∧ ¬ B0.U i.b ∧ w.heap[i.b]? = some (.map fs c) ∧ ERel ρ es fs
  rmap : ∀ id es c, σ[id]? = some (.rmap es c) → ∃ i fs, ρ id = some i ∧ i.o = 0 ∧ (B0.U i.b ∧ B0.Ro i.b) ∧ w.heap[i.b]? = some (.map fs c) ∧ ERel ρ es fs
  iter : ∀ id s p, σ[id]? = some (.iter s p) → ∃ i, ρ id = some i ∧ i.o = 0 ∧ ¬ B0.U i.b ∧ w.heap[i.b]? = some (.stringIter s p)
  sep : ∀ id1 id2 o1 o2 i1 i2, id1 ≠ id2 → σ[id1]? = some o1 → σ[id2]? = some o2 → o1.own = true → o2.own = true → ρ id1 = some i1 → ρ id2 = some i2 → i1.b = i2.b → Kin o1 o2 i1 i2
  base : ∀ k, B0.U k → k < w.heap.size
  below : Keeps B0.U w0 w
  hole : ∀ id, B0.H id → ρ id = none ∧ id < σ.size
end Vm
end Go.Proofs.Ytodjjnklelfgfaa
