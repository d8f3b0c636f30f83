/- Arrays: the reference's lists of items, and that the slots tell the same. Plain lemmas on lists. -/
import Derived.Test.YtjgfhdabcahokaaArrPlain
namespace Go.Proofs.Ytjgfhdabcahokaa.Arr
open Go.RowKit

abbrev Item := ByteArray × Cell
def ivals1 (p : Item) : List Value := [.string p.1, .int .u8 p.2.k, .int .u64 p.2.n, .string p.2.s]
def ivals (l : List Item) : List Value := l.flatMap ivals1
theorem ivals_cons (s : Item) (l : List Item) : ivals (s :: l) = ivals1 s ++ ivals l := by simp [ivals]
theorem ivals_append (a b : List Item) : ivals (a ++ b) = ivals a ++ ivals b := by simp [ivals]
theorem ivals_length (l : List Item) : (ivals l).length = l.length * 4 := by
  induction l with
  | nil => rfl
  | cons s l ih => rw [ivals_cons, List.length_append, ih]; simp [ivals1]; omega
theorem ivals_get (l : List Item) (i j : Nat) (hi : i < l.length) (hj : j < 4) : (ivals l)[i * 4 + j]? = (ivals1 l[i])[j]? := by
  induction l generalizing i with
  | nil => simp at hi
  | cons s l ih =>
    rw [ivals_cons]
    cases i with
    | zero =>
      rw [List.getElem?_append_left (by simp [ivals1]; omega)]; simp
    | succ i =>
      rw [List.getElem?_append_right (by simp [ivals1]; omega)]
      have : (i + 1) * 4 + j - (ivals1 s).length = i * 4 + j := by simp [ivals1]; omega
      rw [this, ih i (by simpa using hi)]; simp
theorem ivals_set (l : List Item) (i j : Nat) (u : Value) (s' : Item) (hi : i < l.length) (hj : j < 4) (h : (ivals1 l[i]).set j u = ivals1 s') : (ivals l).set (i * 4 + j) u = ivals (l.set i s') := by
  induction l generalizing i with
  | nil => simp at hi
  | cons s l ih =>
    cases i with
    | zero =>
      simp only [List.set_cons_zero, ivals_cons]
      rw [List.set_append_left _ _ (by simp [ivals1]; omega)]
      simp at h
      rw [Nat.zero_mul, Nat.zero_add, h]
    | succ i =>
      simp only [List.set_cons_succ, ivals_cons]
      rw [List.set_append_right _ _ (by simp [ivals1]; omega)]
      have : (i + 1) * 4 + j - (ivals1 s).length = i * 4 + j := by simp [ivals1]; omega
      rw [this, ih i (by simpa using hi) (by simpa using h)]
theorem ivals_cell (l : List Item) (i : Nat) (c : Cell) (hi : i < l.length) :
    (((ivals l).set (i * 4 + 1) (.int .u8 c.k)).set (i * 4 + 2) (.int .u64 c.n)).set (i * 4 + 3) (.string c.s) = ivals (l.set i (l[i].1, c)) := by
  rw [ivals_set l i 1 _ (l[i].1, ⟨c.k, l[i].2.n, l[i].2.s⟩) hi (by omega) (by simp [ivals1])]
  rw [ivals_set _ i 2 _ (l[i].1, ⟨c.k, c.n, l[i].2.s⟩) (by simpa using hi) (by omega) (by simp [ivals1])]
  rw [ivals_set _ i 3 _ (l[i].1, ⟨c.k, c.n, c.s⟩) (by simpa using hi) (by omega) (by simp [ivals1])]
  simp

def hasKey (x : List UInt8) (p : Item) : Bool := p.1.data.toList == x
def findI (l : List Item) (x : List UInt8) : Option Nat := l.findIdx? (hasKey x)
def findR (l : List Item) (x : List UInt8) : Int := match findI l x with | some i => (i : Int) | none => -1
theorem findR_some {l : List Item} {x : List UInt8} {i : Nat} (h : findI l x = some i) : findR l x = i := by simp [findR, h]
theorem findR_none {l : List Item} {x : List UInt8} (h : findI l x = none) : findR l x = -1 := by simp [findR, h]
def setI (l : List Item) (key : ByteArray) (c : Cell) : List Item := match findI l key.data.toList with | some i => l.set i ((l.getD i (⟨#[]⟩, Cell.zero)).1, c) | none => l ++ [(key, c)]
def cellI (l : List Item) (x : List UInt8) : Cell := match findI l x with | some i => (l.getD i (⟨#[]⟩, Cell.zero)).2 | none => Cell.zero
def getI (l : List Item) (key : ByteArray) : List Item := match findI l key.data.toList with | some _ => l | none => l ++ [(key, Cell.zero)]
def delI (l : List Item) (x : List UInt8) : List Item := l.filter fun p => !hasKey x p

def items (l : List Slot) : List Item := (live l).map fun s => (s.key, s.cell)
theorem items_length (l : List Slot) : (items l).length = (live l).length := by simp [items]
theorem items_cons (s : Slot) (l : List Slot) : items (s :: l) = if s.off then items l else (s.key, s.cell) :: items l := by
  cases h : s.off <;> simp [items, live, h]
theorem live_cons (s : Slot) (l : List Slot) : live (s :: l) = if s.off then live l else s :: live l := by
  cases h : s.off <;> simp [live, h]
theorem items_live (l : List Slot) : items (live l) = items l := by simp [items, live_live]
theorem items_packL (l : List Slot) : items (packL l) = items l := by
  unfold packL; split
  · rfl
  · exact items_live l
theorem packL_len (l : List Slot) : (packL l).length ≤ l.length := by
  unfold packL; split
  · exact Nat.le_refl _
  · exact List.length_filter_le _ _
theorem findI_items (l : List Slot) (x : List UInt8) : findI (items l) x = (find l x).map (fun i => (live (l.take i)).length) := by
  induction l with
  | nil => rfl
  | cons s l ih =>
    rw [items_cons]
    unfold find
    rw [List.findIdx?_cons]
    cases ho : s.off
    · by_cases hx : s.t = x
      · have h1 : isAt x s = true := by simp [isAt, ho, hx]
        have h2 : hasKey x (s.key, s.cell) = true := by simp [hasKey]; exact hx
        simp only [h1, if_true, Bool.false_eq_true, if_false, findI, List.findIdx?_cons, h2]
        simp [live]
      · have h1 : isAt x s = false := by simp [isAt, ho, hx]
        have h2 : hasKey x (s.key, s.cell) = false := by simp [hasKey]; exact hx
        simp only [h1, Bool.false_eq_true, if_false, findI, List.findIdx?_cons, h2]
        unfold findI find at ih
        rw [ih]
        cases hf : List.findIdx? (isAt x) l with
        | none => rfl
        | some i => simp [live_cons, ho]
    · have h1 : isAt x s = false := by simp [isAt, ho]
      simp only [h1, if_true, Bool.false_eq_true, if_false]
      rw [ih]
      unfold find
      cases hf : List.findIdx? (isAt x) l with
      | none => rfl
      | some i => simp [live_cons, ho]
theorem items_get (l : List Slot) (i : Nat) (hi : i < l.length) (ho : l[i].off = false) : (items l)[(live (l.take i)).length]? = some (l[i].key, l[i].cell) := by
  induction l generalizing i with
  | nil => simp at hi
  | cons s l ih =>
    cases i with
    | zero => simp at ho; simp [items_cons, ho, live]
    | succ i =>
      have := ih i (by simpa using hi) (by simpa using ho)
      rw [items_cons, List.take_succ_cons, live_cons]
      cases hs : s.off
      · simp [this]
      · simp [this]
theorem items_set (l : List Slot) (i : Nat) (c : Cell) (hi : i < l.length) (ho : l[i].off = false) : items (l.set i ⟨l[i].key, c, l[i].off⟩) = (items l).set (live (l.take i)).length (l[i].key, c) := by
  induction l generalizing i with
  | nil => simp at hi
  | cons s l ih =>
    cases i with
    | zero => simp at ho; simp [items_cons, ho, live]
    | succ i =>
      have := ih i (by simpa using hi) (by simpa using ho)
      rw [List.set_cons_succ, items_cons, items_cons, List.take_succ_cons, live_cons]
      cases hs : s.off
      · simp [this]
      · simp [this]
theorem items_setL (l : List Slot) (key : ByteArray) (c : Cell) : items (setL l key c) = setI (items l) key c := by
  cases hf : find l key.data.toList with
  | none =>
    rw [setL_new _ _ _ hf]
    unfold setI
    rw [findI_items, hf]
    simp [items, live]
  | some i =>
    obtain ⟨hi, ho, hk⟩ := find_some hf
    rw [setL_old _ _ _ i hi hf, items_set l i c hi ho]
    unfold setI
    rw [findI_items, hf]
    have := items_get l i hi ho
    simp [List.getD, this]
theorem items_placeL (l : List Slot) (key : ByteArray) : items (placeL l key) = getI (items l) key := by
  unfold placeL getI
  rw [findI_items]
  cases hf : find l key.data.toList with
  | none => simp [items, live]
  | some i => rfl
theorem cellAt_items (l : List Slot) (x : List UInt8) : cellAt l x = cellI (items l) x := by
  unfold cellAt cellI
  rw [findI_items]
  cases hf : find l x with
  | none => rfl
  | some i =>
    obtain ⟨hi, ho, hk⟩ := find_some hf
    have := items_get l i hi ho
    simp [List.getD, this, hi]
theorem find_items (l : List Slot) (x : List UInt8) : (find l x).isSome = (findI (items l) x).isSome := by rw [findI_items]; simp
theorem items_dead {l : List Slot} {i : Nat} (ht : Tidy l) (hi : i < l.length) (h1 : l[i].off = false) : items (l.set i Slot.dead) = delI (items l) l[i].t := by
  have hp : l.Pairwise (fun a b => a.off = false → b.off = false → a.t ≠ b.t) := by
    have := ht; simp only [Tidy, keys, List.Nodup, List.pairwise_map] at this
    rw [live, List.pairwise_filter] at this
    exact this.imp (fun h a b => h (by simp [a]) (by simp [b]))
  clear ht
  unfold delI
  induction l generalizing i with
  | nil => simp at hi
  | cons s l ih =>
    rw [List.pairwise_cons] at hp
    cases i with
    | zero =>
      simp at h1
      have : (items l).filter (fun p => !hasKey s.t p) = items l := by
        rw [List.filter_eq_self]
        intro p hp'
        simp only [items, live, List.mem_map, List.mem_filter] at hp'
        obtain ⟨t, ⟨htm, hto⟩, rfl⟩ := hp'
        have := hp.1 t htm h1 (by simpa using hto)
        simp [hasKey]; exact fun e => this e.symm
      rw [List.set_cons_zero, items_cons, items_cons]
      have hd : Slot.dead.off = true := rfl
      have hk : hasKey s.t (s.key, s.cell) = true := by simp [hasKey, Slot.t]
      simp [hd, h1, hk, this]
    | succ i =>
      have hi' : i < l.length := by simpa using hi
      have e := ih (i := i) hi' (by simpa using h1) hp.2
      rw [List.set_cons_succ, items_cons, items_cons, e]
      cases ho : s.off
      · have hne : s.t ≠ l[i].t := hp.1 _ (List.getElem_mem _) ho (by simpa using h1)
        have hk : hasKey l[i].t (s.key, s.cell) = false := by simp [hasKey]; exact hne
        simp [hk]
      · simp
theorem delI_none {l : List Item} {x : List UInt8} (h : findI l x = none) : delI l x = l := by
  unfold delI
  rw [List.filter_eq_self]
  intro p hp
  have := List.findIdx?_eq_none_iff.1 h p hp
  simp [this]
theorem delI_some {l : List Item} {x : List UInt8} {i : Nat} (h : findI l x = some i) : (delI l x).length < l.length := by
  obtain ⟨hi, h1, _⟩ := List.findIdx?_eq_some_iff_getElem.1 h
  unfold delI
  have := List.length_filter_lt_length_iff_exists (p := fun p => !hasKey x p) (l := l)
  rw [this]
  exact ⟨l[i], List.getElem_mem _, by simp [h1]⟩
theorem findI_some {l : List Item} {x : List UInt8} {i : Nat} (h : findI l x = some i) : ∃ hi : i < l.length, l[i].1.data.toList = x ∧ ∀ j, (hj : j < i) → l[j].1.data.toList ≠ x := by
  obtain ⟨hi, h1, h2⟩ := List.findIdx?_eq_some_iff_getElem.1 h
  refine ⟨hi, by simpa [hasKey] using h1, fun j hj e => ?_⟩
  have := h2 j hj
  simp [hasKey, e] at this
theorem findI_is {l : List Item} {x : List UInt8} {i : Nat} (hi : i < l.length) (h1 : l[i].1.data.toList = x) (h2 : ∀ j, (hj : j < i) → l[j].1.data.toList ≠ x) : findI l x = some i := by
  rw [findI, List.findIdx?_eq_some_iff_getElem]
  exact ⟨hi, by simp [hasKey, h1], fun j hj => by simp [hasKey, h2 j hj]⟩
theorem findI_not {l : List Item} {x : List UInt8} (h : ∀ j, (hj : j < l.length) → l[j].1.data.toList ≠ x) : findI l x = none := by
  rw [findI, List.findIdx?_eq_none_iff]
  intro p hp
  obtain ⟨j, hj, rfl⟩ := List.mem_iff_getElem.1 hp
  simp [hasKey, h j hj]
end Go.Proofs.Ytjgfhdabcahokaa.Arr
