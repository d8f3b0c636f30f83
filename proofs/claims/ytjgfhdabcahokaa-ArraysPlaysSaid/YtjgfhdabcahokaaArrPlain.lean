/- Arrays: the slots as a list, as cells of memory, and what is found in them. Plain lemmas on lists. -/
import Derived.Test.YtjgfhdabcahokaaMaps
namespace Go.Proofs.Ytjgfhdabcahokaa.Arr
open Go.RowKit

structure Cell where
  k : Int
  n : Int
  s : ByteArray
def Cell.vals (c : Cell) : List Value := [.int .u8 c.k, .int .u64 c.n, .string c.s]
def Cell.zero : Cell := ⟨0, 0, ⟨#[]⟩⟩
structure Slot where
  key : ByteArray
  cell : Cell
  off : Bool
def Slot.t (s : Slot) : List UInt8 := s.key.data.toList
def Slot.vals (s : Slot) : List Value := [.string s.key, .int .u8 s.cell.k, .int .u64 s.cell.n, .string s.cell.s, .bool s.off]
def Slot.dead : Slot := ⟨⟨#[]⟩, Cell.zero, true⟩
def vals (l : List Slot) : List Value := l.flatMap Slot.vals
theorem vals_cons (s : Slot) (l : List Slot) : vals (s :: l) = s.vals ++ vals l := by simp [vals]
theorem vals_append (a b : List Slot) : vals (a ++ b) = vals a ++ vals b := by simp [vals]
theorem vals_length (l : List Slot) : (vals l).length = l.length * 5 := by
  induction l with
  | nil => rfl
  | cons s l ih => rw [vals_cons, List.length_append, ih]; simp [Slot.vals]; omega
theorem vals_get (l : List Slot) (i j : Nat) (hi : i < l.length) (hj : j < 5) : (vals l)[i * 5 + j]? = (l[i].vals)[j]? := by
  induction l generalizing i with
  | nil => simp at hi
  | cons s l ih =>
    rw [vals_cons]
    cases i with
    | zero =>
      rw [List.getElem?_append_left (by simp [Slot.vals]; omega)]; simp
    | succ i =>
      rw [List.getElem?_append_right (by simp [Slot.vals]; omega)]
      have : (i + 1) * 5 + j - s.vals.length = i * 5 + j := by simp [Slot.vals]; omega
      rw [this, ih i (by simpa using hi)]; simp
theorem vals_set (l : List Slot) (i j : Nat) (u : Value) (s' : Slot) (hi : i < l.length) (hj : j < 5) (h : (l[i].vals).set j u = s'.vals) : (vals l).set (i * 5 + j) u = vals (l.set i s') := by
  induction l generalizing i with
  | nil => simp at hi
  | cons s l ih =>
    cases i with
    | zero =>
      simp only [List.set_cons_zero, vals_cons]
      rw [List.set_append_left _ _ (by simp [Slot.vals]; omega)]
      simp at h
      rw [Nat.zero_mul, Nat.zero_add, h]
    | succ i =>
      simp only [List.set_cons_succ, vals_cons]
      rw [List.set_append_right _ _ (by simp [Slot.vals]; omega)]
      have : (i + 1) * 5 + j - s.vals.length = i * 5 + j := by simp [Slot.vals]; omega
      rw [this, ih i (by simpa using hi) (by simpa using h)]
theorem vals_cell (l : List Slot) (i : Nat) (c : Cell) (hi : i < l.length) :
    (((vals l).set (i * 5 + 1) (.int .u8 c.k)).set (i * 5 + 2) (.int .u64 c.n)).set (i * 5 + 3) (.string c.s) = vals (l.set i ⟨l[i].key, c, l[i].off⟩) := by
  rw [vals_set l i 1 _ ⟨l[i].key, ⟨c.k, l[i].cell.n, l[i].cell.s⟩, l[i].off⟩ hi (by omega) (by simp [Slot.vals])]
  rw [vals_set _ i 2 _ ⟨l[i].key, ⟨c.k, c.n, l[i].cell.s⟩, l[i].off⟩ (by simpa using hi) (by omega) (by simp [Slot.vals])]
  rw [vals_set _ i 3 _ ⟨l[i].key, ⟨c.k, c.n, c.s⟩, l[i].off⟩ (by simpa using hi) (by omega) (by simp [Slot.vals])]
  simp
theorem vals_dead (l : List Slot) (i : Nat) (hi : i < l.length) :
    (((((vals l).set (i * 5) (.string ⟨#[]⟩)).set (i * 5 + 1) (.int .u8 0)).set (i * 5 + 2) (.int .u64 0)).set (i * 5 + 3) (.string ⟨#[]⟩)).set (i * 5 + 4) (.bool true) = vals (l.set i Slot.dead) := by
  have h0 := vals_set l i 0 (.string ⟨#[]⟩) ⟨⟨#[]⟩, l[i].cell, l[i].off⟩ hi (by omega) (by simp [Slot.vals])
  rw [Nat.add_zero] at h0
  rw [h0]
  rw [vals_set _ i 1 _ ⟨⟨#[]⟩, ⟨0, l[i].cell.n, l[i].cell.s⟩, l[i].off⟩ (by simpa using hi) (by omega) (by simp [Slot.vals])]
  rw [vals_set _ i 2 _ ⟨⟨#[]⟩, ⟨0, 0, l[i].cell.s⟩, l[i].off⟩ (by simpa using hi) (by omega) (by simp [Slot.vals])]
  rw [vals_set _ i 3 _ ⟨⟨#[]⟩, ⟨0, 0, ⟨#[]⟩⟩, l[i].off⟩ (by simpa using hi) (by omega) (by simp [Slot.vals])]
  rw [vals_set _ i 4 _ ⟨⟨#[]⟩, ⟨0, 0, ⟨#[]⟩⟩, true⟩ (by simpa using hi) (by omega) (by simp [Slot.vals])]
  simp [Slot.dead, Cell.zero]

/-- The slots that are not off; where a key's stands. -/
def live (l : List Slot) : List Slot := l.filter fun s => !s.off
def keys (l : List Slot) : List (List UInt8) := (live l).map Slot.t
def isAt (x : List UInt8) (s : Slot) : Bool := !s.off && s.t == x
def find (l : List Slot) (x : List UInt8) : Option Nat := l.findIdx? (isAt x)
/-- The function that the map must hold. -/
def look (l : List Slot) : List UInt8 → Option Value := fun x => (find l x).map fun i => .int .i64 i
def Tidy (l : List Slot) : Prop := (keys l).Nodup

theorem live_append (a b : List Slot) : live (a ++ b) = live a ++ live b := by simp [live]
theorem keys_append (a b : List Slot) : keys (a ++ b) = keys a ++ keys b := by simp [keys, live]
theorem find_some {l : List Slot} {x : List UInt8} {i : Nat} (h : find l x = some i) : ∃ hi : i < l.length, l[i].off = false ∧ l[i].t = x := by
  obtain ⟨hi, h1, _⟩ := List.findIdx?_eq_some_iff_getElem.1 h
  simp [isAt] at h1
  exact ⟨hi, h1⟩
theorem find_none {l : List Slot} {x : List UInt8} (h : find l x = none) : x ∉ keys l := by
  intro hx
  simp only [keys, live, List.mem_map, List.mem_filter] at hx
  obtain ⟨s, ⟨hs, ho⟩, rfl⟩ := hx
  have := List.findIdx?_eq_none_iff.1 h s hs
  simp [isAt] at this ho
  rw [ho] at this; exact Bool.noConfusion this
theorem find_isSome {l : List Slot} {x : List UInt8} : (find l x).isSome = decide (x ∈ keys l) := by
  cases h : find l x with
  | none => simp [find_none h]
  | some i =>
    obtain ⟨hi, h1, h2⟩ := find_some h
    have : x ∈ keys l := by
      simp only [keys, live, List.mem_map, List.mem_filter]
      exact ⟨l[i], ⟨List.getElem_mem _, by simp [h1]⟩, h2⟩
    simp [this]
/-- In a tidy list a live slot with the key is the one that is found. -/
theorem find_uniq {l : List Slot} (ht : Tidy l) {i : Nat} (hi : i < l.length) (h1 : l[i].off = false) : find l l[i].t = some i := by
  rw [find, List.findIdx?_eq_some_iff_getElem]
  refine ⟨hi, by simp [isAt, h1], fun j hj => ?_⟩
  simp only [isAt, Bool.not_eq_true, Bool.and_eq_false_iff]
  by_cases ho : l[j].off = true
  · left; simp [ho]
  · right
    simp only [beq_eq_false_iff_ne, ne_eq]
    intro hk
    have hji : j < l.length := by omega
    -- two live slots with one key
    have hp : (live l).Pairwise (fun a b => a.t ≠ b.t) := by
      have := ht; simp only [Tidy, keys, List.Nodup, List.pairwise_map] at this; exact this
    have hp' : l.Pairwise (fun a b => a.off = false → b.off = false → a.t ≠ b.t) := by
      rw [live, List.pairwise_filter] at hp
      exact hp.imp (fun h a b => h (by simp [a]) (by simp [b]))
    have := List.pairwise_iff_getElem.1 hp' j i hji hi hj (by simpa using ho) h1
    exact this hk
theorem find_append_some {l m : List Slot} {x : List UInt8} {i : Nat} (h : find l x = some i) : find (l ++ m) x = some i := by
  rw [find, List.findIdx?_append]; unfold find at h; rw [h]; rfl
theorem find_append_new {l : List Slot} {x : List UInt8} {y : ByteArray} (c : Cell) (h : find l x = none) : find (l ++ [⟨y, c, false⟩]) x = if x = y.data.toList then some l.length else none := by
  rw [find, List.findIdx?_append]; unfold find at h; rw [h]
  by_cases hxy : x = y.data.toList
  · subst hxy; simp [isAt, Slot.t, List.findIdx?_cons]
  · have : (y.data.toList == x) = false := by simp; exact fun e => hxy e.symm
    simp [isAt, Slot.t, List.findIdx?_cons, this, hxy]
theorem tidy_append {l : List Slot} {x : ByteArray} (c : Cell) (ht : Tidy l) (h : find l x.data.toList = none) : Tidy (l ++ [⟨x, c, false⟩]) := by
  unfold Tidy
  rw [keys_append]
  have hk : keys [⟨x, c, false⟩] = [x.data.toList] := rfl
  rw [hk, List.nodup_append]
  refine ⟨ht, by simp, ?_⟩
  intro a ha b hb
  simp at hb; subst hb
  intro e; subst e
  exact find_none h ha
theorem look_append {l : List Slot} {x : ByteArray} (c : Cell) (h : find l x.data.toList = none) : look (l ++ [⟨x, c, false⟩]) = setAt (look l) x.data.toList (some (.int .i64 l.length)) := by
  funext y
  by_cases hy : y = x.data.toList
  · subst hy
    simp only [look, setAt, if_true]
    rw [find_append_new c h, if_pos rfl]; rfl
  · simp only [look, setAt, if_neg hy]
    cases hf : find l y with
    | some i => rw [find_append_some hf]
    | none => rw [find_append_new c hf, if_neg hy]
theorem live_len_append {l : List Slot} {x : ByteArray} (c : Cell) : (live (l ++ [⟨x, c, false⟩])).length = (live l).length + 1 := by
  rw [live_append, List.length_append]; rfl
/-- A cell is set: keys, places and the map stay. -/
theorem isAt_set (x : List UInt8) (s : Slot) (c : Cell) : isAt x ⟨s.key, c, s.off⟩ = isAt x s := rfl
theorem find_setCell (l : List Slot) (i : Nat) (c : Cell) (hi : i < l.length) (x : List UInt8) : find (l.set i ⟨l[i].key, c, l[i].off⟩) x = find l x := by
  unfold find
  induction l generalizing i with
  | nil => simp at hi
  | cons s l ih =>
    cases i with
    | zero => simp [List.findIdx?_cons, isAt, Slot.t]
    | succ i => simp only [List.set_cons_succ, List.findIdx?_cons, List.getElem_cons_succ]; rw [ih i (by simpa using hi)]
theorem keys_setCell (l : List Slot) (i : Nat) (c : Cell) (hi : i < l.length) : keys (l.set i ⟨l[i].key, c, l[i].off⟩) = keys l := by
  induction l generalizing i with
  | nil => simp at hi
  | cons s l ih =>
    cases i with
    | zero => cases ho : s.off <;> simp [keys, live, ho, Slot.t]
    | succ i =>
      have := ih i (by simpa using hi)
      simp only [keys, live] at this
      cases ho : s.off <;> simp [keys, live, ho, this]
theorem look_setCell (l : List Slot) (i : Nat) (c : Cell) (hi : i < l.length) : look (l.set i ⟨l[i].key, c, l[i].off⟩) = look l := by
  funext x; simp only [look, find_setCell]
theorem live_len (l : List Slot) : (live l).length = (keys l).length := by simp [keys]
/-- A slot is struck. -/
theorem find_dead {l : List Slot} {i : Nat} (ht : Tidy l) (hi : i < l.length) (h1 : l[i].off = false) (x : List UInt8) : find (l.set i Slot.dead) x = if x = l[i].t then none else find l x := by
  by_cases hx : x = l[i].t
  · rw [if_pos hx, find, List.findIdx?_eq_none_iff]
    intro s hs
    obtain ⟨j, hj, rfl⟩ := List.mem_iff_getElem.1 hs
    simp only [List.length_set] at hj
    rw [List.getElem_set]
    split
    · simp [isAt, Slot.dead]
    · rename_i hne
      cases hb : isAt x l[j] with
      | false => rfl
      | true =>
        simp [isAt] at hb
        have e1 := find_uniq ht hj hb.1
        have e2 := find_uniq ht hi h1
        rw [hb.2, hx] at e1
        rw [e1] at e2
        exact absurd (by injection e2 with e; exact e.symm) hne
  · rw [if_neg hx]
    unfold find
    clear ht
    induction l generalizing i with
    | nil => simp at hi
    | cons s l ih =>
      cases i with
      | zero =>
        simp at hx h1
        have : isAt x s = false := by simp [isAt]; intro _ e; exact hx e.symm
        simp [List.findIdx?_cons, this]
        simp [isAt, Slot.dead]
      | succ i =>
        simp only [List.set_cons_succ, List.findIdx?_cons]
        rw [ih (by simpa using hi) (by simpa using h1) (by simpa using hx)]
theorem look_dead {l : List Slot} {i : Nat} (ht : Tidy l) (hi : i < l.length) (h1 : l[i].off = false) : look (l.set i Slot.dead) = setAt (look l) l[i].t none := by
  funext y
  simp only [look, setAt]
  rw [find_dead ht hi h1]
  by_cases hy : y = l[i].t
  · subst hy; simp
  · rw [if_neg hy, if_neg hy]
theorem live_dead {l : List Slot} {i : Nat} (hi : i < l.length) (h1 : l[i].off = false) : (live (l.set i Slot.dead)).length = (live l).length - 1 ∧ 0 < (live l).length := by
  induction l generalizing i with
  | nil => simp at hi
  | cons s l ih =>
    cases i with
    | zero => simp at h1; simp [live, h1, Slot.dead]
    | succ i =>
      have := ih (i := i) (by simpa using hi) (by simpa using h1)
      simp only [List.set_cons_succ]
      cases ho : s.off
      · have e1 : ∀ m, live (s :: m) = s :: live m := fun m => by simp [live, ho]
        rw [e1, e1, List.length_cons, List.length_cons]; omega
      · have e1 : ∀ m, live (s :: m) = live m := fun m => by simp [live, ho]
        rw [e1, e1]; exact this
theorem keys_dead {l : List Slot} {i : Nat} (ht : Tidy l) (hi : i < l.length) (h1 : l[i].off = false) : keys (l.set i Slot.dead) = (keys l).filter (fun k => !(k == l[i].t)) := by
  have hp : l.Pairwise (fun a b => a.off = false → b.off = false → a.t ≠ b.t) := by
    have := ht; simp only [Tidy, keys, List.Nodup, List.pairwise_map] at this
    rw [live, List.pairwise_filter] at this
    exact this.imp (fun h a b => h (by simp [a]) (by simp [b]))
  clear ht
  induction l generalizing i with
  | nil => simp at hi
  | cons s l ih =>
    rw [List.pairwise_cons] at hp
    cases i with
    | zero =>
      simp at h1
      have : (keys l).filter (fun k => !(k == s.t)) = keys l := by
        rw [List.filter_eq_self]
        intro k hk
        simp only [keys, live, List.mem_map, List.mem_filter] at hk
        obtain ⟨t, ⟨ht, ho⟩, rfl⟩ := hk
        have := hp.1 t ht h1 (by simpa using ho)
        simp; exact fun e => this e.symm
      have e0 : keys (s :: l) = s.t :: keys l := by simp [keys, live, h1]
      rw [e0]
      simp [this]
      simp [keys, live, Slot.dead]
    | succ i =>
      have hi' : i < l.length := by simpa using hi
      have e := ih (i := i) hi' (by simpa using h1) hp.2
      have hk : ∀ (a : Slot) (m : List Slot), keys (a :: m) = if a.off then keys m else a.t :: keys m := by
        intro a m; cases ho : a.off <;> simp [keys, live, ho]
      simp only [List.set_cons_succ, hk, List.getElem_cons_succ]
      cases ho : s.off
      · have hne : s.t ≠ l[i].t := hp.1 _ (List.getElem_mem _) ho (by simpa using h1)
        have : (s.t == l[i].t) = false := by simpa using hne
        simp [e, this]
      · simp [e]
theorem tidy_dead {l : List Slot} {i : Nat} (ht : Tidy l) (hi : i < l.length) (h1 : l[i].off = false) : Tidy (l.set i Slot.dead) := by
  unfold Tidy; rw [keys_dead ht hi h1]
  exact List.Nodup.sublist List.filter_sublist ht
/-- The slots behind a place that was asked for. -/
def placeL (l : List Slot) (key : ByteArray) : List Slot := match find l key.data.toList with | some _ => l | none => l ++ [⟨key, Cell.zero, false⟩]
theorem find_placeL (l : List Slot) (key : ByteArray) : ∃ i, find (placeL l key) key.data.toList = some i := by
  unfold placeL
  cases h : find l key.data.toList with
  | some i => exact ⟨i, h⟩
  | none => exact ⟨l.length, by simp [find_append_new _ h]⟩
theorem placeL_len (l : List Slot) (key : ByteArray) : (placeL l key).length ≤ l.length + 1 := by
  unfold placeL; split <;> simp
/-- The cell at a key. -/
def cellAt (l : List Slot) (x : List UInt8) : Cell := match find l x with | some i => (l.getD i Slot.dead).cell | none => Cell.zero
theorem cellAt_placeL (l : List Slot) (key : ByteArray) : cellAt (placeL l key) key.data.toList = cellAt l key.data.toList := by
  unfold placeL
  cases h : find l key.data.toList with
  | some i => rfl
  | none =>
    have h2 := find_append_new (y := key) Cell.zero h
    simp only [if_pos] at h2
    simp [cellAt, h, h2]
def setL (l : List Slot) (key : ByteArray) (c : Cell) : List Slot := match find (placeL l key) key.data.toList with | some i => (placeL l key).set i ⟨((placeL l key).getD i Slot.dead).key, c, ((placeL l key).getD i Slot.dead).off⟩ | none => l
/-- Packing. -/
def packL (l : List Slot) : List Slot := if l.length < 16 ∨ l.length < 2 * (live l).length then l else live l
def half (l : List Slot) (k : Nat) : List UInt8 → Option Value := fun x => match find (live (l.take k)) x with | some j => some (.int .i64 j) | none => look l x
theorem live_live (l : List Slot) : live (live l) = live l := by simp [live, List.filter_filter]
theorem keys_live (l : List Slot) : keys (live l) = keys l := by simp [keys, live_live]
theorem tidy_live {l : List Slot} (h : Tidy l) : Tidy (live l) := by unfold Tidy; rw [keys_live]; exact h
theorem half_zero (l : List Slot) : half l 0 = look l := by funext x; simp [half, live, find]
theorem live_take (l : List Slot) (k : Nat) (h : k < l.length) : live (l.take (k + 1)) = live (l.take k) ++ (if l[k].off then [] else [l[k]]) := by
  rw [List.take_succ_eq_append_getElem h, live_append]
  cases ho : l[k].off <;> simp [live, ho]
theorem half_dead (l : List Slot) (k : Nat) (h : k < l.length) (ho : l[k].off = true) : half l (k + 1) = half l k := by
  unfold half; rw [live_take l k h, ho]; simp
theorem mem_keys {l : List Slot} {x : List UInt8} : x ∈ keys l ↔ ∃ i, ∃ h : i < l.length, l[i].off = false ∧ l[i].t = x := by
  constructor
  · intro hx
    simp only [keys, live, List.mem_map, List.mem_filter] at hx
    obtain ⟨s, ⟨hs, ho⟩, rfl⟩ := hx
    obtain ⟨i, hi, rfl⟩ := List.mem_iff_getElem.1 hs
    exact ⟨i, hi, by simpa using ho, rfl⟩
  · rintro ⟨i, hi, ho, rfl⟩
    simp only [keys, live, List.mem_map, List.mem_filter]
    exact ⟨l[i], ⟨List.getElem_mem _, by simp [ho]⟩, rfl⟩
theorem not_before {l : List Slot} (ht : Tidy l) (k : Nat) (h : k < l.length) (ho : l[k].off = false) : find (live (l.take k)) l[k].t = none := by
  cases hf : find (live (l.take k)) l[k].t with
  | none => rfl
  | some j =>
    exfalso
    have hm : l[k].t ∈ keys (live (l.take k)) := by
      obtain ⟨hj, h1, h2⟩ := find_some hf
      exact mem_keys.2 ⟨j, hj, h1, h2⟩
    rw [keys_live] at hm
    obtain ⟨i, hi, h1, h2⟩ := mem_keys.1 hm
    have hik : i < k := by simp at hi; omega
    rw [List.getElem_take] at h1 h2
    have e1 := find_uniq ht (by omega : i < l.length) h1
    have e2 := find_uniq ht h ho
    rw [h2, e2] at e1
    injection e1 with e; omega
theorem half_some (l : List Slot) (ht : Tidy l) (k : Nat) (h : k < l.length) (ho : l[k].off = false) : (half l k l[k].t).isSome = true := by
  unfold half
  rw [not_before ht k h ho]
  simp [look, find_uniq ht h ho]
theorem half_step (l : List Slot) (ht : Tidy l) (k : Nat) (h : k < l.length) (ho : l[k].off = false) : setAt (half l k) l[k].t (some (.int .i64 (live (l.take k)).length)) = half l (k + 1) := by
  funext y
  have hn := not_before ht k h ho
  have hlt := live_take l k h
  rw [ho] at hlt
  simp only [Bool.false_eq_true, if_false] at hlt
  have hnew : ∀ x, find (live (l.take k)) x = none → find (live (l.take k) ++ [l[k]]) x = if x = l[k].t then some (live (l.take k)).length else none := by
    intro x hx
    have hs : l[k] = ⟨l[k].key, l[k].cell, false⟩ := by cases hh : l[k] with | mk a b c => rw [hh] at ho; simp at ho; rw [ho]
    have := find_append_new (y := l[k].key) l[k].cell hx
    rw [← hs] at this; exact this
  simp only [half, setAt, hlt]
  by_cases hy : y = l[k].t
  · subst hy
    rw [if_pos rfl, hnew _ hn, if_pos rfl]
  · rw [if_neg hy]
    cases hf : find (live (l.take k)) y with
    | some j => rw [find_append_some hf]
    | none => rw [hnew _ hf, if_neg hy]
theorem half_all (l : List Slot) : half l l.length = look (live l) := by
  funext x
  unfold half
  rw [List.take_length]
  cases hf : find (live l) x with
  | some j => simp [look, hf]
  | none =>
    simp only [look, hf]
    cases hg : find l x with
    | none => rfl
    | some i =>
      exfalso
      have h1 := find_none hf
      rw [keys_live] at h1
      obtain ⟨hi, h2, h3⟩ := find_some hg
      exact h1 (mem_keys.2 ⟨i, hi, h2, h3⟩)
theorem setL_new (l : List Slot) (key : ByteArray) (c : Cell) (h : find l key.data.toList = none) : setL l key c = l ++ [⟨key, c, false⟩] := by
  have hp : placeL l key = l ++ [⟨key, Cell.zero, false⟩] := by simp [placeL, h]
  have hf : find (placeL l key) key.data.toList = some l.length := by rw [hp, find_append_new _ h, if_pos rfl]
  unfold setL
  rw [hf, hp]
  simp [List.getD]
theorem setL_old (l : List Slot) (key : ByteArray) (c : Cell) (i : Nat) (hi : i < l.length) (h : find l key.data.toList = some i) : setL l key c = l.set i ⟨l[i].key, c, l[i].off⟩ := by
  have hp : placeL l key = l := by simp [placeL, h]
  unfold setL
  rw [hp, h]
  simp [List.getD, hi]
theorem setL_len (l : List Slot) (key : ByteArray) (c : Cell) : (setL l key c).length ≤ l.length + 1 := by
  have := placeL_len l key
  unfold setL
  split
  · rw [List.length_set]; exact this
  · omega
theorem copy_step (l : List Slot) (ht : Tidy l) (k : Nat) (h : k < l.length) (ho : l[k].off = false) : setL (live (l.take k)) l[k].key l[k].cell = live (l.take (k + 1)) := by
  rw [setL_new _ _ _ (not_before ht k h ho), live_take l k h, ho]
  have hs : l[k] = ⟨l[k].key, l[k].cell, false⟩ := by cases hh : l[k] with | mk a b c => rw [hh] at ho; simp at ho; rw [ho]
  rw [← hs]; simp
end Go.Proofs.Ytjgfhdabcahokaa.Arr
