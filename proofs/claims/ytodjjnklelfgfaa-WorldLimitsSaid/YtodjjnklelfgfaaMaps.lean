/- A map keyed by strings, its elements bools, integers or strings, as a function on texts: laws at each operation. No program in sight. -/
import Derived.Test.YtodjjnklelfgfaaBase
import Derived.Maps.OwnSet
namespace Go.Proofs.Ytodjjnklelfgfaa
open Go.RowKit
open Go.Maps (Keyed)
open Go.WideMaps Go.WideElems Go.WideAt
open Go.ChangeMaps (setBlock heap_setBlock_same)
open Go.MapKept (Stamped)

theorem plain_inj {P : Program} {e : TypeId} {v v' : Value} {d : DataW Unit} {p p' : List MemPlace} (h : plainElem P e v = some (d, p)) (h' : plainElem P e v' = some (d, p')) : v = v' := by
  unfold plainElem at h h'
  split at h
  · rename_i hu; simp only [hu] at h'
    split at h'
    · simp at h h'; rw [← h.1] at h'; simp at h'; simp [h'.1]
    · simp_all
    · simp_all
    · simp at h'
  · rename_i hu; simp only [hu] at h'
    split at h'
    · simp_all
    · rename_i hu'; simp at hu'; subst hu'
      split at h
      · rename_i c; obtain ⟨c1, c2⟩ := c; subst c1
        split at h'
        · rename_i c; obtain ⟨c1', c2'⟩ := c; subst c1'
          simp at h h'; rw [← h.1] at h'; simp at h'; simp [h'.1]
        · simp at h'
      · simp at h
    · simp_all
    · simp at h'
  · rename_i hu; simp only [hu] at h'
    split at h'
    · simp_all
    · simp_all
    · split at h
      · split at h'
        · simp at h h'; rw [← h.1] at h'; simp at h'
          rw [Value.string.injEq]
          apply ByteArray.ext
          exact h'.1.symm
        · simp at h'
      · simp at h
    · simp at h'
  · simp at h

/-- Block b is a map of m entries that holds, at each text l, what f tells. -/
def MapS (P : Program) (k e : TypeId) (w : World) (b m : Nat) (f : List UInt8 → Option Value) : Prop :=
  ∃ D : DataW Unit, w.ownsMap P k (plainElem P e) b m D ∧ Maps.size D = m ∧ ∀ l : List UInt8,
    (f l = none → Maps.has D (.string l) = false) ∧
    ∀ v, f l = some v → Maps.has D (.string l) = true ∧ ∃ d, plainElem (H := Unit) P e v = some (d, []) ∧ ∀ z, D.atKey (.string l) z = d

section
variable {P : Program} {k e : TypeId} {w : World} {b m : Nat} {f : List UInt8 → Option Value}

theorem MapS.made (P : Program) (k e : TypeId) (w : World) : MapS P k e (w.alloc (.map #[] 0)) w.heap.size 0 (fun _ => none) :=
  ⟨.map [], World.ownsMap_made w P k _, rfl, fun l => ⟨fun _ => rfl, fun v h => by cases h⟩⟩
theorem MapS.lt (h : MapS P k e w b m f) : b < w.heap.size := by obtain ⟨D, h, _⟩ := h; exact h.lt
theorem tight {D : DataW Unit} {n : Nat} (h : w.ownsMap P k (plainElem P e) b n D) : w.ownsMap P k (plainElem P e) b (Maps.size D) D := by
  obtain ⟨es, clock, h1, h2, _, rfl⟩ := h
  exact ⟨es, clock, h1, h2, by simp [Maps.size, length_sorted], rfl⟩
theorem MapS.of_block {w' : World} (h : MapS P k e w b m f) (hb : w'.heap[b]? = w.heap[b]?) : MapS P k e w' b m f := by
  obtain ⟨D, ⟨es, clock, h1, h2⟩, r⟩ := h
  exact ⟨D, ⟨es, clock, hb.trans h1, h2⟩, r⟩
theorem has_of_atKey {D : DataW Unit} {kl : Lit} {d : DataW Unit} (h : ∀ z, D.atKey kl z = d) : Maps.has D kl = true := Maps.has_true_of_atKey h

theorem MapS.some_has (h : MapS P k e w b m f) {l : List UInt8} {v : Value} (hv : f l = some v) : ∃ d, plainElem (H := Unit) P e v = some (d, []) := by
  obtain ⟨D, _, _, h⟩ := h
  obtain ⟨_, d, hd, _⟩ := (h l).2 v hv
  exact ⟨d, hd⟩

theorem run_clear_map {t : TypeId} (ht : P.underlying t = some (.map k e)) (h : MapS P k e w b m f) (ty : TypeId) :
    ∃ w', (Builtin.clear_ #[t] ty #[.map (some b)]).run P w = .ok (.tuple #[]) w' ∧ MapS P k e w' b 0 (fun _ => none) ∧ w.mapTurned w' b := by
  obtain ⟨D, ⟨es, clock, hb, F, hs, hD⟩, _⟩ := h
  refine ⟨_, ?_, ⟨.map [], ⟨#[], clock, heap_setBlock_same hb _, ?_, Nat.le_refl _, rfl⟩, rfl, fun l => ⟨fun _ => rfl, fun v h => by cases h⟩⟩, ⟨es, clock, #[], clock, hb, rfl⟩⟩
  · have hs : ∀ o, (setObj b o).run P w = .ok () (setBlock w b o) := fun o => by simp [setObj, Sem.run, hb, setBlock]
    simp [Builtin.clear_, run_underlying ht, MapKept.run_getObj_map hb, Result.andThen, hs]
  · exact ⟨by simp, by simp [Stamped], fun x hx => by simp at hx⟩

variable {ops : Array Oper} {rest : List Oper} {o : Oper} {a : Act} {Q : Exit → Act → World → Prop}
theorem wp_map_look_ok (hg : o.guard = none) (m' x : Operand) (t : TypeId) (hop : o.op = Op.lookup t m' x true) (K : Keyed P k) (ht : P.underlying t = some (.map k e)) (z : Value) (hz : (zeroValue e).run P w = .ok z w) (hzp : ∃ d, plainElem (H := Unit) P e z = some (d, []))
    (hm : a.eval m' = .map (some b)) (h : MapS P k e w b m f) (key : Value) (l : List UInt8) (hx : a.eval x = key) (hkey : keyOf P k key = some (.string l))
    (hK : wpList P ops Q rest (a.put o.dst (.tuple #[(f l).getD z, .bool (f l).isSome])) w) : wpList P ops Q (o :: rest) a w := by
  obtain ⟨D, hown, _, hf⟩ := h
  obtain ⟨zd, hzd⟩ := hzp
  refine wpList_lookup_own_ok w hg m' x t hop k e K ht _ hz zd [] hzd b m D hm hown key _ hx hkey ?_
  intro v ps hv
  cases hfl : f l with
  | none =>
    have h1 := (hf l).1 hfl
    rw [h1]
    rw [Maps.atKey_of_not_has h1] at hv
    rw [plain_inj hv hzd]
    rw [hfl] at hK; exact hK
  | some u =>
    obtain ⟨h1, d, hd, hat⟩ := (hf l).2 u hfl
    rw [h1]
    rw [hat zd] at hv
    rw [plain_inj hv hd]
    rw [hfl] at hK; exact hK

theorem wp_map_look (hg : o.guard = none) (m' x : Operand) (t : TypeId) (hop : o.op = Op.lookup t m' x false) (K : Keyed P k) (ht : P.underlying t = some (.map k e)) (z : Value) (hz : (zeroValue e).run P w = .ok z w) (hzp : ∃ d, plainElem (H := Unit) P e z = some (d, []))
    (hm : a.eval m' = .map (some b)) (h : MapS P k e w b m f) (key : Value) (l : List UInt8) (hx : a.eval x = key) (hkey : keyOf P k key = some (.string l))
    (hK : wpList P ops Q rest (a.put o.dst ((f l).getD z)) w) : wpList P ops Q (o :: rest) a w := by
  obtain ⟨D, hown, _, hf⟩ := h
  obtain ⟨zd, hzd⟩ := hzp
  refine wpList_plain hg fun K' hK' => ?_
  obtain ⟨v, ps, hrun, hv⟩ := hown.lookup K ht hz hzd hkey
  have e1 : v = (f l).getD z := by
    cases hfl : f l with
    | none =>
      have h1 := (hf l).1 hfl
      rw [Maps.atKey_of_not_has h1] at hv
      exact plain_inj hv hzd
    | some u =>
      obtain ⟨h1, d, hd, hat⟩ := (hf l).2 u hfl
      rw [hat zd] at hv
      exact plain_inj hv hd
  subst e1
  unfold Oper.wp
  simp [execOp, hop, hm, hx, hrun, Result.andThen]
  exact hK' _ _ hK

theorem MapS.run_look (h : MapS P k e w b m f) {t : TypeId} (K : Keyed P k) (ht : P.underlying t = some (.map k e)) {z : Value} (hz : (zeroValue e).run P w = .ok z w) (hzp : ∃ d, plainElem (H := Unit) P e z = some (d, []))
    {key : Value} {l : List UInt8} (hkey : keyOf P k key = some (.string l)) : (Instr.lookup t (.map (some b)) key false).run P w = .ok ((f l).getD z) w := by
  obtain ⟨D, hown, _, hf⟩ := h
  obtain ⟨zd, hzd⟩ := hzp
  obtain ⟨v, ps, hrun, hv⟩ := hown.lookup K ht hz hzd hkey
  have e1 : v = (f l).getD z := by
    cases hfl : f l with
    | none =>
      have h1 := (hf l).1 hfl
      rw [Maps.atKey_of_not_has h1] at hv
      exact plain_inj hv hzd
    | some u =>
      obtain ⟨h1, d, hd, hat⟩ := (hf l).2 u hfl
      rw [hat zd] at hv
      exact plain_inj hv hd
  rw [← e1]; exact hrun

theorem MapS.run_len (h : MapS P k e w b m f) {t : TypeId} (ht : P.underlying t = some (.map k e)) (ty : TypeId) : (Builtin.len_ #[t] ty #[.map (some b)]).run P w = .ok (.int .i64 m) w := by
  obtain ⟨D, hown, rfl, _⟩ := h
  exact hown.len ht ty

/-- What a store leaves of the function. -/
def setAt (f : List UInt8 → Option Value) (l : List UInt8) (v : Option Value) : List UInt8 → Option Value := fun x => if x = l then v else f x

theorem wp_map_put (hg : o.guard = none) (m' x v : Operand) (t : TypeId) (hop : o.op = Op.mapUpdate t m' x v) (K : Keyed P k) (hk : P.underlying k = some .string) (ht : P.underlying t = some (.map k e))
    (hm : a.eval m' = .map (some b)) (h : MapS P k e w b m f) (hn : m < maxLen) (key val : Value) (l : List UInt8) (hx : a.eval x = key) (hv : a.eval v = val) (hkey : keyOf P k key = some (.string l))
    (hval : ∃ d, plainElem (H := Unit) P e val = some (d, []))
    (hK : ∀ w', MapS P k e w' b (if (f l).isSome then m else m + 1) (setAt f l (some val)) → w.mapTurned w' b → wpList P ops Q rest (a.put o.dst undef) w') : wpList P ops Q (o :: rest) a w := by
  obtain ⟨D, hown, hsz, hf⟩ := h
  obtain ⟨d, hd⟩ := hval
  refine wpList_mapUpdate_in w hg m' x v t hop k e K ht _ b m D hm hown hn key val _ hx hv hkey d [] hd ?_
  intro w' hown' ht'
  have hs : Maps.size (D.put (.string l) d) = if (f l).isSome then m else m + 1 := by
    rw [Maps.size_put (hown.tidy K)]
    cases hfl : f l with
    | none => rw [(hf l).1 hfl, hsz]; simp
    | some u => rw [((hf l).2 u hfl).1, hsz]; simp
  refine hK w' ⟨_, by rw [← hs]; exact tight hown', hs, ?_⟩ ht'
  · have hkl : WideAt.IsKeyLit (.string l) := by trivial
    intro x
    by_cases hxl : x = l
    · subst hxl
      refine ⟨fun h => by simp [setAt] at h, fun v hv => ?_⟩
      simp [setAt] at hv
      subst hv
      exact ⟨Maps.has_put_same hown.isMap hkl d, d, hd, fun z => Maps.atKey_put_same hown.isMap hkl d z⟩
    · have hne : (Lit.string x) ≠ (.string l) := fun e => hxl (by injection e)
      rw [show setAt f l (some val) x = f x from by simp [setAt, hxl], Maps.has_put_other hne]
      refine ⟨(hf x).1, fun v hv => ?_⟩
      obtain ⟨h1, d', hd', hat⟩ := (hf x).2 v hv
      exact ⟨h1, d', hd', fun z => by rw [Maps.atKey_put_other hne]; exact hat z⟩

theorem wp_map_del (hg : o.guard = none) (m' x : Operand) (t : TypeId) (hop : o.op = Op.call { callee := Callee.builtin Builtin.delete, args := #[m', x], argTypes := #[t, k] }) (K : Keyed P k) (ht : P.underlying t = some (.map k e))
    (hm : a.eval m' = .map (some b)) (h : MapS P k e w b m f) (key : Value) (l : List UInt8) (hx : a.eval x = key) (hkey : keyOf P k key = some (.string l))
    (hK : ∀ w', MapS P k e w' b (if (f l).isSome then m - 1 else m) (setAt f l none) → w.mapTurned w' b → wpList P ops Q rest (a.put o.dst (.tuple #[])) w') : wpList P ops Q (o :: rest) a w := by
  obtain ⟨D, hown, hsz, hf⟩ := h
  refine wpList_delete_own w hg m' x t k hop e K ht _ b m D hm hown key _ hx hkey ?_
  intro w' hown' ht'
  have hs : Maps.size (D.del (.string l)) = if (f l).isSome then m - 1 else m := by
    have := Maps.size_del (k := .string l) (hown.tidy K)
    cases hfl : f l with
    | none => rw [(hf l).1 hfl] at this; simp at this ⊢; omega
    | some u => rw [((hf l).2 u hfl).1] at this; simp at this ⊢; omega
  refine hK w' ⟨_, by rw [← hs]; exact tight hown', hs, ?_⟩ ht'
  · intro x
    by_cases hxl : x = l
    · subst hxl
      exact ⟨fun _ => Maps.has_del_same, fun v hv => by simp [setAt] at hv⟩
    · have hne : (Lit.string x) ≠ (.string l) := fun e => hxl (by injection e)
      rw [show setAt f l none x = f x from by simp [setAt, hxl], Maps.has_del_other hne]
      refine ⟨(hf x).1, fun v hv => ?_⟩
      obtain ⟨h1, d', hd', hat⟩ := (hf x).2 v hv
      exact ⟨h1, d', hd', fun z => by rw [Maps.atKey_del_other hne]; exact hat z⟩

theorem wp_map_len (hg : o.guard = none) (m' : Operand) (t : TypeId) (hop : o.op = Op.call { callee := Callee.builtin Builtin.len, args := #[m'], argTypes := #[t] }) (ht : P.underlying t = some (.map k e))
    (hm : a.eval m' = .map (some b)) (h : MapS P k e w b m f) (hK : wpList P ops Q rest (a.put o.dst (.int .i64 m)) w) : wpList P ops Q (o :: rest) a w := by
  obtain ⟨D, hown, hsz, hf⟩ := h
  refine wpList_len_own w hg m' t hop k e ht _ b m D hm hown ?_
  rw [hsz]; exact hK

theorem wp_map_clear (hg : o.guard = none) (m' : Operand) (t : TypeId) (hop : o.op = Op.call { callee := Callee.builtin Builtin.clear, args := #[m'], argTypes := #[t] }) (ht : P.underlying t = some (.map k e))
    (hm : a.eval m' = .map (some b)) (h : MapS P k e w b m f)
    (hK : ∀ w', MapS P k e w' b 0 (fun _ => none) → w.mapTurned w' b → wpList P ops Q rest (a.put o.dst (.tuple #[])) w') : wpList P ops Q (o :: rest) a w := by
  refine wpList_plain hg fun K' hK' => ?_
  obtain ⟨w', hrun, r1, r2⟩ := run_clear_map ht h o.type
  unfold Oper.wp
  simp [execOp, hop, resolve, invoke, builtin, hm, hrun, Result.andThen]
  exact hK' _ _ (hK w' r1 r2)
end
end Go.Proofs.Ytodjjnklelfgfaa
