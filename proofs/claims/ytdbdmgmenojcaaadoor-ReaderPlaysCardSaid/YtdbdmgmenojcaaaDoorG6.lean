/- The document's world: what it is, plain; where its rows lie; its four looks. -/
import Derived.Test.YtdbdmgmenojcaaaDoorG5
import Derived.Laws.OwnMore
import Derived.Deep.Cut
set_option linter.unusedVariables false
set_option linter.unusedSimpArgs false
namespace Go.Proofs.YtdbdmgmenojcaaaDoor
open Go.RowKit Wd
/-- A row of n things of sz cells each, in a block of K (or none). -/
def Row (K : Nat → Prop) (w : World) (v : Value) (n sz : Nat) (cs : List Value) : Prop :=
  cs.length = n * sz ∧ n ≤ 1000000 ∧ ∃ A cap, v = .slice A n cap ∧ n ≤ cap ∧ cap ≤ maxLen ∧ (0 < n → ∃ b o, A = some ⟨b, o, none⟩ ∧ b < w.heap.size ∧ K b ∧ ∀ i, i < n * sz → w.cell? ⟨b, o + i, none⟩ = cs[i]?)
theorem cell_of_heap' {w w' : World} {b o : Nat} (h : w'.heap[b]? = w.heap[b]?) : w'.cell? ⟨b, o, none⟩ = w.cell? ⟨b, o, none⟩ := by
  simp [World.cell?, h]
theorem Row.keep {K : Nat → Prop} {w w' : World} {v : Value} {n sz : Nat} {cs : List Value} (h : Row K w v n sz cs) (hs : w.heap.size ≤ w'.heap.size) (hk : ∀ b, b < w.heap.size → K b → w'.heap[b]? = w.heap[b]?) : Row K w' v n sz cs := by
  obtain ⟨h1, h2, A, cap, h3, h4, h5, h6⟩ := h
  refine ⟨h1, h2, A, cap, h3, h4, h5, fun hn => ?_⟩
  obtain ⟨b, o, e1, e2, e3, e4⟩ := h6 hn
  exact ⟨b, o, e1, by omega, e3, fun i hi => (cell_of_heap' (hk b e2 e3)).trans (e4 i hi)⟩
theorem Row.pure {K : Nat → Prop} {w w' : World} {v : Value} {n sz : Nat} {cs : List Value} (h : Row K w v n sz cs) (hb : Below w.heap.size w w') : Row K w' v n sz cs := h.keep hb.size (fun b hb' _ => hb.block b hb')
theorem Row.mono {K K' : Nat → Prop} {w : World} {v : Value} {n sz : Nat} {cs : List Value} (h : Row K w v n sz cs) (hk : ∀ b, b < w.heap.size → K b → K' b) : Row K' w v n sz cs := by
  obtain ⟨h1, h2, A, cap, h3, h4, h5, h6⟩ := h
  refine ⟨h1, h2, A, cap, h3, h4, h5, fun hn => ?_⟩
  obtain ⟨b, o, e1, e2, e3, e4⟩ := h6 hn
  exact ⟨b, o, e1, e2, hk b e2 e3, e4⟩
theorem Row.nil (K : Nat → Prop) (w : World) (sz : Nat) : Row K w (.slice none 0 0) 0 sz [] := ⟨by simp, Nat.zero_le _, none, 0, rfl, Nat.le_refl _, Nat.zero_le _, fun h => absurd h (Nat.lt_irrefl 0)⟩
theorem Row.of_own {K : Nat → Prop} {w : World} {B e sz n : Nat} {v : Value} {cs : List Value} (h : w.ownsRow B e sz v n cs) (hn : n ≤ 1000000) (hK : ∀ g, B ≤ g → g < w.heap.size → K g) : Row K w v n sz cs := by
  refine ⟨h.1, hn, ?_⟩
  rcases h.2 with ⟨h1, h0⟩ | ⟨g, cap, cur, h1, hg, hh, h4, h5, _⟩
  · exact ⟨none, 0, by rw [h1, h0], by omega, Nat.zero_le _, fun h => by omega⟩
  · subst h1
    exact ⟨_, cap, rfl, h4, h5, fun _ => ⟨g, 0, rfl, (Array.getElem?_eq_some_iff.1 hh).1, hK g hg (Array.getElem?_eq_some_iff.1 hh).1, fun i hi => by rw [Nat.zero_add]; exact h.cellAt i (by omega)⟩⟩
namespace Wd
structure RSm where
  k : Int
  name : ByteArray
  src : ByteArray
  tk : Nat
structure RSt where
  stdin : ByteArray
  replies : List Rp
  fails : List Fl
  lim : Int
  clock : Int
  ch : Int
  files : List (ByteArray × ByteArray)
  taken : Nat
  opn : List RSm
  num : Int
  events : List Ev
def RSm.vals (s : RSm) : List Value := [.int .u8 s.k, .string s.name, .string s.src, .int .i64 s.tk]
def fl2 (p : ByteArray × ByteArray) : List Value := [.string p.1, .string p.2]
def svals4 (l : List RSm) : List Value := l.flatMap RSm.vals
def fvals2 (l : List (ByteArray × ByteArray)) : List Value := l.flatMap fl2
def rwcells (s0 s2 s3 vF vO vE : Value) (st : RSt) : Array Value := #[s0, .string st.stdin, s2, s3, .int .i64 st.lim, .int .i64 st.clock, .int .u64 st.ch, vF, .int .i64 st.taken, vO, .int .u64 st.num, vE]
theorem svals4_get (l : List RSm) (i j : Nat) (h : i < l.length) (hj : j < 4) : (svals4 l)[i * 4 + j]? = (l[i].vals)[j]? := flat_get RSm.vals 4 (fun _ => rfl) l i j h hj
theorem fvals2_get (l : List (ByteArray × ByteArray)) (i j : Nat) (h : i < l.length) (hj : j < 2) : (fvals2 l)[i * 2 + j]? = (fl2 l[i])[j]? := flat_get fl2 2 (fun _ => rfl) l i j h hj
end Wd
/-- A row of the calls' own, in a block of K. -/
def OwnK (K : Nat → Prop) (w : World) (e sz : Nat) (v : Value) (n : Nat) (cs : List Value) : Prop := w.ownsRow 0 e sz v n cs ∧ (∀ g, v.ownBlock = some g → K g) ∧ n ≤ 1000000
theorem OwnK.row {K : Nat → Prop} {w : World} {e sz n : Nat} {v : Value} {cs : List Value} (h : OwnK K w e sz v n cs) : Row K w v n sz cs := by
  obtain ⟨h, hK, hn⟩ := h
  refine ⟨h.1, hn, ?_⟩
  rcases h.2 with ⟨h1, h0⟩ | ⟨g, cap, cur, h1, hg, hh, h4, h5, _⟩
  · exact ⟨none, 0, by rw [h1, h0], by omega, Nat.zero_le _, fun h => by omega⟩
  · subst h1
    exact ⟨_, cap, rfl, h4, h5, fun _ => ⟨g, 0, rfl, (Array.getElem?_eq_some_iff.1 hh).1, hK g rfl, fun i hi => by rw [Nat.zero_add]; exact h.cellAt i (by omega)⟩⟩
theorem OwnK.keep {K : Nat → Prop} {w w' : World} {e sz n : Nat} {v : Value} {cs : List Value} (h : OwnK K w e sz v n cs) (hk : ∀ b, b < w.heap.size → K b → w'.heap[b]? = w.heap[b]?) : OwnK K w' e sz v n cs :=
  ⟨own_of_block h.1 (fun g hg => hk g (own_lt h.1 hg).choose_spec.2 (h.2.1 g hg)), h.2.1, h.2.2⟩
theorem OwnK.mono {K K' : Nat → Prop} {w : World} {e sz n : Nat} {v : Value} {cs : List Value} (h : OwnK K w e sz v n cs) (hk : ∀ b, b < w.heap.size → K b → K' b) : OwnK K' w e sz v n cs :=
  ⟨h.1, fun g hg => hk g (own_lt h.1 hg).choose_spec.2 (h.2.1 g hg), h.2.2⟩
/-- The document's world, its rows in blocks of K. -/
structure RAt (K : Nat → Prop) (w : World) (s2 s3 vF vO vE : Value) (st : RSt) : Prop where
  r2 : Row K w s2 st.replies.length 3 (rvals st.replies)
  r3 : Row K w s3 st.fails.length 2 (fvals st.fails)
  oF : OwnK K w 83 2 vF st.files.length (fvals2 st.files)
  oO : OwnK K w 114 4 vO st.opn.length (svals4 st.opn)
  oE : OwnK K w 106 5 vE st.events.length (evals st.events)
section
variable {K K' : Nat → Prop} {w w' : World} {s2 s3 vF vO vE : Value} {st : RSt}
theorem RAt.keep (h : RAt K w s2 s3 vF vO vE st) (hs : w.heap.size ≤ w'.heap.size) (hk : ∀ b, b < w.heap.size → K b → w'.heap[b]? = w.heap[b]?) : RAt K w' s2 s3 vF vO vE st :=
  ⟨h.r2.keep hs hk, h.r3.keep hs hk, h.oF.keep hk, h.oO.keep hk, h.oE.keep hk⟩
theorem RAt.pure (h : RAt K w s2 s3 vF vO vE st) (hb : Below w.heap.size w w') : RAt K w' s2 s3 vF vO vE st := h.keep hb.size (fun b hb' _ => hb.block b hb')
theorem RAt.mono (h : RAt K w s2 s3 vF vO vE st) (hk : ∀ b, b < w.heap.size → K b → K' b) : RAt K' w s2 s3 vF vO vE st :=
  ⟨h.r2.mono hk, h.r3.mono hk, h.oF.mono hk, h.oO.mono hk, h.oE.mono hk⟩
end
theorem RAt.forms {K : Nat → Prop} {w : World} {s2 s3 vF vO vE : Value} {st : RSt} (h : RAt K w s2 s3 vF vO vE st) : ∃ A2 c2 A3 c3 AF cF AO cO AE cE, s2 = .slice A2 st.replies.length c2 ∧ s3 = .slice A3 st.fails.length c3 ∧ vF = .slice AF st.files.length cF ∧ vO = .slice AO st.opn.length cO ∧ vE = .slice AE st.events.length cE ∧ st.files.length ≤ cF ∧ cF ≤ maxLen ∧ st.opn.length ≤ cO ∧ cO ≤ maxLen ∧ st.events.length ≤ cE ∧ cE ≤ maxLen := by
  obtain ⟨-, -, A2, c2, h2, -⟩ := h.r2
  obtain ⟨-, -, A3, c3, h3, -⟩ := h.r3
  obtain ⟨AF, cF, hF, hF1, hF2⟩ := own_form h.oF.1
  obtain ⟨AO, cO, hO, hO1, hO2⟩ := own_form h.oO.1
  obtain ⟨AE, cE, hE, hE1, hE2⟩ := own_form h.oE.1
  exact ⟨A2, c2, A3, c3, AF, cF, AO, cO, AE, cE, h2, h3, hF, hO, hE, hF1, hF2, hO1, hO2, hE1, hE2⟩
/-- K, and whatever is new. -/
def Nw (K : Nat → Prop) (w : World) : Nat → Prop := fun b => K b ∨ w.heap.size ≤ b
theorem any_take_succ {α : Type} (p : α → Bool) (l : List α) (k : Nat) (h : k < l.length) : (l.take (k + 1)).any p = ((l.take k).any p || p l[k]) := by
  rw [List.take_succ_eq_append_getElem h, List.any_append]; simp
set_option maxRecDepth 20000 in
set_option maxHeartbeats 4000000 in
theorem rf_fails {K : Nat → Prop} {w : World} {s2 s3 vF vO vE : Value} {st : RSt} (s0 : Value) (h : RAt K w s2 s3 vF vO vE st) (op : Int) (name : ByteArray) :
    Calls Tryd.prog 47 #[.agg (rwcells s0 s2 s3 vF vO vE st), .int .u8 op, .string name] w fun e w' => e = .returned (.bool (st.fails.any (isFl op name))) ∧ Below w.heap.size w w' := by
  have hF := h.r3
  obtain ⟨-, hn9, A, cap, rfl, hc1, hc2, hcell⟩ := hF
  have HB := Lib.hid ((Below.refl w.heap.size w).alloc (Nat.le_refl _) (.cells (rwcells s0 s2 (.slice A st.fails.length cap) vF vO vE st) 46))
  have HN := Lib.hid (Blk.new w 46 (rwcells s0 s2 (.slice A st.fails.length cap) vF vO vE st))
  obtain ⟨n, hnn⟩ : ∃ n, n = st.fails.length := ⟨_, rfl⟩
  rw [← hnn] at hn9 hc1 hcell HB HN ⊢
  have HNN := Lib.hid hnn
  have HC := Lib.hid hcell
  obtain ⟨o, ho⟩ : ∃ o, o = st.fails.any (isFl op name) := ⟨_, rfl⟩
  rw [← ho]
  have HO := Lib.hid ho
  have hcap3 : cap < 9223372036854775808 := by unfold maxLen at hc2; omega
  clear hcell hnn ho
  go_enter Tryd.func47, Tryd.ntmps47
  go_wp2_with fail
  obtain ⟨B, hB⟩ : ∃ B, B = w.heap.size := ⟨_, rfl⟩
  rw [← hB] at HN HB ⊢
  have HBE := Lib.hid hB
  clear hB
  generalize w.alloc (.cells (rwcells s0 s2 (.slice A n cap) vF vO vE st) 46) = w1 at *
  have c3 : w1.cell? ⟨B, 3, none⟩ = some (.slice A n cap) := HN.out.cell 3
  go_loop [7] (fun i => ∃ k : Nat, k ≤ n ∧ i = .int .i64 k ∧ (st.fails.take k).any (isFl op name) = false) (fun i => n - (intOf i).toNat)
  case atStart => exact ⟨0, Nat.zero_le _, rfl, rfl⟩
  case round =>
    obtain ⟨k, hk, rfl, hno⟩ := hrel
    have HNO := Lib.hid hno
    clear hno
    by_cases hlt : k < n
    · have hkl : k < st.fails.length := by have := HNN.out; omega
      obtain ⟨b, oo, rfl, hbl, -, hcell⟩ := HC.out (by omega)
      have d0 : w1.cell? ⟨b, oo + k * 2, none⟩ = some (.int .u8 st.fails[k].op) := by
        rw [HB.out.cell (p := ⟨b, oo + k * 2, none⟩) (by have := HBE.out; show b < B; omega)]
        have h := hcell (k * 2 + 0) (by omega)
        rw [fvals_get st.fails k 0 hkl (by omega)] at h
        exact h
      have d1 : w1.cell? ⟨b, oo + k * 2 + 1, none⟩ = some (.string st.fails[k].name) := by
        rw [HB.out.cell (p := ⟨b, oo + k * 2 + 1, none⟩) (by have := HBE.out; show b < B; omega)]
        have h := hcell (k * 2 + 1) (by omega)
        rw [fvals_get st.fails k 1 hkl (by omega)] at h
        rw [Nat.add_assoc]
        exact h
      have HT := Lib.hid (any_take_succ (isFl op name) st.fails k hkl)
      rw [HNO.out, Bool.false_or] at HT
      have HF1 : Hid (isFl op name st.fails[k] = (decide (st.fails[k].op = op) && decide (st.fails[k].name = name))) := rfl
      have HALL : Hid (isFl op name st.fails[k] = true → o = true) := fun h => by
        rw [HO.out]; exact List.any_eq_true.2 ⟨_, List.getElem_mem hkl, h⟩
      clear hcell
      generalize st.fails[k].op = fo at *
      generalize st.fails[k].name = fn at *
      by_cases h1 : fo = op
      · have e1 : (fo == op) = true := by simp [h1]
        by_cases h2 : fn = name
        · have e2 : (fn.toList == name.toList) = true := by rw [str_eq]; exact decide_eq_true h2
          have HY : Hid (o = true) := HALL.out (by rw [HF1.out, decide_eq_true h1, decide_eq_true h2]; rfl)
          clear h1 h2
          go_wp2_with fail
          go_ret
          exact ⟨ret_bool HY.out.symm, by have := HB.out; rw [HBE.out] at this; exact this⟩
        · have e2 : (fn.toList == name.toList) = false := by rw [str_eq]; exact decide_eq_false h2
          have HF2 := Lib.hid (HT.out.trans (HF1.out.trans (by rw [decide_eq_false h2, Bool.and_false])))
          clear h1 h2
          go_wp2_with fail
          go_round
          case rel => exact ⟨k + 1, by omega, by go_num, HF2.out⟩
          case measure => simp [intOf]; omega
      · have e1 : (fo == op) = false := by simp [h1]
        have HF2 := Lib.hid (HT.out.trans (HF1.out.trans (by rw [decide_eq_false h1, Bool.false_and])))
        clear h1
        go_wp2_with fail
        go_round
        case rel => exact ⟨k + 1, by omega, by go_num, HF2.out⟩
        case measure => simp [intOf]; omega
    · have HE : Hid (o = false) := by
        have h := HNO.out
        rw [show k = st.fails.length by have := HNN.out; omega, List.take_length] at h
        exact HO.out.trans h
      go_wp2_with fail
      go_ret
      exact ⟨ret_bool HE.out.symm, by have := HB.out; rw [HBE.out] at this; exact this⟩
end Go.Proofs.YtdbdmgmenojcaaaDoor
namespace Go.Proofs.YtdbdmgmenojcaaaDoor
open Go.RowKit Wd
theorem find_hit {α : Type} {p : α → Bool} {l : List α} {k : Nat} (h : k < l.length) (hn : (l.take k).any p = false) (hp : p l[k] = true) : l.find? p = some l[k] ∧ l.findIdx? p = some k := by
  have hs : l = l.take k ++ l[k] :: l.drop (k + 1) := by rw [List.getElem_cons_drop, List.take_append_drop]
  have hall : ∀ x ∈ l.take k, p x = false := by simpa using hn
  constructor
  · have h1 : (l.take k).find? p = none := List.find?_eq_none.2 (fun x hx => by rw [hall x hx]; decide)
    conv => lhs; rw [hs]
    rw [List.find?_append, h1, Option.none_or, List.find?_cons_of_pos hp]
  · rw [List.findIdx?_eq_some_iff_getElem]
    refine ⟨h, hp, fun j hj => ?_⟩
    have := hall (l[j]'(by omega)) (by rw [List.mem_take_iff_getElem]; exact ⟨j, by omega, rfl⟩)
    simpa using this
theorem find_end {α : Type} {p : α → Bool} {l : List α} {k : Nat} (h : k = l.length) (hn : (l.take k).any p = false) : l.find? p = none ∧ l.findIdx? p = none := by
  rw [h, List.take_length] at hn
  have hall : ∀ x ∈ l, p x = false := by simpa using hn
  exact ⟨List.find?_eq_none.2 (fun x hx => by rw [hall x hx]; decide), List.findIdx?_eq_none_iff.2 hall⟩
namespace Wd
def isFile (name : ByteArray) (p : ByteArray × ByteArray) : Bool := decide (p.1 = name)
def hitR (k : Int) (name : ByteArray) (s : RSm) : Bool := decide (s.k = k) && decide (s.name = name)
def fileF (st : RSt) (name : ByteArray) : Option (ByteArray × ByteArray) := st.files.find? (isFile name)
def replyF (st : RSt) (cmd : ByteArray) : Option Rp := st.replies.find? (isRp cmd)
def findF (st : RSt) (k : Int) (name : ByteArray) : Option Nat := st.opn.findIdx? (hitR k name)
end Wd
section
variable {K : Nat → Prop} {w : World} {s2 s3 vF vO vE : Value} {st : RSt}
set_option maxRecDepth 20000 in
set_option maxHeartbeats 4000000 in
theorem rf_file (s0 : Value) (h : RAt K w s2 s3 vF vO vE st) (name : ByteArray) :
    Calls Tryd.prog 66 #[.agg (rwcells s0 s2 s3 vF vO vE st), .string name] w fun e w' => e = .returned (.tuple #[.string ((fileF st name).getD (⟨#[]⟩, ⟨#[]⟩)).2, .bool (fileF st name).isSome]) ∧ Below w.heap.size w w' := by
  have hF := h.oF.row
  obtain ⟨-, hn9, A, cap, rfl, hc1, hc2, hcell⟩ := hF
  have HB := Lib.hid ((Below.refl w.heap.size w).alloc (Nat.le_refl _) (.cells (rwcells s0 s2 s3 (.slice A st.files.length cap) vO vE st) 46))
  have HN := Lib.hid (Blk.new w 46 (rwcells s0 s2 s3 (.slice A st.files.length cap) vO vE st))
  obtain ⟨n, hnn⟩ : ∃ n, n = st.files.length := ⟨_, rfl⟩
  rw [← hnn] at hn9 hc1 hcell HB HN ⊢
  have HNN := Lib.hid hnn
  have HC := Lib.hid hcell
  obtain ⟨o, ho⟩ : ∃ o, o = fileF st name := ⟨_, rfl⟩
  rw [← ho]
  have HO := Lib.hid ho
  have hcap3 : cap < 9223372036854775808 := by unfold maxLen at hc2; omega
  clear hcell hnn ho
  go_enter Tryd.func66, Tryd.ntmps66
  go_wp2_with fail
  obtain ⟨B, hB⟩ : ∃ B, B = w.heap.size := ⟨_, rfl⟩
  rw [← hB] at HN HB ⊢
  have HBE := Lib.hid hB
  clear hB
  generalize w.alloc (.cells (rwcells s0 s2 s3 (.slice A n cap) vO vE st) 46) = w1 at *
  have c7 : w1.cell? ⟨B, 7, none⟩ = some (.slice A n cap) := HN.out.cell 7
  go_loop [6] (fun i => ∃ k : Nat, k ≤ n ∧ i = .int .i64 k ∧ (st.files.take k).any (isFile name) = false) (fun i => n - (intOf i).toNat)
  case atStart => exact ⟨0, Nat.zero_le _, rfl, rfl⟩
  case round =>
    obtain ⟨k, hk, rfl, hno⟩ := hrel
    have HNO := Lib.hid hno
    clear hno
    by_cases hlt : k < n
    · have hkl : k < st.files.length := by have := HNN.out; omega
      obtain ⟨b, oo, rfl, hbl, -, hcell⟩ := HC.out (by omega)
      have d0 : w1.cell? ⟨b, oo + k * 2, none⟩ = some (.string st.files[k].1) := by
        rw [HB.out.cell (p := ⟨b, oo + k * 2, none⟩) (by have := HBE.out; show b < B; omega)]
        have h := hcell (k * 2 + 0) (by omega)
        rw [fvals2_get st.files k 0 hkl (by omega)] at h
        exact h
      have d1 : w1.cell? ⟨b, oo + k * 2 + 1, none⟩ = some (.string st.files[k].2) := by
        rw [HB.out.cell (p := ⟨b, oo + k * 2 + 1, none⟩) (by have := HBE.out; show b < B; omega)]
        have h := hcell (k * 2 + 1) (by omega)
        rw [fvals2_get st.files k 1 hkl (by omega)] at h
        rw [Nat.add_assoc]
        exact h
      have HT := Lib.hid (any_take_succ (isFile name) st.files k hkl)
      rw [HNO.out, Bool.false_or] at HT
      have HF1 : Hid (isFile name st.files[k] = decide (st.files[k].1 = name)) := rfl
      have HALL : Hid (isFile name st.files[k] = true → o = some (st.files[k].1, st.files[k].2)) := fun h => by
        rw [HO.out]; exact (find_hit hkl HNO.out h).1
      clear hcell
      generalize st.files[k].1 = fo at *
      generalize st.files[k].2 = fd at *
      by_cases h1 : fo = name
      · have e1 : (fo.toList == name.toList) = true := by rw [str_eq]; exact decide_eq_true h1
        have HY : Hid (o = some (fo, fd)) := HALL.out (by rw [HF1.out, decide_eq_true h1])
        clear h1
        go_wp2_with fail
        go_ret2
        exact ⟨by rw [HY.out]; rfl, by have := HB.out; rw [HBE.out] at this; exact this⟩
      · have e1 : (fo.toList == name.toList) = false := by rw [str_eq]; exact decide_eq_false h1
        have HF2 := Lib.hid (HT.out.trans (HF1.out.trans (decide_eq_false h1)))
        clear h1
        go_wp2_with fail
        go_round
        case rel => exact ⟨k + 1, by omega, by go_num, HF2.out⟩
        case measure => simp [intOf]; omega
    · have HE : Hid (o = none) := HO.out.trans (find_end (show k = st.files.length by have := HNN.out; omega) HNO.out).1
      go_wp2_with fail
      go_ret2
      exact ⟨by rw [HE.out]; rfl, by have := HB.out; rw [HBE.out] at this; exact this⟩
set_option maxRecDepth 20000 in
set_option maxHeartbeats 4000000 in
theorem rf_find (s0 : Value) (h : RAt K w s2 s3 vF vO vE st) (kd : Int) (name : ByteArray) :
    Calls Tryd.prog 43 #[.agg (rwcells s0 s2 s3 vF vO vE st), .int .u8 kd, .string name] w fun e w' => e = .returned (.int .i64 (ixV (findF st kd name))) ∧ Below w.heap.size w w' := by
  have hF := h.oO.row
  obtain ⟨-, hn9, A, cap, rfl, hc1, hc2, hcell⟩ := hF
  have HB := Lib.hid ((Below.refl w.heap.size w).alloc (Nat.le_refl _) (.cells (rwcells s0 s2 s3 vF (.slice A st.opn.length cap) vE st) 46))
  have HN := Lib.hid (Blk.new w 46 (rwcells s0 s2 s3 vF (.slice A st.opn.length cap) vE st))
  obtain ⟨n, hnn⟩ : ∃ n, n = st.opn.length := ⟨_, rfl⟩
  rw [← hnn] at hn9 hc1 hcell HB HN ⊢
  have HNN := Lib.hid hnn
  have HC := Lib.hid hcell
  obtain ⟨o, ho⟩ : ∃ o, o = findF st kd name := ⟨_, rfl⟩
  rw [← ho]
  have HO := Lib.hid ho
  have hcap3 : cap < 9223372036854775808 := by unfold maxLen at hc2; omega
  clear hcell hnn ho
  go_enter Tryd.func43, Tryd.ntmps43
  go_wp2_with fail
  obtain ⟨B, hB⟩ : ∃ B, B = w.heap.size := ⟨_, rfl⟩
  rw [← hB] at HN HB ⊢
  have HBE := Lib.hid hB
  clear hB
  generalize w.alloc (.cells (rwcells s0 s2 s3 vF (.slice A n cap) vE st) 46) = w1 at *
  have c9 : w1.cell? ⟨B, 9, none⟩ = some (.slice A n cap) := HN.out.cell 9
  go_loop [7] (fun i => ∃ k : Nat, k ≤ n ∧ i = .int .i64 k ∧ (st.opn.take k).any (hitR kd name) = false) (fun i => n - (intOf i).toNat)
  case atStart => exact ⟨0, Nat.zero_le _, rfl, rfl⟩
  case round =>
    obtain ⟨k, hk, rfl, hno⟩ := hrel
    have HNO := Lib.hid hno
    clear hno
    by_cases hlt : k < n
    · have hkl : k < st.opn.length := by have := HNN.out; omega
      obtain ⟨b, oo, rfl, hbl, -, hcell⟩ := HC.out (by omega)
      have d0 : w1.cell? ⟨b, oo + k * 4, none⟩ = some (.int .u8 st.opn[k].k) := by
        rw [HB.out.cell (p := ⟨b, oo + k * 4, none⟩) (by have := HBE.out; show b < B; omega)]
        have h := hcell (k * 4 + 0) (by omega)
        rw [svals4_get st.opn k 0 hkl (by omega)] at h
        exact h
      have d1 : w1.cell? ⟨b, oo + k * 4 + 1, none⟩ = some (.string st.opn[k].name) := by
        rw [HB.out.cell (p := ⟨b, oo + k * 4 + 1, none⟩) (by have := HBE.out; show b < B; omega)]
        have h := hcell (k * 4 + 1) (by omega)
        rw [svals4_get st.opn k 1 hkl (by omega)] at h
        rw [Nat.add_assoc]
        exact h
      have HT := Lib.hid (any_take_succ (hitR kd name) st.opn k hkl)
      rw [HNO.out, Bool.false_or] at HT
      have HF1 : Hid (hitR kd name st.opn[k] = (decide (st.opn[k].k = kd) && decide (st.opn[k].name = name))) := rfl
      have HALL : Hid (hitR kd name st.opn[k] = true → o = some k) := fun h => by
        rw [HO.out]; exact (find_hit hkl HNO.out h).2
      clear hcell
      generalize st.opn[k].k = fo at *
      generalize st.opn[k].name = fn at *
      by_cases h1 : fo = kd
      · have e1 : (fo == kd) = true := by simp [h1]
        by_cases h2 : fn = name
        · have e2 : (fn.toList == name.toList) = true := by rw [str_eq]; exact decide_eq_true h2
          have HY : Hid (o = some k) := HALL.out (by rw [HF1.out, decide_eq_true h1, decide_eq_true h2]; rfl)
          clear h1 h2
          go_wp2_with fail
          go_ret
          exact ⟨ret_int (by rw [HY.out]; rfl), by have := HB.out; rw [HBE.out] at this; exact this⟩
        · have e2 : (fn.toList == name.toList) = false := by rw [str_eq]; exact decide_eq_false h2
          have HF2 := Lib.hid (HT.out.trans (HF1.out.trans (by rw [decide_eq_false h2, Bool.and_false])))
          clear h1 h2
          go_wp2_with fail
          go_round
          case rel => exact ⟨k + 1, by omega, by go_num, HF2.out⟩
          case measure => simp [intOf]; omega
      · have e1 : (fo == kd) = false := by simp [h1]
        have HF2 := Lib.hid (HT.out.trans (HF1.out.trans (by rw [decide_eq_false h1, Bool.false_and])))
        clear h1
        go_wp2_with fail
        go_round
        case rel => exact ⟨k + 1, by omega, by go_num, HF2.out⟩
        case measure => simp [intOf]; omega
    · have HE : Hid (o = none) := HO.out.trans (find_end (show k = st.opn.length by have := HNN.out; omega) HNO.out).2
      go_wp2_with fail
      go_ret
      exact ⟨ret_int (by rw [HE.out]; rfl), by have := HB.out; rw [HBE.out] at this; exact this⟩
set_option maxRecDepth 20000 in
set_option maxHeartbeats 4000000 in
theorem rf_reply (s0 : Value) (h : RAt K w s2 s3 vF vO vE st) (cmd : ByteArray) :
    Calls Tryd.prog 44 #[.agg (rwcells s0 s2 s3 vF vO vE st), .string cmd] w fun e w' => e = .returned (.tuple #[((replyF st cmd).getD rpZero).val, .bool (replyF st cmd).isSome]) ∧ Below w.heap.size w w' := by
  have hF := h.r2
  obtain ⟨-, hn9, A, cap, rfl, hc1, hc2, hcell⟩ := hF
  have HB := Lib.hid (((Below.refl w.heap.size w).alloc (Nat.le_refl _) (.cells (rwcells s0 (.slice A st.replies.length cap) s3 vF vO vE st) 46)).alloc (by simp) (.cells #[.string ⟨#[]⟩, .string ⟨#[]⟩, .int .i64 0] 87))
  have HN := Lib.hid ((Blk.new w 46 (rwcells s0 (.slice A st.replies.length cap) s3 vF vO vE st)).keep (Tur.of_alloc (F := fun _ => False) _ (.cells #[.string ⟨#[]⟩, .string ⟨#[]⟩, .int .i64 0] 87)) (fun h => h))
  have hr := Blk.new (w.alloc (.cells (rwcells s0 (.slice A st.replies.length cap) s3 vF vO vE st) 46)) 87 #[.string ⟨#[]⟩, .string ⟨#[]⟩, .int .i64 0]
  rw [show (w.alloc (.cells (rwcells s0 (.slice A st.replies.length cap) s3 vF vO vE st) 46)).heap.size = w.heap.size + 1 by simp] at hr
  have HR := Lib.hid hr
  obtain ⟨n, hnn⟩ : ∃ n, n = st.replies.length := ⟨_, rfl⟩
  rw [← hnn] at hn9 hc1 hcell HB HN HR ⊢
  have HNN := Lib.hid hnn
  have HC := Lib.hid hcell
  obtain ⟨o, ho⟩ : ∃ o, o = replyF st cmd := ⟨_, rfl⟩
  rw [← ho]
  have HO := Lib.hid ho
  have hcap3 : cap < 9223372036854775808 := by unfold maxLen at hc2; omega
  clear hcell hnn ho hr
  go_enter Tryd.func44, Tryd.ntmps44
  go_wp2_with fail
  obtain ⟨B, hB⟩ : ∃ B, B = w.heap.size := ⟨_, rfl⟩
  rw [← hB] at HN HB HR ⊢
  obtain ⟨R, hR⟩ : ∃ R, R = B + 1 := ⟨_, rfl⟩
  rw [← hR] at HR ⊢
  have HBE := Lib.hid hB
  have HRE := Lib.hid hR
  clear hB hR
  generalize (w.alloc (.cells (rwcells s0 (.slice A n cap) s3 vF vO vE st) 46)).alloc (.cells #[.string ⟨#[]⟩, .string ⟨#[]⟩, .int .i64 0] 87) = w1 at *
  have c2 : w1.cell? ⟨B, 2, none⟩ = some (.slice A n cap) := HN.out.cell 2
  obtain ⟨⟨r0, r1, r2⟩, f0, f1, f2⟩ := HR.out.three
  go_loop [6] (fun i => ∃ k : Nat, k ≤ n ∧ i = .int .i64 k ∧ (st.replies.take k).any (isRp cmd) = false) (fun i => n - (intOf i).toNat)
  case atStart => exact ⟨0, Nat.zero_le _, rfl, rfl⟩
  case round =>
    obtain ⟨k, hk, rfl, hno⟩ := hrel
    have HNO := Lib.hid hno
    clear hno
    by_cases hlt : k < n
    · have hkl : k < st.replies.length := by have := HNN.out; omega
      obtain ⟨b, oo, rfl, hbl, -, hcell⟩ := HC.out (by omega)
      have hall : ∀ j, j < 3 → w1.cell? ⟨b, oo + (k * 3 + j), none⟩ = (st.replies[k].vals)[j]? := by
        intro j hj
        rw [HB.out.cell (p := ⟨b, oo + (k * 3 + j), none⟩) (by have := HBE.out; show b < B; omega), hcell (k * 3 + j) (by omega), rvals_get st.replies k j hkl hj]
      have d0 : w1.cell? ⟨b, oo + k * 3, none⟩ = some (.string st.replies[k].cmd) := hall 0 (by omega)
      have d1 : w1.cell? ⟨b, oo + k * 3 + 1, none⟩ = some (.string st.replies[k].out) := by rw [Nat.add_assoc]; exact hall 1 (by omega)
      have d2 : w1.cell? ⟨b, oo + k * 3 + 2, none⟩ = some (.int .i64 st.replies[k].status) := by rw [Nat.add_assoc]; exact hall 2 (by omega)
      have HT := Lib.hid (any_take_succ (isRp cmd) st.replies k hkl)
      rw [HNO.out, Bool.false_or] at HT
      have HF1 : Hid (isRp cmd st.replies[k] = decide (st.replies[k].cmd = cmd)) := rfl
      have HALL : Hid (isRp cmd st.replies[k] = true → o = some ⟨st.replies[k].cmd, st.replies[k].out, st.replies[k].status⟩) := fun h => by
        rw [HO.out]; exact (find_hit hkl HNO.out h).1
      clear hcell hall
      generalize st.replies[k].cmd = fo at *
      generalize st.replies[k].out = fd at *
      generalize st.replies[k].status = fs at *
      by_cases h1 : fo = cmd
      · have e1 : (fo.toList == cmd.toList) = true := by rw [str_eq]; exact decide_eq_true h1
        have HY : Hid (o = some ⟨fo, fd, fs⟩) := HALL.out (by rw [HF1.out, decide_eq_true h1])
        have HS := Lib.hid (HR.out.set3 (.string fo) (.string fd) (.int .i64 fs))
        have HBS := Lib.hid (HB.out.trans (below_set3 (g := R) (B := B) (by have := HRE.out; omega) (by have := HB.out.size; have := HBE.out; omega) (.string fo) (.string fd) (.int .i64 fs)))
        clear h1
        go_wp2_with fail
        clear r0 r1 r2
        obtain ⟨⟨r0, r1, r2⟩, -, -, -⟩ := HS.out.three
        refine bodyPost_ret (v := .tuple #[.agg #[.string fo, .string fd, .int .i64 fs], .bool true]) (by simp [results, Tryd.results44, go_sem, r0, r1, r2]) rfl ⟨by rw [HY.out]; rfl, ?_⟩
        have := HBS.out
        rw [HBE.out] at this
        exact this
      · have e1 : (fo.toList == cmd.toList) = false := by rw [str_eq]; exact decide_eq_false h1
        have HF2 := Lib.hid (HT.out.trans (HF1.out.trans (decide_eq_false h1)))
        clear h1
        go_wp2_with fail
        go_round
        case rel => exact ⟨k + 1, by omega, by go_num, HF2.out⟩
        case measure => simp [intOf]; omega
    · have HE : Hid (o = none) := HO.out.trans (find_end (show k = st.replies.length by have := HNN.out; omega) HNO.out).1
      have HS := Lib.hid (HR.out.set3 (.string ⟨#[]⟩) (.string ⟨#[]⟩) (.int .i64 0))
      have HBS := Lib.hid (HB.out.trans (below_set3 (g := R) (B := B) (by have := HRE.out; omega) (by have := HB.out.size; have := HBE.out; omega) (.string ⟨#[]⟩) (.string ⟨#[]⟩) (.int .i64 0)))
      go_wp2_with fail
      clear r0 r1 r2
      obtain ⟨⟨r0, r1, r2⟩, -, -, -⟩ := HS.out.three
      refine bodyPost_ret (v := .tuple #[.agg #[.string ⟨#[]⟩, .string ⟨#[]⟩, .int .i64 0], .bool false]) (by simp [results, Tryd.results44, go_sem, r0, r1, r2]) rfl ⟨by rw [HE.out]; rfl, ?_⟩
      have := HBS.out
      rw [HBE.out] at this
      exact this
end
end Go.Proofs.YtdbdmgmenojcaaaDoor
namespace Go.Proofs.YtdbdmgmenojcaaaDoor
open Go.RowKit Wd
theorem own_ge' {w : World} {base e sz n k : Nat} {v : Value} {cs : List Value} (h : w.ownsRow base e sz v n cs) (hk : v.ownBlock = some k) : base ≤ k := by
  rcases h.2 with ⟨h1, -⟩ | ⟨g', cap, cur, h1, hb, hh, _⟩
  · rw [h1] at hk; cases hk
  · rw [h1] at hk; injection hk with hk; change g' = k at hk; omega
theorem Tur.seq {F : Nat → Prop} {a b : World} (h : Tur F a b) (g i : Nat) (u : Value) (hg : F g) : Tur F a (b.setCell ⟨g, i, none⟩ u) :=
  h.trans ((Tur.of_set ⟨g, i, none⟩ u).mono (G := F) (fun k _ e => by rw [show k = g from e]; exact hg)) (fun _ _ h => h)
theorem Tur.set12 {w : World} {g : Nat} (x0 x1 x2 x3 x4 x5 x6 x7 x8 x9 x10 x11 : Value) : Tur (· = g) w ((((((((((((w.setCell ⟨g, 0, none⟩ x0).setCell ⟨g, 1, none⟩ x1).setCell ⟨g, 2, none⟩ x2).setCell ⟨g, 3, none⟩ x3).setCell ⟨g, 4, none⟩ x4).setCell ⟨g, 5, none⟩ x5).setCell ⟨g, 6, none⟩ x6).setCell ⟨g, 7, none⟩ x7).setCell ⟨g, 8, none⟩ x8).setCell ⟨g, 9, none⟩ x9).setCell ⟨g, 10, none⟩ x10).setCell ⟨g, 11, none⟩ x11) := by
  refine Tur.seq (Tur.seq (Tur.seq (Tur.seq (Tur.seq (Tur.seq (Tur.seq (Tur.seq (Tur.seq (Tur.seq (Tur.seq (Tur.seq (Tur.refl (· = g) w) g 0 x0 rfl) g 1 x1 rfl) g 2 x2 rfl) g 3 x3 rfl) g 4 x4 rfl) g 5 x5 rfl) g 6 x6 rfl) g 7 x7 rfl) g 8 x8 rfl) g 9 x9 rfl) g 10 x10 rfl) g 11 x11 rfl
theorem Blk.set12 {w : World} {g : Nat} {t : TypeId} {a0 a1 a2 a3 a4 a5 a6 a7 a8 a9 a10 a11 : Value} (h : Blk w g t #[a0, a1, a2, a3, a4, a5, a6, a7, a8, a9, a10, a11]) (x0 x1 x2 x3 x4 x5 x6 x7 x8 x9 x10 x11 : Value) : Blk ((((((((((((w.setCell ⟨g, 0, none⟩ x0).setCell ⟨g, 1, none⟩ x1).setCell ⟨g, 2, none⟩ x2).setCell ⟨g, 3, none⟩ x3).setCell ⟨g, 4, none⟩ x4).setCell ⟨g, 5, none⟩ x5).setCell ⟨g, 6, none⟩ x6).setCell ⟨g, 7, none⟩ x7).setCell ⟨g, 8, none⟩ x8).setCell ⟨g, 9, none⟩ x9).setCell ⟨g, 10, none⟩ x10).setCell ⟨g, 11, none⟩ x11) g t #[x0, x1, x2, x3, x4, x5, x6, x7, x8, x9, x10, x11] := by
  have := (((((((((((h.set 0 x0).set 1 x1).set 2 x2).set 3 x3).set 4 x4).set 5 x5).set 6 x6).set 7 x7).set 8 x8).set 9 x9).set 10 x10).set 11 x11
  simpa using this
theorem Blk.twelve {w : World} {g : Nat} {t : TypeId} {a0 a1 a2 a3 a4 a5 a6 a7 a8 a9 a10 a11 : Value} (h : Blk w g t #[a0, a1, a2, a3, a4, a5, a6, a7, a8, a9, a10, a11]) : (w.cell? ⟨g, 0, none⟩ = some a0 ∧ w.cell? ⟨g, 1, none⟩ = some a1 ∧ w.cell? ⟨g, 2, none⟩ = some a2 ∧ w.cell? ⟨g, 3, none⟩ = some a3 ∧ w.cell? ⟨g, 4, none⟩ = some a4 ∧ w.cell? ⟨g, 5, none⟩ = some a5 ∧ w.cell? ⟨g, 6, none⟩ = some a6 ∧ w.cell? ⟨g, 7, none⟩ = some a7 ∧ w.cell? ⟨g, 8, none⟩ = some a8 ∧ w.cell? ⟨g, 9, none⟩ = some a9 ∧ w.cell? ⟨g, 10, none⟩ = some a10 ∧ w.cell? ⟨g, 11, none⟩ = some a11) ∧ (w.frozen? ⟨g, 0, none⟩ = false ∧ w.frozen? ⟨g, 1, none⟩ = false ∧ w.frozen? ⟨g, 2, none⟩ = false ∧ w.frozen? ⟨g, 3, none⟩ = false ∧ w.frozen? ⟨g, 4, none⟩ = false ∧ w.frozen? ⟨g, 5, none⟩ = false ∧ w.frozen? ⟨g, 6, none⟩ = false ∧ w.frozen? ⟨g, 7, none⟩ = false ∧ w.frozen? ⟨g, 8, none⟩ = false ∧ w.frozen? ⟨g, 9, none⟩ = false ∧ w.frozen? ⟨g, 10, none⟩ = false ∧ w.frozen? ⟨g, 11, none⟩ = false) :=
  ⟨⟨h.cell 0, h.cell 1, h.cell 2, h.cell 3, h.cell 4, h.cell 5, h.cell 6, h.cell 7, h.cell 8, h.cell 9, h.cell 10, h.cell 11⟩, h.free 0, h.free 1, h.free 2, h.free 3, h.free 4, h.free 5, h.free 6, h.free 7, h.free 8, h.free 9, h.free 10, h.free 11⟩
def rwzero : Array Value := #[.slice none 0 0, .string ⟨#[]⟩, .slice none 0 0, .slice none 0 0, .int .i64 0, .int .i64 0, .int .u64 0, .slice none 0 0, .int .i64 0, .slice none 0 0, .int .u64 0, .slice none 0 0]
theorem info_evR : (Tryd.prog.info? 106).map (fun i => (i.zero, i.size, i.bytes)) = some (some (.agg #[.int .u8 0, .int .u8 0, .string ⟨#[]⟩, .string ⟨#[]⟩, .int .i64 0]), 5, 48) := by kernel_rfl
theorem one_evs (l : List Ev) : ∀ u ∈ evals l, u.oneCell' = true := by
  intro u hu
  simp only [evals, List.mem_flatMap] at hu
  obtain ⟨e, -, hu⟩ := hu
  simp [Ev.vals] at hu
  rcases hu with rfl | rfl | rfl | rfl | rfl <;> rfl
theorem evals_snoc (l : List Ev) (e : Ev) : evals l ++ [.int .u8 e.k, .int .u8 e.st, .string e.name, .string e.data, .int .i64 e.status] = evals (l ++ [e]) := by simp [evals, Ev.vals]
theorem one_ev5 {a b e : Int} {c d : ByteArray} : ∀ u ∈ [Value.int .u8 a, .int .u8 b, .string c, .string d, .int .i64 e], u.oneCell' = true := by
  intro u hu
  simp at hu
  rcases hu with rfl | rfl | rfl | rfl | rfl <;> rfl
section
variable {K : Nat → Prop} {w w5 : World} {s2 s3 vF vO vE v : Value} {st : RSt}
theorem RAt.nw (h : RAt K w s2 s3 vF vO vE st) (hb : Below w.heap.size w w5) : RAt (Nw K w) w5 s2 s3 vF vO vE st := (h.pure hb).mono (fun _ _ hk => .inl hk)
theorem own_nw {e sz n : Nat} {cs : List Value} (ho : w5.ownsRow w.heap.size e sz v n cs) (hn : n ≤ 1000000) : OwnK (Nw K w) w5 e sz v n cs :=
  ⟨own_base ho (fun _ _ => Nat.zero_le _), fun g hg => .inr (own_ge' ho hg), hn⟩
theorem RAt.upE {l : List Ev} (h : RAt K w s2 s3 vF vO vE st) (hb : Below w.heap.size w w5) (ho : w5.ownsRow w.heap.size 106 5 v l.length (evals l)) (hn : l.length ≤ 1000000) : RAt (Nw K w) w5 s2 s3 vF vO v { st with events := l } :=
  ⟨(h.nw hb).r2, (h.nw hb).r3, (h.nw hb).oF, (h.nw hb).oO, own_nw ho hn⟩
theorem RAt.upF {l : List (ByteArray × ByteArray)} (h : RAt K w s2 s3 vF vO vE st) (hb : Below w.heap.size w w5) (ho : w5.ownsRow w.heap.size 83 2 v l.length (fvals2 l)) (hn : l.length ≤ 1000000) : RAt (Nw K w) w5 s2 s3 v vO vE { st with files := l } :=
  ⟨(h.nw hb).r2, (h.nw hb).r3, own_nw ho hn, (h.nw hb).oO, (h.nw hb).oE⟩
theorem RAt.upO {l : List RSm} (h : RAt K w s2 s3 vF vO vE st) (hb : Below w.heap.size w w5) (ho : w5.ownsRow w.heap.size 114 4 v l.length (svals4 l)) (hn : l.length ≤ 1000000) : RAt (Nw K w) w5 s2 s3 vF v vE { st with opn := l } :=
  ⟨(h.nw hb).r2, (h.nw hb).r3, (h.nw hb).oF, own_nw ho hn, (h.nw hb).oE⟩
end
section
variable {K : Nat → Prop} {w : World} {s2 s3 vF vO vE : Value} {st : RSt}
set_option maxRecDepth 100000 in
set_option maxHeartbeats 4000000 in
theorem rf_event (A0 : Option Addr) (n0 c0 : Nat) (h : RAt K w s2 s3 vF vO vE st) (ev : Ev) (hn : st.events.length ≤ 100000) :
    Calls Tryd.prog 45 #[.agg (rwcells (.slice A0 n0 c0) s2 s3 vF vO vE st), .agg #[.int .u8 ev.k, .int .u8 ev.st, .string ev.name, .string ev.data, .int .i64 ev.status]] w fun e w' => ∃ vE', e = .returned (.agg (rwcells (.slice A0 n0 c0) s2 s3 vF vO vE' { st with events := st.events ++ [ev] })) ∧ RAt (Nw K w) w' s2 s3 vF vO vE' { st with events := st.events ++ [ev] } ∧ Below w.heap.size w w' := by
  obtain ⟨A2, c2, A3, c3, AF, cF, AO, cO, AE, cE, rfl, rfl, rfl, rfl, rfl, -, -, -, -, -, -⟩ := h.forms
  have HH := Lib.hid h
  have hb0 : Below w.heap.size w (((w.alloc (.cells (rwcells (.slice A0 n0 c0) (.slice A2 st.replies.length c2) (.slice A3 st.fails.length c3) (.slice AF st.files.length cF) (.slice AO st.opn.length cO) (.slice AE st.events.length cE) st) 46)).alloc (.cells #[.int .u8 ev.k, .int .u8 ev.st, .string ev.name, .string ev.data, .int .i64 ev.status] 106)).alloc (.cells #[.slice none 0 0, .string ⟨#[]⟩, .slice none 0 0, .slice none 0 0, .int .i64 0, .int .i64 0, .int .u64 0, .slice none 0 0, .int .i64 0, .slice none 0 0, .int .u64 0, .slice none 0 0] 46)) := (((Below.refl _ _).alloc (Nat.le_refl _) _).alloc (by simp) _).alloc (by simp; omega) _
  have HB0 := Lib.hid hb0
  have HBW := Lib.hid (((Blk.new w 46 (rwcells (.slice A0 n0 c0) (.slice A2 st.replies.length c2) (.slice A3 st.fails.length c3) (.slice AF st.files.length cF) (.slice AO st.opn.length cO) (.slice AE st.events.length cE) st)).keep (Tur.of_alloc (F := fun _ => False) _ (.cells #[.int .u8 ev.k, .int .u8 ev.st, .string ev.name, .string ev.data, .int .i64 ev.status] 106)) (fun h => h)).keep (Tur.of_alloc (F := fun _ => False) _ (.cells #[.slice none 0 0, .string ⟨#[]⟩, .slice none 0 0, .slice none 0 0, .int .i64 0, .int .i64 0, .int .u64 0, .slice none 0 0, .int .i64 0, .slice none 0 0, .int .u64 0, .slice none 0 0] 46)) (fun h => h))
  have hbe := (Blk.new (w.alloc (.cells (rwcells (.slice A0 n0 c0) (.slice A2 st.replies.length c2) (.slice A3 st.fails.length c3) (.slice AF st.files.length cF) (.slice AO st.opn.length cO) (.slice AE st.events.length cE) st) 46)) 106 #[.int .u8 ev.k, .int .u8 ev.st, .string ev.name, .string ev.data, .int .i64 ev.status]).keep (Tur.of_alloc (F := fun _ => False) _ (.cells #[.slice none 0 0, .string ⟨#[]⟩, .slice none 0 0, .slice none 0 0, .int .i64 0, .int .i64 0, .int .u64 0, .slice none 0 0, .int .i64 0, .slice none 0 0, .int .u64 0, .slice none 0 0] 46)) (fun h => h)
  rw [show (w.alloc (.cells (rwcells (.slice A0 n0 c0) (.slice A2 st.replies.length c2) (.slice A3 st.fails.length c3) (.slice AF st.files.length cF) (.slice AO st.opn.length cO) (.slice AE st.events.length cE) st) 46)).heap.size = w.heap.size + 1 by simp] at hbe
  have HBEV := Lib.hid hbe
  have hbr := Blk.new ((w.alloc (.cells (rwcells (.slice A0 n0 c0) (.slice A2 st.replies.length c2) (.slice A3 st.fails.length c3) (.slice AF st.files.length cF) (.slice AO st.opn.length cO) (.slice AE st.events.length cE) st) 46)).alloc (.cells #[.int .u8 ev.k, .int .u8 ev.st, .string ev.name, .string ev.data, .int .i64 ev.status] 106)) 46 #[.slice none 0 0, .string ⟨#[]⟩, .slice none 0 0, .slice none 0 0, .int .i64 0, .int .i64 0, .int .u64 0, .slice none 0 0, .int .i64 0, .slice none 0 0, .int .u64 0, .slice none 0 0]
  rw [show ((w.alloc (.cells (rwcells (.slice A0 n0 c0) (.slice A2 st.replies.length c2) (.slice A3 st.fails.length c3) (.slice AF st.files.length cF) (.slice AO st.opn.length cO) (.slice AE st.events.length cE) st) 46)).alloc (.cells #[.int .u8 ev.k, .int .u8 ev.st, .string ev.name, .string ev.data, .int .i64 ev.status] 106)).heap.size = w.heap.size + 1 + 1 by simp] at hbr
  have HBR := Lib.hid hbr
  have HSZ := Lib.hid (show (((w.alloc (.cells (rwcells (.slice A0 n0 c0) (.slice A2 st.replies.length c2) (.slice A3 st.fails.length c3) (.slice AF st.files.length cF) (.slice AO st.opn.length cO) (.slice AE st.events.length cE) st) 46)).alloc (.cells #[.int .u8 ev.k, .int .u8 ev.st, .string ev.name, .string ev.data, .int .i64 ev.status] 106)).alloc (.cells #[.slice none 0 0, .string ⟨#[]⟩, .slice none 0 0, .slice none 0 0, .int .i64 0, .int .i64 0, .int .u64 0, .slice none 0 0, .int .i64 0, .slice none 0 0, .int .u64 0, .slice none 0 0] 46)).heap.size = w.heap.size + 3 by simp)
  clear h hb0 hbe hbr
  go_enter Tryd.func45, Tryd.ntmps45
  go_upto_region 2 with (fail)
  obtain ⟨B, hB⟩ : ∃ B, B = w.heap.size := ⟨_, rfl⟩
  rw [← hB] at HB0 HBW HBEV HBR HSZ ⊢
  obtain ⟨E, hE⟩ : ∃ E, E = B + 1 := ⟨_, rfl⟩
  rw [← hE] at HBEV HBR ⊢
  obtain ⟨R, hR⟩ : ∃ R, R = E + 1 := ⟨_, rfl⟩
  rw [← hR] at HBR ⊢
  have HBE := Lib.hid (And.intro hB (And.intro hE hR))
  clear hB hE hR
  generalize ((w.alloc (.cells (rwcells (.slice A0 n0 c0) (.slice A2 st.replies.length c2) (.slice A3 st.fails.length c3) (.slice AF st.files.length cF) (.slice AO st.opn.length cO) (.slice AE st.events.length cE) st) 46)).alloc (.cells #[.int .u8 ev.k, .int .u8 ev.st, .string ev.name, .string ev.data, .int .i64 ev.status] 106)).alloc (.cells #[.slice none 0 0, .string ⟨#[]⟩, .slice none 0 0, .slice none 0 0, .int .i64 0, .int .i64 0, .int .u64 0, .slice none 0 0, .int .i64 0, .slice none 0 0, .int .u64 0, .slice none 0 0] 46) = w1 at *
  have c11 : w1.cell? ⟨B, 11, none⟩ = some (.slice AE st.events.length cE) := HBW.out.cell 11
  have HE1 := Lib.hid (own_of_block HH.out.oE.1 (fun g hg => HB0.out.block g (by have := (own_lt HH.out.oE.1 hg).choose_spec.2; have := HBE.out.1; omega)))
  have hz1 : 0 + st.events.length ≤ maxLen := by unfold maxLen; omega
  have hz2 : (0 + st.events.length) * 48 ≤ 140737488355328 := by omega
  have hz3 : st.events.length + 1 ≤ maxLen := by unfold maxLen; omega
  have hz4 : (st.events.length + 1) * 48 ≤ 140737488355328 := by omega
  have hbs : B ≤ w1.heap.size := by have := HSZ.out; omega
  go_upto_region 4 with (first | (at_builtin; refine wp_appn rfl (.tmp 6) (.tmp 8) _ rfl 106 5 48 _ Tryd.underlying44 info_evR rfl (by decide) B (.slice none 0 0) 0 [] rfl (World.ownsRow_nil _ _ _ _) 0 (.slice AE st.events.length cE) st.events.length (evals st.events) rfl HE1.out (one_evs _) hz1 hz2 hbs ?_; intro P2 cap2 w2 hown2 hgrow2 hat2; simp only [Nat.zero_add, List.nil_append] at hown2 hat2; rw [Nat.zero_add]; have ht2 := Tur.of_grown hgrow2; have HW2 := Lib.hid (HBW.out.keep ht2 (fun h => by cases h)); have HE2 := Lib.hid (HBEV.out.keep ht2 (fun h => by cases h)); have HR2 := Lib.hid (HBR.out.keep ht2 (fun h => by cases h)); have HB2 := Lib.hid (HB0.out.trans (ht2.below B (by omega) (fun k hk h => by cases h))); have HO2 := Lib.hid hown2; have HAT := Lib.hid hat2; have hbs2 : B ≤ w2.heap.size := (by have := ht2.size; omega); have HS12 := Lib.hid ht2.size; obtain ⟨⟨e0, e1, e2, e3, e4⟩, -⟩ := HE2.out.five; clear c11 hown2 hgrow2 hat2 ht2 hz1 hz2) | (at_builtin; refine wp_app1_at rfl (.tmp 10) (.tmp 12) _ rfl 106 5 48 _ Tryd.underlying44 info_evR rfl (by decide) B (.slice P2 st.events.length cap2) st.events.length _ rfl HO2.out [.int .u8 ev.k, .int .u8 ev.st, .string ev.name, .string ev.data, .int .i64 ev.status] w2.heap.size rfl rfl rfl one_ev5 hz3 hz4 hbs2 ?_; intro g3 cap3 w3 hlc3 hcm3 hown3 hgrow3 hat3; have ht3 := Tur.of_grown hgrow3; have HNO : Hid (∀ q, q < w1.heap.size → ¬ some q = (.slice P2 st.events.length cap2 : Value).ownBlock) := (fun q hq h => by rcases HAT.out q h.symm with h | h; cases h; omega); have HW3 := Lib.hid (HW2.out.keep ht3 (HNO.out B HBW.out.lt)); have HR3 := Lib.hid (HR2.out.keep ht3 (HNO.out R HBR.out.lt)); have HB3 := Lib.hid (HB2.out.trans (ht3.below B hbs2 (fun k hk h => by have := HSZ.out; exact HNO.out k (by omega) h))); have HO3 := Lib.hid hown3; have HG3 := Lib.hid (show w1.heap.size ≤ g3 by rcases hat3 with h | h; exact (by rcases HAT.out g3 h with h | h; cases h; exact h); have := HS12.out; omega); clear e0 e1 e2 e3 e4 hown3 hgrow3 hat3 ht3 hz3 hz4; obtain ⟨⟨b0, b1, b2, b3, b4, b5, b6, b7, b8, b9, b10, b11⟩, -, -, -, -, -, -, -, -, -, -, -, y11⟩ := HW3.out.twelve; clear b0 b1 b2 b3 b4 b5 b6 b7 b8 b9 b10))
  have HRB := Lib.hid (show ¬ R = B by have := HBE.out; omega)
  have HW4 : Hid (Blk (w3.setCell ⟨B, 11, none⟩ (.slice (some ⟨g3, 0, none⟩) (st.events.length + 1) cap3)) B 46 (rwcells (.slice A0 n0 c0) (.slice A2 st.replies.length c2) (.slice A3 st.fails.length c3) (.slice AF st.files.length cF) (.slice AO st.opn.length cO) (.slice (some ⟨g3, 0, none⟩) (st.events.length + 1) cap3) st)) := HW3.out.set 11 _
  have HR4 := Lib.hid (HR3.out.keep (Tur.of_set ⟨B, 11, none⟩ (.slice (some ⟨g3, 0, none⟩) (st.events.length + 1) cap3)) HRB.out)
  have HO4 := Lib.hid (own_of_block HO3.out (fun g hg => by
    have e : g3 = g := by injection hg
    subst e
    exact (Tur.of_set ⟨B, 11, none⟩ (.slice (some ⟨g3, 0, none⟩) (st.events.length + 1) cap3)).block g3 (own_lt HO3.out rfl).choose_spec.2 (fun h => by have h : g3 = B := h; have := HG3.out; have := HBW.out.lt; omega)))
  have HB4 := Lib.hid (HB3.out.trans ((Tur.of_set (w := w3) ⟨B, 11, none⟩ (.slice (some ⟨g3, 0, none⟩) (st.events.length + 1) cap3)).below B (by have := HB3.out.size; have := HBE.out; omega) (fun k hk h => by have h : k = B := h; omega)))
  clear b11 y11
  generalize w3.setCell ⟨B, 11, none⟩ (.slice (some ⟨g3, 0, none⟩) (st.events.length + 1) cap3) = w4 at *
  obtain ⟨⟨b0, b1, b2, b3, b4, b5, b6, b7, b8, b9, b10, b11⟩, -⟩ := HW4.out.twelve
  obtain ⟨⟨r0, r1, r2, r3, r4, r5, r6, r7, r8, r9, r10, r11⟩, q0, q1, q2, q3, q4, q5, q6, q7, q8, q9, q10, q11⟩ := HR4.out.twelve
  go_wp2_with fail
  have HS5 := Lib.hid (HR4.out.set12 (.slice A0 n0 c0) (.string st.stdin) (.slice A2 st.replies.length c2) (.slice A3 st.fails.length c3) (.int .i64 st.lim) (.int .i64 st.clock) (.int .u64 st.ch) (.slice AF st.files.length cF) (.int .i64 st.taken) (.slice AO st.opn.length cO) (.int .u64 st.num) (.slice (some ⟨g3, 0, none⟩) (st.events.length + 1) cap3))
  have HT5 := Lib.hid (Tur.set12 (w := w4) (g := R) (.slice A0 n0 c0) (.string st.stdin) (.slice A2 st.replies.length c2) (.slice A3 st.fails.length c3) (.int .i64 st.lim) (.int .i64 st.clock) (.int .u64 st.ch) (.slice AF st.files.length cF) (.int .i64 st.taken) (.slice AO st.opn.length cO) (.int .u64 st.num) (.slice (some ⟨g3, 0, none⟩) (st.events.length + 1) cap3))
  clear b0 b1 b2 b3 b4 b5 b6 b7 b8 b9 b10 b11 r0 r1 r2 r3 r4 r5 r6 r7 r8 r9 r10 r11 q0 q1 q2 q3 q4 q5 q6 q7 q8 q9 q10 q11
  generalize ((((((((((((w4.setCell ⟨R, 0, none⟩ (.slice A0 n0 c0)).setCell ⟨R, 1, none⟩ (.string st.stdin)).setCell ⟨R, 2, none⟩ (.slice A2 st.replies.length c2)).setCell ⟨R, 3, none⟩ (.slice A3 st.fails.length c3)).setCell ⟨R, 4, none⟩ (.int .i64 st.lim)).setCell ⟨R, 5, none⟩ (.int .i64 st.clock)).setCell ⟨R, 6, none⟩ (.int .u64 st.ch)).setCell ⟨R, 7, none⟩ (.slice AF st.files.length cF)).setCell ⟨R, 8, none⟩ (.int .i64 st.taken)).setCell ⟨R, 9, none⟩ (.slice AO st.opn.length cO)).setCell ⟨R, 10, none⟩ (.int .u64 st.num)).setCell ⟨R, 11, none⟩ (.slice (some ⟨g3, 0, none⟩) (st.events.length + 1) cap3)) = w5 at *
  obtain ⟨⟨x0, x1, x2, x3, x4, x5, x6, x7, x8, x9, x10, x11⟩, -⟩ := HS5.out.twelve
  have HB5 : Hid (Below w.heap.size w w5) := by
    have h := HB4.out.trans (HT5.out.below B (by have := HB4.out.size; have := HBE.out; omega) (fun k hk h => by have h : k = R := h; have := HBE.out; omega))
    rw [HBE.out.1] at h
    exact h
  have HO5 : Hid (w5.ownsRow w.heap.size 106 5 (.slice (some ⟨g3, 0, none⟩) (st.events.length + 1) cap3) (st.events ++ [ev]).length (evals (st.events ++ [ev]))) := by
    have h := own_of_block HO4.out (fun g hg => by
      have e : g3 = g := by injection hg
      subst e
      exact HT5.out.block g3 (own_lt HO4.out rfl).choose_spec.2 (fun h => by have h : g3 = R := h; have := HG3.out; have := HBR.out.lt; omega))
    rw [HBE.out.1, evals_snoc] at h
    rw [List.length_append]
    exact h
  refine bodyPost_ret (v := .agg #[.slice A0 n0 c0, .string st.stdin, .slice A2 st.replies.length c2, .slice A3 st.fails.length c3, .int .i64 st.lim, .int .i64 st.clock, .int .u64 st.ch, .slice AF st.files.length cF, .int .i64 st.taken, .slice AO st.opn.length cO, .int .u64 st.num, .slice (some ⟨g3, 0, none⟩) (st.events.length + 1) cap3]) (by simp [results, Tryd.results45, go_sem, x0, x1, x2, x3, x4, x5, x6, x7, x8, x9, x10, x11]) rfl ⟨(.slice (some ⟨g3, 0, none⟩) (st.events.length + 1) cap3), rfl, HH.out.upE HB5.out HO5.out (by simp; omega), HB5.out⟩
end
end Go.Proofs.YtdbdmgmenojcaaaDoor
