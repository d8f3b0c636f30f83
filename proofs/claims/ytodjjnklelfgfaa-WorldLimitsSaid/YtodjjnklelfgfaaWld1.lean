/- A world: what it is, plain; where it stands in memory. -/
import Derived.Test.YtodjjnklelfgfaaRows
import Derived.Test.YtodjjnklelfgfaaBlk
import Derived.Test.YtodjjnklelfgfaaMaps
import Derived.Deep.QuietTactic
import Derived.BigQuiet
import Derived.Deep.RegionHeld3
import Derived.Laws.CopyOwn
namespace Go.Proofs.Ytodjjnklelfgfaa
open Go.RowKit
open Go.WideMaps Go.WideElems Go.WideAt

namespace Wd
/-- A stream that is open. -/
structure Sm where
  k : Int
  name : ByteArray
  left : ByteArray
structure Ev where
  k : Int
  st : Int
  name : ByteArray
  data : ByteArray
  status : Int
structure Rp where
  cmd : ByteArray
  out : ByteArray
  status : Int
structure Fl where
  op : Int
  name : ByteArray
structure St where
  lim : Int
  clock : Int
  files : List UInt8 → Option ByteArray
  stdin : ByteArray
  opn : List Sm
  chance : Int
  trace : List Ev
  replies : List Rp
  fails : List Fl
def Sm.cells (s : Sm) : Array Value := #[.int .u8 s.k, .string s.name, .string s.left]
def Ev.vals (e : Ev) : List Value := [.int .u8 e.k, .int .u8 e.st, .string e.name, .string e.data, .int .i64 e.status]
def Rp.vals (e : Rp) : List Value := [.string e.cmd, .string e.out, .int .i64 e.status]
def Fl.vals (e : Fl) : List Value := [.int .u8 e.op, .string e.name]
def evals (l : List Ev) : List Value := l.flatMap Ev.vals
def rvals (l : List Rp) : List Value := l.flatMap Rp.vals
def fvals (l : List Fl) : List Value := l.flatMap Fl.vals
def ptrs (gs : List Nat) : List Value := gs.map fun g => .pointer (some ⟨g, 0, none⟩)
structure Mem where
  s0 : Value
  s1 : Value
  s2 : Value
  s3 : Value
  s6 : Value
  bm : Nat
  m : Nat
  vo : Value
  gs : List Nat
  vt : Value
  vr : Value
  vf : Value
def wcells (M : Mem) (st : St) : Array Value := #[.bool true, M.s0, M.s1, M.s2, M.s3, .int .i64 st.lim, .int .i64 st.clock, M.s6, .map (some M.bm), .string st.stdin, M.vo, .int .u64 st.chance, M.vt, M.vr, M.vf]
def same (a b : ByteArray) : Bool := decide (a = b)
def hit (k : Int) (name : ByteArray) (s : Sm) : Bool := decide (s.k = k) && decide (s.name = name)
def find (st : St) (k : Int) (name : ByteArray) : Option Nat := st.opn.findIdx? (hit k name)
/-- The first of n things that is so. -/
def First (p : Nat → Bool) (n : Nat) : Option Nat → Prop
  | some i => i < n ∧ p i = true ∧ ∀ j, j < i → p j = false
  | none => ∀ j, j < n → p j = false
def ixV : Option Nat → Int
  | some i => i
  | none => -1
theorem first_find {α : Type} (l : List α) (q : α → Bool) (p : Nat → Bool) (hp : ∀ i, (h : i < l.length) → p i = q l[i]) : First p l.length (l.findIdx? q) := by
  cases h : l.findIdx? q with
  | some i =>
    obtain ⟨hi, h1, h2⟩ := List.findIdx?_eq_some_iff_getElem.1 h
    exact ⟨hi, by rw [hp i hi]; exact h1, fun j hj => by rw [hp j (by omega)]; simpa using h2 j hj⟩
  | none =>
    intro j hj
    rw [hp j hj]
    rw [List.findIdx?_eq_none_iff] at h
    exact h _ (List.getElem_mem _)
theorem flat_get {α : Type} (f : α → List Value) (n : Nat) (hf : ∀ a, (f a).length = n) : ∀ (l : List α) (i j : Nat) (h : i < l.length), j < n → (l.flatMap f)[i * n + j]? = (f l[i])[j]? := by
  intro l
  induction l with
  | nil => intro i j h; simp at h
  | cons a l ih =>
    intro i j h hj
    cases i with
    | zero => simp only [Nat.zero_mul, Nat.zero_add, List.flatMap_cons, List.getElem_cons_zero]; rw [List.getElem?_append_left (by rw [hf]; omega)]
    | succ i =>
      simp only [List.flatMap_cons, List.getElem_cons_succ]
      rw [List.getElem?_append_right (by rw [hf, Nat.succ_mul]; omega), hf, show (i + 1) * n + j - n = i * n + j by rw [Nat.succ_mul]; omega]
      exact ih i j (by simpa using h) hj
end Wd
open Wd
/-- Where a world stands. -/
structure WAt (w : World) (F : Nat → Prop) (pb : Nat) (M : Mem) (st : St) : Prop where
  flt : ∀ k, F k → k < w.heap.size
  fp : F pb
  fm : F M.bm
  fo : ∀ g, M.vo.ownBlock = some g → F g
  ft : ∀ g, M.vt.ownBlock = some g → F g
  fr : ∀ g, M.vr.ownBlock = some g → F g
  ff : ∀ g, M.vf.ownBlock = some g → F g
  fg : ∀ g ∈ M.gs, F g
  head : Blk w pb 84 (wcells M st)
  map : MapS Try.prog 9 9 w M.bm M.m (fun l => (st.files l).map Value.string)
  rowO : w.ownsRow 0 88 1 M.vo st.opn.length (ptrs M.gs)
  strm : ∀ i, (h : i < st.opn.length) → ∃ g, M.gs[i]? = some g ∧ Blk w g 93 st.opn[i].cells
  nd : M.gs.Nodup
  rowT : w.ownsRow 0 41 5 M.vt st.trace.length (evals st.trace)
  rowR : w.ownsRow 0 63 3 M.vr st.replies.length (rvals st.replies)
  rowF : w.ownsRow 0 65 2 M.vf st.fails.length (fvals st.fails)
theorem own_lt {w : World} {base e sz n : Nat} {v : Value} {cs : List Value} (h : w.ownsRow base e sz v n cs) {g : Nat} (hg : v.ownBlock = some g) : ∃ cur, w.heap[g]? = some (.cells cur e (0, 0)) ∧ g < w.heap.size := by
  rcases h.2 with ⟨h1, -⟩ | ⟨g', cap, cur, h1, _, hh, _⟩
  · rw [h1] at hg; cases hg
  · rw [h1] at hg; injection hg with hg; change g' = g at hg; subst hg; exact ⟨cur, hh, (Array.getElem?_eq_some_iff.1 hh).1⟩
theorem own_form {w : World} {base e size n : Nat} {v : Value} {xs : List Value} (h : w.ownsRow base e size v n xs) : ∃ A cap, v = .slice A n cap ∧ n ≤ cap ∧ cap ≤ maxLen := by
  rcases h.2 with ⟨h1, h0⟩ | ⟨g, cap, cur, h1, _, _, h4, h5, _⟩
  · exact ⟨none, 0, by rw [h1, h0], by omega, Nat.zero_le _⟩
  · exact ⟨_, cap, h1, h4, h5⟩
section
variable {w w' : World} {F : Nat → Prop} {pb : Nat} {M : Mem} {st : St}
theorem WAt.gl (h : WAt w F pb M st) : M.gs.length = st.opn.length := by
  have := h.rowO.1
  simpa [ptrs] using this
theorem WAt.keep (h : WAt w F pb M st) (hs : w.heap.size ≤ w'.heap.size) (hb : ∀ k, k < w.heap.size → F k → w'.heap[k]? = w.heap[k]?) : WAt w' F pb M st where
  flt := fun k hk => Nat.lt_of_lt_of_le (h.flt k hk) hs
  fp := h.fp
  fm := h.fm
  fo := h.fo
  ft := h.ft
  fr := h.fr
  ff := h.ff
  fg := h.fg
  head := (hb pb h.head.lt h.fp).trans h.head
  map := h.map.of_block (hb M.bm h.map.lt h.fm)
  rowO := own_of_block h.rowO fun g hg => hb g (h.flt g (h.fo g hg)) (h.fo g hg)
  strm := fun i hi => by
    obtain ⟨g, hg, hB⟩ := h.strm i hi
    have hF := h.fg g (List.mem_of_getElem? hg)
    exact ⟨g, hg, (hb g (h.flt g hF) hF).trans hB⟩
  nd := h.nd
  rowT := own_of_block h.rowT fun g hg => hb g (h.flt g (h.ft g hg)) (h.ft g hg)
  rowR := own_of_block h.rowR fun g hg => hb g (h.flt g (h.fr g hg)) (h.fr g hg)
  rowF := own_of_block h.rowF fun g hg => hb g (h.flt g (h.ff g hg)) (h.ff g hg)
theorem WAt.tur {G : Nat → Prop} (h : WAt w F pb M st) (ht : Tur G w w') (hd : ∀ k, F k → ¬ G k) : WAt w' F pb M st := h.keep ht.size (fun k hk hF => ht.block k hk (hd k hF))
theorem WAt.pure (h : WAt w F pb M st) (hb : Below w.heap.size w w') : WAt w' F pb M st := h.keep hb.size (fun k hk _ => hb.block k hk)
theorem WAt.drewN (h : WAt w F pb M st) (n : Nat) : WAt (w.drewN n) F pb M st := h.keep (Nat.le_refl _) (fun _ _ _ => rfl)
theorem WAt.drew (h : WAt w F pb M st) : WAt w.drew F pb M st := h.keep (Nat.le_refl _) (fun _ _ _ => rfl)
/-- The world's own cells. -/
theorem WAt.cell (h : WAt w F pb M st) (i : Nat) : w.cell? ⟨pb, i, none⟩ = (wcells M st)[i]? := h.head.cell i
theorem WAt.free (h : WAt w F pb M st) (i : Nat) : w.frozen? ⟨pb, i, none⟩ = false := h.head.free i
end
/-- Is it none? -/
theorem wo_none {w : World} {F : Nat → Prop} {pb : Nat} {M : Mem} {st : St} (h : WAt w F pb M st) :
    Calls Try.prog 32 #[.pointer (some ⟨pb, 0, none⟩)] w fun e w' => e = .returned (.bool false) ∧ w = w' := by
  have c0 : w.cell? ⟨pb, 0, none⟩ = some (.bool true) := h.cell 0
  go_enter Try.func32, Try.ntmps32
  go_wp2_with fail
  go_ret
  exact ⟨rfl, rfl⟩
theorem wo_streams {w : World} {F : Nat → Prop} {pb : Nat} {M : Mem} {st : St} (h : WAt w F pb M st) :
    Calls Try.prog 16 #[.pointer (some ⟨pb, 0, none⟩)] w fun e w' => e = .returned (.int .i64 st.opn.length) ∧ w = w' := by
  have c10 : w.cell? ⟨pb, 10, none⟩ = some M.vo := h.cell 10
  obtain ⟨A, cap, hv, hc1, hc2⟩ := own_form h.rowO
  rw [hv] at c10
  have H := Lib.hid h
  clear h hv
  go_enter Try.func16, Try.ntmps16
  go_wp2_with fail
  refine (wo_none H.out).mono ?_
  rintro e w2 ⟨rfl, rfl⟩
  go_wp2_with fail
  go_ret
  exact ⟨rfl, rfl⟩
theorem wo_clock {w : World} {F : Nat → Prop} {pb : Nat} {M : Mem} {st : St} (h : WAt w F pb M st) :
    Calls Try.prog 21 #[.pointer (some ⟨pb, 0, none⟩)] w fun e w' => e = .returned (.int .i64 st.clock) ∧ w = w' := by
  have c6 : w.cell? ⟨pb, 6, none⟩ = some (.int .i64 st.clock) := h.cell 6
  have H := Lib.hid h
  clear h
  go_enter Try.func21, Try.ntmps21
  go_wp2_with fail
  refine (wo_none H.out).mono ?_
  rintro e w2 ⟨rfl, rfl⟩
  go_wp2_with fail
  go_ret
  exact ⟨rfl, rfl⟩
end Go.Proofs.Ytodjjnklelfgfaa
