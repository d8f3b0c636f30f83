/- A reader over the input of a world: where it stands; its reads. -/
import Derived.Test.YtdbdmgmenojcaaaDoorG5
set_option linter.unusedVariables false
set_option linter.unusedSimpArgs false
namespace Go.Proofs.YtdbdmgmenojcaaaDoor
open Go.RowKit Wd
def rcells (pb : Nat) (left : ByteArray) (fin ended : Bool) : Array Value := #[.pointer (some ⟨pb, 0, none⟩), .int .u8 1, .string minus, .string left, .bool fin, .bool ended]
/-- A reader of the input at block rb, its world at pb, made since w0; apart from the blocks X. -/
structure RdS (X : Nat → Prop) (w0 w : World) (rb pb : Nat) (left stdin : ByteArray) (fin ended : Bool) : Prop where
  wat : ∃ M F st, WAt w F pb M st ∧ (∀ g, F g → w0.heap.size ≤ g) ∧ (∀ g, F g → ¬ X g) ∧ ¬ F rb ∧ st.stdin = stdin ∧ find st 1 minus = some 0 ∧ failB st 2 minus = false ∧ st.opn.length ≤ 9 ∧ st.fails.length ≤ 9
  below : Below w0.heap.size w0 w
  rd : Blk w rb 26 (rcells pb left fin ended)
  rb0 : w0.heap.size ≤ rb
  rbx : ¬ X rb
  xs : ∀ g, X g → w0.heap.size ≤ g ∧ g < w.heap.size
  size : left.size + stdin.size ≤ 5000
  fin0 : fin = true → stdin.size = 0
section
variable {X : Nat → Prop} {w0 w w' : World} {rb pb : Nat} {left stdin : ByteArray} {fin ended : Bool}
theorem RdS.pure (h : RdS X w0 w rb pb left stdin fin ended) (hb : Below w.heap.size w w') : RdS X w0 w' rb pb left stdin fin ended where
  wat := by
    obtain ⟨M, F, st, h1, r⟩ := h.wat
    exact ⟨M, F, st, h1.pure hb, r⟩
  below := h.below.trans (hb.mono h.below.size)
  rd := below_blk h.rd hb h.rd.lt
  rb0 := h.rb0
  rbx := h.rbx
  xs := fun g hg => by have := h.xs g hg; have := hb.size; omega
  size := h.size
  fin0 := h.fin0
theorem RdS.drew (h : RdS X w0 w rb pb left stdin fin ended) : RdS X w0 w.drew rb pb left stdin fin ended := h.pure (Below.refl _ _).drew
theorem RdS.drewN (h : RdS X w0 w rb pb left stdin fin ended) (n : Nat) : RdS X w0 (w.drewN n) rb pb left stdin fin ended := h.pure (below_drew w n)
theorem RdS.less {Y : Nat → Prop} (h : RdS X w0 w rb pb left stdin fin ended) (hY : ∀ g, Y g → X g) : RdS Y w0 w rb pb left stdin fin ended where
  wat := by
    obtain ⟨M, F, st, h1, h2, h3, r⟩ := h.wat
    exact ⟨M, F, st, h1, h2, fun g hg hy => h3 g hg (hY g hy), r⟩
  below := h.below
  rd := h.rd
  rb0 := h.rb0
  rbx := fun hy => h.rbx (hY _ hy)
  xs := fun g hg => h.xs g (hY g hg)
  size := h.size
  fin0 := h.fin0
/-- Blocks made since a while are kept apart, too. -/
theorem RdS.grow (h : RdS X w0 w rb pb left stdin fin ended) (hb : Below w.heap.size w w') : RdS (fun i => X i ∨ (w.heap.size ≤ i ∧ i < w'.heap.size)) w0 w' rb pb left stdin fin ended where
  wat := by
    obtain ⟨M, F, st, h1, h2, h3, r⟩ := h.wat
    refine ⟨M, F, st, h1.pure hb, h2, fun g hg hx => ?_, r⟩
    rcases hx with hx | hx
    · exact h3 g hg hx
    · have := h1.flt g hg; omega
  below := h.below.trans (hb.mono h.below.size)
  rd := below_blk h.rd hb h.rd.lt
  rb0 := h.rb0
  rbx := fun hx => by
    rcases hx with hx | hx
    · exact h.rbx hx
    · have := h.rd.lt; omega
  xs := fun g hx => by
    have := hb.size
    have := h.below.size
    rcases hx with hx | hx
    · have := h.xs g hx; omega
    · omega
  size := h.size
  fin0 := h.fin0
theorem RdS.setCell (h : RdS X w0 w rb pb left stdin fin ended) (i : Nat) (u : Value) (left' : ByteArray) (fin' ended' : Bool) (hc : (rcells pb left fin ended).setIfInBounds i u = rcells pb left' fin' ended') (hs : left'.size + stdin.size ≤ 5000) (hf : fin' = true → stdin.size = 0) :
    RdS X w0 (w.setCell ⟨rb, i, none⟩ u) rb pb left' stdin fin' ended' where
  wat := by
    obtain ⟨M, F, st, h1, h2, h3, h4, r⟩ := h.wat
    exact ⟨M, F, st, h1.tur (Tur.of_set ⟨rb, i, none⟩ u) (fun k hk e => h4 (by rw [show rb = k from e.symm]; exact hk)), h2, h3, h4, r⟩
  below := h.below.trans ((Tur.of_set ⟨rb, i, none⟩ u).below _ h.below.size (fun k hk e => by have e : k = rb := e; have := h.rb0; omega))
  rd := by rw [← hc]; exact h.rd.set i u
  rb0 := h.rb0
  rbx := h.rbx
  xs := fun g hg => by have := h.xs g hg; simpa [World.setCell] using this
  size := hs
  fin0 := hf
theorem RdS.turSet (h : RdS X w0 w rb pb left stdin fin ended) (i : Nat) (u : Value) : Tur (fun g => ¬ X g) w (w.setCell ⟨rb, i, none⟩ u) :=
  (Tur.of_set ⟨rb, i, none⟩ u).mono (fun k _ e => by rw [show k = rb from e]; exact h.rbx)
theorem RdS.setLeft (h : RdS X w0 w rb pb left stdin fin ended) (l : ByteArray) (hs : l.size + stdin.size ≤ 5000) : RdS X w0 (w.setCell ⟨rb, 3, none⟩ (.string l)) rb pb l stdin fin ended := h.setCell 3 _ l fin ended rfl hs h.fin0
theorem RdS.setFin (h : RdS X w0 w rb pb left stdin fin ended) (b : Bool) (hb : b = true → stdin.size = 0) : RdS X w0 (w.setCell ⟨rb, 4, none⟩ (.bool b)) rb pb left stdin b ended := h.setCell 4 _ left b ended rfl h.size hb
theorem RdS.setEnded (h : RdS X w0 w rb pb left stdin fin ended) (b : Bool) : RdS X w0 (w.setCell ⟨rb, 5, none⟩ (.bool b)) rb pb left stdin fin b := h.setCell 5 _ left fin b rfl h.size h.fin0
theorem RdS.cells (h : RdS X w0 w rb pb left stdin fin ended) : (w.cell? ⟨rb, 0, none⟩ = some (.pointer (some ⟨pb, 0, none⟩)) ∧ w.cell? ⟨rb, 1, none⟩ = some (.int .u8 1) ∧ w.cell? ⟨rb, 2, none⟩ = some (.string minus) ∧ w.cell? ⟨rb, 3, none⟩ = some (.string left) ∧ w.cell? ⟨rb, 4, none⟩ = some (.bool fin) ∧ w.cell? ⟨rb, 5, none⟩ = some (.bool ended)) ∧
    (w.frozen? ⟨rb, 3, none⟩ = false ∧ w.frozen? ⟨rb, 4, none⟩ = false ∧ w.frozen? ⟨rb, 5, none⟩ = false) :=
  ⟨⟨h.rd.cell 0, h.rd.cell 1, h.rd.cell 2, h.rd.cell 3, h.rd.cell 4, h.rd.cell 5⟩, h.rd.free 3, h.rd.free 4, h.rd.free 5⟩
theorem cut_parts (q : Int) (s : ByteArray) : s.extract 0 (cutN q s) ++ s.extract (cutN q s) s.size = s := by
  have h : cutN q s ≤ s.size := Nat.min_le_right _ _
  generalize cutN q s = k at *
  apply ByteArray.ext
  apply Array.ext'
  simp [ByteArray.data_append, ByteArray.data_extract]
theorem rd_read (h : RdS X w0 w rb pb left stdin fin ended) :
    Calls Tryd.prog 18 #[.pointer (some ⟨pb, 0, none⟩), .int .u8 1, .string minus, .int .i64 512] w fun e w' => ∃ s s' : ByteArray, e = .returned (.tuple #[.string s, .int .i64 0]) ∧ s ++ s' = stdin ∧ (s.size = 0 → stdin.size = 0) ∧ RdS X w0 w' rb pb left s' fin ended ∧ Tur (fun g => ¬ X g) w w' := by
  obtain ⟨M, F, st, h1, h2, h3, h4, rfl, h5, h6, h7, h8⟩ := h.wat
  have hsz := h.size
  refine (wo_read_in h1 512 (by omega) (by omega) (by omega) (by omega) (by omega) 0 h5 h6).mono ?_
  rintro e w2 ⟨rfl, hW', ht⟩
  have hcat := cut_parts ((512 : Nat) : Int) st.stdin
  have hz := congrArg ByteArray.size hcat
  rw [ByteArray.size_append] at hz
  refine ⟨_, _, rfl, hcat, ?_, ?_, ht.mono (fun i _ hi => h3 i hi)⟩
  · intro h0
    have hk : cutN ((512 : Nat) : Int) st.stdin = min 512 st.stdin.size := rfl
    rw [ByteArray.size_extract, hk] at h0
    omega
  · exact {
      wat := ⟨M, F, _, hW', h2, h3, h4, rfl, h5, h6, h7, h8⟩
      below := h.below.trans (ht.below _ h.below.size (fun k hk e => by have := h2 k e; omega))
      rd := h.rd.keep ht h4
      rb0 := h.rb0
      rbx := h.rbx
      xs := fun g hg => by have := h.xs g hg; have := ht.size; omega
      size := by show left.size + (st.stdin.extract _ _).size ≤ 5000; omega
      fin0 := fun e => by have := h.fin0 e; show (st.stdin.extract _ _).size = 0; omega }
end
end Go.Proofs.YtdbdmgmenojcaaaDoor
