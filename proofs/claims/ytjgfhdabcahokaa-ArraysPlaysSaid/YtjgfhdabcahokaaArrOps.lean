/- Arrays: a script that came in. -/
import Derived.Test.YtjgfhdabcahokaaArrSame
import Derived.Deep.Slices
namespace Go.Proofs.Ytjgfhdabcahokaa
open Go.RowKit Go.ChangeShapes Go.WideShapes Go.Deep

structure OpV where
  kind : Int
  key : ByteArray
  c : Arr.Cell
def Ops (w : World) (B : Nat) (A : Option Addr) (n : Nat) (ops : List OpV) : Prop :=
  ops.length = n ∧ (∀ x ∈ ops, x.key.size ≤ maxLen) ∧ (0 < n → ∃ b o, A = some ⟨b, o, none⟩ ∧ b < B ∧ ∀ i, (hi : i < ops.length) → w.cell? ⟨b, o + i * 5, none⟩ = some (.int .i64 ops[i].kind) ∧ w.cell? ⟨b, o + i * 5 + 1, none⟩ = some (.string ops[i].key) ∧
    w.cell? ⟨b, o + i * 5 + 2, none⟩ = some (.int .u8 ops[i].c.k) ∧ w.cell? ⟨b, o + i * 5 + 3, none⟩ = some (.int .u64 ops[i].c.n) ∧ w.cell? ⟨b, o + i * 5 + 4, none⟩ = some (.string ops[i].c.s))
theorem op_open {H : Type} {enc : TypeId × Value → H} {w : World} {base : Nat} {spare : Nat → Bool} {held : Bool} {fuel : Nat} {cs : List Value} {x : DataW H × List MemPlace}
    (h : DataW.trod enc Try.prog w base spare held fuel 50 cs = some x) : ∃ op : OpV, op.key.size ≤ maxLen ∧ cs = [.int .i64 op.kind, .string op.key, .int .u8 op.c.k, .int .u64 op.c.n, .string op.c.s] := by
  obtain ⟨ys, n, hn, hy, hlen, hyl, hf⟩ := DataW.trod_struct Try.underlying50 h
  have hc5 : Try.prog.cellsOf 50 = 5 := by kernel_rfl
  rw [hc5] at hlen
  have k0 : Try.prog.cellsOf 3 = 1 := by kernel_rfl
  have k1 : Try.prog.cellsOf 9 = 1 := by kernel_rfl
  have k2 : Try.prog.cellsOf 31 = 3 := by kernel_rfl
  have k3 : Try.prog.cellsOf 28 = 1 := by kernel_rfl
  have k4 : Try.prog.cellsOf 29 = 1 := by kernel_rfl
  match cs, hlen, ys, hyl with
  | [v0, v1, v2, v3, v4], _, [y0, y1, y2], _ =>
    have e0 : DataW.trod enc Try.prog w base spare held n 3 (([v0, v1, v2, v3, v4].drop 0).take (Try.prog.cellsOf 3)) = some y0 := hf 0 _ rfl
    have e1 : DataW.trod enc Try.prog w base spare held n 9 (([v0, v1, v2, v3, v4].drop 1).take (Try.prog.cellsOf 9)) = some y1 := hf 1 _ rfl
    have e2 : DataW.trod enc Try.prog w base spare held n 31 (([v0, v1, v2, v3, v4].drop 2).take (Try.prog.cellsOf 31)) = some y2 := hf 2 _ rfl
    rw [k0] at e0
    rw [k1] at e1
    rw [k2] at e2
    have e2' : DataW.trod enc Try.prog w base spare held n 31 [v2, v3, v4] = some y2 := e2
    obtain ⟨m0, a0, -, -⟩ := DataW.trod_int Try.underlying3 e0
    obtain ⟨m1, a1, -, hw1⟩ := DataW.trod_string Try.underlying9 e1
    obtain ⟨zs, n2, hn2, hz, hzl, hzyl, hg⟩ := DataW.trod_struct Try.underlying31 e2'
    match zs, hzyl with
    | [z0, z1, z2], _ =>
      have f0 : DataW.trod enc Try.prog w base spare held n2 28 (([v2, v3, v4].drop 0).take (Try.prog.cellsOf 28)) = some z0 := hg 0 _ rfl
      have f1 : DataW.trod enc Try.prog w base spare held n2 29 (([v2, v3, v4].drop 1).take (Try.prog.cellsOf 29)) = some z1 := hg 1 _ rfl
      have f2 : DataW.trod enc Try.prog w base spare held n2 9 (([v2, v3, v4].drop 2).take (Try.prog.cellsOf 9)) = some z2 := hg 2 _ rfl
      rw [k3] at f0
      rw [k4] at f1
      rw [k1] at f2
      obtain ⟨m2, a2, -, -⟩ := DataW.trod_int Try.underlying28 f0
      obtain ⟨m3, a3, -, -⟩ := DataW.trod_int Try.underlying29 f1
      obtain ⟨m4, a4, -, -⟩ := DataW.trod_string Try.underlying9 f2
      simp at a0 a1 a2 a3 a4
      subst a0 a1 a2 a3 a4
      exact ⟨⟨m0, m1, ⟨m2, m3, m4⟩⟩, hw1, rfl⟩
theorem ops_open {H : Type} {enc : TypeId × Value → H} {w : World} {base : Nat} {v : Value} {d : DataW H} {p : List MemPlace} {spare : Nat → Bool} {held : Bool} {r}
    (hval : Value.okWide Try.prog w r base 47 v) (k : DataW.Trod enc Try.prog w 0 spare held 47 v d p) :
    ∃ A n cap xs, v = .slice A n cap ∧ Ops w w.heap.size A n xs ∧ n ≤ cap ∧ cap ≤ maxLen := by
  obtain ⟨a0, len0, cap0, rfl⟩ := okWide_slice Try.underlying47 hval
  obtain ⟨fuel, hf⟩ := k
  have hc5 : Try.prog.cellsOf 50 = 5 := by kernel_rfl
  rcases open_slice Try.underlying47 (by simpa [Value.cells] using hf) with ⟨hcs, _⟩ | ⟨a, len, cap, m, n, D, Pl, hcs, hb, hl, hm, hmm, hx, hi⟩
  · simp at hcs
    obtain ⟨rfl, rfl, rfl⟩ := hcs
    exact ⟨_, _, _, [], rfl, ⟨rfl, by simp, fun h => by omega⟩, Nat.le_refl _, by unfold maxLen; omega⟩
  · simp at hcs
    obtain ⟨rfl, rfl, rfl⟩ := hcs
    have hlen : len0 ≤ m := by rw [hmm]; split <;> omega
    rw [hc5] at hi
    have each : ∀ i, i < len0 → ∃ op : OpV, op.key.size ≤ maxLen ∧ w.cells? 0 (a.add (i * 5)) 5 = some [.int .i64 op.kind, .string op.key, .int .u8 op.c.k, .int .u64 op.c.n, .string op.c.s] := fun i h => by
      obtain ⟨cs', h1, h2⟩ := hi i (by omega)
      obtain ⟨op, h3, rfl⟩ := op_open h2
      exact ⟨op, h3, h1⟩
    refine ⟨_, _, _, (List.range len0).attach.map (fun i => (each i.1 (List.mem_range.1 i.2)).choose), rfl, ⟨by simp, fun x hx => ?_, fun hn => ?_⟩, hl, hm⟩
    · simp only [List.mem_map] at hx
      obtain ⟨i, -, rfl⟩ := hx
      exact (each i.1 (List.mem_range.1 i.2)).choose_spec.1
    obtain ⟨b, o, s⟩ := a
    obtain ⟨op0, -, h0⟩ := each 0 hn
    have h0' := (World.cells?_some h0).2.2 0 (by omega)
    have hs : s = none := by simpa [Addr.add] using World.cell?_spot (h0'.trans rfl)
    subst hs
    have hlt : b < w.heap.size := by
      simp only [Nat.zero_mul, add_off', Nat.add_zero] at h0'
      by_cases h : b < w.heap.size
      · exact h
      · simp [World.cell?, Array.getElem?_eq_none (Nat.le_of_not_lt h)] at h0'
    refine ⟨b, o, rfl, hlt, fun i hi' => ?_⟩
    have hi2 : i < len0 := by simpa using hi'
    have hg : ((List.range len0).attach.map (fun i => (each i.1 (List.mem_range.1 i.2)).choose))[i]'hi' = (each i hi2).choose := by simp
    rw [hg]
    have h1 := (each i hi2).choose_spec.2
    generalize (each i hi2).choose = op at h1 ⊢
    obtain ⟨-, -, h2⟩ := World.cells?_some h1
    have q0 := h2 0 (by omega)
    have q1 := h2 1 (by omega)
    have q2 := h2 2 (by omega)
    have q3 := h2 3 (by omega)
    have q4 := h2 4 (by omega)
    simp only [add_off', Nat.add_zero] at q0 q1 q2 q3 q4
    exact ⟨q0.trans rfl, q1.trans rfl, q2.trans rfl, q3.trans rfl, q4.trans rfl⟩
end Go.Proofs.Ytjgfhdabcahokaa
