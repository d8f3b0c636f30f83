/- In the law of the readers: what Next hands back is stored. -/
import Derived.Test.YtdbdmgmenojcaaaDoorG19
import Derived.Test.YtdbdmgmenojcaaaDoorG21
import Derived.Deep.MidRow
import Derived.Test.YtdbdmgmenojcaaaDoorG11
import Derived.Test.YtdbdmgmenojcaaaDoorG16
import Derived.Test.YtdbdmgmenojcaaaDoorG10
set_option linter.unusedVariables false
set_option linter.unusedSimpArgs false
namespace Go.Proofs.YtdbdmgmenojcaaaDoor
open Go.RowKit Wd
theorem tail_in {A : Prop} {G : World → Nat → Nat → Fm → RSt → Prop} (F : World → Nat → Nat → Fm → RSt → Prop) (main : (∀ w a b f r, F w a b f r → G w a b f r) → A) (tail : ∀ w a b f r, F w a b f r → G w a b f r) : A := main tail
theorem row_five {w : World} {B e mb cap : Nat} {l : List RdV} (h : w.ownsRow B e 5 (.slice (some ⟨mb, 0, none⟩) l.length cap) l.length (mvals l)) (x : Nat) (hx : x < l.length) {r : RdV} (hr : r = l[x]) :
    w.cell? ⟨mb, x * 5, none⟩ = some (.int .u8 r.k) ∧ w.cell? ⟨mb, x * 5 + 1, none⟩ = some (.string r.name) ∧ w.cell? ⟨mb, x * 5 + 2, none⟩ = some (.string r.left) ∧ w.cell? ⟨mb, x * 5 + 3, none⟩ = some (.bool r.fin) ∧ w.cell? ⟨mb, x * 5 + 4, none⟩ = some (.bool r.ended) := by
  have g : ∀ j, j < 5 → w.cell? ⟨mb, x * 5 + j, none⟩ = (mv5 r)[j]? := fun j hj => by
    have h1 := h.cellAt (x * 5 + j) (show x * 5 + j < l.length * 5 by omega)
    rw [h1, hr]
    exact mvals_get l x j hx hj
  exact ⟨g 0 (by decide), g 1 (by decide), g 2 (by decide), g 3 (by decide), g 4 (by decide)⟩
section
variable {w wr wx : World} {V T : Nat} {t : TypeId} {lv mv : Value} {gs : List Nat} {F K : Nat → Prop} {a0 a1 a2 a3 a4 a5 a6 a7 a8 a9 a10 a11 : Value}
theorem Bx.fill12 (h : Bx w wr V lv mv gs F K T t #[a0, a1, a2, a3, a4, a5, a6, a7, a8, a9, a10, a11]) (f : Fm) (rs : RSt) : Bx w (put12 wr T f rs) V lv mv gs F (fun b => K b ∧ b < wr.heap.size) T t (fcells f rs) :=
  ⟨h.blk.set12 _ _ _ _ _ _ _ _ _ _ _ _, h.old, h.nF, fun e => h.nK e.1, h.nV, h.nX⟩
def put5 (w : World) (g i : Nat) (r : RdV) : World := ((((w.setCell ⟨g, i, none⟩ (.int .u8 r.k)).setCell ⟨g, i + 1, none⟩ (.string r.name)).setCell ⟨g, i + 2, none⟩ (.string r.left)).setCell ⟨g, i + 3, none⟩ (.bool r.fin)).setCell ⟨g, i + 4, none⟩ (.bool r.ended)
theorem put5_tur (w : World) (g i : Nat) (r : RdV) : Tur (· = g) w (put5 w g i r) := Tur.set5 _ _ _ _ _
theorem Bx.fill5 (h : Bx w wr V lv mv gs F K T t #[a0, a1, a2, a3, a4]) (r : RdV) : Bx w (put5 wr T 0 r) V lv mv gs F (fun b => K b ∧ b < wr.heap.size) T t #[.int .u8 r.k, .string r.name, .string r.left, .bool r.fin, .bool r.ended] :=
  ⟨h.blk.set5 _ _ _ _ _, h.old, h.nF, fun e => h.nK e.1, h.nV, h.nX⟩
variable {rl ml : List RdV} {pb : Nat} {M : Mem} {st : St} {f f0 : Fm} {rs rs0 : RSt}
theorem LR.putM {mb cap : Nat} (h : LR w wr V lv (.slice (some ⟨mb, 0, none⟩) ml.length cap) gs rl ml f0 rs0 F pb M st K f rs) (x : Nat) (hx : x < ml.length) (r : RdV) : LR w (put5 wr mb (x * 5) r) V lv (.slice (some ⟨mb, 0, none⟩) ml.length cap) gs rl (ml.set x r) f0 rs0 F pb M st (fun b => K b ∧ b < wr.heap.size) f rs := by
  refine h.turnM (ml.set x r) ((put5_tur wr mb (x * 5) r).mono (fun k _ e => by rw [show k = mb from e]; rfl)) ?_ (fun g e => .inl e)
  have h1 := own_set (own_set (own_set (own_set (own_set h.rowM (x * 5) (.int .u8 r.k)) (x * 5 + 1) (.string r.name)) (x * 5 + 2) (.string r.left)) (x * 5 + 3) (.bool r.fin)) (x * 5 + 4) (.bool r.ended)
  rw [mvals_put ml x r hx] at h1
  rw [List.length_set]
  exact h1
end
section
variable {w : World} {ops : Array Oper} {rest : List Oper} {o : Oper} {a : Act} {Q : Exit → Act → World → Prop} {e : TypeId} {g : Nat} {cs : Array Value}
theorem Blk.range (hb : Blk w g e cs) : w.rangeAt g 0 cs.toList := fun j v hj => by
  rw [Nat.zero_add, hb.cell j, ← hj]
  simp
theorem Blk.there (hb : Blk w g e cs) : w.there g 0 cs.size := fun j hj => by
  rw [Nat.zero_add, hb.cell j]
  exact ⟨by simp [hj], hb.free j⟩
/-- The document's world is read whole. -/
theorem wp_get12 (hgd : o.guard = none) (x : Operand) (ho : o.op = .load 46 x) (f : Fm) (rs : RSt) (hx : a.eval x = .pointer (some ⟨g, 0, none⟩)) (hb : Blk w g e (fcells f rs))
    (h : wpList Tryd.prog ops Q rest (a.put o.dst (.agg (fcells f rs))) w) : wpList Tryd.prog ops Q (o :: rest) a w :=
  wpList_load_mid hgd 46 x ho g 0 hx (fcells f rs).toList _ hb.range Tryd.underlying46 rfl (by kernel_rfl) h
/-- .. and stored whole. -/
theorem wp_put12 (hgd : o.guard = none) (x y : Operand) (ho : o.op = .store 46 x y) (f : Fm) (rs : RSt) (hx : a.eval x = .pointer (some ⟨g, 0, none⟩)) (hy : a.eval y = .agg (fcells f rs)) (hb : Blk w g e cs) (hs : cs.size = 12)
    (h : wpList Tryd.prog ops Q rest (a.put o.dst undef) (put12 w g f rs)) : wpList Tryd.prog ops Q (o :: rest) a w :=
  wpList_store_mid hgd 46 x y ho g 0 (fcells f rs) hx hy (by have := hb.there; rw [hs] at this; exact this) (by kernel_rfl) (by unfold fcells; simp [Value.oneCell']) h
theorem gs12 {dst : Option Nat} {x : Operand} {ty : TypeId} {pos : String} {aft : Array Edge} (f : Fm) (rs : RSt) (hx : a.eval x = .pointer (some ⟨g, 0, none⟩)) (hb : Blk w g e (fcells f rs))
    (h : wpList Tryd.prog ops Q rest (a.put dst (.agg (fcells f rs))) w) : wpList Tryd.prog ops Q (⟨dst, .load 46 x, ty, pos, aft, none⟩ :: rest) a w :=
  wp_get12 rfl x rfl f rs hx hb h
theorem ps12 {dst : Option Nat} {x y : Operand} {ty : TypeId} {pos : String} {aft : Array Edge} (f : Fm) (rs : RSt) (hx : a.eval x = .pointer (some ⟨g, 0, none⟩)) (hy : a.eval y = .agg (fcells f rs)) (hb : Blk w g e cs) (hs : cs.size = 12)
    (h : wpList Tryd.prog ops Q rest (a.put dst undef) (put12 w g f rs)) : wpList Tryd.prog ops Q (⟨dst, .store 46 x y, ty, pos, aft, none⟩ :: rest) a w :=
  wp_put12 rfl x y rfl f rs hx hy hb hs h
end
end Go.Proofs.YtdbdmgmenojcaaaDoor
namespace Go.Proofs.YtdbdmgmenojcaaaDoor
open Go.RowKit Go.ChangeShapes Go.WideShapes Go.Deep Wd
structure Wd.RopV where
  kind : Int
  r : Int
  n : Int
  k : Int
  rs : ByteArray
  name : ByteArray
def Rops (w : World) (B : Nat) (A : Option Addr) (n : Nat) (ops : List RopV) : Prop :=
  ops.length = n ∧ (∀ x ∈ ops, (Lit.int .i64 x.kind).wf = true ∧ (Lit.int .i64 x.r).wf = true ∧ (Lit.int .i64 x.n).wf = true ∧ (Lit.int .u8 x.k).wf = true ∧ x.rs.size ≤ maxLen ∧ x.name.size ≤ maxLen) ∧ (0 < n → ∃ b o, A = some ⟨b, o, none⟩ ∧ b < B ∧ ∀ i, (hi : i < ops.length) → w.cell? ⟨b, o + i * 6, none⟩ = some (.int .i64 ops[i].kind) ∧ w.cell? ⟨b, o + i * 6 + 1, none⟩ = some (.int .i64 ops[i].r) ∧
    w.cell? ⟨b, o + i * 6 + 2, none⟩ = some (.int .i64 ops[i].n) ∧ w.cell? ⟨b, o + i * 6 + 3, none⟩ = some (.int .u8 ops[i].k) ∧ w.cell? ⟨b, o + i * 6 + 4, none⟩ = some (.string ops[i].rs) ∧ w.cell? ⟨b, o + i * 6 + 5, none⟩ = some (.string ops[i].name))
set_option maxRecDepth 100000 in
theorem rop_open {H : Type} {enc : TypeId × Value → H} {w : World} {base : Nat} {spare : Nat → Bool} {held : Bool} {fuel : Nat} {cs : List Value} {x : DataW H × List MemPlace}
    (h : DataW.trod enc Tryd.prog w base spare held fuel 51 cs = some x) : ∃ op : RopV, ((Lit.int .i64 op.kind).wf = true ∧ (Lit.int .i64 op.r).wf = true ∧ (Lit.int .i64 op.n).wf = true ∧ (Lit.int .u8 op.k).wf = true ∧ op.rs.size ≤ maxLen ∧ op.name.size ≤ maxLen) ∧ cs = [.int .i64 op.kind, .int .i64 op.r, .int .i64 op.n, .int .u8 op.k, .string op.rs, .string op.name] := by
  obtain ⟨ys, n, hn, hy, hlen, hyl, hf⟩ := DataW.trod_struct Tryd.underlying51 h
  have hc5 : Tryd.prog.cellsOf 51 = 6 := by kernel_rfl
  rw [hc5] at hlen
  have k0 : Tryd.prog.cellsOf 3 = 1 := by kernel_rfl
  have k1 : Tryd.prog.cellsOf 9 = 1 := by kernel_rfl
  have k3 : Tryd.prog.cellsOf 24 = 1 := by kernel_rfl
  match cs, hlen, ys, hyl with
  | [v0, v1, v2, v3, v4, v5], _, [y0, y1, y2, y3, y4, y5], _ =>
    have e0 : DataW.trod enc Tryd.prog w base spare held n 3 (([v0, v1, v2, v3, v4, v5].drop 0).take (Tryd.prog.cellsOf 3)) = some y0 := hf 0 _ rfl
    have e1 : DataW.trod enc Tryd.prog w base spare held n 3 (([v0, v1, v2, v3, v4, v5].drop 1).take (Tryd.prog.cellsOf 3)) = some y1 := hf 1 _ rfl
    have e2 : DataW.trod enc Tryd.prog w base spare held n 3 (([v0, v1, v2, v3, v4, v5].drop 2).take (Tryd.prog.cellsOf 3)) = some y2 := hf 2 _ rfl
    have e3 : DataW.trod enc Tryd.prog w base spare held n 24 (([v0, v1, v2, v3, v4, v5].drop 3).take (Tryd.prog.cellsOf 24)) = some y3 := hf 3 _ rfl
    have e4 : DataW.trod enc Tryd.prog w base spare held n 9 (([v0, v1, v2, v3, v4, v5].drop 4).take (Tryd.prog.cellsOf 9)) = some y4 := hf 4 _ rfl
    have e5 : DataW.trod enc Tryd.prog w base spare held n 9 (([v0, v1, v2, v3, v4, v5].drop 5).take (Tryd.prog.cellsOf 9)) = some y5 := hf 5 _ rfl
    rw [k0] at e0 e1 e2
    rw [k3] at e3
    rw [k1] at e4 e5
    obtain ⟨m0, a0, -, h0⟩ := DataW.trod_int Tryd.underlying3 e0
    obtain ⟨m1, a1, -, h1⟩ := DataW.trod_int Tryd.underlying3 e1
    obtain ⟨m2, a2, -, h2⟩ := DataW.trod_int Tryd.underlying3 e2
    obtain ⟨m3, a3, -, h3⟩ := DataW.trod_int Tryd.underlying24 e3
    obtain ⟨m4, a4, -, h4⟩ := DataW.trod_string Tryd.underlying9 e4
    obtain ⟨m5, a5, -, h5⟩ := DataW.trod_string Tryd.underlying9 e5
    simp at a0 a1 a2 a3 a4 a5
    subst a0 a1 a2 a3 a4 a5
    exact ⟨⟨m0, m1, m2, m3, m4, m5⟩, ⟨h0, h1, h2, h3, h4, h5⟩, rfl⟩
set_option maxRecDepth 100000 in
theorem rops_open {H : Type} {enc : TypeId × Value → H} {w : World} {base : Nat} {v : Value} {d : DataW H} {p : List MemPlace} {spare : Nat → Bool} {held : Bool} {r}
    (hval : Value.okWide Tryd.prog w r base 39 v) (k : DataW.Trod enc Tryd.prog w 0 spare held 39 v d p) :
    ∃ A n cap xs, v = .slice A n cap ∧ Rops w w.heap.size A n xs ∧ n ≤ cap ∧ cap ≤ maxLen := by
  obtain ⟨a0, len0, cap0, rfl⟩ := okWide_slice Tryd.underlying39 hval
  obtain ⟨fuel, hf⟩ := k
  have hc5 : Tryd.prog.cellsOf 51 = 6 := by kernel_rfl
  rcases open_slice Tryd.underlying39 (by simpa [Value.cells] using hf) with ⟨hcs, _⟩ | ⟨a, len, cap, m, n, D, Pl, hcs, hb, hl, hm, hmm, hx, hi⟩
  · simp at hcs
    obtain ⟨rfl, rfl, rfl⟩ := hcs
    exact ⟨_, _, _, [], rfl, ⟨rfl, by simp, fun h => by omega⟩, Nat.le_refl _, by unfold maxLen; omega⟩
  · simp at hcs
    obtain ⟨rfl, rfl, rfl⟩ := hcs
    have hlen : len0 ≤ m := by rw [hmm]; split <;> omega
    rw [hc5] at hi
    have each : ∀ i, i < len0 → ∃ op : RopV, ((Lit.int .i64 op.kind).wf = true ∧ (Lit.int .i64 op.r).wf = true ∧ (Lit.int .i64 op.n).wf = true ∧ (Lit.int .u8 op.k).wf = true ∧ op.rs.size ≤ maxLen ∧ op.name.size ≤ maxLen) ∧ w.cells? 0 (a.add (i * 6)) 6 = some [.int .i64 op.kind, .int .i64 op.r, .int .i64 op.n, .int .u8 op.k, .string op.rs, .string op.name] := fun i h => by
      obtain ⟨cs', h1, h2⟩ := hi i (by omega)
      obtain ⟨op, h3, rfl⟩ := rop_open h2
      exact ⟨op, h3, h1⟩
    refine ⟨_, _, _, (List.range len0).attach.map (fun i => (each i.1 (List.mem_range.1 i.2)).choose), rfl, ⟨by simp, fun x hx => ?_, fun hn => ?_⟩, hl, hm⟩
    · simp only [List.mem_map] at hx
      obtain ⟨i, -, rfl⟩ := hx
      exact (each i.1 (List.mem_range.1 i.2)).choose_spec.1
    obtain ⟨b, o, s⟩ := a
    obtain ⟨op0, -, h0⟩ := each 0 hn
    have h0' := (World.cells?_some h0).2.2 0 (by omega)
    have hs : s = none := by simpa [Addr.add] using World.cell?_spot (h0'.trans rfl)
    subst hs
    have hlt : b < w.heap.size := by
      simp only [Nat.zero_mul, add_offX, Nat.add_zero] at h0'
      by_cases h : b < w.heap.size
      · exact h
      · simp [World.cell?, Array.getElem?_eq_none (Nat.le_of_not_lt h)] at h0'
    refine ⟨b, o, rfl, hlt, fun i hi' => ?_⟩
    have hi2 : i < len0 := by simpa using hi'
    have hg : ((List.range len0).attach.map (fun i => (each i.1 (List.mem_range.1 i.2)).choose))[i]'hi' = (each i hi2).choose := by simp
    rw [hg]
    have h1 := (each i hi2).choose_spec.2
    generalize (each i hi2).choose = op at h1 ⊢
    obtain ⟨-, -, h2⟩ := World.cells?_some h1
    have q0 := h2 0 (by omega)
    have q1 := h2 1 (by omega)
    have q2 := h2 2 (by omega)
    have q3 := h2 3 (by omega)
    have q4 := h2 4 (by omega)
    have q5 := h2 5 (by omega)
    simp only [add_offX, Nat.add_zero] at q0 q1 q2 q3 q4 q5
    exact ⟨q0.trans rfl, q1.trans rfl, q2.trans rfl, q3.trans rfl, q4.trans rfl, q5.trans rfl⟩

set_option maxRecDepth 100000 in
/-- ShortScript where a row is too long. -/
theorem w_shortL {w : World} {A1 A2 A3 : Option Addr} {n1 n2 n3 cap1 cap2 cap3 : Nat} (stdin : ByteArray) (lim clock ch : Int) (c b : Nat) (hc1 : n1 ≤ cap1) (hc2 : n2 ≤ cap2) (hc3 : n3 ≤ cap3) (hd1 : cap1 ≤ maxLen) (hd2 : cap2 ≤ maxLen) (hd3 : cap3 ≤ maxLen) (hst : stdin.size ≤ maxLen) (hc : c ≤ 1000) (hb : b ≤ 100000) (hl : c < n1 ∨ c < n2 ∨ c < n3) :
    Calls Tryd.prog 11 #[.agg #[.slice A1 n1 cap1, .string stdin, .slice A2 n2 cap2, .slice A3 n3 cap3, .int .i64 lim, .int .i64 clock, .int .u64 ch], .int .i64 c, .int .i64 b] w fun e w' => e = .returned (.bool false) ∧ Below w.heap.size w w' := by
  have HB := Lib.hid ((Below.refl w.heap.size w).alloc (Nat.le_refl _) (.cells #[.slice A1 n1 cap1, .string stdin, .slice A2 n2 cap2, .slice A3 n3 cap3, .int .i64 lim, .int .i64 clock, .int .u64 ch] 38))
  have k1 : cap1 < 9223372036854775808 := by unfold maxLen at hd1; omega
  have k2 : cap2 < 9223372036854775808 := by unfold maxLen at hd2; omega
  have k3 : cap3 < 9223372036854775808 := by unfold maxLen at hd3; omega
  have hst2 : stdin.size < 9223372036854775808 := by unfold maxLen at hst; omega
  have hways : (c < n1) ∨ (¬ c < n1 ∧ c < n2) ∨ (¬ c < n1 ∧ ¬ c < n2 ∧ c < n3) := by omega
  rcases hways with h1 | ⟨h1, h2⟩ | ⟨h1, h2, h3⟩
  · go_enter Tryd.func11, Tryd.ntmps11
    go_wp2_with fail
    go_ret
    exact ⟨rfl, HB.out⟩
  · go_enter Tryd.func11, Tryd.ntmps11
    go_wp2_with fail
    go_ret
    exact ⟨rfl, HB.out⟩
  · go_enter Tryd.func11, Tryd.ntmps11
    go_wp2_with fail
    go_ret
    exact ⟨rfl, HB.out⟩
def rsOf (s : ScrV) : RSt := rst0 s.files s.reps s.fls s.stdin s.lim s.clock s.ch
/-- ShortScript of any script that came in. -/
theorem w_shortA {w : World} {s : ScrV} (h : ScrAt w s) : Calls Tryd.prog 11 #[s.val, .int .i64 6, .int .i64 3000] w fun e w' => e = .returned (.bool (shortB s.files s.reps s.fls s.stdin 6 3000)) ∧ Below w.heap.size w w' := by
  by_cases hl : 6 < s.n1 ∨ 6 < s.n2 ∨ 6 < s.n3
  · have e : shortB s.files s.reps s.fls s.stdin 6 3000 = false := by
      unfold shortB
      rw [h.l1, h.l2, h.l3, decide_eq_false (by omega)]
      rfl
    rw [e]
    exact w_shortL s.stdin s.lim s.clock s.ch 6 3000 h.r1.2.1 h.r2.2.1 h.r3.2.1 h.r1.2.2.1 h.r2.2.2.1 h.r3.2.2.1 h.zs (by decide) (by decide) hl
  · have r1 := h.r1.row (by omega)
    have r2 := h.r2.row (by omega)
    have r3 := h.r3.row (by omega)
    obtain ⟨A1, n1, c1, A2, n2, c2, A3, n3, c3, fs, rs, ls, stdin, lim, clock, ch⟩ := s
    obtain ⟨l1, l2, l3, -, -, -, z1, z2, z3, zs, -, -, -⟩ := h
    simp only at l1 l2 l3
    subst l1 l2 l3
    exact w_short fs rs ls stdin lim clock ch 6 3000 r1 r2 r3 zs z1 z2 z3 (by decide) (by decide)
/-- The program's New of a short script that came in. -/
theorem wo_newS {w : World} {s : ScrV} (h : ScrAt w s) (hs : shortB s.files s.reps s.fls s.stdin 6 3000 = true) :
    Calls Tryd.prog 12 #[s.val] w (NewPP w ⟨s.lim, s.clock, filesOf s.files, s.stdin, [], s.ch, [], s.reps, s.fls⟩ s.n1 (newB s.files s.reps s.lim)) := by
  have hs' := hs
  unfold shortB at hs'
  simp only [Bool.and_eq_true, decide_eq_true_eq] at hs'
  obtain ⟨⟨⟨⟨h1, h2, h3, -⟩, -⟩, -⟩, -⟩ := hs'
  rw [h.l1] at h1
  rw [h.l2] at h2
  rw [h.l3] at h3
  exact wo_newG s.files s.reps s.fls s.stdin s.lim s.clock s.ch h.l1.symm h.l2.symm h.l3.symm (h.r1.row (by omega)) (h.r2.row (by omega)) (h.r3.row (by omega)) h.r2.2.2.2.1 h.r3.2.2.2.1 (by omega) (by omega) (by omega) h.z1
theorem fw_newS {w w0 : World} {s : ScrV} (h : ScrAt w0 s) (hb : Below w0.heap.size w0 w) (hs : shortB s.files s.reps s.fls s.stdin 6 3000 = true) :
    Calls Tryd.prog 13 #[s.val] w (NewRP (fun b => b < w0.heap.size) w (rsOf s) (newB s.files s.reps s.lim)) := by
  have hs' := hs
  unfold shortB at hs'
  simp only [Bool.and_eq_true, decide_eq_true_eq] at hs'
  obtain ⟨⟨⟨⟨h1, h2, h3, -⟩, -⟩, -⟩, -⟩ := hs'
  rw [h.l1] at h1
  rw [h.l2] at h2
  rw [h.l3] at h3
  have hk : ∀ b, b < w0.heap.size → b < w0.heap.size → w.heap[b]? = w0.heap[b]? := fun b hb' _ => hb.block b hb'
  exact fw_new s.files s.reps s.fls s.stdin s.lim s.clock s.ch h.l1.symm h.l2.symm h.l3.symm ((h.r1.row (by omega)).keep hb.size hk) ((h.r2.row (by omega)).keep hb.size hk) ((h.r3.row (by omega)).keep hb.size hk) h.r1.2.2.2.1 (by omega) (by omega) (by omega)
def ScrV.cells (s : ScrV) : Array Value := #[.slice s.A1 s.n1 s.c1, .string s.stdin, .slice s.A2 s.n2 s.c2, .slice s.A3 s.n3 s.c3, .int .i64 s.lim, .int .i64 s.clock, .int .u64 s.ch]
theorem RowL.keep {w w' : World} {A : Option Addr} {n cap sz : Nat} {cs : List Value} (h : RowL w A n cap sz cs) (hb : Below w.heap.size w w') : RowL w' A n cap sz cs :=
  ⟨h.1, h.2.1, h.2.2.1, h.2.2.2.1, fun hn => by
    obtain ⟨b, o, e1, e2, e3⟩ := h.2.2.2.2 hn
    exact ⟨b, o, e1, Nat.lt_of_lt_of_le e2 hb.size, fun i hi => (hb.cell (p := ⟨b, o + i, none⟩) e2).trans (e3 i hi)⟩⟩
theorem ScrAt.keep {w w' : World} {s : ScrV} (h : ScrAt w s) (hb : Below w.heap.size w w') : ScrAt w' s :=
  { h with r1 := h.r1.keep hb, r2 := h.r2.keep hb, r3 := h.r3.keep hb }
end Go.Proofs.YtdbdmgmenojcaaaDoor
