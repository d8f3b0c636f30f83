/- The document's reader: Next. -/
import Derived.Test.YtdbdmgmenojcaaaDoorG20
import Derived.Test.YtdbdmgmenojcaaaDoorG19
set_option linter.unusedVariables false
set_option linter.unusedSimpArgs false
namespace Go.Proofs.YtdbdmgmenojcaaaDoor
open Go.RowKit Wd
theorem back (x : ByteArray) : (⟨x.data.toList.toArray⟩ : ByteArray) = x := by apply ByteArray.ext; simp
def QNext (K : Nat → Prop) (w : World) (sep : ByteArray) (k : Int) (name : ByteArray) (rs : RSt) (left : ByteArray) (fin : Bool) (e : Ending) (w' : World) : Prop :=
  ∃ (f' : Fm) (rs' : RSt) (l' : ByteArray) (fn' : Bool) (er : Int) (t : List UInt8) (ok : Bool), e = .returned (.tuple #[.agg (fcells f' rs'), .agg #[.int .u8 k, .string name, .string l', .bool fn', .bool (!ok)], .string ⟨t.toArray⟩, .bool ok, .int .i64 er]) ∧ NextRP sep k name rs left fin rs' l' fn' er t ok ∧ RF (Nw K w) w' f' rs' ∧ Below w.heap.size w w'
def measQ (Z : Nat) (w : World) (A : Nat) : Nat := 2 * (Z - strAt w A 2) + boolAt w A 3
theorem meas_q {w : World} {A : Nat} {a b e : Value} {l : ByteArray} {fin : Bool} (h : Blk w A 55 #[a, b, .string l, .bool fin, e]) (Z : Nat) : measQ Z w A = 2 * (Z - l.size) + if fin then 0 else 1 := by
  obtain ⟨⟨-, -, c2, c3, -⟩, -⟩ := h.five
  unfold measQ strAt boolAt
  rw [c2, c3]
  cases fin <;> rfl
/-- What the loop of Next knows. -/
structure NX (K : Nat → Prop) (w wr : World) (A B R Q : Nat) (so : List UInt8 → Bool) (k : Int) (name : ByteArray) (rs : RSt) (left : ByteArray) (fin : Bool) (z Z : Nat) (st1 : St) (f1 : Fm) (rs1 : RSt) (l : ByteArray) (fn en : Bool) : Prop where
  q : QW K w wr (Q + 1) f1 rs1
  a : Blk wr A 55 #[.int .u8 k, .string name, .string l, .bool fn, .bool en]
  b : Blk wr B 46 (fcells f1 rs1)
  r : Blk wr R 46 #[.slice none 0 0, .string ⟨#[]⟩, .slice none 0 0, .slice none 0 0, .int .i64 0, .int .i64 0, .int .u64 0, .slice none 0 0, .int .i64 0, .slice none 0 0, .int .u64 0, .slice none 0 0]
  qq : Blk wr Q 55 zero5
  c : Corr st1 rs1
  lim : Lim z st1
  sz : l.size + remL st1 k name ≤ Z
  same : Same rs rs1
  p : ∀ rs' l' fn' er, PullR so k name rs1 l fn rs' l' fn' er → PullR so k name rs left fin rs' l' fn' er
/-- The boxes alone. -/
structure NB (K : Nat → Prop) (w wr : World) (A B R Q : Nat) (k : Int) (name : ByteArray) (f1 : Fm) (rs1 : RSt) (l : ByteArray) (fn en : Bool) : Prop where
  q : QW K w wr (Q + 1) f1 rs1
  a : Blk wr A 55 #[.int .u8 k, .string name, .string l, .bool fn, .bool en]
  b : Blk wr B 46 (fcells f1 rs1)
  r : Blk wr R 46 #[.slice none 0 0, .string ⟨#[]⟩, .slice none 0 0, .slice none 0 0, .int .i64 0, .int .i64 0, .int .u64 0, .slice none 0 0, .int .i64 0, .slice none 0 0, .int .u64 0, .slice none 0 0]
  qq : Blk wr Q 55 zero5
theorem NX.nb {K : Nat → Prop} {w wr : World} {A B R Q : Nat} {so : List UInt8 → Bool} {k : Int} {name left l : ByteArray} {rs rs1 : RSt} {fin fn en : Bool} {z Z : Nat} {st1 : St} {f1 : Fm} (h : NX K w wr A B R Q so k name rs left fin z Z st1 f1 rs1 l fn en) : NB K w wr A B R Q k name f1 rs1 l fn en := ⟨h.q, h.a, h.b, h.r, h.qq⟩
theorem NB.pure {K : Nat → Prop} {w wr wx : World} {A B R Q : Nat} {k : Int} {name l : ByteArray} {rs1 : RSt} {fn en : Bool} {f1 : Fm} (h : NB K w wr A B R Q k name f1 rs1 l fn en) (hb : Below wr.heap.size wr wx) : NB K w wx A B R Q k name f1 rs1 l fn en :=
  ⟨h.q.pure hb, below_blk h.a hb h.a.lt, below_blk h.b hb h.b.lt, below_blk h.r hb h.r.lt, below_blk h.qq hb h.qq.lt⟩
theorem NB.set {K : Nat → Prop} {w wr : World} {A B R Q : Nat} {k : Int} {name l : ByteArray} {rs1 : RSt} {fn en : Bool} {f1 : Fm} (h : NB K w wr A B R Q k name f1 rs1 l fn en) (hA : w.heap.size ≤ A ∧ A < Q ∧ B ≠ A ∧ R ≠ A ∧ Q ≠ A) (i : Nat) (u : Value) (l' : ByteArray) (fn' en' : Bool) (hc : (#[.int .u8 k, .string name, .string l, .bool fn, .bool en] : Array Value).setIfInBounds i u = #[.int .u8 k, .string name, .string l', .bool fn', .bool en']) : NB K w (wr.setCell ⟨A, i, none⟩ u) A B R Q k name f1 rs1 l' fn' en' := by
  obtain ⟨h1, h2, h3, h4, h5⟩ := hA
  have ht := Tur.of_set (w := wr) ⟨A, i, none⟩ u
  exact ⟨h.q.box (g := A) ht h1 (by omega), by rw [← hc]; exact h.a.set i u, h.b.keep ht h3, h.r.keep ht h4, h.qq.keep ht h5⟩
theorem ext_tail (l : ByteArray) (i : Nat) : (l.extract i l.size).data.toList = l.data.toList.drop i := by
  rw [Lib.extract_data, List.take_of_length_le]
  have h2 : l.data.toList.length = l.size := rfl
  rw [List.length_drop, h2]
  exact Nat.le_refl _
theorem ext_mid (l : ByteArray) {a b : Nat} (h : a ≤ b) : (l.extract a b).data.toList = (l.data.toList.take b).drop a := by
  rw [Lib.extract_data, List.drop_take]
theorem tw_take (c : UInt8) (T : List UInt8) : (Rd.tw c T).length ≤ T.length ∧ Rd.tw c T = T.take (Rd.tw c T).length ∧ Rd.rest1 c T = T.drop ((Rd.tw c T).length + 1) := by
  by_cases h : c ∈ T
  · have e := Rd.tw_split h
    obtain ⟨h1, h2⟩ := Rd.split_at e
    refine ⟨?_, h1.symm, h2.symm⟩
    have := congrArg List.length e
    simp at this
    omega
  · obtain ⟨h1, h2⟩ := Rd.tw_all h
    rw [h1, h2]
    refine ⟨Nat.le_refl _, by simp, ?_⟩
    rw [List.drop_of_length_le (by omega)]
section
variable {K : Nat → Prop} {w wr wx : World} {A B R Q : Nat} {so : List UInt8 → Bool} {k : Int} {name left l : ByteArray} {rs rs1 : RSt} {fin fn en : Bool} {z Z : Nat} {st1 : St} {f1 : Fm}
theorem NX.pure (h : NX K w wr A B R Q so k name rs left fin z Z st1 f1 rs1 l fn en) (hb : Below wr.heap.size wr wx) : NX K w wx A B R Q so k name rs left fin z Z st1 f1 rs1 l fn en :=
  { h with q := h.q.pure hb, a := below_blk h.a hb h.a.lt, b := below_blk h.b hb h.b.lt, r := below_blk h.r hb h.r.lt, qq := below_blk h.qq hb h.qq.lt }
/-- A cell of the reader's box is set. -/
theorem NX.setA (h : NX K w wr A B R Q so k name rs left fin z Z st1 f1 rs1 l fn en) (hA : w.heap.size ≤ A ∧ A < Q ∧ B ≠ A ∧ R ≠ A ∧ Q ≠ A) (i : Nat) (u : Value) (l' : ByteArray) (fn' en' : Bool) (hc : (#[.int .u8 k, .string name, .string l, .bool fn, .bool en] : Array Value).setIfInBounds i u = #[.int .u8 k, .string name, .string l', .bool fn', .bool en']) :
    QW K w (wr.setCell ⟨A, i, none⟩ u) (Q + 1) f1 rs1 ∧ Blk (wr.setCell ⟨A, i, none⟩ u) A 55 #[.int .u8 k, .string name, .string l', .bool fn', .bool en'] ∧ Blk (wr.setCell ⟨A, i, none⟩ u) B 46 (fcells f1 rs1) ∧ Blk (wr.setCell ⟨A, i, none⟩ u) R 46 #[.slice none 0 0, .string ⟨#[]⟩, .slice none 0 0, .slice none 0 0, .int .i64 0, .int .i64 0, .int .u64 0, .slice none 0 0, .int .i64 0, .slice none 0 0, .int .u64 0, .slice none 0 0] ∧ Blk (wr.setCell ⟨A, i, none⟩ u) Q 55 zero5 := by
  obtain ⟨h1, h2, h3, h4, h5⟩ := hA
  have ht := Tur.of_set (w := wr) ⟨A, i, none⟩ u
  exact ⟨h.q.box (g := A) ht h1 (by omega), by rw [← hc]; exact h.a.set i u, h.b.keep ht h3, h.r.keep ht h4, h.qq.keep ht h5⟩
theorem NX.seti (h : NX K w wr A B R Q so k name rs left fin z Z st1 f1 rs1 l fn en) (hA : w.heap.size ≤ A ∧ A < Q ∧ B ≠ A ∧ R ≠ A ∧ Q ≠ A) (i : Nat) (u : Value) (l' : ByteArray) (fn' en' : Bool) (hc : (#[.int .u8 k, .string name, .string l, .bool fn, .bool en] : Array Value).setIfInBounds i u = #[.int .u8 k, .string name, .string l', .bool fn', .bool en'])
    (hs : l'.size + remL st1 k name ≤ Z) (so' : List UInt8 → Bool) (left' : ByteArray) (fin' : Bool) (hp : ∀ rs' l2 fn2 er, PullR so' k name rs1 l' fn' rs' l2 fn2 er → PullR so' k name rs left' fin' rs' l2 fn2 er) : NX K w (wr.setCell ⟨A, i, none⟩ u) A B R Q so' k name rs left' fin' z Z st1 f1 rs1 l' fn' en' := by
  obtain ⟨h1, h2, h3, h4, h5⟩ := h.setA hA i u l' fn' en' hc
  exact ⟨h1, h2, h3, h4, h5, h.c, h.lim, hs, h.same, hp⟩
end
section
variable {K : Nat → Prop} {w : World} {f : Fm} {rs : RSt} {st : St}
set_option maxRecDepth 100000 in
set_option maxHeartbeats 8000000 in
theorem q_next {z : Nat} (h : RF K w f rs) (hc : Corr st rs) (hl : Lim z st) (hz : z ≤ 100000) (k : Int) (name left : ByteArray) (fin ended : Bool) (hls : left.size ≤ 200000) (hop : rs.opn.length ≤ 1000) (hst : rs.stdin.size ≤ 100000) (hsrc : ∀ s ∈ rs.opn, s.src.size ≤ 100000) (sep : ByteArray) (hsep : sep.size ≤ 1000) :
    Calls Tryd.prog 21 #[.agg #[.int .u8 k, .string name, .string left, .bool fin, .bool ended], .agg (fcells f rs), .string sep] w (QNext K w sep k name rs left fin) := by
  have hB0 : Below w.heap.size w ((((w.alloc (.cells #[.int .u8 k, .string name, .string left, .bool fin, .bool ended] 55)).alloc (.cells #[.slice f.A0 f.n0 f.c0, .string rs.stdin, .slice f.A2 rs.replies.length f.c2, .slice f.A3 rs.fails.length f.c3, .int .i64 rs.lim, .int .i64 rs.clock, .int .u64 rs.ch, .slice f.AF rs.files.length f.cF, .int .i64 rs.taken, .slice f.AO rs.opn.length f.cO, .int .u64 rs.num, .slice f.AE rs.events.length f.cE] 46)).alloc (.cells #[.slice none 0 0, .string ⟨#[]⟩, .slice none 0 0, .slice none 0 0, .int .i64 0, .int .i64 0, .int .u64 0, .slice none 0 0, .int .i64 0, .slice none 0 0, .int .u64 0, .slice none 0 0] 46)).alloc (.cells zero5 55)) := ((((Below.refl _ _).alloc (Nat.le_refl _) _).alloc (by simp) _).alloc (by simp; omega) _).alloc (by simp; omega) _
  have hX1 := QW.start h hB0
  have hz4 : ((((w.alloc (.cells #[.int .u8 k, .string name, .string left, .bool fin, .bool ended] 55)).alloc (.cells #[.slice f.A0 f.n0 f.c0, .string rs.stdin, .slice f.A2 rs.replies.length f.c2, .slice f.A3 rs.fails.length f.c3, .int .i64 rs.lim, .int .i64 rs.clock, .int .u64 rs.ch, .slice f.AF rs.files.length f.cF, .int .i64 rs.taken, .slice f.AO rs.opn.length f.cO, .int .u64 rs.num, .slice f.AE rs.events.length f.cE] 46)).alloc (.cells #[.slice none 0 0, .string ⟨#[]⟩, .slice none 0 0, .slice none 0 0, .int .i64 0, .int .i64 0, .int .u64 0, .slice none 0 0, .int .i64 0, .slice none 0 0, .int .u64 0, .slice none 0 0] 46)).alloc (.cells zero5 55)).heap.size = w.heap.size + 1 + 1 + 1 + 1 := by simp
  rw [hz4] at hX1
  have hAA : Blk ((((w.alloc (.cells #[.int .u8 k, .string name, .string left, .bool fin, .bool ended] 55)).alloc (.cells #[.slice f.A0 f.n0 f.c0, .string rs.stdin, .slice f.A2 rs.replies.length f.c2, .slice f.A3 rs.fails.length f.c3, .int .i64 rs.lim, .int .i64 rs.clock, .int .u64 rs.ch, .slice f.AF rs.files.length f.cF, .int .i64 rs.taken, .slice f.AO rs.opn.length f.cO, .int .u64 rs.num, .slice f.AE rs.events.length f.cE] 46)).alloc (.cells #[.slice none 0 0, .string ⟨#[]⟩, .slice none 0 0, .slice none 0 0, .int .i64 0, .int .i64 0, .int .u64 0, .slice none 0 0, .int .i64 0, .slice none 0 0, .int .u64 0, .slice none 0 0] 46)).alloc (.cells zero5 55)) w.heap.size 55 #[.int .u8 k, .string name, .string left, .bool fin, .bool ended] := (((Blk.new w _ _).keep (Tur.of_alloc (F := fun _ => False) _ _) (fun h => h)).keep (Tur.of_alloc (F := fun _ => False) _ _) (fun h => h)).keep (Tur.of_alloc (F := fun _ => False) _ _) (fun h => h)
  have hBB := ((Blk.new (w.alloc (.cells #[.int .u8 k, .string name, .string left, .bool fin, .bool ended] 55)) 46 #[.slice f.A0 f.n0 f.c0, .string rs.stdin, .slice f.A2 rs.replies.length f.c2, .slice f.A3 rs.fails.length f.c3, .int .i64 rs.lim, .int .i64 rs.clock, .int .u64 rs.ch, .slice f.AF rs.files.length f.cF, .int .i64 rs.taken, .slice f.AO rs.opn.length f.cO, .int .u64 rs.num, .slice f.AE rs.events.length f.cE]).keep (Tur.of_alloc (F := fun _ => False) _ (.cells #[.slice none 0 0, .string ⟨#[]⟩, .slice none 0 0, .slice none 0 0, .int .i64 0, .int .i64 0, .int .u64 0, .slice none 0 0, .int .i64 0, .slice none 0 0, .int .u64 0, .slice none 0 0] 46)) (fun h => h)).keep (Tur.of_alloc (F := fun _ => False) _ (.cells zero5 55)) (fun h => h)
  rw [World.size_alloc] at hBB
  have hRR := (Blk.new ((w.alloc (.cells #[.int .u8 k, .string name, .string left, .bool fin, .bool ended] 55)).alloc (.cells #[.slice f.A0 f.n0 f.c0, .string rs.stdin, .slice f.A2 rs.replies.length f.c2, .slice f.A3 rs.fails.length f.c3, .int .i64 rs.lim, .int .i64 rs.clock, .int .u64 rs.ch, .slice f.AF rs.files.length f.cF, .int .i64 rs.taken, .slice f.AO rs.opn.length f.cO, .int .u64 rs.num, .slice f.AE rs.events.length f.cE] 46)) 46 #[.slice none 0 0, .string ⟨#[]⟩, .slice none 0 0, .slice none 0 0, .int .i64 0, .int .i64 0, .int .u64 0, .slice none 0 0, .int .i64 0, .slice none 0 0, .int .u64 0, .slice none 0 0]).keep (Tur.of_alloc (F := fun _ => False) _ (.cells zero5 55)) (fun h => h)
  rw [World.size_alloc, World.size_alloc] at hRR
  have hQQ := Blk.new (((w.alloc (.cells #[.int .u8 k, .string name, .string left, .bool fin, .bool ended] 55)).alloc (.cells #[.slice f.A0 f.n0 f.c0, .string rs.stdin, .slice f.A2 rs.replies.length f.c2, .slice f.A3 rs.fails.length f.c3, .int .i64 rs.lim, .int .i64 rs.clock, .int .u64 rs.ch, .slice f.AF rs.files.length f.cF, .int .i64 rs.taken, .slice f.AO rs.opn.length f.cO, .int .u64 rs.num, .slice f.AE rs.events.length f.cE] 46)).alloc (.cells #[.slice none 0 0, .string ⟨#[]⟩, .slice none 0 0, .slice none 0 0, .int .i64 0, .int .i64 0, .int .u64 0, .slice none 0 0, .int .i64 0, .slice none 0 0, .int .u64 0, .slice none 0 0] 46)) 55 zero5
  rw [World.size_alloc, World.size_alloc, World.size_alloc] at hQQ
  obtain ⟨Z, hZ⟩ : ∃ Z, Z = left.size + remL st k name := ⟨_, rfl⟩
  have HZ2 : Hid (Z ≤ 300000) := by have := rem_le hl k name; unfold Hid; omega
  have HX0 : Hid (NX K w ((((w.alloc (.cells #[.int .u8 k, .string name, .string left, .bool fin, .bool ended] 55)).alloc (.cells #[.slice f.A0 f.n0 f.c0, .string rs.stdin, .slice f.A2 rs.replies.length f.c2, .slice f.A3 rs.fails.length f.c3, .int .i64 rs.lim, .int .i64 rs.clock, .int .u64 rs.ch, .slice f.AF rs.files.length f.cF, .int .i64 rs.taken, .slice f.AO rs.opn.length f.cO, .int .u64 rs.num, .slice f.AE rs.events.length f.cE] 46)).alloc (.cells #[.slice none 0 0, .string ⟨#[]⟩, .slice none 0 0, .slice none 0 0, .int .i64 0, .int .i64 0, .int .u64 0, .slice none 0 0, .int .i64 0, .slice none 0 0, .int .u64 0, .slice none 0 0] 46)).alloc (.cells zero5 55)) w.heap.size (w.heap.size + 1) (w.heap.size + 1 + 1) (w.heap.size + 1 + 1 + 1) (soT sep.data.toList) k name rs left fin z Z st f rs left fin ended) := ⟨hX1, hAA, hBB, hRR, hQQ, hc, hl, by omega, .refl _, fun _ _ _ _ h => h⟩
  have HZZ := Lib.hid hz
  have HOP := Lib.hid hop
  have HST := Lib.hid hst
  have HSRC := Lib.hid hsrc
  have HSEP := Lib.hid hsep
  clear hQQ hRR hBB hAA hz4 hX1 hB0 h hc hl hz hls hop hst hsrc hZ
  go_enter Tryd.func21, Tryd.ntmps21
  go_upto_region 1 with (fail)
  obtain ⟨A, hA⟩ : ∃ A, A = w.heap.size := ⟨_, rfl⟩
  rw [← hA] at HX0 ⊢
  obtain ⟨B, hB⟩ : ∃ B, B = A + 1 := ⟨_, rfl⟩
  rw [← hB] at HX0 ⊢
  obtain ⟨R, hR⟩ : ∃ R, R = B + 1 := ⟨_, rfl⟩
  rw [← hR] at HX0 ⊢
  obtain ⟨Q, hQ⟩ : ∃ Q, Q = R + 1 := ⟨_, rfl⟩
  rw [← hQ] at HX0 ⊢
  have HBE := Lib.hid (And.intro hA (And.intro hB (And.intro hR hQ)))
  have HAX : Hid (w.heap.size ≤ A ∧ A < Q ∧ B ≠ A ∧ R ≠ A ∧ Q ≠ A) := by unfold Hid; omega
  have hBR : B ≠ R := by omega
  have hAR : A ≠ R := by omega
  have hQR : Q ≠ R := by omega
  have hBQ : B ≠ Q := by omega
  have hAQ : A ≠ Q := by omega
  have hRQ : R ≠ Q := by omega
  clear hA hB hR hQ
  have HG := Lib.hid (show (((w.alloc (.cells #[.int .u8 k, .string name, .string left, .bool fin, .bool ended] 55)).alloc (.cells #[.slice f.A0 f.n0 f.c0, .string rs.stdin, .slice f.A2 rs.replies.length f.c2, .slice f.A3 rs.fails.length f.c3, .int .i64 rs.lim, .int .i64 rs.clock, .int .u64 rs.ch, .slice f.AF rs.files.length f.cF, .int .i64 rs.taken, .slice f.AO rs.opn.length f.cO, .int .u64 rs.num, .slice f.AE rs.events.length f.cE] 46)).alloc (.cells #[.slice none 0 0, .string ⟨#[]⟩, .slice none 0 0, .slice none 0 0, .int .i64 0, .int .i64 0, .int .u64 0, .slice none 0 0, .int .i64 0, .slice none 0 0, .int .u64 0, .slice none 0 0] 46)).alloc (.cells zero5 55) = (((w.alloc (.cells #[.int .u8 k, .string name, .string left, .bool fin, .bool ended] 55)).alloc (.cells (fcells f rs) 46)).alloc (.cells #[.slice none 0 0, .string ⟨#[]⟩, .slice none 0 0, .slice none 0 0, .int .i64 0, .int .i64 0, .int .u64 0, .slice none 0 0, .int .i64 0, .slice none 0 0, .int .u64 0, .slice none 0 0] 46)).alloc (.cells #[.int .u8 0, .string ⟨#[]⟩, .string ⟨#[]⟩, .bool false, .bool false] 55) from rfl)
  rw [← HG.out]
  clear HG
  generalize (((w.alloc (.cells #[.int .u8 k, .string name, .string left, .bool fin, .bool ended] 55)).alloc (.cells #[.slice f.A0 f.n0 f.c0, .string rs.stdin, .slice f.A2 rs.replies.length f.c2, .slice f.A3 rs.fails.length f.c3, .int .i64 rs.lim, .int .i64 rs.clock, .int .u64 rs.ch, .slice f.AF rs.files.length f.cF, .int .i64 rs.taken, .slice f.AO rs.opn.length f.cO, .int .u64 rs.num, .slice f.AE rs.events.length f.cE] 46)).alloc (.cells #[.slice none 0 0, .string ⟨#[]⟩, .slice none 0 0, .slice none 0 0, .int .i64 0, .int .i64 0, .int .u64 0, .slice none 0 0, .int .i64 0, .slice none 0 0, .int .u64 0, .slice none 0 0] 46)).alloc (.cells zero5 55) = w1 at *
  have HXs := Lib.hid (HX0.out.seti HAX.out 4 (.bool true) left fin true rfl HX0.out.sz _ _ _ HX0.out.p)
  obtain ⟨⟨a0, a1, a2, a3, a4⟩, c0, c1, c2, c3, c4⟩ := HX0.out.a.five
  go_wp2_with fail
  clear a0 a1 a2 a3 a4 c0 c1 c2 c3 c4
  generalize w1.setCell ⟨A, 4, none⟩ (.bool true) = w2 at *
  go_loopw [12] (fun _ wr => ∃ st1 f1 rs1 l fn, NX K w wr A B R Q (soT sep.data.toList) k name rs left fin z Z st1 f1 rs1 l fn true) (fun _ wr => measQ Z wr A)
  case atStart => exact ⟨st, f, rs, left, fin, HXs.out⟩
  case round =>
    obtain ⟨st1, f1, rs1, l, fn, hx⟩ := hrel
    have HX := Lib.hid hx
    have HLZ : Hid (l.size ≤ 300000) := by have := hx.sz; have := HZ2.out; unfold Hid; omega
    have HM0 := Lib.hid (meas_q hx.a Z)
    clear hx HX0 HXs
    cases fn
    · obtain ⟨⟨a0, a1, a2, a3, a4⟩, c0, c1, c2, c3, c4⟩ := HX.out.a.five
      go_wp2_with fail
      refine (q_has l sep _ (by have := HLZ.out; omega) (by omega)).mono ?_
      rintro e wy ⟨rfl, rfl⟩
      cases hso : soT sep.data.toList l.data.toList
      · have HSO := Lib.hid hso
        clear hso
        obtain ⟨⟨b0, b1, b2, b3, b4, b5, b6, b7, b8, b9, b10, b11⟩, p0, p1, p2, p3, p4, p5, p6, p7, p8, p9, p10, p11⟩ := HX.out.b.twelve
        go_wp2_with fail
        clear b0 b1 b2 b3 b4 b5 b6 b7 b8 b9 b10 b11 p0 p1 p2 p3 p4 p5 p6 p7 p8 p9 p10 p11 a0 a1 a2 a3 a4 c0 c1 c2 c3 c4
        refine (fw_read HX.out.q.rf k name 512 (by decide) (by have := HX.out.same.opn; have := HOP.out; omega) HX.out.c.tk (by rw [HX.out.same.kept.st]; have := HST.out; omega) (fun s hs => ⟨HX.out.c.tks s hs, by have := HX.out.same.src 100000 HSRC.out s hs; omega⟩)).mono ?_
        rintro e w3 ⟨f2, rfl, hr3, hb3⟩
        obtain ⟨hcr, hcc⟩ := HX.out.c.read k name 512
        have HRM := Lib.hid (fun e0 => readL_rem (st := st1) k name 512 e0)
        have HLM3 := Lib.hid (readL_lim HX.out.lim k name 512)
        have HSTP := Lib.hid (fun rs' l' fn' er (h0 : (readD rs1 k name 512).2.2 = 0) (h : PullR (soT sep.data.toList) k name (readD rs1 k name 512).1 (l ++ (readD rs1 k name 512).2.1) (decide ((readD rs1 k name 512).2.1.size = 0)) rs' l' fn' er) => HX.out.p rs' l' fn' er (.step HSO.out h0 h))
        have HFLP := Lib.hid (fun (h0 : (readD rs1 k name 512).2.2 ≠ 0) => HX.out.p _ _ _ _ (PullR.fail (k := k) (name := name) HSO.out h0))
        have HSM := Lib.hid (HX.out.same.trans (readD_same rs1 k name 512))
        have HCC := Lib.hid hcc
        rw [hcr] at HRM
        have HQ3 := Lib.hid (HX.out.q.call hb3 hr3)
        have HA3 := Lib.hid (below_blk HX.out.a hb3 HX.out.a.lt)
        have HB3 := Lib.hid (below_blk HX.out.b hb3 HX.out.b.lt)
        have HR3 := Lib.hid (below_blk HX.out.r hb3 HX.out.r.lt)
        have HQQ3 := Lib.hid (below_blk HX.out.qq hb3 HX.out.qq.lt)
        clear hcr hcc hr3 hb3
        generalize (readL st1 k name 512).1 = st2 at *
        generalize (readD rs1 k name 512).1 = rs2 at *
        generalize (readD rs1 k name 512).2.1 = s1 at *
        generalize (readD rs1 k name 512).2.2 = er at *
        rw [show fcells f2 rs2 = #[.slice f2.A0 f2.n0 f2.c0, .string rs2.stdin, .slice f2.A2 rs2.replies.length f2.c2, .slice f2.A3 rs2.fails.length f2.c3, .int .i64 rs2.lim, .int .i64 rs2.clock, .int .u64 rs2.ch, .slice f2.AF rs2.files.length f2.cF, .int .i64 rs2.taken, .slice f2.AO rs2.opn.length f2.cO, .int .u64 rs2.num, .slice f2.AE rs2.events.length f2.cE] from rfl]
        have hba := (Below.refl w3.heap.size w3).alloc (Nat.le_refl _) (.cells #[.slice f2.A0 f2.n0 f2.c0, .string rs2.stdin, .slice f2.A2 rs2.replies.length f2.c2, .slice f2.A3 rs2.fails.length f2.c3, .int .i64 rs2.lim, .int .i64 rs2.clock, .int .u64 rs2.ch, .slice f2.AF rs2.files.length f2.cF, .int .i64 rs2.taken, .slice f2.AO rs2.opn.length f2.cO, .int .u64 rs2.num, .slice f2.AE rs2.events.length f2.cE] 46)
        have HQ4 := Lib.hid (HQ3.out.pure hba)
        have HA4 := Lib.hid (below_blk HA3.out hba HA3.out.lt)
        have HB4 := Lib.hid (below_blk HB3.out hba HB3.out.lt)
        have HR4 := Lib.hid (below_blk HR3.out hba HR3.out.lt)
        have HQQ4 := Lib.hid (below_blk HQQ3.out hba HQQ3.out.lt)
        have HT4 := Lib.hid (Blk.new w3 46 #[.slice f2.A0 f2.n0 f2.c0, .string rs2.stdin, .slice f2.A2 rs2.replies.length f2.c2, .slice f2.A3 rs2.fails.length f2.c3, .int .i64 rs2.lim, .int .i64 rs2.clock, .int .u64 rs2.ch, .slice f2.AF rs2.files.length f2.cF, .int .i64 rs2.taken, .slice f2.AO rs2.opn.length f2.cO, .int .u64 rs2.num, .slice f2.AE rs2.events.length f2.cE])
        clear hba
        go_upto_region 4 with (fail)
        obtain ⟨T, hT⟩ : ∃ T, T = w3.heap.size := ⟨_, rfl⟩
        rw [← hT] at HT4 ⊢
        clear hT
        generalize w3.alloc (.cells #[.slice f2.A0 f2.n0 f2.c0, .string rs2.stdin, .slice f2.A2 rs2.replies.length f2.c2, .slice f2.A3 rs2.fails.length f2.c3, .int .i64 rs2.lim, .int .i64 rs2.clock, .int .u64 rs2.ch, .slice f2.AF rs2.files.length f2.cF, .int .i64 rs2.taken, .slice f2.AO rs2.opn.length f2.cO, .int .u64 rs2.num, .slice f2.AE rs2.events.length f2.cE] 46) = w4 at *
        obtain ⟨⟨b0, b1, b2, b3, b4, b5, b6, b7, b8, b9, b10, b11⟩, p0, p1, p2, p3, p4, p5, p6, p7, p8, p9, p10, p11⟩ := HB4.out.twelve
        obtain ⟨⟨t0, t1, t2, t3, t4, t5, t6, t7, t8, t9, t10, t11⟩, -⟩ := HT4.out.twelve
        go_upto_region 5 with (fail)
        clear b0 b1 b2 b3 b4 b5 b6 b7 b8 b9 b10 b11 p0 p1 p2 p3 p4 p5 p6 p7 p8 p9 p10 p11 t0 t1 t2 t3 t4 t5 t6 t7 t8 t9 t10 t11
        have hs12 : Tur (· = B) w4 ((((((((((((w4.setCell ⟨B, 0, none⟩ (.slice f2.A0 f2.n0 f2.c0)).setCell ⟨B, 1, none⟩ (.string rs2.stdin)).setCell ⟨B, 2, none⟩ (.slice f2.A2 rs2.replies.length f2.c2)).setCell ⟨B, 3, none⟩ (.slice f2.A3 rs2.fails.length f2.c3)).setCell ⟨B, 4, none⟩ (.int .i64 rs2.lim)).setCell ⟨B, 5, none⟩ (.int .i64 rs2.clock)).setCell ⟨B, 6, none⟩ (.int .u64 rs2.ch)).setCell ⟨B, 7, none⟩ (.slice f2.AF rs2.files.length f2.cF)).setCell ⟨B, 8, none⟩ (.int .i64 rs2.taken)).setCell ⟨B, 9, none⟩ (.slice f2.AO rs2.opn.length f2.cO)).setCell ⟨B, 10, none⟩ (.int .u64 rs2.num)).setCell ⟨B, 11, none⟩ (.slice f2.AE rs2.events.length f2.cE)) := Tur.set12 (.slice f2.A0 f2.n0 f2.c0) (.string rs2.stdin) (.slice f2.A2 rs2.replies.length f2.c2) (.slice f2.A3 rs2.fails.length f2.c3) (.int .i64 rs2.lim) (.int .i64 rs2.clock) (.int .u64 rs2.ch) (.slice f2.AF rs2.files.length f2.cF) (.int .i64 rs2.taken) (.slice f2.AO rs2.opn.length f2.cO) (.int .u64 rs2.num) (.slice f2.AE rs2.events.length f2.cE)
        have HQ5 := Lib.hid (HQ4.out.box (g := B) hs12 (by have := HBE.out; omega) (by have := HBE.out; omega))
        have HA5 := Lib.hid (HA4.out.keep hs12 (fun e => HAX.out.2.2.1 e.symm))
        have HB5 := Lib.hid (HB4.out.set12 (.slice f2.A0 f2.n0 f2.c0) (.string rs2.stdin) (.slice f2.A2 rs2.replies.length f2.c2) (.slice f2.A3 rs2.fails.length f2.c3) (.int .i64 rs2.lim) (.int .i64 rs2.clock) (.int .u64 rs2.ch) (.slice f2.AF rs2.files.length f2.cF) (.int .i64 rs2.taken) (.slice f2.AO rs2.opn.length f2.cO) (.int .u64 rs2.num) (.slice f2.AE rs2.events.length f2.cE))
        have HR5 := Lib.hid (HR4.out.keep hs12 (fun e => hBR e.symm))
        have HQQ5 := Lib.hid (HQQ4.out.keep hs12 (fun e => hBQ e.symm))
        clear hs12
        generalize ((((((((((((w4.setCell ⟨B, 0, none⟩ (.slice f2.A0 f2.n0 f2.c0)).setCell ⟨B, 1, none⟩ (.string rs2.stdin)).setCell ⟨B, 2, none⟩ (.slice f2.A2 rs2.replies.length f2.c2)).setCell ⟨B, 3, none⟩ (.slice f2.A3 rs2.fails.length f2.c3)).setCell ⟨B, 4, none⟩ (.int .i64 rs2.lim)).setCell ⟨B, 5, none⟩ (.int .i64 rs2.clock)).setCell ⟨B, 6, none⟩ (.int .u64 rs2.ch)).setCell ⟨B, 7, none⟩ (.slice f2.AF rs2.files.length f2.cF)).setCell ⟨B, 8, none⟩ (.int .i64 rs2.taken)).setCell ⟨B, 9, none⟩ (.slice f2.AO rs2.opn.length f2.cO)).setCell ⟨B, 10, none⟩ (.int .u64 rs2.num)).setCell ⟨B, 11, none⟩ (.slice f2.AE rs2.events.length f2.cE)) = w5 at *
        by_cases he : er = 0
        · subst he
          have hrm := HRM.out rfl
          have hlz := HX.out.sz
          have hz2 := HZ2.out
          have hsz2 : l.size + s1.size ≤ 9223372036854775807 := by omega
          have HSZ : Hid ((l ++ s1).size + remL st2 k name ≤ Z) := by unfold Hid; rw [ByteArray.size_append]; omega
          have hs2 := Tur.of_set (w := w5) ⟨A, 2, none⟩ (.string (l ++ s1))
          have HQ6 := Lib.hid (HQ5.out.box (g := A) hs2 HAX.out.1 (by have := HAX.out.2.1; omega))
          have HA6 : Hid (Blk (w5.setCell ⟨A, 2, none⟩ (.string (l ++ s1))) A 55 #[.int .u8 k, .string name, .string (l ++ s1), .bool false, .bool true]) := HA5.out.set 2 _
          have HB6 := Lib.hid (HB5.out.keep hs2 HAX.out.2.2.1)
          have HR6 := Lib.hid (HR5.out.keep hs2 HAX.out.2.2.2.1)
          have HQQ6 := Lib.hid (HQQ5.out.keep hs2 HAX.out.2.2.2.2)
          clear hs2 hrm hlz hz2
          obtain ⟨⟨a0, a1, a2, a3, a4⟩, c0, c1, c2, c3, c4⟩ := HA5.out.five
          by_cases h0 : s1.size = 0
          · have e1 : s1.toList.isEmpty = true := isEmpty_eq h0
            have hs3 := Tur.of_set (w := w5.setCell ⟨A, 2, none⟩ (.string (l ++ s1))) ⟨A, 3, none⟩ (.bool true)
            have HA7 : Hid (Blk ((w5.setCell ⟨A, 2, none⟩ (.string (l ++ s1))).setCell ⟨A, 3, none⟩ (.bool true)) A 55 #[.int .u8 k, .string name, .string (l ++ s1), .bool true, .bool true]) := HA6.out.set 3 _
            have HNX : Hid (NX K w ((w5.setCell ⟨A, 2, none⟩ (.string (l ++ s1))).setCell ⟨A, 3, none⟩ (.bool true)) A B R Q (soT sep.data.toList) k name rs left fin z Z st2 f2 rs2 (l ++ s1) true true) := ⟨HQ6.out.box (g := A) hs3 HAX.out.1 (by have := HAX.out.2.1; omega), HA7.out, HB6.out.keep hs3 HAX.out.2.2.1, HR6.out.keep hs3 HAX.out.2.2.2.1, HQQ6.out.keep hs3 HAX.out.2.2.2.2, HCC.out, HLM3.out, HSZ.out, HSM.out, fun a b c d h => HSTP.out a b c d rfl (by rw [decide_eq_true h0]; exact h)⟩
            have HMS : Hid (measQ Z ((w5.setCell ⟨A, 2, none⟩ (.string (l ++ s1))).setCell ⟨A, 3, none⟩ (.bool true)) A < measQ Z wr A) := by unfold Hid; rw [meas_q HA7.out, HM0.out]; have h2 := HSZ.out; rw [ByteArray.size_append] at h2 ⊢; simp; omega
            clear hs3 h0
            go_wp2_with fail
            go_roundw
            case rel => exact ⟨_, _, _, _, _, HNX.out⟩
            case measure => exact HMS.out
          · have e1 : s1.toList.isEmpty = false := isEmpty_ne h0
            have hs3 := Tur.of_set (w := w5.setCell ⟨A, 2, none⟩ (.string (l ++ s1))) ⟨A, 3, none⟩ (.bool false)
            have HA7 : Hid (Blk ((w5.setCell ⟨A, 2, none⟩ (.string (l ++ s1))).setCell ⟨A, 3, none⟩ (.bool false)) A 55 #[.int .u8 k, .string name, .string (l ++ s1), .bool false, .bool true]) := HA6.out.set 3 _
            have HNX : Hid (NX K w ((w5.setCell ⟨A, 2, none⟩ (.string (l ++ s1))).setCell ⟨A, 3, none⟩ (.bool false)) A B R Q (soT sep.data.toList) k name rs left fin z Z st2 f2 rs2 (l ++ s1) false true) := ⟨HQ6.out.box (g := A) hs3 HAX.out.1 (by have := HAX.out.2.1; omega), HA7.out, HB6.out.keep hs3 HAX.out.2.2.1, HR6.out.keep hs3 HAX.out.2.2.2.1, HQQ6.out.keep hs3 HAX.out.2.2.2.2, HCC.out, HLM3.out, HSZ.out, HSM.out, fun a b c d h => HSTP.out a b c d rfl (by rw [decide_eq_false h0]; exact h)⟩
            have HMS : Hid (measQ Z ((w5.setCell ⟨A, 2, none⟩ (.string (l ++ s1))).setCell ⟨A, 3, none⟩ (.bool false)) A < measQ Z wr A) := by unfold Hid; rw [meas_q HA7.out, HM0.out]; have h2 := HSZ.out; rw [ByteArray.size_append] at h2 ⊢; simp; omega
            clear hs3 h0
            go_wp2_with fail
            go_roundw
            case rel => exact ⟨_, _, _, _, _, HNX.out⟩
            case measure => exact HMS.out
        · have HNX : Hid (NB K w w5 A B R Q k name f2 rs2 l false true) := ⟨HQ5.out, HA5.out, HB5.out, HR5.out, HQQ5.out⟩
          go_upto_region 6 with (fail)
          have HXd := Lib.hid (HNX.out.pure (Below.refl w5.heap.size w5).drew)
          refine wp_region_noPanic ?_
          refine wp_region_ord (fun wd => Blk wd B 46 #[.slice f2.A0 f2.n0 f2.c0, .string rs2.stdin, .slice f2.A2 rs2.replies.length f2.c2, .slice f2.A3 rs2.fails.length f2.c3, .int .i64 rs2.lim, .int .i64 rs2.clock, .int .u64 rs2.ch, .slice f2.AF rs2.files.length f2.cF, .int .i64 rs2.taken, .slice f2.AO rs2.opn.length f2.cO, .int .u64 rs2.num, .slice f2.AE rs2.events.length f2.cE] ∧ Blk wd A 55 #[.int .u8 k, .string name, .string l, .bool false, .bool true]) (.read 0 (.read 1 (.read 2 (.alone 3 (.alone 4 (.read 5 (.read 6 (.read 7 .done)))))))) (by kernel_rfl) (by kernel_rfl) (fun _ _ _ _ _ h => h) ⟨HXd.out.b, HXd.out.a⟩ ?_
          simp only [Ord.ops, List.getElem?_toArray, List.getElem?_cons_zero, List.getElem?_cons_succ]
          generalize w5.drew = w8 at *
          iterate 3 (
            refine ord_read ?_ (fun wd hS M hM => ?_) ?_ ?_
            rotate_left
            · have HM := Lib.hid hM
              obtain ⟨⟨b0, b1, b2, b3, b4, b5, b6, b7, b8, b9, b10, b11⟩, -⟩ := hS.1.twelve
              obtain ⟨⟨a0, a1, a2, a3, a4⟩, -⟩ := hS.2.five
              clear hM hS
              go_wp2_with fail
              exact HM.out
            · rfl)
          refine ord_alone (fun M hM => ?_)
          have HM := Lib.hid hM
          clear hM
          obtain ⟨⟨b0, b1, b2, b3, b4, b5, b6, b7, b8, b9, b10, b11⟩, p0, p1, p2, p3, p4, p5, p6, p7, p8, p9, p10, p11⟩ := HXd.out.b.twelve
          obtain ⟨⟨r0, r1, r2, r3, r4, r5, r6, r7, r8, r9, r10, r11⟩, q0, q1, q2, q3, q4, q5, q6, q7, q8, q9, q10, q11⟩ := HXd.out.r.twelve
          obtain ⟨⟨a0, a1, a2, a3, a4⟩, c0, c1, c2, c3, c4⟩ := HXd.out.a.five
          obtain ⟨⟨y0, y1, y2, y3, y4⟩, z0, z1, z2, z3, z4⟩ := HXd.out.qq.five
          go_wp2_with fail
          clear b0 b1 b2 b3 b4 b5 b6 b7 b8 b9 b10 b11 p0 p1 p2 p3 p4 p5 p6 p7 p8 p9 p10 p11 r0 r1 r2 r3 r4 r5 r6 r7 r8 r9 r10 r11 q0 q1 q2 q3 q4 q5 q6 q7 q8 q9 q10 q11 a0 a1 a2 a3 a4 c0 c1 c2 c3 c4 y0 y1 y2 y3 y4 z0 z1 z2 z3 z4
          have hs12 : Tur (· = R) w8 ((((((((((((w8.setCell ⟨R, 0, none⟩ (.slice f2.A0 f2.n0 f2.c0)).setCell ⟨R, 1, none⟩ (.string rs2.stdin)).setCell ⟨R, 2, none⟩ (.slice f2.A2 rs2.replies.length f2.c2)).setCell ⟨R, 3, none⟩ (.slice f2.A3 rs2.fails.length f2.c3)).setCell ⟨R, 4, none⟩ (.int .i64 rs2.lim)).setCell ⟨R, 5, none⟩ (.int .i64 rs2.clock)).setCell ⟨R, 6, none⟩ (.int .u64 rs2.ch)).setCell ⟨R, 7, none⟩ (.slice f2.AF rs2.files.length f2.cF)).setCell ⟨R, 8, none⟩ (.int .i64 rs2.taken)).setCell ⟨R, 9, none⟩ (.slice f2.AO rs2.opn.length f2.cO)).setCell ⟨R, 10, none⟩ (.int .u64 rs2.num)).setCell ⟨R, 11, none⟩ (.slice f2.AE rs2.events.length f2.cE)) := Tur.set12 (.slice f2.A0 f2.n0 f2.c0) (.string rs2.stdin) (.slice f2.A2 rs2.replies.length f2.c2) (.slice f2.A3 rs2.fails.length f2.c3) (.int .i64 rs2.lim) (.int .i64 rs2.clock) (.int .u64 rs2.ch) (.slice f2.AF rs2.files.length f2.cF) (.int .i64 rs2.taken) (.slice f2.AO rs2.opn.length f2.cO) (.int .u64 rs2.num) (.slice f2.AE rs2.events.length f2.cE)
          have HQ9 := Lib.hid (HXd.out.q.box (g := R) hs12 (by have := HBE.out; omega) (by have := HBE.out; omega))
          have HB9 := Lib.hid (HXd.out.b.keep hs12 hBR)
          have HA9 := Lib.hid (HXd.out.a.keep hs12 hAR)
          have HR9 := Lib.hid (HXd.out.r.set12 (.slice f2.A0 f2.n0 f2.c0) (.string rs2.stdin) (.slice f2.A2 rs2.replies.length f2.c2) (.slice f2.A3 rs2.fails.length f2.c3) (.int .i64 rs2.lim) (.int .i64 rs2.clock) (.int .u64 rs2.ch) (.slice f2.AF rs2.files.length f2.cF) (.int .i64 rs2.taken) (.slice f2.AO rs2.opn.length f2.cO) (.int .u64 rs2.num) (.slice f2.AE rs2.events.length f2.cE))
          have HQQ9 := Lib.hid (HXd.out.qq.keep hs12 hQR)
          clear hs12
          generalize ((((((((((((w8.setCell ⟨R, 0, none⟩ (.slice f2.A0 f2.n0 f2.c0)).setCell ⟨R, 1, none⟩ (.string rs2.stdin)).setCell ⟨R, 2, none⟩ (.slice f2.A2 rs2.replies.length f2.c2)).setCell ⟨R, 3, none⟩ (.slice f2.A3 rs2.fails.length f2.c3)).setCell ⟨R, 4, none⟩ (.int .i64 rs2.lim)).setCell ⟨R, 5, none⟩ (.int .i64 rs2.clock)).setCell ⟨R, 6, none⟩ (.int .u64 rs2.ch)).setCell ⟨R, 7, none⟩ (.slice f2.AF rs2.files.length f2.cF)).setCell ⟨R, 8, none⟩ (.int .i64 rs2.taken)).setCell ⟨R, 9, none⟩ (.slice f2.AO rs2.opn.length f2.cO)).setCell ⟨R, 10, none⟩ (.int .u64 rs2.num)).setCell ⟨R, 11, none⟩ (.slice f2.AE rs2.events.length f2.cE)) = w9 at *
          refine HM.out _ _ ⟨HB9.out, HA9.out⟩ ?_
          clear HM M
          refine ord_alone (fun M hM => ?_)
          have HM := Lib.hid hM
          clear hM
          obtain ⟨⟨y0, y1, y2, y3, y4⟩, z0, z1, z2, z3, z4⟩ := HQQ9.out.five
          obtain ⟨⟨b0, b1, b2, b3, b4, b5, b6, b7, b8, b9, b10, b11⟩, -⟩ := HB9.out.twelve
          go_wp2_with fail
          clear y0 y1 y2 y3 y4 z0 z1 z2 z3 z4 b0 b1 b2 b3 b4 b5 b6 b7 b8 b9 b10 b11
          have hs5 : Tur (· = Q) w9 (((((w9.setCell ⟨Q, 0, none⟩ (.int .u8 k)).setCell ⟨Q, 1, none⟩ (.string name)).setCell ⟨Q, 2, none⟩ (.string l)).setCell ⟨Q, 3, none⟩ (.bool false)).setCell ⟨Q, 4, none⟩ (.bool true)) := Tur.set5 (.int .u8 k) (.string name) (.string l) (.bool false) (.bool true)
          have HQ10 := Lib.hid (HQ9.out.box (g := Q) hs5 (by have := HBE.out; omega) (by have := HBE.out; omega))
          have HB10 := Lib.hid (HB9.out.keep hs5 hBQ)
          have HA10 := Lib.hid (HA9.out.keep hs5 hAQ)
          have HR10 := Lib.hid (HR9.out.keep hs5 hRQ)
          have HQQ10 := Lib.hid (HQQ9.out.set5 (.int .u8 k) (.string name) (.string l) (.bool false) (.bool true))
          clear hs5
          generalize (((((w9.setCell ⟨Q, 0, none⟩ (.int .u8 k)).setCell ⟨Q, 1, none⟩ (.string name)).setCell ⟨Q, 2, none⟩ (.string l)).setCell ⟨Q, 3, none⟩ (.bool false)).setCell ⟨Q, 4, none⟩ (.bool true)) = w10 at *
          refine HM.out _ _ ⟨HB10.out, HA10.out⟩ ?_
          clear HM M
          iterate 3 (
            refine ord_read ?_ (fun wd hS M hM => ?_) ?_ ?_
            rotate_left
            · have HM := Lib.hid hM
              obtain ⟨⟨b0, b1, b2, b3, b4, b5, b6, b7, b8, b9, b10, b11⟩, -⟩ := hS.1.twelve
              obtain ⟨⟨a0, a1, a2, a3, a4⟩, -⟩ := hS.2.five
              clear hM hS
              go_wp2_with fail
              exact HM.out
            · rfl)
          refine NoPanic.normal (?_ : _)
          go_wp2_with fail
          obtain ⟨⟨x0, x1, x2, x3, x4, x5, x6, x7, x8, x9, x10, x11⟩, -⟩ := HR10.out.twelve
          obtain ⟨⟨y0, y1, y2, y3, y4⟩, -⟩ := HQQ10.out.five
          refine bodyPost_ret (v := .tuple #[.agg #[.slice f2.A0 f2.n0 f2.c0, .string rs2.stdin, .slice f2.A2 rs2.replies.length f2.c2, .slice f2.A3 rs2.fails.length f2.c3, .int .i64 rs2.lim, .int .i64 rs2.clock, .int .u64 rs2.ch, .slice f2.AF rs2.files.length f2.cF, .int .i64 rs2.taken, .slice f2.AO rs2.opn.length f2.cO, .int .u64 rs2.num, .slice f2.AE rs2.events.length f2.cE], .agg #[.int .u8 k, .string name, .string l, .bool false, .bool true], .string ⟨#[]⟩, .bool false, .int .i64 er]) (by simp [results, Tryd.results21, go_sem, x0, x1, x2, x3, x4, x5, x6, x7, x8, x9, x10, x11, y0, y1, y2, y3, y4]) rfl ?_
          exact ⟨f2, rs2, l, false, er, [], false, rfl, ⟨l, HFLP.out he, .inl ⟨he, rfl, rfl, rfl⟩⟩, HQ10.out.out (by have := HBE.out; omega), HQ10.out.below⟩
      · have HSO := Lib.hid hso
        clear hso
        have HNB := Lib.hid HX.out.nb
        have HPP := Lib.hid (HX.out.p _ _ _ _ (.stop (.inr HSO.out)))
        clear HM0
        obtain ⟨⟨a0, a1, a2, a3, a4⟩, c0, c1, c2, c3, c4⟩ := HNB.out.a.five
        have hll : l.size ≤ 9223372036854775807 := by have := HLZ.out; omega
        have hsz0 : sep.size ≤ 9223372036854775807 := by omega
        by_cases hs0 : 0 < sep.size
        · have HBR : Hid (sep.data.toList = sep[0] :: sep.data.toList.tail) := by
            unfold Hid
            obtain ⟨⟨ll⟩⟩ := sep
            cases ll with
            | nil => exact absurd hs0 (by simp [ByteArray.size])
            | cons x ll => rfl
          by_cases hl0 : l.size = 0
          · have e0 := isEmpty_eq hl0
            have HD0 := Lib.hid (size0 hl0)
            clear hl0
            go_upto_region 11 with (fail)
            clear a0 a1 a2 a3 a4 c0 c1 c2 c3 c4
            have HXd := Lib.hid (HNB.out.pure (Below.refl wr.heap.size wr).drew)
            refine wp_region_noPanic ?_
            refine wp_region_ord (fun wd => Blk wd B 46 #[.slice f1.A0 f1.n0 f1.c0, .string rs1.stdin, .slice f1.A2 rs1.replies.length f1.c2, .slice f1.A3 rs1.fails.length f1.c3, .int .i64 rs1.lim, .int .i64 rs1.clock, .int .u64 rs1.ch, .slice f1.AF rs1.files.length f1.cF, .int .i64 rs1.taken, .slice f1.AO rs1.opn.length f1.cO, .int .u64 rs1.num, .slice f1.AE rs1.events.length f1.cE] ∧ Blk wd A 55 #[.int .u8 k, .string name, .string l, .bool false, .bool true]) (.read 0 (.read 1 (.alone 2 (.alone 3 (.read 4 (.read 5 (.read 6 .done))))))) (by kernel_rfl) (by kernel_rfl) (fun _ _ _ _ _ h => h) ⟨HXd.out.b, HXd.out.a⟩ ?_
            simp only [Ord.ops, List.getElem?_toArray, List.getElem?_cons_zero, List.getElem?_cons_succ]
            generalize wr.drew = w8 at *
            iterate 2 (
              refine ord_read ?_ (fun wd hS M hM => ?_) ?_ ?_
              rotate_left
              · have HM := Lib.hid hM
                obtain ⟨⟨b0, b1, b2, b3, b4, b5, b6, b7, b8, b9, b10, b11⟩, -⟩ := hS.1.twelve
                obtain ⟨⟨a0, a1, a2, a3, a4⟩, -⟩ := hS.2.five
                clear hM hS
                go_wp2_with fail
                exact HM.out
              · rfl)
            refine ord_alone (fun M hM => ?_)
            have HM := Lib.hid hM
            clear hM
            obtain ⟨⟨b0, b1, b2, b3, b4, b5, b6, b7, b8, b9, b10, b11⟩, p0, p1, p2, p3, p4, p5, p6, p7, p8, p9, p10, p11⟩ := HXd.out.b.twelve
            obtain ⟨⟨r0, r1, r2, r3, r4, r5, r6, r7, r8, r9, r10, r11⟩, q0, q1, q2, q3, q4, q5, q6, q7, q8, q9, q10, q11⟩ := HXd.out.r.twelve
            obtain ⟨⟨a0, a1, a2, a3, a4⟩, c0, c1, c2, c3, c4⟩ := HXd.out.a.five
            obtain ⟨⟨y0, y1, y2, y3, y4⟩, z0, z1, z2, z3, z4⟩ := HXd.out.qq.five
            go_wp2_with fail
            clear b0 b1 b2 b3 b4 b5 b6 b7 b8 b9 b10 b11 p0 p1 p2 p3 p4 p5 p6 p7 p8 p9 p10 p11 r0 r1 r2 r3 r4 r5 r6 r7 r8 r9 r10 r11 q0 q1 q2 q3 q4 q5 q6 q7 q8 q9 q10 q11 a0 a1 a2 a3 a4 c0 c1 c2 c3 c4 y0 y1 y2 y3 y4 z0 z1 z2 z3 z4
            have hs12 : Tur (· = R) w8 ((((((((((((w8.setCell ⟨R, 0, none⟩ (.slice f1.A0 f1.n0 f1.c0)).setCell ⟨R, 1, none⟩ (.string rs1.stdin)).setCell ⟨R, 2, none⟩ (.slice f1.A2 rs1.replies.length f1.c2)).setCell ⟨R, 3, none⟩ (.slice f1.A3 rs1.fails.length f1.c3)).setCell ⟨R, 4, none⟩ (.int .i64 rs1.lim)).setCell ⟨R, 5, none⟩ (.int .i64 rs1.clock)).setCell ⟨R, 6, none⟩ (.int .u64 rs1.ch)).setCell ⟨R, 7, none⟩ (.slice f1.AF rs1.files.length f1.cF)).setCell ⟨R, 8, none⟩ (.int .i64 rs1.taken)).setCell ⟨R, 9, none⟩ (.slice f1.AO rs1.opn.length f1.cO)).setCell ⟨R, 10, none⟩ (.int .u64 rs1.num)).setCell ⟨R, 11, none⟩ (.slice f1.AE rs1.events.length f1.cE)) := Tur.set12 (.slice f1.A0 f1.n0 f1.c0) (.string rs1.stdin) (.slice f1.A2 rs1.replies.length f1.c2) (.slice f1.A3 rs1.fails.length f1.c3) (.int .i64 rs1.lim) (.int .i64 rs1.clock) (.int .u64 rs1.ch) (.slice f1.AF rs1.files.length f1.cF) (.int .i64 rs1.taken) (.slice f1.AO rs1.opn.length f1.cO) (.int .u64 rs1.num) (.slice f1.AE rs1.events.length f1.cE)
            have HQ9 := Lib.hid (HXd.out.q.box (g := R) hs12 (by have := HBE.out; omega) (by have := HBE.out; omega))
            have HB9 := Lib.hid (HXd.out.b.keep hs12 hBR)
            have HA9 := Lib.hid (HXd.out.a.keep hs12 hAR)
            have HR9 := Lib.hid (HXd.out.r.set12 (.slice f1.A0 f1.n0 f1.c0) (.string rs1.stdin) (.slice f1.A2 rs1.replies.length f1.c2) (.slice f1.A3 rs1.fails.length f1.c3) (.int .i64 rs1.lim) (.int .i64 rs1.clock) (.int .u64 rs1.ch) (.slice f1.AF rs1.files.length f1.cF) (.int .i64 rs1.taken) (.slice f1.AO rs1.opn.length f1.cO) (.int .u64 rs1.num) (.slice f1.AE rs1.events.length f1.cE))
            have HQQ9 := Lib.hid (HXd.out.qq.keep hs12 hQR)
            clear hs12
            generalize ((((((((((((w8.setCell ⟨R, 0, none⟩ (.slice f1.A0 f1.n0 f1.c0)).setCell ⟨R, 1, none⟩ (.string rs1.stdin)).setCell ⟨R, 2, none⟩ (.slice f1.A2 rs1.replies.length f1.c2)).setCell ⟨R, 3, none⟩ (.slice f1.A3 rs1.fails.length f1.c3)).setCell ⟨R, 4, none⟩ (.int .i64 rs1.lim)).setCell ⟨R, 5, none⟩ (.int .i64 rs1.clock)).setCell ⟨R, 6, none⟩ (.int .u64 rs1.ch)).setCell ⟨R, 7, none⟩ (.slice f1.AF rs1.files.length f1.cF)).setCell ⟨R, 8, none⟩ (.int .i64 rs1.taken)).setCell ⟨R, 9, none⟩ (.slice f1.AO rs1.opn.length f1.cO)).setCell ⟨R, 10, none⟩ (.int .u64 rs1.num)).setCell ⟨R, 11, none⟩ (.slice f1.AE rs1.events.length f1.cE)) = w9 at *
            refine HM.out _ _ ⟨HB9.out, HA9.out⟩ ?_
            clear HM M
            refine ord_alone (fun M hM => ?_)
            have HM := Lib.hid hM
            clear hM
            obtain ⟨⟨y0, y1, y2, y3, y4⟩, z0, z1, z2, z3, z4⟩ := HQQ9.out.five
            obtain ⟨⟨b0, b1, b2, b3, b4, b5, b6, b7, b8, b9, b10, b11⟩, -⟩ := HB9.out.twelve
            go_wp2_with fail
            clear y0 y1 y2 y3 y4 z0 z1 z2 z3 z4 b0 b1 b2 b3 b4 b5 b6 b7 b8 b9 b10 b11
            have hs5 : Tur (· = Q) w9 (((((w9.setCell ⟨Q, 0, none⟩ (.int .u8 k)).setCell ⟨Q, 1, none⟩ (.string name)).setCell ⟨Q, 2, none⟩ (.string l)).setCell ⟨Q, 3, none⟩ (.bool false)).setCell ⟨Q, 4, none⟩ (.bool true)) := Tur.set5 (.int .u8 k) (.string name) (.string l) (.bool false) (.bool true)
            have HQ10 := Lib.hid (HQ9.out.box (g := Q) hs5 (by have := HBE.out; omega) (by have := HBE.out; omega))
            have HB10 := Lib.hid (HB9.out.keep hs5 hBQ)
            have HA10 := Lib.hid (HA9.out.keep hs5 hAQ)
            have HR10 := Lib.hid (HR9.out.keep hs5 hRQ)
            have HQQ10 := Lib.hid (HQQ9.out.set5 (.int .u8 k) (.string name) (.string l) (.bool false) (.bool true))
            clear hs5
            generalize (((((w9.setCell ⟨Q, 0, none⟩ (.int .u8 k)).setCell ⟨Q, 1, none⟩ (.string name)).setCell ⟨Q, 2, none⟩ (.string l)).setCell ⟨Q, 3, none⟩ (.bool false)).setCell ⟨Q, 4, none⟩ (.bool true)) = w10 at *
            refine HM.out _ _ ⟨HB10.out, HA10.out⟩ ?_
            clear HM M
            iterate 3 (
              refine ord_read ?_ (fun wd hS M hM => ?_) ?_ ?_
              rotate_left
              · have HM := Lib.hid hM
                obtain ⟨⟨b0, b1, b2, b3, b4, b5, b6, b7, b8, b9, b10, b11⟩, -⟩ := hS.1.twelve
                obtain ⟨⟨a0, a1, a2, a3, a4⟩, -⟩ := hS.2.five
                clear hM hS
                go_wp2_with fail
                exact HM.out
              · rfl)
            refine NoPanic.normal (?_ : _)
            go_wp2_with fail
            obtain ⟨⟨x0, x1, x2, x3, x4, x5, x6, x7, x8, x9, x10, x11⟩, -⟩ := HR10.out.twelve
            obtain ⟨⟨y0, y1, y2, y3, y4⟩, -⟩ := HQQ10.out.five
            refine bodyPost_ret (v := .tuple #[.agg #[.slice f1.A0 f1.n0 f1.c0, .string rs1.stdin, .slice f1.A2 rs1.replies.length f1.c2, .slice f1.A3 rs1.fails.length f1.c3, .int .i64 rs1.lim, .int .i64 rs1.clock, .int .u64 rs1.ch, .slice f1.AF rs1.files.length f1.cF, .int .i64 rs1.taken, .slice f1.AO rs1.opn.length f1.cO, .int .u64 rs1.num, .slice f1.AE rs1.events.length f1.cE], .agg #[.int .u8 k, .string name, .string l, .bool false, .bool true], .string ⟨#[]⟩, .bool false, .int .i64 0]) (by simp [results, Tryd.results21, go_sem, x0, x1, x2, x3, x4, x5, x6, x7, x8, x9, x10, x11, y0, y1, y2, y3, y4]) rfl ?_
            exact ⟨f1, rs1, l, false, 0, [], false, rfl, ⟨l, HPP.out, .inr ⟨rfl, by rw [HD0.out, HBR.out]; rfl, by rw [HD0.out, HBR.out]; rfl, by rw [HD0.out, HBR.out]; rfl⟩⟩, HQ10.out.out (by have := HBE.out; omega), HQ10.out.below⟩
          · have e0 := isEmpty_ne hl0
            have HNE := Lib.hid (data_ne hl0)
            clear hl0
            go_upto_region 12 with (fail)
            clear a0 a1 a2 a3 a4 c0 c1 c2 c3 c4
            have HXd := Lib.hid (HNB.out.pure (Below.refl wr.heap.size wr).drew)
            refine wp_region_noPanic ?_
            refine wp_region_ord (fun wd => Blk wd B 46 #[.slice f1.A0 f1.n0 f1.c0, .string rs1.stdin, .slice f1.A2 rs1.replies.length f1.c2, .slice f1.A3 rs1.fails.length f1.c3, .int .i64 rs1.lim, .int .i64 rs1.clock, .int .u64 rs1.ch, .slice f1.AF rs1.files.length f1.cF, .int .i64 rs1.taken, .slice f1.AO rs1.opn.length f1.cO, .int .u64 rs1.num, .slice f1.AE rs1.events.length f1.cE] ∧ Blk wd A 55 #[.int .u8 k, .string name, .string l, .bool false, .bool true]) (.read 0 (.read 1 (.read 2 (.read 3 (.alone 4 (.read 5 .done)))))) (by kernel_rfl) (by kernel_rfl) (fun _ _ _ _ _ h => h) ⟨HXd.out.b, HXd.out.a⟩ ?_
            simp only [Ord.ops, List.getElem?_toArray, List.getElem?_cons_zero, List.getElem?_cons_succ]
            generalize wr.drew = w7 at *
            iterate 4 (
              refine ord_read ?_ (fun wd hS M hM => ?_) ?_ ?_
              rotate_left
              · have HM := Lib.hid hM
                obtain ⟨⟨b0, b1, b2, b3, b4, b5, b6, b7, b8, b9, b10, b11⟩, -⟩ := hS.1.twelve
                obtain ⟨⟨a0, a1, a2, a3, a4⟩, -⟩ := hS.2.five
                clear hM hS
                go_wp2_with fail
                exact HM.out
              · rfl)
            refine ord_alone (fun M hM => ?_)
            have HM := Lib.hid hM
            clear hM
            go_wp2_with (go_at_call 49; refine (q_find l sep[0] _ (by have := HLZ.out; omega)).mono ?_; rintro e w8 ⟨rfl, rfl⟩)
            refine HM.out _ _ ⟨HXd.out.b, HXd.out.a⟩ ?_
            clear HM M
            iterate 1 (
              refine ord_read ?_ (fun wd hS M hM => ?_) ?_ ?_
              rotate_left
              · have HM := Lib.hid hM
                obtain ⟨⟨b0, b1, b2, b3, b4, b5, b6, b7, b8, b9, b10, b11⟩, -⟩ := hS.1.twelve
                obtain ⟨⟨a0, a1, a2, a3, a4⟩, -⟩ := hS.2.five
                clear hM hS
                go_wp2_with fail
                exact HM.out
              · rfl)
            refine NoPanic.normal (?_ : _)
            obtain ⟨htl, htt, htr⟩ := tw_take sep[0] l.data.toList
            generalize (Rd.tw sep[0] l.data.toList).length = ix at *
            have hil : ix ≤ l.size := htl
            have HTE : Hid (tellT sep.data.toList l.data.toList = (l.data.toList.take ix, true, l.data.toList.drop (ix + 1))) := by
              unfold Hid tellT
              rw [HBR.out]
              simp only
              rw [if_neg HNE.out, htt, htr]
            clear htl htt htr
            obtain ⟨⟨a0, a1, a2, a3, a4⟩, c0, c1, c2, c3, c4⟩ := HXd.out.a.five
            by_cases hlt : ix < l.size
            · have hil1 : ix + 1 ≤ l.size := hlt
              have HN2 := Lib.hid ((HXd.out.set HAX.out 2 (.string (l.extract (ix + 1) l.size)) (l.extract (ix + 1) l.size) false true rfl).set HAX.out 4 (.bool false) (l.extract (ix + 1) l.size) false false rfl)
              go_upto_region 18 with (fail)
              generalize (w7.setCell ⟨A, 2, none⟩ (.string (l.extract (ix + 1) l.size))).setCell ⟨A, 4, none⟩ (.bool false) = w17 at *
              clear a0 a1 a2 a3 a4 c0 c1 c2 c3 c4
              have HXd := Lib.hid (HN2.out.pure (Below.refl w17.heap.size w17).drew)
              refine wp_region_noPanic ?_
              refine wp_region_ord (fun wd => Blk wd B 46 #[.slice f1.A0 f1.n0 f1.c0, .string rs1.stdin, .slice f1.A2 rs1.replies.length f1.c2, .slice f1.A3 rs1.fails.length f1.c3, .int .i64 rs1.lim, .int .i64 rs1.clock, .int .u64 rs1.ch, .slice f1.AF rs1.files.length f1.cF, .int .i64 rs1.taken, .slice f1.AO rs1.opn.length f1.cO, .int .u64 rs1.num, .slice f1.AE rs1.events.length f1.cE] ∧ Blk wd A 55 #[.int .u8 k, .string name, .string (l.extract (ix + 1) l.size), .bool false, .bool false]) (.read 0 (.read 1 (.read 2 (.alone 3 (.alone 4 (.read 5 (.read 6 (.read 7 .done)))))))) (by kernel_rfl) (by kernel_rfl) (fun _ _ _ _ _ h => h) ⟨HXd.out.b, HXd.out.a⟩ ?_
              simp only [Ord.ops, List.getElem?_toArray, List.getElem?_cons_zero, List.getElem?_cons_succ]
              generalize w17.drew = w8 at *
              iterate 3 (
                refine ord_read ?_ (fun wd hS M hM => ?_) ?_ ?_
                rotate_left
                · have HM := Lib.hid hM
                  obtain ⟨⟨b0, b1, b2, b3, b4, b5, b6, b7, b8, b9, b10, b11⟩, -⟩ := hS.1.twelve
                  obtain ⟨⟨a0, a1, a2, a3, a4⟩, -⟩ := hS.2.five
                  clear hM hS
                  go_wp2_with fail
                  exact HM.out
                · rfl)
              refine ord_alone (fun M hM => ?_)
              have HM := Lib.hid hM
              clear hM
              obtain ⟨⟨b0, b1, b2, b3, b4, b5, b6, b7, b8, b9, b10, b11⟩, p0, p1, p2, p3, p4, p5, p6, p7, p8, p9, p10, p11⟩ := HXd.out.b.twelve
              obtain ⟨⟨r0, r1, r2, r3, r4, r5, r6, r7, r8, r9, r10, r11⟩, q0, q1, q2, q3, q4, q5, q6, q7, q8, q9, q10, q11⟩ := HXd.out.r.twelve
              obtain ⟨⟨a0, a1, a2, a3, a4⟩, c0, c1, c2, c3, c4⟩ := HXd.out.a.five
              obtain ⟨⟨y0, y1, y2, y3, y4⟩, z0, z1, z2, z3, z4⟩ := HXd.out.qq.five
              go_wp2_with fail
              clear b0 b1 b2 b3 b4 b5 b6 b7 b8 b9 b10 b11 p0 p1 p2 p3 p4 p5 p6 p7 p8 p9 p10 p11 r0 r1 r2 r3 r4 r5 r6 r7 r8 r9 r10 r11 q0 q1 q2 q3 q4 q5 q6 q7 q8 q9 q10 q11 a0 a1 a2 a3 a4 c0 c1 c2 c3 c4 y0 y1 y2 y3 y4 z0 z1 z2 z3 z4
              have hs12 : Tur (· = R) w8 ((((((((((((w8.setCell ⟨R, 0, none⟩ (.slice f1.A0 f1.n0 f1.c0)).setCell ⟨R, 1, none⟩ (.string rs1.stdin)).setCell ⟨R, 2, none⟩ (.slice f1.A2 rs1.replies.length f1.c2)).setCell ⟨R, 3, none⟩ (.slice f1.A3 rs1.fails.length f1.c3)).setCell ⟨R, 4, none⟩ (.int .i64 rs1.lim)).setCell ⟨R, 5, none⟩ (.int .i64 rs1.clock)).setCell ⟨R, 6, none⟩ (.int .u64 rs1.ch)).setCell ⟨R, 7, none⟩ (.slice f1.AF rs1.files.length f1.cF)).setCell ⟨R, 8, none⟩ (.int .i64 rs1.taken)).setCell ⟨R, 9, none⟩ (.slice f1.AO rs1.opn.length f1.cO)).setCell ⟨R, 10, none⟩ (.int .u64 rs1.num)).setCell ⟨R, 11, none⟩ (.slice f1.AE rs1.events.length f1.cE)) := Tur.set12 (.slice f1.A0 f1.n0 f1.c0) (.string rs1.stdin) (.slice f1.A2 rs1.replies.length f1.c2) (.slice f1.A3 rs1.fails.length f1.c3) (.int .i64 rs1.lim) (.int .i64 rs1.clock) (.int .u64 rs1.ch) (.slice f1.AF rs1.files.length f1.cF) (.int .i64 rs1.taken) (.slice f1.AO rs1.opn.length f1.cO) (.int .u64 rs1.num) (.slice f1.AE rs1.events.length f1.cE)
              have HQ9 := Lib.hid (HXd.out.q.box (g := R) hs12 (by have := HBE.out; omega) (by have := HBE.out; omega))
              have HB9 := Lib.hid (HXd.out.b.keep hs12 hBR)
              have HA9 := Lib.hid (HXd.out.a.keep hs12 hAR)
              have HR9 := Lib.hid (HXd.out.r.set12 (.slice f1.A0 f1.n0 f1.c0) (.string rs1.stdin) (.slice f1.A2 rs1.replies.length f1.c2) (.slice f1.A3 rs1.fails.length f1.c3) (.int .i64 rs1.lim) (.int .i64 rs1.clock) (.int .u64 rs1.ch) (.slice f1.AF rs1.files.length f1.cF) (.int .i64 rs1.taken) (.slice f1.AO rs1.opn.length f1.cO) (.int .u64 rs1.num) (.slice f1.AE rs1.events.length f1.cE))
              have HQQ9 := Lib.hid (HXd.out.qq.keep hs12 hQR)
              clear hs12
              generalize ((((((((((((w8.setCell ⟨R, 0, none⟩ (.slice f1.A0 f1.n0 f1.c0)).setCell ⟨R, 1, none⟩ (.string rs1.stdin)).setCell ⟨R, 2, none⟩ (.slice f1.A2 rs1.replies.length f1.c2)).setCell ⟨R, 3, none⟩ (.slice f1.A3 rs1.fails.length f1.c3)).setCell ⟨R, 4, none⟩ (.int .i64 rs1.lim)).setCell ⟨R, 5, none⟩ (.int .i64 rs1.clock)).setCell ⟨R, 6, none⟩ (.int .u64 rs1.ch)).setCell ⟨R, 7, none⟩ (.slice f1.AF rs1.files.length f1.cF)).setCell ⟨R, 8, none⟩ (.int .i64 rs1.taken)).setCell ⟨R, 9, none⟩ (.slice f1.AO rs1.opn.length f1.cO)).setCell ⟨R, 10, none⟩ (.int .u64 rs1.num)).setCell ⟨R, 11, none⟩ (.slice f1.AE rs1.events.length f1.cE)) = w9 at *
              refine HM.out _ _ ⟨HB9.out, HA9.out⟩ ?_
              clear HM M
              refine ord_alone (fun M hM => ?_)
              have HM := Lib.hid hM
              clear hM
              obtain ⟨⟨y0, y1, y2, y3, y4⟩, z0, z1, z2, z3, z4⟩ := HQQ9.out.five
              obtain ⟨⟨b0, b1, b2, b3, b4, b5, b6, b7, b8, b9, b10, b11⟩, -⟩ := HB9.out.twelve
              go_wp2_with fail
              clear y0 y1 y2 y3 y4 z0 z1 z2 z3 z4 b0 b1 b2 b3 b4 b5 b6 b7 b8 b9 b10 b11
              have hs5 : Tur (· = Q) w9 (((((w9.setCell ⟨Q, 0, none⟩ (.int .u8 k)).setCell ⟨Q, 1, none⟩ (.string name)).setCell ⟨Q, 2, none⟩ (.string (l.extract (ix + 1) l.size))).setCell ⟨Q, 3, none⟩ (.bool false)).setCell ⟨Q, 4, none⟩ (.bool false)) := Tur.set5 (.int .u8 k) (.string name) (.string (l.extract (ix + 1) l.size)) (.bool false) (.bool false)
              have HQ10 := Lib.hid (HQ9.out.box (g := Q) hs5 (by have := HBE.out; omega) (by have := HBE.out; omega))
              have HB10 := Lib.hid (HB9.out.keep hs5 hBQ)
              have HA10 := Lib.hid (HA9.out.keep hs5 hAQ)
              have HR10 := Lib.hid (HR9.out.keep hs5 hRQ)
              have HQQ10 := Lib.hid (HQQ9.out.set5 (.int .u8 k) (.string name) (.string (l.extract (ix + 1) l.size)) (.bool false) (.bool false))
              clear hs5
              generalize (((((w9.setCell ⟨Q, 0, none⟩ (.int .u8 k)).setCell ⟨Q, 1, none⟩ (.string name)).setCell ⟨Q, 2, none⟩ (.string (l.extract (ix + 1) l.size))).setCell ⟨Q, 3, none⟩ (.bool false)).setCell ⟨Q, 4, none⟩ (.bool false)) = w10 at *
              refine HM.out _ _ ⟨HB10.out, HA10.out⟩ ?_
              clear HM M
              iterate 3 (
                refine ord_read ?_ (fun wd hS M hM => ?_) ?_ ?_
                rotate_left
                · have HM := Lib.hid hM
                  obtain ⟨⟨b0, b1, b2, b3, b4, b5, b6, b7, b8, b9, b10, b11⟩, -⟩ := hS.1.twelve
                  obtain ⟨⟨a0, a1, a2, a3, a4⟩, -⟩ := hS.2.five
                  clear hM hS
                  go_wp2_with fail
                  exact HM.out
                · rfl)
              refine NoPanic.normal (?_ : _)
              go_wp2_with fail
              obtain ⟨⟨x0, x1, x2, x3, x4, x5, x6, x7, x8, x9, x10, x11⟩, -⟩ := HR10.out.twelve
              obtain ⟨⟨y0, y1, y2, y3, y4⟩, -⟩ := HQQ10.out.five
              refine bodyPost_ret (v := .tuple #[.agg #[.slice f1.A0 f1.n0 f1.c0, .string rs1.stdin, .slice f1.A2 rs1.replies.length f1.c2, .slice f1.A3 rs1.fails.length f1.c3, .int .i64 rs1.lim, .int .i64 rs1.clock, .int .u64 rs1.ch, .slice f1.AF rs1.files.length f1.cF, .int .i64 rs1.taken, .slice f1.AO rs1.opn.length f1.cO, .int .u64 rs1.num, .slice f1.AE rs1.events.length f1.cE], .agg #[.int .u8 k, .string name, .string (l.extract (ix + 1) l.size), .bool false, .bool false], .string (l.extract 0 ix), .bool true, .int .i64 0]) (by simp [results, Tryd.results21, go_sem, x0, x1, x2, x3, x4, x5, x6, x7, x8, x9, x10, x11, y0, y1, y2, y3, y4]) rfl ?_
              refine ⟨f1, rs1, (l.extract (ix + 1) l.size), false, 0, (l.extract 0 ix).data.toList, true, by rw [back]; rfl, ⟨l, HPP.out, .inr ⟨rfl, ?_, ?_, ?_⟩⟩, HQ10.out.out (by have := HBE.out; omega), HQ10.out.below⟩
              · rw [HTE.out, Lib.extract_data]; simp
              · rw [HTE.out]
              · rw [HTE.out]; apply ByteArray.ext; apply Array.toList_inj.1; rw [ext_tail]
            · have HIXE := Lib.hid (show ix = l.size by omega)
              have HN2 := Lib.hid ((HXd.out.set HAX.out 2 (.string (l.extract ix l.size)) (l.extract ix l.size) false true rfl).set HAX.out 4 (.bool false) (l.extract ix l.size) false false rfl)
              go_upto_region 18 with (fail)
              generalize (w7.setCell ⟨A, 2, none⟩ (.string (l.extract ix l.size))).setCell ⟨A, 4, none⟩ (.bool false) = w17 at *
              clear a0 a1 a2 a3 a4 c0 c1 c2 c3 c4
              have HXd := Lib.hid (HN2.out.pure (Below.refl w17.heap.size w17).drew)
              refine wp_region_noPanic ?_
              refine wp_region_ord (fun wd => Blk wd B 46 #[.slice f1.A0 f1.n0 f1.c0, .string rs1.stdin, .slice f1.A2 rs1.replies.length f1.c2, .slice f1.A3 rs1.fails.length f1.c3, .int .i64 rs1.lim, .int .i64 rs1.clock, .int .u64 rs1.ch, .slice f1.AF rs1.files.length f1.cF, .int .i64 rs1.taken, .slice f1.AO rs1.opn.length f1.cO, .int .u64 rs1.num, .slice f1.AE rs1.events.length f1.cE] ∧ Blk wd A 55 #[.int .u8 k, .string name, .string (l.extract ix l.size), .bool false, .bool false]) (.read 0 (.read 1 (.read 2 (.alone 3 (.alone 4 (.read 5 (.read 6 (.read 7 .done)))))))) (by kernel_rfl) (by kernel_rfl) (fun _ _ _ _ _ h => h) ⟨HXd.out.b, HXd.out.a⟩ ?_
              simp only [Ord.ops, List.getElem?_toArray, List.getElem?_cons_zero, List.getElem?_cons_succ]
              generalize w17.drew = w8 at *
              iterate 3 (
                refine ord_read ?_ (fun wd hS M hM => ?_) ?_ ?_
                rotate_left
                · have HM := Lib.hid hM
                  obtain ⟨⟨b0, b1, b2, b3, b4, b5, b6, b7, b8, b9, b10, b11⟩, -⟩ := hS.1.twelve
                  obtain ⟨⟨a0, a1, a2, a3, a4⟩, -⟩ := hS.2.five
                  clear hM hS
                  go_wp2_with fail
                  exact HM.out
                · rfl)
              refine ord_alone (fun M hM => ?_)
              have HM := Lib.hid hM
              clear hM
              obtain ⟨⟨b0, b1, b2, b3, b4, b5, b6, b7, b8, b9, b10, b11⟩, p0, p1, p2, p3, p4, p5, p6, p7, p8, p9, p10, p11⟩ := HXd.out.b.twelve
              obtain ⟨⟨r0, r1, r2, r3, r4, r5, r6, r7, r8, r9, r10, r11⟩, q0, q1, q2, q3, q4, q5, q6, q7, q8, q9, q10, q11⟩ := HXd.out.r.twelve
              obtain ⟨⟨a0, a1, a2, a3, a4⟩, c0, c1, c2, c3, c4⟩ := HXd.out.a.five
              obtain ⟨⟨y0, y1, y2, y3, y4⟩, z0, z1, z2, z3, z4⟩ := HXd.out.qq.five
              go_wp2_with fail
              clear b0 b1 b2 b3 b4 b5 b6 b7 b8 b9 b10 b11 p0 p1 p2 p3 p4 p5 p6 p7 p8 p9 p10 p11 r0 r1 r2 r3 r4 r5 r6 r7 r8 r9 r10 r11 q0 q1 q2 q3 q4 q5 q6 q7 q8 q9 q10 q11 a0 a1 a2 a3 a4 c0 c1 c2 c3 c4 y0 y1 y2 y3 y4 z0 z1 z2 z3 z4
              have hs12 : Tur (· = R) w8 ((((((((((((w8.setCell ⟨R, 0, none⟩ (.slice f1.A0 f1.n0 f1.c0)).setCell ⟨R, 1, none⟩ (.string rs1.stdin)).setCell ⟨R, 2, none⟩ (.slice f1.A2 rs1.replies.length f1.c2)).setCell ⟨R, 3, none⟩ (.slice f1.A3 rs1.fails.length f1.c3)).setCell ⟨R, 4, none⟩ (.int .i64 rs1.lim)).setCell ⟨R, 5, none⟩ (.int .i64 rs1.clock)).setCell ⟨R, 6, none⟩ (.int .u64 rs1.ch)).setCell ⟨R, 7, none⟩ (.slice f1.AF rs1.files.length f1.cF)).setCell ⟨R, 8, none⟩ (.int .i64 rs1.taken)).setCell ⟨R, 9, none⟩ (.slice f1.AO rs1.opn.length f1.cO)).setCell ⟨R, 10, none⟩ (.int .u64 rs1.num)).setCell ⟨R, 11, none⟩ (.slice f1.AE rs1.events.length f1.cE)) := Tur.set12 (.slice f1.A0 f1.n0 f1.c0) (.string rs1.stdin) (.slice f1.A2 rs1.replies.length f1.c2) (.slice f1.A3 rs1.fails.length f1.c3) (.int .i64 rs1.lim) (.int .i64 rs1.clock) (.int .u64 rs1.ch) (.slice f1.AF rs1.files.length f1.cF) (.int .i64 rs1.taken) (.slice f1.AO rs1.opn.length f1.cO) (.int .u64 rs1.num) (.slice f1.AE rs1.events.length f1.cE)
              have HQ9 := Lib.hid (HXd.out.q.box (g := R) hs12 (by have := HBE.out; omega) (by have := HBE.out; omega))
              have HB9 := Lib.hid (HXd.out.b.keep hs12 hBR)
              have HA9 := Lib.hid (HXd.out.a.keep hs12 hAR)
              have HR9 := Lib.hid (HXd.out.r.set12 (.slice f1.A0 f1.n0 f1.c0) (.string rs1.stdin) (.slice f1.A2 rs1.replies.length f1.c2) (.slice f1.A3 rs1.fails.length f1.c3) (.int .i64 rs1.lim) (.int .i64 rs1.clock) (.int .u64 rs1.ch) (.slice f1.AF rs1.files.length f1.cF) (.int .i64 rs1.taken) (.slice f1.AO rs1.opn.length f1.cO) (.int .u64 rs1.num) (.slice f1.AE rs1.events.length f1.cE))
              have HQQ9 := Lib.hid (HXd.out.qq.keep hs12 hQR)
              clear hs12
              generalize ((((((((((((w8.setCell ⟨R, 0, none⟩ (.slice f1.A0 f1.n0 f1.c0)).setCell ⟨R, 1, none⟩ (.string rs1.stdin)).setCell ⟨R, 2, none⟩ (.slice f1.A2 rs1.replies.length f1.c2)).setCell ⟨R, 3, none⟩ (.slice f1.A3 rs1.fails.length f1.c3)).setCell ⟨R, 4, none⟩ (.int .i64 rs1.lim)).setCell ⟨R, 5, none⟩ (.int .i64 rs1.clock)).setCell ⟨R, 6, none⟩ (.int .u64 rs1.ch)).setCell ⟨R, 7, none⟩ (.slice f1.AF rs1.files.length f1.cF)).setCell ⟨R, 8, none⟩ (.int .i64 rs1.taken)).setCell ⟨R, 9, none⟩ (.slice f1.AO rs1.opn.length f1.cO)).setCell ⟨R, 10, none⟩ (.int .u64 rs1.num)).setCell ⟨R, 11, none⟩ (.slice f1.AE rs1.events.length f1.cE)) = w9 at *
              refine HM.out _ _ ⟨HB9.out, HA9.out⟩ ?_
              clear HM M
              refine ord_alone (fun M hM => ?_)
              have HM := Lib.hid hM
              clear hM
              obtain ⟨⟨y0, y1, y2, y3, y4⟩, z0, z1, z2, z3, z4⟩ := HQQ9.out.five
              obtain ⟨⟨b0, b1, b2, b3, b4, b5, b6, b7, b8, b9, b10, b11⟩, -⟩ := HB9.out.twelve
              go_wp2_with fail
              clear y0 y1 y2 y3 y4 z0 z1 z2 z3 z4 b0 b1 b2 b3 b4 b5 b6 b7 b8 b9 b10 b11
              have hs5 : Tur (· = Q) w9 (((((w9.setCell ⟨Q, 0, none⟩ (.int .u8 k)).setCell ⟨Q, 1, none⟩ (.string name)).setCell ⟨Q, 2, none⟩ (.string (l.extract ix l.size))).setCell ⟨Q, 3, none⟩ (.bool false)).setCell ⟨Q, 4, none⟩ (.bool false)) := Tur.set5 (.int .u8 k) (.string name) (.string (l.extract ix l.size)) (.bool false) (.bool false)
              have HQ10 := Lib.hid (HQ9.out.box (g := Q) hs5 (by have := HBE.out; omega) (by have := HBE.out; omega))
              have HB10 := Lib.hid (HB9.out.keep hs5 hBQ)
              have HA10 := Lib.hid (HA9.out.keep hs5 hAQ)
              have HR10 := Lib.hid (HR9.out.keep hs5 hRQ)
              have HQQ10 := Lib.hid (HQQ9.out.set5 (.int .u8 k) (.string name) (.string (l.extract ix l.size)) (.bool false) (.bool false))
              clear hs5
              generalize (((((w9.setCell ⟨Q, 0, none⟩ (.int .u8 k)).setCell ⟨Q, 1, none⟩ (.string name)).setCell ⟨Q, 2, none⟩ (.string (l.extract ix l.size))).setCell ⟨Q, 3, none⟩ (.bool false)).setCell ⟨Q, 4, none⟩ (.bool false)) = w10 at *
              refine HM.out _ _ ⟨HB10.out, HA10.out⟩ ?_
              clear HM M
              iterate 3 (
                refine ord_read ?_ (fun wd hS M hM => ?_) ?_ ?_
                rotate_left
                · have HM := Lib.hid hM
                  obtain ⟨⟨b0, b1, b2, b3, b4, b5, b6, b7, b8, b9, b10, b11⟩, -⟩ := hS.1.twelve
                  obtain ⟨⟨a0, a1, a2, a3, a4⟩, -⟩ := hS.2.five
                  clear hM hS
                  go_wp2_with fail
                  exact HM.out
                · rfl)
              refine NoPanic.normal (?_ : _)
              go_wp2_with fail
              obtain ⟨⟨x0, x1, x2, x3, x4, x5, x6, x7, x8, x9, x10, x11⟩, -⟩ := HR10.out.twelve
              obtain ⟨⟨y0, y1, y2, y3, y4⟩, -⟩ := HQQ10.out.five
              refine bodyPost_ret (v := .tuple #[.agg #[.slice f1.A0 f1.n0 f1.c0, .string rs1.stdin, .slice f1.A2 rs1.replies.length f1.c2, .slice f1.A3 rs1.fails.length f1.c3, .int .i64 rs1.lim, .int .i64 rs1.clock, .int .u64 rs1.ch, .slice f1.AF rs1.files.length f1.cF, .int .i64 rs1.taken, .slice f1.AO rs1.opn.length f1.cO, .int .u64 rs1.num, .slice f1.AE rs1.events.length f1.cE], .agg #[.int .u8 k, .string name, .string (l.extract ix l.size), .bool false, .bool false], .string (l.extract 0 ix), .bool true, .int .i64 0]) (by simp [results, Tryd.results21, go_sem, x0, x1, x2, x3, x4, x5, x6, x7, x8, x9, x10, x11, y0, y1, y2, y3, y4]) rfl ?_
              refine ⟨f1, rs1, (l.extract ix l.size), false, 0, (l.extract 0 ix).data.toList, true, by rw [back]; rfl, ⟨l, HPP.out, .inr ⟨rfl, ?_, ?_, ?_⟩⟩, HQ10.out.out (by have := HBE.out; omega), HQ10.out.below⟩
              · rw [HTE.out, Lib.extract_data]; simp
              · rw [HTE.out]
              · rw [HTE.out]; apply ByteArray.ext; apply Array.toList_inj.1; rw [ext_tail]; have := HIXE.out; have h2 : l.data.toList.length = l.size := rfl; show l.data.toList.drop ix = l.data.toList.drop (ix + 1); rw [List.drop_of_length_le (by omega), List.drop_of_length_le (by omega)]
        · have HBR : Hid (sep.data.toList = []) := by unfold Hid; exact data_nil (by omega)
          go_wp2_with fail
          refine (q_spans l _ (by have := HLZ.out; omega)).mono ?_
          rintro e w7 ⟨bb, ee, hh, rfl, hsp, rfl⟩
          have hbe : bb ≤ ee := hsp.be
          have hhn : hh ≤ l.size := hsp.hn
          have hen : ee ≤ l.size := by have := hsp.eh; omega
          obtain ⟨-, hrec, hrest, hbelt⟩ := Rd.span_spec hsp
          have hT : l.data.toList.length = l.size := rfl
          rw [hT] at hrec hbelt
          have HREC := Lib.hid hrec
          have HREST := Lib.hid hrest
          have HTE : Hid (tellT sep.data.toList l.data.toList = (Rd.pRec l.data.toList, !decide (Rd.pRec l.data.toList = []), Rd.pRest l.data.toList)) := by unfold Hid tellT; rw [HBR.out]
          clear hsp hrec hrest
          go_upto_region 21 with (fail)
          obtain ⟨x, hx⟩ : ∃ x, x = l.extract bb ee := ⟨_, rfl⟩
          rw [← hx]
          have hxs : x.size = ee - bb := by rw [hx, ByteArray.size_extract]; omega
          have hxd : x.data.toList = (l.data.toList.take ee).drop bb := by rw [hx, ext_mid l hbe]
          have hx63 : x.size ≤ 9223372036854775807 := by omega
          have hh63 : hh ≤ 9223372036854775807 := by omega
          clear hx
          by_cases he : ee < l.size
          · have hb2 : bb < ee := hbelt he
            have ene : ((ee : Int) == (l.size : Int)) = false := beq_eq_false_iff_ne.2 (by omega)
            have hxp : 0 < x.size := by omega
            have hxz : ((x.size : Int) == 0) = false := beq_eq_false_iff_ne.2 (by omega)
            have HRX : Hid (Rd.pRec l.data.toList = x.data.toList) := by unfold Hid; rw [HREC.out, if_pos he, hxd]
            have HNE : Hid (x.data.toList ≠ []) := data_ne (by omega)
            clear hxs hxd hbelt hb2
            have HN2 := Lib.hid ((HNB.out.set HAX.out 2 (.string (l.extract hh l.size)) (l.extract hh l.size) false true rfl).set HAX.out 4 (.bool false) (l.extract hh l.size) false false rfl)
            go_upto_region 25 with (fail)
            generalize (wr.setCell ⟨A, 2, none⟩ (.string (l.extract hh l.size))).setCell ⟨A, 4, none⟩ (.bool false) = w17 at *
            clear a0 a1 a2 a3 a4 c0 c1 c2 c3 c4
            have HXd := Lib.hid (HN2.out.pure (Below.refl w17.heap.size w17).drew)
            refine wp_region_noPanic ?_
            refine wp_region_ord (fun wd => Blk wd B 46 #[.slice f1.A0 f1.n0 f1.c0, .string rs1.stdin, .slice f1.A2 rs1.replies.length f1.c2, .slice f1.A3 rs1.fails.length f1.c3, .int .i64 rs1.lim, .int .i64 rs1.clock, .int .u64 rs1.ch, .slice f1.AF rs1.files.length f1.cF, .int .i64 rs1.taken, .slice f1.AO rs1.opn.length f1.cO, .int .u64 rs1.num, .slice f1.AE rs1.events.length f1.cE] ∧ Blk wd A 55 #[.int .u8 k, .string name, .string (l.extract hh l.size), .bool false, .bool false]) (.read 0 (.read 1 (.read 2 (.read 3 (.read 4 (.read 5 (.alone 6 (.alone 7 (.read 8 (.read 9 (.read 10 .done))))))))))) (by kernel_rfl) (by kernel_rfl) (fun _ _ _ _ _ h => h) ⟨HXd.out.b, HXd.out.a⟩ ?_
            simp only [Ord.ops, List.getElem?_toArray, List.getElem?_cons_zero, List.getElem?_cons_succ]
            generalize w17.drew = w8 at *
            iterate 6 (
              refine ord_read ?_ (fun wd hS M hM => ?_) ?_ ?_
              rotate_left
              · have HM := Lib.hid hM
                obtain ⟨⟨b0, b1, b2, b3, b4, b5, b6, b7, b8, b9, b10, b11⟩, -⟩ := hS.1.twelve
                obtain ⟨⟨a0, a1, a2, a3, a4⟩, -⟩ := hS.2.five
                clear hM hS
                go_wp2_with fail
                exact HM.out
              · rfl)
            refine ord_alone (fun M hM => ?_)
            have HM := Lib.hid hM
            clear hM
            obtain ⟨⟨b0, b1, b2, b3, b4, b5, b6, b7, b8, b9, b10, b11⟩, p0, p1, p2, p3, p4, p5, p6, p7, p8, p9, p10, p11⟩ := HXd.out.b.twelve
            obtain ⟨⟨r0, r1, r2, r3, r4, r5, r6, r7, r8, r9, r10, r11⟩, q0, q1, q2, q3, q4, q5, q6, q7, q8, q9, q10, q11⟩ := HXd.out.r.twelve
            obtain ⟨⟨a0, a1, a2, a3, a4⟩, c0, c1, c2, c3, c4⟩ := HXd.out.a.five
            obtain ⟨⟨y0, y1, y2, y3, y4⟩, z0, z1, z2, z3, z4⟩ := HXd.out.qq.five
            go_wp2_with fail
            clear b0 b1 b2 b3 b4 b5 b6 b7 b8 b9 b10 b11 p0 p1 p2 p3 p4 p5 p6 p7 p8 p9 p10 p11 r0 r1 r2 r3 r4 r5 r6 r7 r8 r9 r10 r11 q0 q1 q2 q3 q4 q5 q6 q7 q8 q9 q10 q11 a0 a1 a2 a3 a4 c0 c1 c2 c3 c4 y0 y1 y2 y3 y4 z0 z1 z2 z3 z4
            have hs12 : Tur (· = R) w8 ((((((((((((w8.setCell ⟨R, 0, none⟩ (.slice f1.A0 f1.n0 f1.c0)).setCell ⟨R, 1, none⟩ (.string rs1.stdin)).setCell ⟨R, 2, none⟩ (.slice f1.A2 rs1.replies.length f1.c2)).setCell ⟨R, 3, none⟩ (.slice f1.A3 rs1.fails.length f1.c3)).setCell ⟨R, 4, none⟩ (.int .i64 rs1.lim)).setCell ⟨R, 5, none⟩ (.int .i64 rs1.clock)).setCell ⟨R, 6, none⟩ (.int .u64 rs1.ch)).setCell ⟨R, 7, none⟩ (.slice f1.AF rs1.files.length f1.cF)).setCell ⟨R, 8, none⟩ (.int .i64 rs1.taken)).setCell ⟨R, 9, none⟩ (.slice f1.AO rs1.opn.length f1.cO)).setCell ⟨R, 10, none⟩ (.int .u64 rs1.num)).setCell ⟨R, 11, none⟩ (.slice f1.AE rs1.events.length f1.cE)) := Tur.set12 (.slice f1.A0 f1.n0 f1.c0) (.string rs1.stdin) (.slice f1.A2 rs1.replies.length f1.c2) (.slice f1.A3 rs1.fails.length f1.c3) (.int .i64 rs1.lim) (.int .i64 rs1.clock) (.int .u64 rs1.ch) (.slice f1.AF rs1.files.length f1.cF) (.int .i64 rs1.taken) (.slice f1.AO rs1.opn.length f1.cO) (.int .u64 rs1.num) (.slice f1.AE rs1.events.length f1.cE)
            have HQ9 := Lib.hid (HXd.out.q.box (g := R) hs12 (by have := HBE.out; omega) (by have := HBE.out; omega))
            have HB9 := Lib.hid (HXd.out.b.keep hs12 hBR)
            have HA9 := Lib.hid (HXd.out.a.keep hs12 hAR)
            have HR9 := Lib.hid (HXd.out.r.set12 (.slice f1.A0 f1.n0 f1.c0) (.string rs1.stdin) (.slice f1.A2 rs1.replies.length f1.c2) (.slice f1.A3 rs1.fails.length f1.c3) (.int .i64 rs1.lim) (.int .i64 rs1.clock) (.int .u64 rs1.ch) (.slice f1.AF rs1.files.length f1.cF) (.int .i64 rs1.taken) (.slice f1.AO rs1.opn.length f1.cO) (.int .u64 rs1.num) (.slice f1.AE rs1.events.length f1.cE))
            have HQQ9 := Lib.hid (HXd.out.qq.keep hs12 hQR)
            clear hs12
            generalize ((((((((((((w8.setCell ⟨R, 0, none⟩ (.slice f1.A0 f1.n0 f1.c0)).setCell ⟨R, 1, none⟩ (.string rs1.stdin)).setCell ⟨R, 2, none⟩ (.slice f1.A2 rs1.replies.length f1.c2)).setCell ⟨R, 3, none⟩ (.slice f1.A3 rs1.fails.length f1.c3)).setCell ⟨R, 4, none⟩ (.int .i64 rs1.lim)).setCell ⟨R, 5, none⟩ (.int .i64 rs1.clock)).setCell ⟨R, 6, none⟩ (.int .u64 rs1.ch)).setCell ⟨R, 7, none⟩ (.slice f1.AF rs1.files.length f1.cF)).setCell ⟨R, 8, none⟩ (.int .i64 rs1.taken)).setCell ⟨R, 9, none⟩ (.slice f1.AO rs1.opn.length f1.cO)).setCell ⟨R, 10, none⟩ (.int .u64 rs1.num)).setCell ⟨R, 11, none⟩ (.slice f1.AE rs1.events.length f1.cE)) = w9 at *
            refine HM.out _ _ ⟨HB9.out, HA9.out⟩ ?_
            clear HM M
            refine ord_alone (fun M hM => ?_)
            have HM := Lib.hid hM
            clear hM
            obtain ⟨⟨y0, y1, y2, y3, y4⟩, z0, z1, z2, z3, z4⟩ := HQQ9.out.five
            obtain ⟨⟨b0, b1, b2, b3, b4, b5, b6, b7, b8, b9, b10, b11⟩, -⟩ := HB9.out.twelve
            go_wp2_with fail
            clear y0 y1 y2 y3 y4 z0 z1 z2 z3 z4 b0 b1 b2 b3 b4 b5 b6 b7 b8 b9 b10 b11
            have hs5 : Tur (· = Q) w9 (((((w9.setCell ⟨Q, 0, none⟩ (.int .u8 k)).setCell ⟨Q, 1, none⟩ (.string name)).setCell ⟨Q, 2, none⟩ (.string (l.extract hh l.size))).setCell ⟨Q, 3, none⟩ (.bool false)).setCell ⟨Q, 4, none⟩ (.bool false)) := Tur.set5 (.int .u8 k) (.string name) (.string (l.extract hh l.size)) (.bool false) (.bool false)
            have HQ10 := Lib.hid (HQ9.out.box (g := Q) hs5 (by have := HBE.out; omega) (by have := HBE.out; omega))
            have HB10 := Lib.hid (HB9.out.keep hs5 hBQ)
            have HA10 := Lib.hid (HA9.out.keep hs5 hAQ)
            have HR10 := Lib.hid (HR9.out.keep hs5 hRQ)
            have HQQ10 := Lib.hid (HQQ9.out.set5 (.int .u8 k) (.string name) (.string (l.extract hh l.size)) (.bool false) (.bool false))
            clear hs5
            generalize (((((w9.setCell ⟨Q, 0, none⟩ (.int .u8 k)).setCell ⟨Q, 1, none⟩ (.string name)).setCell ⟨Q, 2, none⟩ (.string (l.extract hh l.size))).setCell ⟨Q, 3, none⟩ (.bool false)).setCell ⟨Q, 4, none⟩ (.bool false)) = w10 at *
            refine HM.out _ _ ⟨HB10.out, HA10.out⟩ ?_
            clear HM M
            iterate 3 (
              refine ord_read ?_ (fun wd hS M hM => ?_) ?_ ?_
              rotate_left
              · have HM := Lib.hid hM
                obtain ⟨⟨b0, b1, b2, b3, b4, b5, b6, b7, b8, b9, b10, b11⟩, -⟩ := hS.1.twelve
                obtain ⟨⟨a0, a1, a2, a3, a4⟩, -⟩ := hS.2.five
                clear hM hS
                go_wp2_with fail
                exact HM.out
              · rfl)
            refine NoPanic.normal (?_ : _)
            go_wp2_with fail
            obtain ⟨⟨x0, x1, x2, x3, x4, x5, x6, x7, x8, x9, x10, x11⟩, -⟩ := HR10.out.twelve
            obtain ⟨⟨y0, y1, y2, y3, y4⟩, -⟩ := HQQ10.out.five
            refine bodyPost_ret (v := .tuple #[.agg #[.slice f1.A0 f1.n0 f1.c0, .string rs1.stdin, .slice f1.A2 rs1.replies.length f1.c2, .slice f1.A3 rs1.fails.length f1.c3, .int .i64 rs1.lim, .int .i64 rs1.clock, .int .u64 rs1.ch, .slice f1.AF rs1.files.length f1.cF, .int .i64 rs1.taken, .slice f1.AO rs1.opn.length f1.cO, .int .u64 rs1.num, .slice f1.AE rs1.events.length f1.cE], .agg #[.int .u8 k, .string name, .string (l.extract hh l.size), .bool false, .bool false], .string x, .bool true, .int .i64 0]) (by simp [results, Tryd.results21, go_sem, x0, x1, x2, x3, x4, x5, x6, x7, x8, x9, x10, x11, y0, y1, y2, y3, y4]) rfl ?_
            refine ⟨f1, rs1, (l.extract hh l.size), false, 0, (x : ByteArray).data.toList, true, by rw [back]; rfl, ⟨l, HPP.out, .inr ⟨rfl, ?_, ?_, ?_⟩⟩, HQ10.out.out (by have := HBE.out; omega), HQ10.out.below⟩
            · rw [HTE.out]; exact HRX.out.symm
            · rw [HTE.out]; show true = !decide (Rd.pRec l.data.toList = []); rw [HRX.out, decide_eq_false HNE.out]; rfl
            · rw [HTE.out]; apply ByteArray.ext; apply Array.toList_inj.1; rw [ext_tail]; exact HREST.out.symm
          · have HEE := Lib.hid (show ee = l.size by omega)
            have eeq : ((ee : Int) == (l.size : Int)) = true := beq_iff_eq.2 (by omega)
            have HR2 : Hid (Rd.pRec l.data.toList = Lib.trimSuffix x.data.toList [10]) := by
              unfold Hid; rw [HREC.out, if_neg he, hxd, List.take_of_length_le (by rw [hT]; have := HEE.out; omega)]
            clear hxs hxd hbelt
            by_cases hx0 : x.size = 0
            · have HRX : Hid (Rd.pRec l.data.toList = x.data.toList) := by unfold Hid; rw [HR2.out, data_nil hx0]; rfl
              have HNE : Hid (x.data.toList = []) := data_nil hx0
              clear HR2
              have HN2 := Lib.hid ((HNB.out.set HAX.out 2 (.string (l.extract hh l.size)) (l.extract hh l.size) false true rfl).set HAX.out 4 (.bool true) (l.extract hh l.size) false true rfl)
              go_upto_region 25 with (fail)
              generalize (wr.setCell ⟨A, 2, none⟩ (.string (l.extract hh l.size))).setCell ⟨A, 4, none⟩ (.bool true) = w17 at *
              clear a0 a1 a2 a3 a4 c0 c1 c2 c3 c4
              have HXd := Lib.hid (HN2.out.pure (Below.refl w17.heap.size w17).drew)
              refine wp_region_noPanic ?_
              refine wp_region_ord (fun wd => Blk wd B 46 #[.slice f1.A0 f1.n0 f1.c0, .string rs1.stdin, .slice f1.A2 rs1.replies.length f1.c2, .slice f1.A3 rs1.fails.length f1.c3, .int .i64 rs1.lim, .int .i64 rs1.clock, .int .u64 rs1.ch, .slice f1.AF rs1.files.length f1.cF, .int .i64 rs1.taken, .slice f1.AO rs1.opn.length f1.cO, .int .u64 rs1.num, .slice f1.AE rs1.events.length f1.cE] ∧ Blk wd A 55 #[.int .u8 k, .string name, .string (l.extract hh l.size), .bool false, .bool true]) (.read 0 (.read 1 (.read 2 (.read 3 (.read 4 (.read 5 (.alone 6 (.alone 7 (.read 8 (.read 9 (.read 10 .done))))))))))) (by kernel_rfl) (by kernel_rfl) (fun _ _ _ _ _ h => h) ⟨HXd.out.b, HXd.out.a⟩ ?_
              simp only [Ord.ops, List.getElem?_toArray, List.getElem?_cons_zero, List.getElem?_cons_succ]
              generalize w17.drew = w8 at *
              iterate 6 (
                refine ord_read ?_ (fun wd hS M hM => ?_) ?_ ?_
                rotate_left
                · have HM := Lib.hid hM
                  obtain ⟨⟨b0, b1, b2, b3, b4, b5, b6, b7, b8, b9, b10, b11⟩, -⟩ := hS.1.twelve
                  obtain ⟨⟨a0, a1, a2, a3, a4⟩, -⟩ := hS.2.five
                  clear hM hS
                  go_wp2_with fail
                  exact HM.out
                · rfl)
              refine ord_alone (fun M hM => ?_)
              have HM := Lib.hid hM
              clear hM
              obtain ⟨⟨b0, b1, b2, b3, b4, b5, b6, b7, b8, b9, b10, b11⟩, p0, p1, p2, p3, p4, p5, p6, p7, p8, p9, p10, p11⟩ := HXd.out.b.twelve
              obtain ⟨⟨r0, r1, r2, r3, r4, r5, r6, r7, r8, r9, r10, r11⟩, q0, q1, q2, q3, q4, q5, q6, q7, q8, q9, q10, q11⟩ := HXd.out.r.twelve
              obtain ⟨⟨a0, a1, a2, a3, a4⟩, c0, c1, c2, c3, c4⟩ := HXd.out.a.five
              obtain ⟨⟨y0, y1, y2, y3, y4⟩, z0, z1, z2, z3, z4⟩ := HXd.out.qq.five
              go_wp2_with fail
              clear b0 b1 b2 b3 b4 b5 b6 b7 b8 b9 b10 b11 p0 p1 p2 p3 p4 p5 p6 p7 p8 p9 p10 p11 r0 r1 r2 r3 r4 r5 r6 r7 r8 r9 r10 r11 q0 q1 q2 q3 q4 q5 q6 q7 q8 q9 q10 q11 a0 a1 a2 a3 a4 c0 c1 c2 c3 c4 y0 y1 y2 y3 y4 z0 z1 z2 z3 z4
              have hs12 : Tur (· = R) w8 ((((((((((((w8.setCell ⟨R, 0, none⟩ (.slice f1.A0 f1.n0 f1.c0)).setCell ⟨R, 1, none⟩ (.string rs1.stdin)).setCell ⟨R, 2, none⟩ (.slice f1.A2 rs1.replies.length f1.c2)).setCell ⟨R, 3, none⟩ (.slice f1.A3 rs1.fails.length f1.c3)).setCell ⟨R, 4, none⟩ (.int .i64 rs1.lim)).setCell ⟨R, 5, none⟩ (.int .i64 rs1.clock)).setCell ⟨R, 6, none⟩ (.int .u64 rs1.ch)).setCell ⟨R, 7, none⟩ (.slice f1.AF rs1.files.length f1.cF)).setCell ⟨R, 8, none⟩ (.int .i64 rs1.taken)).setCell ⟨R, 9, none⟩ (.slice f1.AO rs1.opn.length f1.cO)).setCell ⟨R, 10, none⟩ (.int .u64 rs1.num)).setCell ⟨R, 11, none⟩ (.slice f1.AE rs1.events.length f1.cE)) := Tur.set12 (.slice f1.A0 f1.n0 f1.c0) (.string rs1.stdin) (.slice f1.A2 rs1.replies.length f1.c2) (.slice f1.A3 rs1.fails.length f1.c3) (.int .i64 rs1.lim) (.int .i64 rs1.clock) (.int .u64 rs1.ch) (.slice f1.AF rs1.files.length f1.cF) (.int .i64 rs1.taken) (.slice f1.AO rs1.opn.length f1.cO) (.int .u64 rs1.num) (.slice f1.AE rs1.events.length f1.cE)
              have HQ9 := Lib.hid (HXd.out.q.box (g := R) hs12 (by have := HBE.out; omega) (by have := HBE.out; omega))
              have HB9 := Lib.hid (HXd.out.b.keep hs12 hBR)
              have HA9 := Lib.hid (HXd.out.a.keep hs12 hAR)
              have HR9 := Lib.hid (HXd.out.r.set12 (.slice f1.A0 f1.n0 f1.c0) (.string rs1.stdin) (.slice f1.A2 rs1.replies.length f1.c2) (.slice f1.A3 rs1.fails.length f1.c3) (.int .i64 rs1.lim) (.int .i64 rs1.clock) (.int .u64 rs1.ch) (.slice f1.AF rs1.files.length f1.cF) (.int .i64 rs1.taken) (.slice f1.AO rs1.opn.length f1.cO) (.int .u64 rs1.num) (.slice f1.AE rs1.events.length f1.cE))
              have HQQ9 := Lib.hid (HXd.out.qq.keep hs12 hQR)
              clear hs12
              generalize ((((((((((((w8.setCell ⟨R, 0, none⟩ (.slice f1.A0 f1.n0 f1.c0)).setCell ⟨R, 1, none⟩ (.string rs1.stdin)).setCell ⟨R, 2, none⟩ (.slice f1.A2 rs1.replies.length f1.c2)).setCell ⟨R, 3, none⟩ (.slice f1.A3 rs1.fails.length f1.c3)).setCell ⟨R, 4, none⟩ (.int .i64 rs1.lim)).setCell ⟨R, 5, none⟩ (.int .i64 rs1.clock)).setCell ⟨R, 6, none⟩ (.int .u64 rs1.ch)).setCell ⟨R, 7, none⟩ (.slice f1.AF rs1.files.length f1.cF)).setCell ⟨R, 8, none⟩ (.int .i64 rs1.taken)).setCell ⟨R, 9, none⟩ (.slice f1.AO rs1.opn.length f1.cO)).setCell ⟨R, 10, none⟩ (.int .u64 rs1.num)).setCell ⟨R, 11, none⟩ (.slice f1.AE rs1.events.length f1.cE)) = w9 at *
              refine HM.out _ _ ⟨HB9.out, HA9.out⟩ ?_
              clear HM M
              refine ord_alone (fun M hM => ?_)
              have HM := Lib.hid hM
              clear hM
              obtain ⟨⟨y0, y1, y2, y3, y4⟩, z0, z1, z2, z3, z4⟩ := HQQ9.out.five
              obtain ⟨⟨b0, b1, b2, b3, b4, b5, b6, b7, b8, b9, b10, b11⟩, -⟩ := HB9.out.twelve
              go_wp2_with fail
              clear y0 y1 y2 y3 y4 z0 z1 z2 z3 z4 b0 b1 b2 b3 b4 b5 b6 b7 b8 b9 b10 b11
              have hs5 : Tur (· = Q) w9 (((((w9.setCell ⟨Q, 0, none⟩ (.int .u8 k)).setCell ⟨Q, 1, none⟩ (.string name)).setCell ⟨Q, 2, none⟩ (.string (l.extract hh l.size))).setCell ⟨Q, 3, none⟩ (.bool false)).setCell ⟨Q, 4, none⟩ (.bool true)) := Tur.set5 (.int .u8 k) (.string name) (.string (l.extract hh l.size)) (.bool false) (.bool true)
              have HQ10 := Lib.hid (HQ9.out.box (g := Q) hs5 (by have := HBE.out; omega) (by have := HBE.out; omega))
              have HB10 := Lib.hid (HB9.out.keep hs5 hBQ)
              have HA10 := Lib.hid (HA9.out.keep hs5 hAQ)
              have HR10 := Lib.hid (HR9.out.keep hs5 hRQ)
              have HQQ10 := Lib.hid (HQQ9.out.set5 (.int .u8 k) (.string name) (.string (l.extract hh l.size)) (.bool false) (.bool true))
              clear hs5
              generalize (((((w9.setCell ⟨Q, 0, none⟩ (.int .u8 k)).setCell ⟨Q, 1, none⟩ (.string name)).setCell ⟨Q, 2, none⟩ (.string (l.extract hh l.size))).setCell ⟨Q, 3, none⟩ (.bool false)).setCell ⟨Q, 4, none⟩ (.bool true)) = w10 at *
              refine HM.out _ _ ⟨HB10.out, HA10.out⟩ ?_
              clear HM M
              iterate 3 (
                refine ord_read ?_ (fun wd hS M hM => ?_) ?_ ?_
                rotate_left
                · have HM := Lib.hid hM
                  obtain ⟨⟨b0, b1, b2, b3, b4, b5, b6, b7, b8, b9, b10, b11⟩, -⟩ := hS.1.twelve
                  obtain ⟨⟨a0, a1, a2, a3, a4⟩, -⟩ := hS.2.five
                  clear hM hS
                  go_wp2_with fail
                  exact HM.out
                · rfl)
              refine NoPanic.normal (?_ : _)
              go_wp2_with fail
              obtain ⟨⟨x0, x1, x2, x3, x4, x5, x6, x7, x8, x9, x10, x11⟩, -⟩ := HR10.out.twelve
              obtain ⟨⟨y0, y1, y2, y3, y4⟩, -⟩ := HQQ10.out.five
              refine bodyPost_ret (v := .tuple #[.agg #[.slice f1.A0 f1.n0 f1.c0, .string rs1.stdin, .slice f1.A2 rs1.replies.length f1.c2, .slice f1.A3 rs1.fails.length f1.c3, .int .i64 rs1.lim, .int .i64 rs1.clock, .int .u64 rs1.ch, .slice f1.AF rs1.files.length f1.cF, .int .i64 rs1.taken, .slice f1.AO rs1.opn.length f1.cO, .int .u64 rs1.num, .slice f1.AE rs1.events.length f1.cE], .agg #[.int .u8 k, .string name, .string (l.extract hh l.size), .bool false, .bool true], .string x, .bool false, .int .i64 0]) (by simp [results, Tryd.results21, go_sem, x0, x1, x2, x3, x4, x5, x6, x7, x8, x9, x10, x11, y0, y1, y2, y3, y4]) rfl ?_
              refine ⟨f1, rs1, (l.extract hh l.size), false, 0, (x : ByteArray).data.toList, false, by rw [back]; rfl, ⟨l, HPP.out, .inr ⟨rfl, ?_, ?_, ?_⟩⟩, HQ10.out.out (by have := HBE.out; omega), HQ10.out.below⟩
              · rw [HTE.out]; exact HRX.out.symm
              · rw [HTE.out]; show false = !decide (Rd.pRec l.data.toList = []); rw [HRX.out, decide_eq_true HNE.out]; rfl
              · rw [HTE.out]; apply ByteArray.ext; apply Array.toList_inj.1; rw [ext_tail]; exact HREST.out.symm
            · obtain ⟨pp, hpp⟩ : ∃ pp, x.size = pp + 1 := ⟨x.size - 1, by omega⟩
              have hpx : pp < x.size := by omega
              have hl1 : x.data.toList.length = pp + 1 := hpp
              by_cases hq : x[pp] = 10
              · have hq2 : ((x[pp].toNat : Int) == 10) = true := by rw [hq]; rfl
                have HRX : Hid (Rd.pRec l.data.toList = (x.extract 0 pp).data.toList) := by
                  unfold Hid
                  rw [HR2.out, (Rd.suffix_ten x.data.toList).1 (by omega) (by simp only [hl1]; exact hq), hl1, Lib.extract_data]
                  simp
                have hes : (x.extract 0 pp).size = pp := by rw [ByteArray.size_extract]; omega
                clear HR2 hl1 hq
                by_cases hp0 : pp = 0
                · have HNE : Hid ((x.extract 0 pp).data.toList = []) := data_nil (by omega)
                  have hez : (x.extract 0 pp).size = 0 := by omega
                  have HPZ := Lib.hid hp0
                  clear hp0 hes
                  have HN2 := Lib.hid ((HNB.out.set HAX.out 2 (.string (l.extract hh l.size)) (l.extract hh l.size) false true rfl).set HAX.out 4 (.bool true) (l.extract hh l.size) false true rfl)
                  go_upto_region 25 with (fail)
                  generalize (wr.setCell ⟨A, 2, none⟩ (.string (l.extract hh l.size))).setCell ⟨A, 4, none⟩ (.bool true) = w17 at *
                  clear a0 a1 a2 a3 a4 c0 c1 c2 c3 c4
                  have HXd := Lib.hid (HN2.out.pure (Below.refl w17.heap.size w17).drew)
                  refine wp_region_noPanic ?_
                  refine wp_region_ord (fun wd => Blk wd B 46 #[.slice f1.A0 f1.n0 f1.c0, .string rs1.stdin, .slice f1.A2 rs1.replies.length f1.c2, .slice f1.A3 rs1.fails.length f1.c3, .int .i64 rs1.lim, .int .i64 rs1.clock, .int .u64 rs1.ch, .slice f1.AF rs1.files.length f1.cF, .int .i64 rs1.taken, .slice f1.AO rs1.opn.length f1.cO, .int .u64 rs1.num, .slice f1.AE rs1.events.length f1.cE] ∧ Blk wd A 55 #[.int .u8 k, .string name, .string (l.extract hh l.size), .bool false, .bool true]) (.read 0 (.read 1 (.read 2 (.read 3 (.read 4 (.read 5 (.alone 6 (.alone 7 (.read 8 (.read 9 (.read 10 .done))))))))))) (by kernel_rfl) (by kernel_rfl) (fun _ _ _ _ _ h => h) ⟨HXd.out.b, HXd.out.a⟩ ?_
                  simp only [Ord.ops, List.getElem?_toArray, List.getElem?_cons_zero, List.getElem?_cons_succ]
                  generalize w17.drew = w8 at *
                  iterate 6 (
                    refine ord_read ?_ (fun wd hS M hM => ?_) ?_ ?_
                    rotate_left
                    · have HM := Lib.hid hM
                      obtain ⟨⟨b0, b1, b2, b3, b4, b5, b6, b7, b8, b9, b10, b11⟩, -⟩ := hS.1.twelve
                      obtain ⟨⟨a0, a1, a2, a3, a4⟩, -⟩ := hS.2.five
                      clear hM hS
                      go_wp2_with fail
                      exact HM.out
                    · rfl)
                  refine ord_alone (fun M hM => ?_)
                  have HM := Lib.hid hM
                  clear hM
                  obtain ⟨⟨b0, b1, b2, b3, b4, b5, b6, b7, b8, b9, b10, b11⟩, p0, p1, p2, p3, p4, p5, p6, p7, p8, p9, p10, p11⟩ := HXd.out.b.twelve
                  obtain ⟨⟨r0, r1, r2, r3, r4, r5, r6, r7, r8, r9, r10, r11⟩, q0, q1, q2, q3, q4, q5, q6, q7, q8, q9, q10, q11⟩ := HXd.out.r.twelve
                  obtain ⟨⟨a0, a1, a2, a3, a4⟩, c0, c1, c2, c3, c4⟩ := HXd.out.a.five
                  obtain ⟨⟨y0, y1, y2, y3, y4⟩, z0, z1, z2, z3, z4⟩ := HXd.out.qq.five
                  go_wp2_with fail
                  clear b0 b1 b2 b3 b4 b5 b6 b7 b8 b9 b10 b11 p0 p1 p2 p3 p4 p5 p6 p7 p8 p9 p10 p11 r0 r1 r2 r3 r4 r5 r6 r7 r8 r9 r10 r11 q0 q1 q2 q3 q4 q5 q6 q7 q8 q9 q10 q11 a0 a1 a2 a3 a4 c0 c1 c2 c3 c4 y0 y1 y2 y3 y4 z0 z1 z2 z3 z4
                  have hs12 : Tur (· = R) w8 ((((((((((((w8.setCell ⟨R, 0, none⟩ (.slice f1.A0 f1.n0 f1.c0)).setCell ⟨R, 1, none⟩ (.string rs1.stdin)).setCell ⟨R, 2, none⟩ (.slice f1.A2 rs1.replies.length f1.c2)).setCell ⟨R, 3, none⟩ (.slice f1.A3 rs1.fails.length f1.c3)).setCell ⟨R, 4, none⟩ (.int .i64 rs1.lim)).setCell ⟨R, 5, none⟩ (.int .i64 rs1.clock)).setCell ⟨R, 6, none⟩ (.int .u64 rs1.ch)).setCell ⟨R, 7, none⟩ (.slice f1.AF rs1.files.length f1.cF)).setCell ⟨R, 8, none⟩ (.int .i64 rs1.taken)).setCell ⟨R, 9, none⟩ (.slice f1.AO rs1.opn.length f1.cO)).setCell ⟨R, 10, none⟩ (.int .u64 rs1.num)).setCell ⟨R, 11, none⟩ (.slice f1.AE rs1.events.length f1.cE)) := Tur.set12 (.slice f1.A0 f1.n0 f1.c0) (.string rs1.stdin) (.slice f1.A2 rs1.replies.length f1.c2) (.slice f1.A3 rs1.fails.length f1.c3) (.int .i64 rs1.lim) (.int .i64 rs1.clock) (.int .u64 rs1.ch) (.slice f1.AF rs1.files.length f1.cF) (.int .i64 rs1.taken) (.slice f1.AO rs1.opn.length f1.cO) (.int .u64 rs1.num) (.slice f1.AE rs1.events.length f1.cE)
                  have HQ9 := Lib.hid (HXd.out.q.box (g := R) hs12 (by have := HBE.out; omega) (by have := HBE.out; omega))
                  have HB9 := Lib.hid (HXd.out.b.keep hs12 hBR)
                  have HA9 := Lib.hid (HXd.out.a.keep hs12 hAR)
                  have HR9 := Lib.hid (HXd.out.r.set12 (.slice f1.A0 f1.n0 f1.c0) (.string rs1.stdin) (.slice f1.A2 rs1.replies.length f1.c2) (.slice f1.A3 rs1.fails.length f1.c3) (.int .i64 rs1.lim) (.int .i64 rs1.clock) (.int .u64 rs1.ch) (.slice f1.AF rs1.files.length f1.cF) (.int .i64 rs1.taken) (.slice f1.AO rs1.opn.length f1.cO) (.int .u64 rs1.num) (.slice f1.AE rs1.events.length f1.cE))
                  have HQQ9 := Lib.hid (HXd.out.qq.keep hs12 hQR)
                  clear hs12
                  generalize ((((((((((((w8.setCell ⟨R, 0, none⟩ (.slice f1.A0 f1.n0 f1.c0)).setCell ⟨R, 1, none⟩ (.string rs1.stdin)).setCell ⟨R, 2, none⟩ (.slice f1.A2 rs1.replies.length f1.c2)).setCell ⟨R, 3, none⟩ (.slice f1.A3 rs1.fails.length f1.c3)).setCell ⟨R, 4, none⟩ (.int .i64 rs1.lim)).setCell ⟨R, 5, none⟩ (.int .i64 rs1.clock)).setCell ⟨R, 6, none⟩ (.int .u64 rs1.ch)).setCell ⟨R, 7, none⟩ (.slice f1.AF rs1.files.length f1.cF)).setCell ⟨R, 8, none⟩ (.int .i64 rs1.taken)).setCell ⟨R, 9, none⟩ (.slice f1.AO rs1.opn.length f1.cO)).setCell ⟨R, 10, none⟩ (.int .u64 rs1.num)).setCell ⟨R, 11, none⟩ (.slice f1.AE rs1.events.length f1.cE)) = w9 at *
                  refine HM.out _ _ ⟨HB9.out, HA9.out⟩ ?_
                  clear HM M
                  refine ord_alone (fun M hM => ?_)
                  have HM := Lib.hid hM
                  clear hM
                  obtain ⟨⟨y0, y1, y2, y3, y4⟩, z0, z1, z2, z3, z4⟩ := HQQ9.out.five
                  obtain ⟨⟨b0, b1, b2, b3, b4, b5, b6, b7, b8, b9, b10, b11⟩, -⟩ := HB9.out.twelve
                  go_wp2_with fail
                  clear y0 y1 y2 y3 y4 z0 z1 z2 z3 z4 b0 b1 b2 b3 b4 b5 b6 b7 b8 b9 b10 b11
                  have hs5 : Tur (· = Q) w9 (((((w9.setCell ⟨Q, 0, none⟩ (.int .u8 k)).setCell ⟨Q, 1, none⟩ (.string name)).setCell ⟨Q, 2, none⟩ (.string (l.extract hh l.size))).setCell ⟨Q, 3, none⟩ (.bool false)).setCell ⟨Q, 4, none⟩ (.bool true)) := Tur.set5 (.int .u8 k) (.string name) (.string (l.extract hh l.size)) (.bool false) (.bool true)
                  have HQ10 := Lib.hid (HQ9.out.box (g := Q) hs5 (by have := HBE.out; omega) (by have := HBE.out; omega))
                  have HB10 := Lib.hid (HB9.out.keep hs5 hBQ)
                  have HA10 := Lib.hid (HA9.out.keep hs5 hAQ)
                  have HR10 := Lib.hid (HR9.out.keep hs5 hRQ)
                  have HQQ10 := Lib.hid (HQQ9.out.set5 (.int .u8 k) (.string name) (.string (l.extract hh l.size)) (.bool false) (.bool true))
                  clear hs5
                  generalize (((((w9.setCell ⟨Q, 0, none⟩ (.int .u8 k)).setCell ⟨Q, 1, none⟩ (.string name)).setCell ⟨Q, 2, none⟩ (.string (l.extract hh l.size))).setCell ⟨Q, 3, none⟩ (.bool false)).setCell ⟨Q, 4, none⟩ (.bool true)) = w10 at *
                  refine HM.out _ _ ⟨HB10.out, HA10.out⟩ ?_
                  clear HM M
                  iterate 3 (
                    refine ord_read ?_ (fun wd hS M hM => ?_) ?_ ?_
                    rotate_left
                    · have HM := Lib.hid hM
                      obtain ⟨⟨b0, b1, b2, b3, b4, b5, b6, b7, b8, b9, b10, b11⟩, -⟩ := hS.1.twelve
                      obtain ⟨⟨a0, a1, a2, a3, a4⟩, -⟩ := hS.2.five
                      clear hM hS
                      go_wp2_with fail
                      exact HM.out
                    · rfl)
                  refine NoPanic.normal (?_ : _)
                  go_wp2_with fail
                  obtain ⟨⟨x0, x1, x2, x3, x4, x5, x6, x7, x8, x9, x10, x11⟩, -⟩ := HR10.out.twelve
                  obtain ⟨⟨y0, y1, y2, y3, y4⟩, -⟩ := HQQ10.out.five
                  refine bodyPost_ret (v := .tuple #[.agg #[.slice f1.A0 f1.n0 f1.c0, .string rs1.stdin, .slice f1.A2 rs1.replies.length f1.c2, .slice f1.A3 rs1.fails.length f1.c3, .int .i64 rs1.lim, .int .i64 rs1.clock, .int .u64 rs1.ch, .slice f1.AF rs1.files.length f1.cF, .int .i64 rs1.taken, .slice f1.AO rs1.opn.length f1.cO, .int .u64 rs1.num, .slice f1.AE rs1.events.length f1.cE], .agg #[.int .u8 k, .string name, .string (l.extract hh l.size), .bool false, .bool true], .string (x.extract 0 pp), .bool false, .int .i64 0]) (by simp [results, Tryd.results21, go_sem, x0, x1, x2, x3, x4, x5, x6, x7, x8, x9, x10, x11, y0, y1, y2, y3, y4]) rfl ?_
                  refine ⟨f1, rs1, (l.extract hh l.size), false, 0, ((x.extract 0 pp) : ByteArray).data.toList, false, by rw [back]; rfl, ⟨l, HPP.out, .inr ⟨rfl, ?_, ?_, ?_⟩⟩, HQ10.out.out (by have := HBE.out; omega), HQ10.out.below⟩
                  · rw [HTE.out]; exact HRX.out.symm
                  · rw [HTE.out]; show false = !decide (Rd.pRec l.data.toList = []); rw [HRX.out, decide_eq_true HNE.out]; rfl
                  · rw [HTE.out]; apply ByteArray.ext; apply Array.toList_inj.1; rw [ext_tail]; exact HREST.out.symm
                · have HNE : Hid ((x.extract 0 pp).data.toList ≠ []) := data_ne (by omega)
                  have hez : 0 < (x.extract 0 pp).size := by omega
                  have hpz : ((pp : Int) == 0) = false := beq_eq_false_iff_ne.2 (by omega)
                  have hp1 : 0 < pp := by omega
                  have HN2 := Lib.hid ((HNB.out.set HAX.out 2 (.string (l.extract hh l.size)) (l.extract hh l.size) false true rfl).set HAX.out 4 (.bool false) (l.extract hh l.size) false false rfl)
                  go_upto_region 25 with (fail)
                  generalize (wr.setCell ⟨A, 2, none⟩ (.string (l.extract hh l.size))).setCell ⟨A, 4, none⟩ (.bool false) = w17 at *
                  clear a0 a1 a2 a3 a4 c0 c1 c2 c3 c4
                  have HXd := Lib.hid (HN2.out.pure (Below.refl w17.heap.size w17).drew)
                  refine wp_region_noPanic ?_
                  refine wp_region_ord (fun wd => Blk wd B 46 #[.slice f1.A0 f1.n0 f1.c0, .string rs1.stdin, .slice f1.A2 rs1.replies.length f1.c2, .slice f1.A3 rs1.fails.length f1.c3, .int .i64 rs1.lim, .int .i64 rs1.clock, .int .u64 rs1.ch, .slice f1.AF rs1.files.length f1.cF, .int .i64 rs1.taken, .slice f1.AO rs1.opn.length f1.cO, .int .u64 rs1.num, .slice f1.AE rs1.events.length f1.cE] ∧ Blk wd A 55 #[.int .u8 k, .string name, .string (l.extract hh l.size), .bool false, .bool false]) (.read 0 (.read 1 (.read 2 (.read 3 (.read 4 (.read 5 (.alone 6 (.alone 7 (.read 8 (.read 9 (.read 10 .done))))))))))) (by kernel_rfl) (by kernel_rfl) (fun _ _ _ _ _ h => h) ⟨HXd.out.b, HXd.out.a⟩ ?_
                  simp only [Ord.ops, List.getElem?_toArray, List.getElem?_cons_zero, List.getElem?_cons_succ]
                  generalize w17.drew = w8 at *
                  iterate 6 (
                    refine ord_read ?_ (fun wd hS M hM => ?_) ?_ ?_
                    rotate_left
                    · have HM := Lib.hid hM
                      obtain ⟨⟨b0, b1, b2, b3, b4, b5, b6, b7, b8, b9, b10, b11⟩, -⟩ := hS.1.twelve
                      obtain ⟨⟨a0, a1, a2, a3, a4⟩, -⟩ := hS.2.five
                      clear hM hS
                      go_wp2_with fail
                      exact HM.out
                    · rfl)
                  refine ord_alone (fun M hM => ?_)
                  have HM := Lib.hid hM
                  clear hM
                  obtain ⟨⟨b0, b1, b2, b3, b4, b5, b6, b7, b8, b9, b10, b11⟩, p0, p1, p2, p3, p4, p5, p6, p7, p8, p9, p10, p11⟩ := HXd.out.b.twelve
                  obtain ⟨⟨r0, r1, r2, r3, r4, r5, r6, r7, r8, r9, r10, r11⟩, q0, q1, q2, q3, q4, q5, q6, q7, q8, q9, q10, q11⟩ := HXd.out.r.twelve
                  obtain ⟨⟨a0, a1, a2, a3, a4⟩, c0, c1, c2, c3, c4⟩ := HXd.out.a.five
                  obtain ⟨⟨y0, y1, y2, y3, y4⟩, z0, z1, z2, z3, z4⟩ := HXd.out.qq.five
                  go_wp2_with fail
                  clear b0 b1 b2 b3 b4 b5 b6 b7 b8 b9 b10 b11 p0 p1 p2 p3 p4 p5 p6 p7 p8 p9 p10 p11 r0 r1 r2 r3 r4 r5 r6 r7 r8 r9 r10 r11 q0 q1 q2 q3 q4 q5 q6 q7 q8 q9 q10 q11 a0 a1 a2 a3 a4 c0 c1 c2 c3 c4 y0 y1 y2 y3 y4 z0 z1 z2 z3 z4
                  have hs12 : Tur (· = R) w8 ((((((((((((w8.setCell ⟨R, 0, none⟩ (.slice f1.A0 f1.n0 f1.c0)).setCell ⟨R, 1, none⟩ (.string rs1.stdin)).setCell ⟨R, 2, none⟩ (.slice f1.A2 rs1.replies.length f1.c2)).setCell ⟨R, 3, none⟩ (.slice f1.A3 rs1.fails.length f1.c3)).setCell ⟨R, 4, none⟩ (.int .i64 rs1.lim)).setCell ⟨R, 5, none⟩ (.int .i64 rs1.clock)).setCell ⟨R, 6, none⟩ (.int .u64 rs1.ch)).setCell ⟨R, 7, none⟩ (.slice f1.AF rs1.files.length f1.cF)).setCell ⟨R, 8, none⟩ (.int .i64 rs1.taken)).setCell ⟨R, 9, none⟩ (.slice f1.AO rs1.opn.length f1.cO)).setCell ⟨R, 10, none⟩ (.int .u64 rs1.num)).setCell ⟨R, 11, none⟩ (.slice f1.AE rs1.events.length f1.cE)) := Tur.set12 (.slice f1.A0 f1.n0 f1.c0) (.string rs1.stdin) (.slice f1.A2 rs1.replies.length f1.c2) (.slice f1.A3 rs1.fails.length f1.c3) (.int .i64 rs1.lim) (.int .i64 rs1.clock) (.int .u64 rs1.ch) (.slice f1.AF rs1.files.length f1.cF) (.int .i64 rs1.taken) (.slice f1.AO rs1.opn.length f1.cO) (.int .u64 rs1.num) (.slice f1.AE rs1.events.length f1.cE)
                  have HQ9 := Lib.hid (HXd.out.q.box (g := R) hs12 (by have := HBE.out; omega) (by have := HBE.out; omega))
                  have HB9 := Lib.hid (HXd.out.b.keep hs12 hBR)
                  have HA9 := Lib.hid (HXd.out.a.keep hs12 hAR)
                  have HR9 := Lib.hid (HXd.out.r.set12 (.slice f1.A0 f1.n0 f1.c0) (.string rs1.stdin) (.slice f1.A2 rs1.replies.length f1.c2) (.slice f1.A3 rs1.fails.length f1.c3) (.int .i64 rs1.lim) (.int .i64 rs1.clock) (.int .u64 rs1.ch) (.slice f1.AF rs1.files.length f1.cF) (.int .i64 rs1.taken) (.slice f1.AO rs1.opn.length f1.cO) (.int .u64 rs1.num) (.slice f1.AE rs1.events.length f1.cE))
                  have HQQ9 := Lib.hid (HXd.out.qq.keep hs12 hQR)
                  clear hs12
                  generalize ((((((((((((w8.setCell ⟨R, 0, none⟩ (.slice f1.A0 f1.n0 f1.c0)).setCell ⟨R, 1, none⟩ (.string rs1.stdin)).setCell ⟨R, 2, none⟩ (.slice f1.A2 rs1.replies.length f1.c2)).setCell ⟨R, 3, none⟩ (.slice f1.A3 rs1.fails.length f1.c3)).setCell ⟨R, 4, none⟩ (.int .i64 rs1.lim)).setCell ⟨R, 5, none⟩ (.int .i64 rs1.clock)).setCell ⟨R, 6, none⟩ (.int .u64 rs1.ch)).setCell ⟨R, 7, none⟩ (.slice f1.AF rs1.files.length f1.cF)).setCell ⟨R, 8, none⟩ (.int .i64 rs1.taken)).setCell ⟨R, 9, none⟩ (.slice f1.AO rs1.opn.length f1.cO)).setCell ⟨R, 10, none⟩ (.int .u64 rs1.num)).setCell ⟨R, 11, none⟩ (.slice f1.AE rs1.events.length f1.cE)) = w9 at *
                  refine HM.out _ _ ⟨HB9.out, HA9.out⟩ ?_
                  clear HM M
                  refine ord_alone (fun M hM => ?_)
                  have HM := Lib.hid hM
                  clear hM
                  obtain ⟨⟨y0, y1, y2, y3, y4⟩, z0, z1, z2, z3, z4⟩ := HQQ9.out.five
                  obtain ⟨⟨b0, b1, b2, b3, b4, b5, b6, b7, b8, b9, b10, b11⟩, -⟩ := HB9.out.twelve
                  go_wp2_with fail
                  clear y0 y1 y2 y3 y4 z0 z1 z2 z3 z4 b0 b1 b2 b3 b4 b5 b6 b7 b8 b9 b10 b11
                  have hs5 : Tur (· = Q) w9 (((((w9.setCell ⟨Q, 0, none⟩ (.int .u8 k)).setCell ⟨Q, 1, none⟩ (.string name)).setCell ⟨Q, 2, none⟩ (.string (l.extract hh l.size))).setCell ⟨Q, 3, none⟩ (.bool false)).setCell ⟨Q, 4, none⟩ (.bool false)) := Tur.set5 (.int .u8 k) (.string name) (.string (l.extract hh l.size)) (.bool false) (.bool false)
                  have HQ10 := Lib.hid (HQ9.out.box (g := Q) hs5 (by have := HBE.out; omega) (by have := HBE.out; omega))
                  have HB10 := Lib.hid (HB9.out.keep hs5 hBQ)
                  have HA10 := Lib.hid (HA9.out.keep hs5 hAQ)
                  have HR10 := Lib.hid (HR9.out.keep hs5 hRQ)
                  have HQQ10 := Lib.hid (HQQ9.out.set5 (.int .u8 k) (.string name) (.string (l.extract hh l.size)) (.bool false) (.bool false))
                  clear hs5
                  generalize (((((w9.setCell ⟨Q, 0, none⟩ (.int .u8 k)).setCell ⟨Q, 1, none⟩ (.string name)).setCell ⟨Q, 2, none⟩ (.string (l.extract hh l.size))).setCell ⟨Q, 3, none⟩ (.bool false)).setCell ⟨Q, 4, none⟩ (.bool false)) = w10 at *
                  refine HM.out _ _ ⟨HB10.out, HA10.out⟩ ?_
                  clear HM M
                  iterate 3 (
                    refine ord_read ?_ (fun wd hS M hM => ?_) ?_ ?_
                    rotate_left
                    · have HM := Lib.hid hM
                      obtain ⟨⟨b0, b1, b2, b3, b4, b5, b6, b7, b8, b9, b10, b11⟩, -⟩ := hS.1.twelve
                      obtain ⟨⟨a0, a1, a2, a3, a4⟩, -⟩ := hS.2.five
                      clear hM hS
                      go_wp2_with fail
                      exact HM.out
                    · rfl)
                  refine NoPanic.normal (?_ : _)
                  go_wp2_with fail
                  obtain ⟨⟨x0, x1, x2, x3, x4, x5, x6, x7, x8, x9, x10, x11⟩, -⟩ := HR10.out.twelve
                  obtain ⟨⟨y0, y1, y2, y3, y4⟩, -⟩ := HQQ10.out.five
                  refine bodyPost_ret (v := .tuple #[.agg #[.slice f1.A0 f1.n0 f1.c0, .string rs1.stdin, .slice f1.A2 rs1.replies.length f1.c2, .slice f1.A3 rs1.fails.length f1.c3, .int .i64 rs1.lim, .int .i64 rs1.clock, .int .u64 rs1.ch, .slice f1.AF rs1.files.length f1.cF, .int .i64 rs1.taken, .slice f1.AO rs1.opn.length f1.cO, .int .u64 rs1.num, .slice f1.AE rs1.events.length f1.cE], .agg #[.int .u8 k, .string name, .string (l.extract hh l.size), .bool false, .bool false], .string (x.extract 0 pp), .bool true, .int .i64 0]) (by simp [results, Tryd.results21, go_sem, x0, x1, x2, x3, x4, x5, x6, x7, x8, x9, x10, x11, y0, y1, y2, y3, y4]) rfl ?_
                  refine ⟨f1, rs1, (l.extract hh l.size), false, 0, ((x.extract 0 pp) : ByteArray).data.toList, true, by rw [back]; rfl, ⟨l, HPP.out, .inr ⟨rfl, ?_, ?_, ?_⟩⟩, HQ10.out.out (by have := HBE.out; omega), HQ10.out.below⟩
                  · rw [HTE.out]; exact HRX.out.symm
                  · rw [HTE.out]; show true = !decide (Rd.pRec l.data.toList = []); rw [HRX.out, decide_eq_false HNE.out]; rfl
                  · rw [HTE.out]; apply ByteArray.ext; apply Array.toList_inj.1; rw [ext_tail]; exact HREST.out.symm
              · have hq2 : ((x[pp].toNat : Int) == 10) = false := ten_no hq
                have HRX : Hid (Rd.pRec l.data.toList = x.data.toList) := by
                  unfold Hid
                  rw [HR2.out]
                  exact (Rd.suffix_ten x.data.toList).2 (fun _ => by simp only [hl1]; exact hq)
                have HNE : Hid (x.data.toList ≠ []) := data_ne (by omega)
                have hpz : ((pp : Int) + 1 == 0) = false := beq_eq_false_iff_ne.2 (by omega)
                clear HR2 hl1 hq
                have HN2 := Lib.hid ((HNB.out.set HAX.out 2 (.string (l.extract hh l.size)) (l.extract hh l.size) false true rfl).set HAX.out 4 (.bool false) (l.extract hh l.size) false false rfl)
                go_upto_region 25 with (fail)
                generalize (wr.setCell ⟨A, 2, none⟩ (.string (l.extract hh l.size))).setCell ⟨A, 4, none⟩ (.bool false) = w17 at *
                clear a0 a1 a2 a3 a4 c0 c1 c2 c3 c4
                have HXd := Lib.hid (HN2.out.pure (Below.refl w17.heap.size w17).drew)
                refine wp_region_noPanic ?_
                refine wp_region_ord (fun wd => Blk wd B 46 #[.slice f1.A0 f1.n0 f1.c0, .string rs1.stdin, .slice f1.A2 rs1.replies.length f1.c2, .slice f1.A3 rs1.fails.length f1.c3, .int .i64 rs1.lim, .int .i64 rs1.clock, .int .u64 rs1.ch, .slice f1.AF rs1.files.length f1.cF, .int .i64 rs1.taken, .slice f1.AO rs1.opn.length f1.cO, .int .u64 rs1.num, .slice f1.AE rs1.events.length f1.cE] ∧ Blk wd A 55 #[.int .u8 k, .string name, .string (l.extract hh l.size), .bool false, .bool false]) (.read 0 (.read 1 (.read 2 (.read 3 (.read 4 (.read 5 (.alone 6 (.alone 7 (.read 8 (.read 9 (.read 10 .done))))))))))) (by kernel_rfl) (by kernel_rfl) (fun _ _ _ _ _ h => h) ⟨HXd.out.b, HXd.out.a⟩ ?_
                simp only [Ord.ops, List.getElem?_toArray, List.getElem?_cons_zero, List.getElem?_cons_succ]
                generalize w17.drew = w8 at *
                iterate 6 (
                  refine ord_read ?_ (fun wd hS M hM => ?_) ?_ ?_
                  rotate_left
                  · have HM := Lib.hid hM
                    obtain ⟨⟨b0, b1, b2, b3, b4, b5, b6, b7, b8, b9, b10, b11⟩, -⟩ := hS.1.twelve
                    obtain ⟨⟨a0, a1, a2, a3, a4⟩, -⟩ := hS.2.five
                    clear hM hS
                    go_wp2_with fail
                    exact HM.out
                  · rfl)
                refine ord_alone (fun M hM => ?_)
                have HM := Lib.hid hM
                clear hM
                obtain ⟨⟨b0, b1, b2, b3, b4, b5, b6, b7, b8, b9, b10, b11⟩, p0, p1, p2, p3, p4, p5, p6, p7, p8, p9, p10, p11⟩ := HXd.out.b.twelve
                obtain ⟨⟨r0, r1, r2, r3, r4, r5, r6, r7, r8, r9, r10, r11⟩, q0, q1, q2, q3, q4, q5, q6, q7, q8, q9, q10, q11⟩ := HXd.out.r.twelve
                obtain ⟨⟨a0, a1, a2, a3, a4⟩, c0, c1, c2, c3, c4⟩ := HXd.out.a.five
                obtain ⟨⟨y0, y1, y2, y3, y4⟩, z0, z1, z2, z3, z4⟩ := HXd.out.qq.five
                go_wp2_with fail
                clear b0 b1 b2 b3 b4 b5 b6 b7 b8 b9 b10 b11 p0 p1 p2 p3 p4 p5 p6 p7 p8 p9 p10 p11 r0 r1 r2 r3 r4 r5 r6 r7 r8 r9 r10 r11 q0 q1 q2 q3 q4 q5 q6 q7 q8 q9 q10 q11 a0 a1 a2 a3 a4 c0 c1 c2 c3 c4 y0 y1 y2 y3 y4 z0 z1 z2 z3 z4
                have hs12 : Tur (· = R) w8 ((((((((((((w8.setCell ⟨R, 0, none⟩ (.slice f1.A0 f1.n0 f1.c0)).setCell ⟨R, 1, none⟩ (.string rs1.stdin)).setCell ⟨R, 2, none⟩ (.slice f1.A2 rs1.replies.length f1.c2)).setCell ⟨R, 3, none⟩ (.slice f1.A3 rs1.fails.length f1.c3)).setCell ⟨R, 4, none⟩ (.int .i64 rs1.lim)).setCell ⟨R, 5, none⟩ (.int .i64 rs1.clock)).setCell ⟨R, 6, none⟩ (.int .u64 rs1.ch)).setCell ⟨R, 7, none⟩ (.slice f1.AF rs1.files.length f1.cF)).setCell ⟨R, 8, none⟩ (.int .i64 rs1.taken)).setCell ⟨R, 9, none⟩ (.slice f1.AO rs1.opn.length f1.cO)).setCell ⟨R, 10, none⟩ (.int .u64 rs1.num)).setCell ⟨R, 11, none⟩ (.slice f1.AE rs1.events.length f1.cE)) := Tur.set12 (.slice f1.A0 f1.n0 f1.c0) (.string rs1.stdin) (.slice f1.A2 rs1.replies.length f1.c2) (.slice f1.A3 rs1.fails.length f1.c3) (.int .i64 rs1.lim) (.int .i64 rs1.clock) (.int .u64 rs1.ch) (.slice f1.AF rs1.files.length f1.cF) (.int .i64 rs1.taken) (.slice f1.AO rs1.opn.length f1.cO) (.int .u64 rs1.num) (.slice f1.AE rs1.events.length f1.cE)
                have HQ9 := Lib.hid (HXd.out.q.box (g := R) hs12 (by have := HBE.out; omega) (by have := HBE.out; omega))
                have HB9 := Lib.hid (HXd.out.b.keep hs12 hBR)
                have HA9 := Lib.hid (HXd.out.a.keep hs12 hAR)
                have HR9 := Lib.hid (HXd.out.r.set12 (.slice f1.A0 f1.n0 f1.c0) (.string rs1.stdin) (.slice f1.A2 rs1.replies.length f1.c2) (.slice f1.A3 rs1.fails.length f1.c3) (.int .i64 rs1.lim) (.int .i64 rs1.clock) (.int .u64 rs1.ch) (.slice f1.AF rs1.files.length f1.cF) (.int .i64 rs1.taken) (.slice f1.AO rs1.opn.length f1.cO) (.int .u64 rs1.num) (.slice f1.AE rs1.events.length f1.cE))
                have HQQ9 := Lib.hid (HXd.out.qq.keep hs12 hQR)
                clear hs12
                generalize ((((((((((((w8.setCell ⟨R, 0, none⟩ (.slice f1.A0 f1.n0 f1.c0)).setCell ⟨R, 1, none⟩ (.string rs1.stdin)).setCell ⟨R, 2, none⟩ (.slice f1.A2 rs1.replies.length f1.c2)).setCell ⟨R, 3, none⟩ (.slice f1.A3 rs1.fails.length f1.c3)).setCell ⟨R, 4, none⟩ (.int .i64 rs1.lim)).setCell ⟨R, 5, none⟩ (.int .i64 rs1.clock)).setCell ⟨R, 6, none⟩ (.int .u64 rs1.ch)).setCell ⟨R, 7, none⟩ (.slice f1.AF rs1.files.length f1.cF)).setCell ⟨R, 8, none⟩ (.int .i64 rs1.taken)).setCell ⟨R, 9, none⟩ (.slice f1.AO rs1.opn.length f1.cO)).setCell ⟨R, 10, none⟩ (.int .u64 rs1.num)).setCell ⟨R, 11, none⟩ (.slice f1.AE rs1.events.length f1.cE)) = w9 at *
                refine HM.out _ _ ⟨HB9.out, HA9.out⟩ ?_
                clear HM M
                refine ord_alone (fun M hM => ?_)
                have HM := Lib.hid hM
                clear hM
                obtain ⟨⟨y0, y1, y2, y3, y4⟩, z0, z1, z2, z3, z4⟩ := HQQ9.out.five
                obtain ⟨⟨b0, b1, b2, b3, b4, b5, b6, b7, b8, b9, b10, b11⟩, -⟩ := HB9.out.twelve
                go_wp2_with fail
                clear y0 y1 y2 y3 y4 z0 z1 z2 z3 z4 b0 b1 b2 b3 b4 b5 b6 b7 b8 b9 b10 b11
                have hs5 : Tur (· = Q) w9 (((((w9.setCell ⟨Q, 0, none⟩ (.int .u8 k)).setCell ⟨Q, 1, none⟩ (.string name)).setCell ⟨Q, 2, none⟩ (.string (l.extract hh l.size))).setCell ⟨Q, 3, none⟩ (.bool false)).setCell ⟨Q, 4, none⟩ (.bool false)) := Tur.set5 (.int .u8 k) (.string name) (.string (l.extract hh l.size)) (.bool false) (.bool false)
                have HQ10 := Lib.hid (HQ9.out.box (g := Q) hs5 (by have := HBE.out; omega) (by have := HBE.out; omega))
                have HB10 := Lib.hid (HB9.out.keep hs5 hBQ)
                have HA10 := Lib.hid (HA9.out.keep hs5 hAQ)
                have HR10 := Lib.hid (HR9.out.keep hs5 hRQ)
                have HQQ10 := Lib.hid (HQQ9.out.set5 (.int .u8 k) (.string name) (.string (l.extract hh l.size)) (.bool false) (.bool false))
                clear hs5
                generalize (((((w9.setCell ⟨Q, 0, none⟩ (.int .u8 k)).setCell ⟨Q, 1, none⟩ (.string name)).setCell ⟨Q, 2, none⟩ (.string (l.extract hh l.size))).setCell ⟨Q, 3, none⟩ (.bool false)).setCell ⟨Q, 4, none⟩ (.bool false)) = w10 at *
                refine HM.out _ _ ⟨HB10.out, HA10.out⟩ ?_
                clear HM M
                iterate 3 (
                  refine ord_read ?_ (fun wd hS M hM => ?_) ?_ ?_
                  rotate_left
                  · have HM := Lib.hid hM
                    obtain ⟨⟨b0, b1, b2, b3, b4, b5, b6, b7, b8, b9, b10, b11⟩, -⟩ := hS.1.twelve
                    obtain ⟨⟨a0, a1, a2, a3, a4⟩, -⟩ := hS.2.five
                    clear hM hS
                    go_wp2_with fail
                    exact HM.out
                  · rfl)
                refine NoPanic.normal (?_ : _)
                go_wp2_with fail
                obtain ⟨⟨x0, x1, x2, x3, x4, x5, x6, x7, x8, x9, x10, x11⟩, -⟩ := HR10.out.twelve
                obtain ⟨⟨y0, y1, y2, y3, y4⟩, -⟩ := HQQ10.out.five
                refine bodyPost_ret (v := .tuple #[.agg #[.slice f1.A0 f1.n0 f1.c0, .string rs1.stdin, .slice f1.A2 rs1.replies.length f1.c2, .slice f1.A3 rs1.fails.length f1.c3, .int .i64 rs1.lim, .int .i64 rs1.clock, .int .u64 rs1.ch, .slice f1.AF rs1.files.length f1.cF, .int .i64 rs1.taken, .slice f1.AO rs1.opn.length f1.cO, .int .u64 rs1.num, .slice f1.AE rs1.events.length f1.cE], .agg #[.int .u8 k, .string name, .string (l.extract hh l.size), .bool false, .bool false], .string x, .bool true, .int .i64 0]) (by simp [results, Tryd.results21, go_sem, x0, x1, x2, x3, x4, x5, x6, x7, x8, x9, x10, x11, y0, y1, y2, y3, y4]) rfl ?_
                refine ⟨f1, rs1, (l.extract hh l.size), false, 0, (x : ByteArray).data.toList, true, by rw [back]; rfl, ⟨l, HPP.out, .inr ⟨rfl, ?_, ?_, ?_⟩⟩, HQ10.out.out (by have := HBE.out; omega), HQ10.out.below⟩
                · rw [HTE.out]; exact HRX.out.symm
                · rw [HTE.out]; show true = !decide (Rd.pRec l.data.toList = []); rw [HRX.out, decide_eq_false HNE.out]; rfl
                · rw [HTE.out]; apply ByteArray.ext; apply Array.toList_inj.1; rw [ext_tail]; exact HREST.out.symm
    · have HNB := Lib.hid HX.out.nb
      have HPP := Lib.hid (HX.out.p _ _ _ _ (.stop (.inl rfl)))
      clear HM0
      obtain ⟨⟨a0, a1, a2, a3, a4⟩, c0, c1, c2, c3, c4⟩ := HNB.out.a.five
      have hll : l.size ≤ 9223372036854775807 := by have := HLZ.out; omega
      have hsz0 : sep.size ≤ 9223372036854775807 := by omega
      by_cases hs0 : 0 < sep.size
      · have HBR : Hid (sep.data.toList = sep[0] :: sep.data.toList.tail) := by
          unfold Hid
          obtain ⟨⟨ll⟩⟩ := sep
          cases ll with
          | nil => exact absurd hs0 (by simp [ByteArray.size])
          | cons x ll => rfl
        by_cases hl0 : l.size = 0
        · have e0 := isEmpty_eq hl0
          have HD0 := Lib.hid (size0 hl0)
          clear hl0
          go_upto_region 11 with (fail)
          clear a0 a1 a2 a3 a4 c0 c1 c2 c3 c4
          have HXd := Lib.hid (HNB.out.pure (Below.refl wr.heap.size wr).drew)
          refine wp_region_noPanic ?_
          refine wp_region_ord (fun wd => Blk wd B 46 #[.slice f1.A0 f1.n0 f1.c0, .string rs1.stdin, .slice f1.A2 rs1.replies.length f1.c2, .slice f1.A3 rs1.fails.length f1.c3, .int .i64 rs1.lim, .int .i64 rs1.clock, .int .u64 rs1.ch, .slice f1.AF rs1.files.length f1.cF, .int .i64 rs1.taken, .slice f1.AO rs1.opn.length f1.cO, .int .u64 rs1.num, .slice f1.AE rs1.events.length f1.cE] ∧ Blk wd A 55 #[.int .u8 k, .string name, .string l, .bool true, .bool true]) (.read 0 (.read 1 (.alone 2 (.alone 3 (.read 4 (.read 5 (.read 6 .done))))))) (by kernel_rfl) (by kernel_rfl) (fun _ _ _ _ _ h => h) ⟨HXd.out.b, HXd.out.a⟩ ?_
          simp only [Ord.ops, List.getElem?_toArray, List.getElem?_cons_zero, List.getElem?_cons_succ]
          generalize wr.drew = w8 at *
          iterate 2 (
            refine ord_read ?_ (fun wd hS M hM => ?_) ?_ ?_
            rotate_left
            · have HM := Lib.hid hM
              obtain ⟨⟨b0, b1, b2, b3, b4, b5, b6, b7, b8, b9, b10, b11⟩, -⟩ := hS.1.twelve
              obtain ⟨⟨a0, a1, a2, a3, a4⟩, -⟩ := hS.2.five
              clear hM hS
              go_wp2_with fail
              exact HM.out
            · rfl)
          refine ord_alone (fun M hM => ?_)
          have HM := Lib.hid hM
          clear hM
          obtain ⟨⟨b0, b1, b2, b3, b4, b5, b6, b7, b8, b9, b10, b11⟩, p0, p1, p2, p3, p4, p5, p6, p7, p8, p9, p10, p11⟩ := HXd.out.b.twelve
          obtain ⟨⟨r0, r1, r2, r3, r4, r5, r6, r7, r8, r9, r10, r11⟩, q0, q1, q2, q3, q4, q5, q6, q7, q8, q9, q10, q11⟩ := HXd.out.r.twelve
          obtain ⟨⟨a0, a1, a2, a3, a4⟩, c0, c1, c2, c3, c4⟩ := HXd.out.a.five
          obtain ⟨⟨y0, y1, y2, y3, y4⟩, z0, z1, z2, z3, z4⟩ := HXd.out.qq.five
          go_wp2_with fail
          clear b0 b1 b2 b3 b4 b5 b6 b7 b8 b9 b10 b11 p0 p1 p2 p3 p4 p5 p6 p7 p8 p9 p10 p11 r0 r1 r2 r3 r4 r5 r6 r7 r8 r9 r10 r11 q0 q1 q2 q3 q4 q5 q6 q7 q8 q9 q10 q11 a0 a1 a2 a3 a4 c0 c1 c2 c3 c4 y0 y1 y2 y3 y4 z0 z1 z2 z3 z4
          have hs12 : Tur (· = R) w8 ((((((((((((w8.setCell ⟨R, 0, none⟩ (.slice f1.A0 f1.n0 f1.c0)).setCell ⟨R, 1, none⟩ (.string rs1.stdin)).setCell ⟨R, 2, none⟩ (.slice f1.A2 rs1.replies.length f1.c2)).setCell ⟨R, 3, none⟩ (.slice f1.A3 rs1.fails.length f1.c3)).setCell ⟨R, 4, none⟩ (.int .i64 rs1.lim)).setCell ⟨R, 5, none⟩ (.int .i64 rs1.clock)).setCell ⟨R, 6, none⟩ (.int .u64 rs1.ch)).setCell ⟨R, 7, none⟩ (.slice f1.AF rs1.files.length f1.cF)).setCell ⟨R, 8, none⟩ (.int .i64 rs1.taken)).setCell ⟨R, 9, none⟩ (.slice f1.AO rs1.opn.length f1.cO)).setCell ⟨R, 10, none⟩ (.int .u64 rs1.num)).setCell ⟨R, 11, none⟩ (.slice f1.AE rs1.events.length f1.cE)) := Tur.set12 (.slice f1.A0 f1.n0 f1.c0) (.string rs1.stdin) (.slice f1.A2 rs1.replies.length f1.c2) (.slice f1.A3 rs1.fails.length f1.c3) (.int .i64 rs1.lim) (.int .i64 rs1.clock) (.int .u64 rs1.ch) (.slice f1.AF rs1.files.length f1.cF) (.int .i64 rs1.taken) (.slice f1.AO rs1.opn.length f1.cO) (.int .u64 rs1.num) (.slice f1.AE rs1.events.length f1.cE)
          have HQ9 := Lib.hid (HXd.out.q.box (g := R) hs12 (by have := HBE.out; omega) (by have := HBE.out; omega))
          have HB9 := Lib.hid (HXd.out.b.keep hs12 hBR)
          have HA9 := Lib.hid (HXd.out.a.keep hs12 hAR)
          have HR9 := Lib.hid (HXd.out.r.set12 (.slice f1.A0 f1.n0 f1.c0) (.string rs1.stdin) (.slice f1.A2 rs1.replies.length f1.c2) (.slice f1.A3 rs1.fails.length f1.c3) (.int .i64 rs1.lim) (.int .i64 rs1.clock) (.int .u64 rs1.ch) (.slice f1.AF rs1.files.length f1.cF) (.int .i64 rs1.taken) (.slice f1.AO rs1.opn.length f1.cO) (.int .u64 rs1.num) (.slice f1.AE rs1.events.length f1.cE))
          have HQQ9 := Lib.hid (HXd.out.qq.keep hs12 hQR)
          clear hs12
          generalize ((((((((((((w8.setCell ⟨R, 0, none⟩ (.slice f1.A0 f1.n0 f1.c0)).setCell ⟨R, 1, none⟩ (.string rs1.stdin)).setCell ⟨R, 2, none⟩ (.slice f1.A2 rs1.replies.length f1.c2)).setCell ⟨R, 3, none⟩ (.slice f1.A3 rs1.fails.length f1.c3)).setCell ⟨R, 4, none⟩ (.int .i64 rs1.lim)).setCell ⟨R, 5, none⟩ (.int .i64 rs1.clock)).setCell ⟨R, 6, none⟩ (.int .u64 rs1.ch)).setCell ⟨R, 7, none⟩ (.slice f1.AF rs1.files.length f1.cF)).setCell ⟨R, 8, none⟩ (.int .i64 rs1.taken)).setCell ⟨R, 9, none⟩ (.slice f1.AO rs1.opn.length f1.cO)).setCell ⟨R, 10, none⟩ (.int .u64 rs1.num)).setCell ⟨R, 11, none⟩ (.slice f1.AE rs1.events.length f1.cE)) = w9 at *
          refine HM.out _ _ ⟨HB9.out, HA9.out⟩ ?_
          clear HM M
          refine ord_alone (fun M hM => ?_)
          have HM := Lib.hid hM
          clear hM
          obtain ⟨⟨y0, y1, y2, y3, y4⟩, z0, z1, z2, z3, z4⟩ := HQQ9.out.five
          obtain ⟨⟨b0, b1, b2, b3, b4, b5, b6, b7, b8, b9, b10, b11⟩, -⟩ := HB9.out.twelve
          go_wp2_with fail
          clear y0 y1 y2 y3 y4 z0 z1 z2 z3 z4 b0 b1 b2 b3 b4 b5 b6 b7 b8 b9 b10 b11
          have hs5 : Tur (· = Q) w9 (((((w9.setCell ⟨Q, 0, none⟩ (.int .u8 k)).setCell ⟨Q, 1, none⟩ (.string name)).setCell ⟨Q, 2, none⟩ (.string l)).setCell ⟨Q, 3, none⟩ (.bool true)).setCell ⟨Q, 4, none⟩ (.bool true)) := Tur.set5 (.int .u8 k) (.string name) (.string l) (.bool true) (.bool true)
          have HQ10 := Lib.hid (HQ9.out.box (g := Q) hs5 (by have := HBE.out; omega) (by have := HBE.out; omega))
          have HB10 := Lib.hid (HB9.out.keep hs5 hBQ)
          have HA10 := Lib.hid (HA9.out.keep hs5 hAQ)
          have HR10 := Lib.hid (HR9.out.keep hs5 hRQ)
          have HQQ10 := Lib.hid (HQQ9.out.set5 (.int .u8 k) (.string name) (.string l) (.bool true) (.bool true))
          clear hs5
          generalize (((((w9.setCell ⟨Q, 0, none⟩ (.int .u8 k)).setCell ⟨Q, 1, none⟩ (.string name)).setCell ⟨Q, 2, none⟩ (.string l)).setCell ⟨Q, 3, none⟩ (.bool true)).setCell ⟨Q, 4, none⟩ (.bool true)) = w10 at *
          refine HM.out _ _ ⟨HB10.out, HA10.out⟩ ?_
          clear HM M
          iterate 3 (
            refine ord_read ?_ (fun wd hS M hM => ?_) ?_ ?_
            rotate_left
            · have HM := Lib.hid hM
              obtain ⟨⟨b0, b1, b2, b3, b4, b5, b6, b7, b8, b9, b10, b11⟩, -⟩ := hS.1.twelve
              obtain ⟨⟨a0, a1, a2, a3, a4⟩, -⟩ := hS.2.five
              clear hM hS
              go_wp2_with fail
              exact HM.out
            · rfl)
          refine NoPanic.normal (?_ : _)
          go_wp2_with fail
          obtain ⟨⟨x0, x1, x2, x3, x4, x5, x6, x7, x8, x9, x10, x11⟩, -⟩ := HR10.out.twelve
          obtain ⟨⟨y0, y1, y2, y3, y4⟩, -⟩ := HQQ10.out.five
          refine bodyPost_ret (v := .tuple #[.agg #[.slice f1.A0 f1.n0 f1.c0, .string rs1.stdin, .slice f1.A2 rs1.replies.length f1.c2, .slice f1.A3 rs1.fails.length f1.c3, .int .i64 rs1.lim, .int .i64 rs1.clock, .int .u64 rs1.ch, .slice f1.AF rs1.files.length f1.cF, .int .i64 rs1.taken, .slice f1.AO rs1.opn.length f1.cO, .int .u64 rs1.num, .slice f1.AE rs1.events.length f1.cE], .agg #[.int .u8 k, .string name, .string l, .bool true, .bool true], .string ⟨#[]⟩, .bool false, .int .i64 0]) (by simp [results, Tryd.results21, go_sem, x0, x1, x2, x3, x4, x5, x6, x7, x8, x9, x10, x11, y0, y1, y2, y3, y4]) rfl ?_
          exact ⟨f1, rs1, l, true, 0, [], false, rfl, ⟨l, HPP.out, .inr ⟨rfl, by rw [HD0.out, HBR.out]; rfl, by rw [HD0.out, HBR.out]; rfl, by rw [HD0.out, HBR.out]; rfl⟩⟩, HQ10.out.out (by have := HBE.out; omega), HQ10.out.below⟩
        · have e0 := isEmpty_ne hl0
          have HNE := Lib.hid (data_ne hl0)
          clear hl0
          go_upto_region 12 with (fail)
          clear a0 a1 a2 a3 a4 c0 c1 c2 c3 c4
          have HXd := Lib.hid (HNB.out.pure (Below.refl wr.heap.size wr).drew)
          refine wp_region_noPanic ?_
          refine wp_region_ord (fun wd => Blk wd B 46 #[.slice f1.A0 f1.n0 f1.c0, .string rs1.stdin, .slice f1.A2 rs1.replies.length f1.c2, .slice f1.A3 rs1.fails.length f1.c3, .int .i64 rs1.lim, .int .i64 rs1.clock, .int .u64 rs1.ch, .slice f1.AF rs1.files.length f1.cF, .int .i64 rs1.taken, .slice f1.AO rs1.opn.length f1.cO, .int .u64 rs1.num, .slice f1.AE rs1.events.length f1.cE] ∧ Blk wd A 55 #[.int .u8 k, .string name, .string l, .bool true, .bool true]) (.read 0 (.read 1 (.read 2 (.read 3 (.alone 4 (.read 5 .done)))))) (by kernel_rfl) (by kernel_rfl) (fun _ _ _ _ _ h => h) ⟨HXd.out.b, HXd.out.a⟩ ?_
          simp only [Ord.ops, List.getElem?_toArray, List.getElem?_cons_zero, List.getElem?_cons_succ]
          generalize wr.drew = w7 at *
          iterate 4 (
            refine ord_read ?_ (fun wd hS M hM => ?_) ?_ ?_
            rotate_left
            · have HM := Lib.hid hM
              obtain ⟨⟨b0, b1, b2, b3, b4, b5, b6, b7, b8, b9, b10, b11⟩, -⟩ := hS.1.twelve
              obtain ⟨⟨a0, a1, a2, a3, a4⟩, -⟩ := hS.2.five
              clear hM hS
              go_wp2_with fail
              exact HM.out
            · rfl)
          refine ord_alone (fun M hM => ?_)
          have HM := Lib.hid hM
          clear hM
          go_wp2_with (go_at_call 49; refine (q_find l sep[0] _ (by have := HLZ.out; omega)).mono ?_; rintro e w8 ⟨rfl, rfl⟩)
          refine HM.out _ _ ⟨HXd.out.b, HXd.out.a⟩ ?_
          clear HM M
          iterate 1 (
            refine ord_read ?_ (fun wd hS M hM => ?_) ?_ ?_
            rotate_left
            · have HM := Lib.hid hM
              obtain ⟨⟨b0, b1, b2, b3, b4, b5, b6, b7, b8, b9, b10, b11⟩, -⟩ := hS.1.twelve
              obtain ⟨⟨a0, a1, a2, a3, a4⟩, -⟩ := hS.2.five
              clear hM hS
              go_wp2_with fail
              exact HM.out
            · rfl)
          refine NoPanic.normal (?_ : _)
          obtain ⟨htl, htt, htr⟩ := tw_take sep[0] l.data.toList
          generalize (Rd.tw sep[0] l.data.toList).length = ix at *
          have hil : ix ≤ l.size := htl
          have HTE : Hid (tellT sep.data.toList l.data.toList = (l.data.toList.take ix, true, l.data.toList.drop (ix + 1))) := by
            unfold Hid tellT
            rw [HBR.out]
            simp only
            rw [if_neg HNE.out, htt, htr]
          clear htl htt htr
          obtain ⟨⟨a0, a1, a2, a3, a4⟩, c0, c1, c2, c3, c4⟩ := HXd.out.a.five
          by_cases hlt : ix < l.size
          · have hil1 : ix + 1 ≤ l.size := hlt
            have HN2 := Lib.hid ((HXd.out.set HAX.out 2 (.string (l.extract (ix + 1) l.size)) (l.extract (ix + 1) l.size) true true rfl).set HAX.out 4 (.bool false) (l.extract (ix + 1) l.size) true false rfl)
            go_upto_region 18 with (fail)
            generalize (w7.setCell ⟨A, 2, none⟩ (.string (l.extract (ix + 1) l.size))).setCell ⟨A, 4, none⟩ (.bool false) = w17 at *
            clear a0 a1 a2 a3 a4 c0 c1 c2 c3 c4
            have HXd := Lib.hid (HN2.out.pure (Below.refl w17.heap.size w17).drew)
            refine wp_region_noPanic ?_
            refine wp_region_ord (fun wd => Blk wd B 46 #[.slice f1.A0 f1.n0 f1.c0, .string rs1.stdin, .slice f1.A2 rs1.replies.length f1.c2, .slice f1.A3 rs1.fails.length f1.c3, .int .i64 rs1.lim, .int .i64 rs1.clock, .int .u64 rs1.ch, .slice f1.AF rs1.files.length f1.cF, .int .i64 rs1.taken, .slice f1.AO rs1.opn.length f1.cO, .int .u64 rs1.num, .slice f1.AE rs1.events.length f1.cE] ∧ Blk wd A 55 #[.int .u8 k, .string name, .string (l.extract (ix + 1) l.size), .bool true, .bool false]) (.read 0 (.read 1 (.read 2 (.alone 3 (.alone 4 (.read 5 (.read 6 (.read 7 .done)))))))) (by kernel_rfl) (by kernel_rfl) (fun _ _ _ _ _ h => h) ⟨HXd.out.b, HXd.out.a⟩ ?_
            simp only [Ord.ops, List.getElem?_toArray, List.getElem?_cons_zero, List.getElem?_cons_succ]
            generalize w17.drew = w8 at *
            iterate 3 (
              refine ord_read ?_ (fun wd hS M hM => ?_) ?_ ?_
              rotate_left
              · have HM := Lib.hid hM
                obtain ⟨⟨b0, b1, b2, b3, b4, b5, b6, b7, b8, b9, b10, b11⟩, -⟩ := hS.1.twelve
                obtain ⟨⟨a0, a1, a2, a3, a4⟩, -⟩ := hS.2.five
                clear hM hS
                go_wp2_with fail
                exact HM.out
              · rfl)
            refine ord_alone (fun M hM => ?_)
            have HM := Lib.hid hM
            clear hM
            obtain ⟨⟨b0, b1, b2, b3, b4, b5, b6, b7, b8, b9, b10, b11⟩, p0, p1, p2, p3, p4, p5, p6, p7, p8, p9, p10, p11⟩ := HXd.out.b.twelve
            obtain ⟨⟨r0, r1, r2, r3, r4, r5, r6, r7, r8, r9, r10, r11⟩, q0, q1, q2, q3, q4, q5, q6, q7, q8, q9, q10, q11⟩ := HXd.out.r.twelve
            obtain ⟨⟨a0, a1, a2, a3, a4⟩, c0, c1, c2, c3, c4⟩ := HXd.out.a.five
            obtain ⟨⟨y0, y1, y2, y3, y4⟩, z0, z1, z2, z3, z4⟩ := HXd.out.qq.five
            go_wp2_with fail
            clear b0 b1 b2 b3 b4 b5 b6 b7 b8 b9 b10 b11 p0 p1 p2 p3 p4 p5 p6 p7 p8 p9 p10 p11 r0 r1 r2 r3 r4 r5 r6 r7 r8 r9 r10 r11 q0 q1 q2 q3 q4 q5 q6 q7 q8 q9 q10 q11 a0 a1 a2 a3 a4 c0 c1 c2 c3 c4 y0 y1 y2 y3 y4 z0 z1 z2 z3 z4
            have hs12 : Tur (· = R) w8 ((((((((((((w8.setCell ⟨R, 0, none⟩ (.slice f1.A0 f1.n0 f1.c0)).setCell ⟨R, 1, none⟩ (.string rs1.stdin)).setCell ⟨R, 2, none⟩ (.slice f1.A2 rs1.replies.length f1.c2)).setCell ⟨R, 3, none⟩ (.slice f1.A3 rs1.fails.length f1.c3)).setCell ⟨R, 4, none⟩ (.int .i64 rs1.lim)).setCell ⟨R, 5, none⟩ (.int .i64 rs1.clock)).setCell ⟨R, 6, none⟩ (.int .u64 rs1.ch)).setCell ⟨R, 7, none⟩ (.slice f1.AF rs1.files.length f1.cF)).setCell ⟨R, 8, none⟩ (.int .i64 rs1.taken)).setCell ⟨R, 9, none⟩ (.slice f1.AO rs1.opn.length f1.cO)).setCell ⟨R, 10, none⟩ (.int .u64 rs1.num)).setCell ⟨R, 11, none⟩ (.slice f1.AE rs1.events.length f1.cE)) := Tur.set12 (.slice f1.A0 f1.n0 f1.c0) (.string rs1.stdin) (.slice f1.A2 rs1.replies.length f1.c2) (.slice f1.A3 rs1.fails.length f1.c3) (.int .i64 rs1.lim) (.int .i64 rs1.clock) (.int .u64 rs1.ch) (.slice f1.AF rs1.files.length f1.cF) (.int .i64 rs1.taken) (.slice f1.AO rs1.opn.length f1.cO) (.int .u64 rs1.num) (.slice f1.AE rs1.events.length f1.cE)
            have HQ9 := Lib.hid (HXd.out.q.box (g := R) hs12 (by have := HBE.out; omega) (by have := HBE.out; omega))
            have HB9 := Lib.hid (HXd.out.b.keep hs12 hBR)
            have HA9 := Lib.hid (HXd.out.a.keep hs12 hAR)
            have HR9 := Lib.hid (HXd.out.r.set12 (.slice f1.A0 f1.n0 f1.c0) (.string rs1.stdin) (.slice f1.A2 rs1.replies.length f1.c2) (.slice f1.A3 rs1.fails.length f1.c3) (.int .i64 rs1.lim) (.int .i64 rs1.clock) (.int .u64 rs1.ch) (.slice f1.AF rs1.files.length f1.cF) (.int .i64 rs1.taken) (.slice f1.AO rs1.opn.length f1.cO) (.int .u64 rs1.num) (.slice f1.AE rs1.events.length f1.cE))
            have HQQ9 := Lib.hid (HXd.out.qq.keep hs12 hQR)
            clear hs12
            generalize ((((((((((((w8.setCell ⟨R, 0, none⟩ (.slice f1.A0 f1.n0 f1.c0)).setCell ⟨R, 1, none⟩ (.string rs1.stdin)).setCell ⟨R, 2, none⟩ (.slice f1.A2 rs1.replies.length f1.c2)).setCell ⟨R, 3, none⟩ (.slice f1.A3 rs1.fails.length f1.c3)).setCell ⟨R, 4, none⟩ (.int .i64 rs1.lim)).setCell ⟨R, 5, none⟩ (.int .i64 rs1.clock)).setCell ⟨R, 6, none⟩ (.int .u64 rs1.ch)).setCell ⟨R, 7, none⟩ (.slice f1.AF rs1.files.length f1.cF)).setCell ⟨R, 8, none⟩ (.int .i64 rs1.taken)).setCell ⟨R, 9, none⟩ (.slice f1.AO rs1.opn.length f1.cO)).setCell ⟨R, 10, none⟩ (.int .u64 rs1.num)).setCell ⟨R, 11, none⟩ (.slice f1.AE rs1.events.length f1.cE)) = w9 at *
            refine HM.out _ _ ⟨HB9.out, HA9.out⟩ ?_
            clear HM M
            refine ord_alone (fun M hM => ?_)
            have HM := Lib.hid hM
            clear hM
            obtain ⟨⟨y0, y1, y2, y3, y4⟩, z0, z1, z2, z3, z4⟩ := HQQ9.out.five
            obtain ⟨⟨b0, b1, b2, b3, b4, b5, b6, b7, b8, b9, b10, b11⟩, -⟩ := HB9.out.twelve
            go_wp2_with fail
            clear y0 y1 y2 y3 y4 z0 z1 z2 z3 z4 b0 b1 b2 b3 b4 b5 b6 b7 b8 b9 b10 b11
            have hs5 : Tur (· = Q) w9 (((((w9.setCell ⟨Q, 0, none⟩ (.int .u8 k)).setCell ⟨Q, 1, none⟩ (.string name)).setCell ⟨Q, 2, none⟩ (.string (l.extract (ix + 1) l.size))).setCell ⟨Q, 3, none⟩ (.bool true)).setCell ⟨Q, 4, none⟩ (.bool false)) := Tur.set5 (.int .u8 k) (.string name) (.string (l.extract (ix + 1) l.size)) (.bool true) (.bool false)
            have HQ10 := Lib.hid (HQ9.out.box (g := Q) hs5 (by have := HBE.out; omega) (by have := HBE.out; omega))
            have HB10 := Lib.hid (HB9.out.keep hs5 hBQ)
            have HA10 := Lib.hid (HA9.out.keep hs5 hAQ)
            have HR10 := Lib.hid (HR9.out.keep hs5 hRQ)
            have HQQ10 := Lib.hid (HQQ9.out.set5 (.int .u8 k) (.string name) (.string (l.extract (ix + 1) l.size)) (.bool true) (.bool false))
            clear hs5
            generalize (((((w9.setCell ⟨Q, 0, none⟩ (.int .u8 k)).setCell ⟨Q, 1, none⟩ (.string name)).setCell ⟨Q, 2, none⟩ (.string (l.extract (ix + 1) l.size))).setCell ⟨Q, 3, none⟩ (.bool true)).setCell ⟨Q, 4, none⟩ (.bool false)) = w10 at *
            refine HM.out _ _ ⟨HB10.out, HA10.out⟩ ?_
            clear HM M
            iterate 3 (
              refine ord_read ?_ (fun wd hS M hM => ?_) ?_ ?_
              rotate_left
              · have HM := Lib.hid hM
                obtain ⟨⟨b0, b1, b2, b3, b4, b5, b6, b7, b8, b9, b10, b11⟩, -⟩ := hS.1.twelve
                obtain ⟨⟨a0, a1, a2, a3, a4⟩, -⟩ := hS.2.five
                clear hM hS
                go_wp2_with fail
                exact HM.out
              · rfl)
            refine NoPanic.normal (?_ : _)
            go_wp2_with fail
            obtain ⟨⟨x0, x1, x2, x3, x4, x5, x6, x7, x8, x9, x10, x11⟩, -⟩ := HR10.out.twelve
            obtain ⟨⟨y0, y1, y2, y3, y4⟩, -⟩ := HQQ10.out.five
            refine bodyPost_ret (v := .tuple #[.agg #[.slice f1.A0 f1.n0 f1.c0, .string rs1.stdin, .slice f1.A2 rs1.replies.length f1.c2, .slice f1.A3 rs1.fails.length f1.c3, .int .i64 rs1.lim, .int .i64 rs1.clock, .int .u64 rs1.ch, .slice f1.AF rs1.files.length f1.cF, .int .i64 rs1.taken, .slice f1.AO rs1.opn.length f1.cO, .int .u64 rs1.num, .slice f1.AE rs1.events.length f1.cE], .agg #[.int .u8 k, .string name, .string (l.extract (ix + 1) l.size), .bool true, .bool false], .string (l.extract 0 ix), .bool true, .int .i64 0]) (by simp [results, Tryd.results21, go_sem, x0, x1, x2, x3, x4, x5, x6, x7, x8, x9, x10, x11, y0, y1, y2, y3, y4]) rfl ?_
            refine ⟨f1, rs1, (l.extract (ix + 1) l.size), true, 0, (l.extract 0 ix).data.toList, true, by rw [back]; rfl, ⟨l, HPP.out, .inr ⟨rfl, ?_, ?_, ?_⟩⟩, HQ10.out.out (by have := HBE.out; omega), HQ10.out.below⟩
            · rw [HTE.out, Lib.extract_data]; simp
            · rw [HTE.out]
            · rw [HTE.out]; apply ByteArray.ext; apply Array.toList_inj.1; rw [ext_tail]
          · have HIXE := Lib.hid (show ix = l.size by omega)
            have HN2 := Lib.hid ((HXd.out.set HAX.out 2 (.string (l.extract ix l.size)) (l.extract ix l.size) true true rfl).set HAX.out 4 (.bool false) (l.extract ix l.size) true false rfl)
            go_upto_region 18 with (fail)
            generalize (w7.setCell ⟨A, 2, none⟩ (.string (l.extract ix l.size))).setCell ⟨A, 4, none⟩ (.bool false) = w17 at *
            clear a0 a1 a2 a3 a4 c0 c1 c2 c3 c4
            have HXd := Lib.hid (HN2.out.pure (Below.refl w17.heap.size w17).drew)
            refine wp_region_noPanic ?_
            refine wp_region_ord (fun wd => Blk wd B 46 #[.slice f1.A0 f1.n0 f1.c0, .string rs1.stdin, .slice f1.A2 rs1.replies.length f1.c2, .slice f1.A3 rs1.fails.length f1.c3, .int .i64 rs1.lim, .int .i64 rs1.clock, .int .u64 rs1.ch, .slice f1.AF rs1.files.length f1.cF, .int .i64 rs1.taken, .slice f1.AO rs1.opn.length f1.cO, .int .u64 rs1.num, .slice f1.AE rs1.events.length f1.cE] ∧ Blk wd A 55 #[.int .u8 k, .string name, .string (l.extract ix l.size), .bool true, .bool false]) (.read 0 (.read 1 (.read 2 (.alone 3 (.alone 4 (.read 5 (.read 6 (.read 7 .done)))))))) (by kernel_rfl) (by kernel_rfl) (fun _ _ _ _ _ h => h) ⟨HXd.out.b, HXd.out.a⟩ ?_
            simp only [Ord.ops, List.getElem?_toArray, List.getElem?_cons_zero, List.getElem?_cons_succ]
            generalize w17.drew = w8 at *
            iterate 3 (
              refine ord_read ?_ (fun wd hS M hM => ?_) ?_ ?_
              rotate_left
              · have HM := Lib.hid hM
                obtain ⟨⟨b0, b1, b2, b3, b4, b5, b6, b7, b8, b9, b10, b11⟩, -⟩ := hS.1.twelve
                obtain ⟨⟨a0, a1, a2, a3, a4⟩, -⟩ := hS.2.five
                clear hM hS
                go_wp2_with fail
                exact HM.out
              · rfl)
            refine ord_alone (fun M hM => ?_)
            have HM := Lib.hid hM
            clear hM
            obtain ⟨⟨b0, b1, b2, b3, b4, b5, b6, b7, b8, b9, b10, b11⟩, p0, p1, p2, p3, p4, p5, p6, p7, p8, p9, p10, p11⟩ := HXd.out.b.twelve
            obtain ⟨⟨r0, r1, r2, r3, r4, r5, r6, r7, r8, r9, r10, r11⟩, q0, q1, q2, q3, q4, q5, q6, q7, q8, q9, q10, q11⟩ := HXd.out.r.twelve
            obtain ⟨⟨a0, a1, a2, a3, a4⟩, c0, c1, c2, c3, c4⟩ := HXd.out.a.five
            obtain ⟨⟨y0, y1, y2, y3, y4⟩, z0, z1, z2, z3, z4⟩ := HXd.out.qq.five
            go_wp2_with fail
            clear b0 b1 b2 b3 b4 b5 b6 b7 b8 b9 b10 b11 p0 p1 p2 p3 p4 p5 p6 p7 p8 p9 p10 p11 r0 r1 r2 r3 r4 r5 r6 r7 r8 r9 r10 r11 q0 q1 q2 q3 q4 q5 q6 q7 q8 q9 q10 q11 a0 a1 a2 a3 a4 c0 c1 c2 c3 c4 y0 y1 y2 y3 y4 z0 z1 z2 z3 z4
            have hs12 : Tur (· = R) w8 ((((((((((((w8.setCell ⟨R, 0, none⟩ (.slice f1.A0 f1.n0 f1.c0)).setCell ⟨R, 1, none⟩ (.string rs1.stdin)).setCell ⟨R, 2, none⟩ (.slice f1.A2 rs1.replies.length f1.c2)).setCell ⟨R, 3, none⟩ (.slice f1.A3 rs1.fails.length f1.c3)).setCell ⟨R, 4, none⟩ (.int .i64 rs1.lim)).setCell ⟨R, 5, none⟩ (.int .i64 rs1.clock)).setCell ⟨R, 6, none⟩ (.int .u64 rs1.ch)).setCell ⟨R, 7, none⟩ (.slice f1.AF rs1.files.length f1.cF)).setCell ⟨R, 8, none⟩ (.int .i64 rs1.taken)).setCell ⟨R, 9, none⟩ (.slice f1.AO rs1.opn.length f1.cO)).setCell ⟨R, 10, none⟩ (.int .u64 rs1.num)).setCell ⟨R, 11, none⟩ (.slice f1.AE rs1.events.length f1.cE)) := Tur.set12 (.slice f1.A0 f1.n0 f1.c0) (.string rs1.stdin) (.slice f1.A2 rs1.replies.length f1.c2) (.slice f1.A3 rs1.fails.length f1.c3) (.int .i64 rs1.lim) (.int .i64 rs1.clock) (.int .u64 rs1.ch) (.slice f1.AF rs1.files.length f1.cF) (.int .i64 rs1.taken) (.slice f1.AO rs1.opn.length f1.cO) (.int .u64 rs1.num) (.slice f1.AE rs1.events.length f1.cE)
            have HQ9 := Lib.hid (HXd.out.q.box (g := R) hs12 (by have := HBE.out; omega) (by have := HBE.out; omega))
            have HB9 := Lib.hid (HXd.out.b.keep hs12 hBR)
            have HA9 := Lib.hid (HXd.out.a.keep hs12 hAR)
            have HR9 := Lib.hid (HXd.out.r.set12 (.slice f1.A0 f1.n0 f1.c0) (.string rs1.stdin) (.slice f1.A2 rs1.replies.length f1.c2) (.slice f1.A3 rs1.fails.length f1.c3) (.int .i64 rs1.lim) (.int .i64 rs1.clock) (.int .u64 rs1.ch) (.slice f1.AF rs1.files.length f1.cF) (.int .i64 rs1.taken) (.slice f1.AO rs1.opn.length f1.cO) (.int .u64 rs1.num) (.slice f1.AE rs1.events.length f1.cE))
            have HQQ9 := Lib.hid (HXd.out.qq.keep hs12 hQR)
            clear hs12
            generalize ((((((((((((w8.setCell ⟨R, 0, none⟩ (.slice f1.A0 f1.n0 f1.c0)).setCell ⟨R, 1, none⟩ (.string rs1.stdin)).setCell ⟨R, 2, none⟩ (.slice f1.A2 rs1.replies.length f1.c2)).setCell ⟨R, 3, none⟩ (.slice f1.A3 rs1.fails.length f1.c3)).setCell ⟨R, 4, none⟩ (.int .i64 rs1.lim)).setCell ⟨R, 5, none⟩ (.int .i64 rs1.clock)).setCell ⟨R, 6, none⟩ (.int .u64 rs1.ch)).setCell ⟨R, 7, none⟩ (.slice f1.AF rs1.files.length f1.cF)).setCell ⟨R, 8, none⟩ (.int .i64 rs1.taken)).setCell ⟨R, 9, none⟩ (.slice f1.AO rs1.opn.length f1.cO)).setCell ⟨R, 10, none⟩ (.int .u64 rs1.num)).setCell ⟨R, 11, none⟩ (.slice f1.AE rs1.events.length f1.cE)) = w9 at *
            refine HM.out _ _ ⟨HB9.out, HA9.out⟩ ?_
            clear HM M
            refine ord_alone (fun M hM => ?_)
            have HM := Lib.hid hM
            clear hM
            obtain ⟨⟨y0, y1, y2, y3, y4⟩, z0, z1, z2, z3, z4⟩ := HQQ9.out.five
            obtain ⟨⟨b0, b1, b2, b3, b4, b5, b6, b7, b8, b9, b10, b11⟩, -⟩ := HB9.out.twelve
            go_wp2_with fail
            clear y0 y1 y2 y3 y4 z0 z1 z2 z3 z4 b0 b1 b2 b3 b4 b5 b6 b7 b8 b9 b10 b11
            have hs5 : Tur (· = Q) w9 (((((w9.setCell ⟨Q, 0, none⟩ (.int .u8 k)).setCell ⟨Q, 1, none⟩ (.string name)).setCell ⟨Q, 2, none⟩ (.string (l.extract ix l.size))).setCell ⟨Q, 3, none⟩ (.bool true)).setCell ⟨Q, 4, none⟩ (.bool false)) := Tur.set5 (.int .u8 k) (.string name) (.string (l.extract ix l.size)) (.bool true) (.bool false)
            have HQ10 := Lib.hid (HQ9.out.box (g := Q) hs5 (by have := HBE.out; omega) (by have := HBE.out; omega))
            have HB10 := Lib.hid (HB9.out.keep hs5 hBQ)
            have HA10 := Lib.hid (HA9.out.keep hs5 hAQ)
            have HR10 := Lib.hid (HR9.out.keep hs5 hRQ)
            have HQQ10 := Lib.hid (HQQ9.out.set5 (.int .u8 k) (.string name) (.string (l.extract ix l.size)) (.bool true) (.bool false))
            clear hs5
            generalize (((((w9.setCell ⟨Q, 0, none⟩ (.int .u8 k)).setCell ⟨Q, 1, none⟩ (.string name)).setCell ⟨Q, 2, none⟩ (.string (l.extract ix l.size))).setCell ⟨Q, 3, none⟩ (.bool true)).setCell ⟨Q, 4, none⟩ (.bool false)) = w10 at *
            refine HM.out _ _ ⟨HB10.out, HA10.out⟩ ?_
            clear HM M
            iterate 3 (
              refine ord_read ?_ (fun wd hS M hM => ?_) ?_ ?_
              rotate_left
              · have HM := Lib.hid hM
                obtain ⟨⟨b0, b1, b2, b3, b4, b5, b6, b7, b8, b9, b10, b11⟩, -⟩ := hS.1.twelve
                obtain ⟨⟨a0, a1, a2, a3, a4⟩, -⟩ := hS.2.five
                clear hM hS
                go_wp2_with fail
                exact HM.out
              · rfl)
            refine NoPanic.normal (?_ : _)
            go_wp2_with fail
            obtain ⟨⟨x0, x1, x2, x3, x4, x5, x6, x7, x8, x9, x10, x11⟩, -⟩ := HR10.out.twelve
            obtain ⟨⟨y0, y1, y2, y3, y4⟩, -⟩ := HQQ10.out.five
            refine bodyPost_ret (v := .tuple #[.agg #[.slice f1.A0 f1.n0 f1.c0, .string rs1.stdin, .slice f1.A2 rs1.replies.length f1.c2, .slice f1.A3 rs1.fails.length f1.c3, .int .i64 rs1.lim, .int .i64 rs1.clock, .int .u64 rs1.ch, .slice f1.AF rs1.files.length f1.cF, .int .i64 rs1.taken, .slice f1.AO rs1.opn.length f1.cO, .int .u64 rs1.num, .slice f1.AE rs1.events.length f1.cE], .agg #[.int .u8 k, .string name, .string (l.extract ix l.size), .bool true, .bool false], .string (l.extract 0 ix), .bool true, .int .i64 0]) (by simp [results, Tryd.results21, go_sem, x0, x1, x2, x3, x4, x5, x6, x7, x8, x9, x10, x11, y0, y1, y2, y3, y4]) rfl ?_
            refine ⟨f1, rs1, (l.extract ix l.size), true, 0, (l.extract 0 ix).data.toList, true, by rw [back]; rfl, ⟨l, HPP.out, .inr ⟨rfl, ?_, ?_, ?_⟩⟩, HQ10.out.out (by have := HBE.out; omega), HQ10.out.below⟩
            · rw [HTE.out, Lib.extract_data]; simp
            · rw [HTE.out]
            · rw [HTE.out]; apply ByteArray.ext; apply Array.toList_inj.1; rw [ext_tail]; have := HIXE.out; have h2 : l.data.toList.length = l.size := rfl; show l.data.toList.drop ix = l.data.toList.drop (ix + 1); rw [List.drop_of_length_le (by omega), List.drop_of_length_le (by omega)]
      · have HBR : Hid (sep.data.toList = []) := by unfold Hid; exact data_nil (by omega)
        go_wp2_with fail
        refine (q_spans l _ (by have := HLZ.out; omega)).mono ?_
        rintro e w7 ⟨bb, ee, hh, rfl, hsp, rfl⟩
        have hbe : bb ≤ ee := hsp.be
        have hhn : hh ≤ l.size := hsp.hn
        have hen : ee ≤ l.size := by have := hsp.eh; omega
        obtain ⟨-, hrec, hrest, hbelt⟩ := Rd.span_spec hsp
        have hT : l.data.toList.length = l.size := rfl
        rw [hT] at hrec hbelt
        have HREC := Lib.hid hrec
        have HREST := Lib.hid hrest
        have HTE : Hid (tellT sep.data.toList l.data.toList = (Rd.pRec l.data.toList, !decide (Rd.pRec l.data.toList = []), Rd.pRest l.data.toList)) := by unfold Hid tellT; rw [HBR.out]
        clear hsp hrec hrest
        go_upto_region 21 with (fail)
        obtain ⟨x, hx⟩ : ∃ x, x = l.extract bb ee := ⟨_, rfl⟩
        rw [← hx]
        have hxs : x.size = ee - bb := by rw [hx, ByteArray.size_extract]; omega
        have hxd : x.data.toList = (l.data.toList.take ee).drop bb := by rw [hx, ext_mid l hbe]
        have hx63 : x.size ≤ 9223372036854775807 := by omega
        have hh63 : hh ≤ 9223372036854775807 := by omega
        clear hx
        by_cases he : ee < l.size
        · have hb2 : bb < ee := hbelt he
          have ene : ((ee : Int) == (l.size : Int)) = false := beq_eq_false_iff_ne.2 (by omega)
          have hxp : 0 < x.size := by omega
          have hxz : ((x.size : Int) == 0) = false := beq_eq_false_iff_ne.2 (by omega)
          have HRX : Hid (Rd.pRec l.data.toList = x.data.toList) := by unfold Hid; rw [HREC.out, if_pos he, hxd]
          have HNE : Hid (x.data.toList ≠ []) := data_ne (by omega)
          clear hxs hxd hbelt hb2
          have HN2 := Lib.hid ((HNB.out.set HAX.out 2 (.string (l.extract hh l.size)) (l.extract hh l.size) true true rfl).set HAX.out 4 (.bool false) (l.extract hh l.size) true false rfl)
          go_upto_region 25 with (fail)
          generalize (wr.setCell ⟨A, 2, none⟩ (.string (l.extract hh l.size))).setCell ⟨A, 4, none⟩ (.bool false) = w17 at *
          clear a0 a1 a2 a3 a4 c0 c1 c2 c3 c4
          have HXd := Lib.hid (HN2.out.pure (Below.refl w17.heap.size w17).drew)
          refine wp_region_noPanic ?_
          refine wp_region_ord (fun wd => Blk wd B 46 #[.slice f1.A0 f1.n0 f1.c0, .string rs1.stdin, .slice f1.A2 rs1.replies.length f1.c2, .slice f1.A3 rs1.fails.length f1.c3, .int .i64 rs1.lim, .int .i64 rs1.clock, .int .u64 rs1.ch, .slice f1.AF rs1.files.length f1.cF, .int .i64 rs1.taken, .slice f1.AO rs1.opn.length f1.cO, .int .u64 rs1.num, .slice f1.AE rs1.events.length f1.cE] ∧ Blk wd A 55 #[.int .u8 k, .string name, .string (l.extract hh l.size), .bool true, .bool false]) (.read 0 (.read 1 (.read 2 (.read 3 (.read 4 (.read 5 (.alone 6 (.alone 7 (.read 8 (.read 9 (.read 10 .done))))))))))) (by kernel_rfl) (by kernel_rfl) (fun _ _ _ _ _ h => h) ⟨HXd.out.b, HXd.out.a⟩ ?_
          simp only [Ord.ops, List.getElem?_toArray, List.getElem?_cons_zero, List.getElem?_cons_succ]
          generalize w17.drew = w8 at *
          iterate 6 (
            refine ord_read ?_ (fun wd hS M hM => ?_) ?_ ?_
            rotate_left
            · have HM := Lib.hid hM
              obtain ⟨⟨b0, b1, b2, b3, b4, b5, b6, b7, b8, b9, b10, b11⟩, -⟩ := hS.1.twelve
              obtain ⟨⟨a0, a1, a2, a3, a4⟩, -⟩ := hS.2.five
              clear hM hS
              go_wp2_with fail
              exact HM.out
            · rfl)
          refine ord_alone (fun M hM => ?_)
          have HM := Lib.hid hM
          clear hM
          obtain ⟨⟨b0, b1, b2, b3, b4, b5, b6, b7, b8, b9, b10, b11⟩, p0, p1, p2, p3, p4, p5, p6, p7, p8, p9, p10, p11⟩ := HXd.out.b.twelve
          obtain ⟨⟨r0, r1, r2, r3, r4, r5, r6, r7, r8, r9, r10, r11⟩, q0, q1, q2, q3, q4, q5, q6, q7, q8, q9, q10, q11⟩ := HXd.out.r.twelve
          obtain ⟨⟨a0, a1, a2, a3, a4⟩, c0, c1, c2, c3, c4⟩ := HXd.out.a.five
          obtain ⟨⟨y0, y1, y2, y3, y4⟩, z0, z1, z2, z3, z4⟩ := HXd.out.qq.five
          go_wp2_with fail
          clear b0 b1 b2 b3 b4 b5 b6 b7 b8 b9 b10 b11 p0 p1 p2 p3 p4 p5 p6 p7 p8 p9 p10 p11 r0 r1 r2 r3 r4 r5 r6 r7 r8 r9 r10 r11 q0 q1 q2 q3 q4 q5 q6 q7 q8 q9 q10 q11 a0 a1 a2 a3 a4 c0 c1 c2 c3 c4 y0 y1 y2 y3 y4 z0 z1 z2 z3 z4
          have hs12 : Tur (· = R) w8 ((((((((((((w8.setCell ⟨R, 0, none⟩ (.slice f1.A0 f1.n0 f1.c0)).setCell ⟨R, 1, none⟩ (.string rs1.stdin)).setCell ⟨R, 2, none⟩ (.slice f1.A2 rs1.replies.length f1.c2)).setCell ⟨R, 3, none⟩ (.slice f1.A3 rs1.fails.length f1.c3)).setCell ⟨R, 4, none⟩ (.int .i64 rs1.lim)).setCell ⟨R, 5, none⟩ (.int .i64 rs1.clock)).setCell ⟨R, 6, none⟩ (.int .u64 rs1.ch)).setCell ⟨R, 7, none⟩ (.slice f1.AF rs1.files.length f1.cF)).setCell ⟨R, 8, none⟩ (.int .i64 rs1.taken)).setCell ⟨R, 9, none⟩ (.slice f1.AO rs1.opn.length f1.cO)).setCell ⟨R, 10, none⟩ (.int .u64 rs1.num)).setCell ⟨R, 11, none⟩ (.slice f1.AE rs1.events.length f1.cE)) := Tur.set12 (.slice f1.A0 f1.n0 f1.c0) (.string rs1.stdin) (.slice f1.A2 rs1.replies.length f1.c2) (.slice f1.A3 rs1.fails.length f1.c3) (.int .i64 rs1.lim) (.int .i64 rs1.clock) (.int .u64 rs1.ch) (.slice f1.AF rs1.files.length f1.cF) (.int .i64 rs1.taken) (.slice f1.AO rs1.opn.length f1.cO) (.int .u64 rs1.num) (.slice f1.AE rs1.events.length f1.cE)
          have HQ9 := Lib.hid (HXd.out.q.box (g := R) hs12 (by have := HBE.out; omega) (by have := HBE.out; omega))
          have HB9 := Lib.hid (HXd.out.b.keep hs12 hBR)
          have HA9 := Lib.hid (HXd.out.a.keep hs12 hAR)
          have HR9 := Lib.hid (HXd.out.r.set12 (.slice f1.A0 f1.n0 f1.c0) (.string rs1.stdin) (.slice f1.A2 rs1.replies.length f1.c2) (.slice f1.A3 rs1.fails.length f1.c3) (.int .i64 rs1.lim) (.int .i64 rs1.clock) (.int .u64 rs1.ch) (.slice f1.AF rs1.files.length f1.cF) (.int .i64 rs1.taken) (.slice f1.AO rs1.opn.length f1.cO) (.int .u64 rs1.num) (.slice f1.AE rs1.events.length f1.cE))
          have HQQ9 := Lib.hid (HXd.out.qq.keep hs12 hQR)
          clear hs12
          generalize ((((((((((((w8.setCell ⟨R, 0, none⟩ (.slice f1.A0 f1.n0 f1.c0)).setCell ⟨R, 1, none⟩ (.string rs1.stdin)).setCell ⟨R, 2, none⟩ (.slice f1.A2 rs1.replies.length f1.c2)).setCell ⟨R, 3, none⟩ (.slice f1.A3 rs1.fails.length f1.c3)).setCell ⟨R, 4, none⟩ (.int .i64 rs1.lim)).setCell ⟨R, 5, none⟩ (.int .i64 rs1.clock)).setCell ⟨R, 6, none⟩ (.int .u64 rs1.ch)).setCell ⟨R, 7, none⟩ (.slice f1.AF rs1.files.length f1.cF)).setCell ⟨R, 8, none⟩ (.int .i64 rs1.taken)).setCell ⟨R, 9, none⟩ (.slice f1.AO rs1.opn.length f1.cO)).setCell ⟨R, 10, none⟩ (.int .u64 rs1.num)).setCell ⟨R, 11, none⟩ (.slice f1.AE rs1.events.length f1.cE)) = w9 at *
          refine HM.out _ _ ⟨HB9.out, HA9.out⟩ ?_
          clear HM M
          refine ord_alone (fun M hM => ?_)
          have HM := Lib.hid hM
          clear hM
          obtain ⟨⟨y0, y1, y2, y3, y4⟩, z0, z1, z2, z3, z4⟩ := HQQ9.out.five
          obtain ⟨⟨b0, b1, b2, b3, b4, b5, b6, b7, b8, b9, b10, b11⟩, -⟩ := HB9.out.twelve
          go_wp2_with fail
          clear y0 y1 y2 y3 y4 z0 z1 z2 z3 z4 b0 b1 b2 b3 b4 b5 b6 b7 b8 b9 b10 b11
          have hs5 : Tur (· = Q) w9 (((((w9.setCell ⟨Q, 0, none⟩ (.int .u8 k)).setCell ⟨Q, 1, none⟩ (.string name)).setCell ⟨Q, 2, none⟩ (.string (l.extract hh l.size))).setCell ⟨Q, 3, none⟩ (.bool true)).setCell ⟨Q, 4, none⟩ (.bool false)) := Tur.set5 (.int .u8 k) (.string name) (.string (l.extract hh l.size)) (.bool true) (.bool false)
          have HQ10 := Lib.hid (HQ9.out.box (g := Q) hs5 (by have := HBE.out; omega) (by have := HBE.out; omega))
          have HB10 := Lib.hid (HB9.out.keep hs5 hBQ)
          have HA10 := Lib.hid (HA9.out.keep hs5 hAQ)
          have HR10 := Lib.hid (HR9.out.keep hs5 hRQ)
          have HQQ10 := Lib.hid (HQQ9.out.set5 (.int .u8 k) (.string name) (.string (l.extract hh l.size)) (.bool true) (.bool false))
          clear hs5
          generalize (((((w9.setCell ⟨Q, 0, none⟩ (.int .u8 k)).setCell ⟨Q, 1, none⟩ (.string name)).setCell ⟨Q, 2, none⟩ (.string (l.extract hh l.size))).setCell ⟨Q, 3, none⟩ (.bool true)).setCell ⟨Q, 4, none⟩ (.bool false)) = w10 at *
          refine HM.out _ _ ⟨HB10.out, HA10.out⟩ ?_
          clear HM M
          iterate 3 (
            refine ord_read ?_ (fun wd hS M hM => ?_) ?_ ?_
            rotate_left
            · have HM := Lib.hid hM
              obtain ⟨⟨b0, b1, b2, b3, b4, b5, b6, b7, b8, b9, b10, b11⟩, -⟩ := hS.1.twelve
              obtain ⟨⟨a0, a1, a2, a3, a4⟩, -⟩ := hS.2.five
              clear hM hS
              go_wp2_with fail
              exact HM.out
            · rfl)
          refine NoPanic.normal (?_ : _)
          go_wp2_with fail
          obtain ⟨⟨x0, x1, x2, x3, x4, x5, x6, x7, x8, x9, x10, x11⟩, -⟩ := HR10.out.twelve
          obtain ⟨⟨y0, y1, y2, y3, y4⟩, -⟩ := HQQ10.out.five
          refine bodyPost_ret (v := .tuple #[.agg #[.slice f1.A0 f1.n0 f1.c0, .string rs1.stdin, .slice f1.A2 rs1.replies.length f1.c2, .slice f1.A3 rs1.fails.length f1.c3, .int .i64 rs1.lim, .int .i64 rs1.clock, .int .u64 rs1.ch, .slice f1.AF rs1.files.length f1.cF, .int .i64 rs1.taken, .slice f1.AO rs1.opn.length f1.cO, .int .u64 rs1.num, .slice f1.AE rs1.events.length f1.cE], .agg #[.int .u8 k, .string name, .string (l.extract hh l.size), .bool true, .bool false], .string x, .bool true, .int .i64 0]) (by simp [results, Tryd.results21, go_sem, x0, x1, x2, x3, x4, x5, x6, x7, x8, x9, x10, x11, y0, y1, y2, y3, y4]) rfl ?_
          refine ⟨f1, rs1, (l.extract hh l.size), true, 0, (x : ByteArray).data.toList, true, by rw [back]; rfl, ⟨l, HPP.out, .inr ⟨rfl, ?_, ?_, ?_⟩⟩, HQ10.out.out (by have := HBE.out; omega), HQ10.out.below⟩
          · rw [HTE.out]; exact HRX.out.symm
          · rw [HTE.out]; show true = !decide (Rd.pRec l.data.toList = []); rw [HRX.out, decide_eq_false HNE.out]; rfl
          · rw [HTE.out]; apply ByteArray.ext; apply Array.toList_inj.1; rw [ext_tail]; exact HREST.out.symm
        · have HEE := Lib.hid (show ee = l.size by omega)
          have eeq : ((ee : Int) == (l.size : Int)) = true := beq_iff_eq.2 (by omega)
          have HR2 : Hid (Rd.pRec l.data.toList = Lib.trimSuffix x.data.toList [10]) := by
            unfold Hid; rw [HREC.out, if_neg he, hxd, List.take_of_length_le (by rw [hT]; have := HEE.out; omega)]
          clear hxs hxd hbelt
          by_cases hx0 : x.size = 0
          · have HRX : Hid (Rd.pRec l.data.toList = x.data.toList) := by unfold Hid; rw [HR2.out, data_nil hx0]; rfl
            have HNE : Hid (x.data.toList = []) := data_nil hx0
            clear HR2
            have HN2 := Lib.hid ((HNB.out.set HAX.out 2 (.string (l.extract hh l.size)) (l.extract hh l.size) true true rfl).set HAX.out 4 (.bool true) (l.extract hh l.size) true true rfl)
            go_upto_region 25 with (fail)
            generalize (wr.setCell ⟨A, 2, none⟩ (.string (l.extract hh l.size))).setCell ⟨A, 4, none⟩ (.bool true) = w17 at *
            clear a0 a1 a2 a3 a4 c0 c1 c2 c3 c4
            have HXd := Lib.hid (HN2.out.pure (Below.refl w17.heap.size w17).drew)
            refine wp_region_noPanic ?_
            refine wp_region_ord (fun wd => Blk wd B 46 #[.slice f1.A0 f1.n0 f1.c0, .string rs1.stdin, .slice f1.A2 rs1.replies.length f1.c2, .slice f1.A3 rs1.fails.length f1.c3, .int .i64 rs1.lim, .int .i64 rs1.clock, .int .u64 rs1.ch, .slice f1.AF rs1.files.length f1.cF, .int .i64 rs1.taken, .slice f1.AO rs1.opn.length f1.cO, .int .u64 rs1.num, .slice f1.AE rs1.events.length f1.cE] ∧ Blk wd A 55 #[.int .u8 k, .string name, .string (l.extract hh l.size), .bool true, .bool true]) (.read 0 (.read 1 (.read 2 (.read 3 (.read 4 (.read 5 (.alone 6 (.alone 7 (.read 8 (.read 9 (.read 10 .done))))))))))) (by kernel_rfl) (by kernel_rfl) (fun _ _ _ _ _ h => h) ⟨HXd.out.b, HXd.out.a⟩ ?_
            simp only [Ord.ops, List.getElem?_toArray, List.getElem?_cons_zero, List.getElem?_cons_succ]
            generalize w17.drew = w8 at *
            iterate 6 (
              refine ord_read ?_ (fun wd hS M hM => ?_) ?_ ?_
              rotate_left
              · have HM := Lib.hid hM
                obtain ⟨⟨b0, b1, b2, b3, b4, b5, b6, b7, b8, b9, b10, b11⟩, -⟩ := hS.1.twelve
                obtain ⟨⟨a0, a1, a2, a3, a4⟩, -⟩ := hS.2.five
                clear hM hS
                go_wp2_with fail
                exact HM.out
              · rfl)
            refine ord_alone (fun M hM => ?_)
            have HM := Lib.hid hM
            clear hM
            obtain ⟨⟨b0, b1, b2, b3, b4, b5, b6, b7, b8, b9, b10, b11⟩, p0, p1, p2, p3, p4, p5, p6, p7, p8, p9, p10, p11⟩ := HXd.out.b.twelve
            obtain ⟨⟨r0, r1, r2, r3, r4, r5, r6, r7, r8, r9, r10, r11⟩, q0, q1, q2, q3, q4, q5, q6, q7, q8, q9, q10, q11⟩ := HXd.out.r.twelve
            obtain ⟨⟨a0, a1, a2, a3, a4⟩, c0, c1, c2, c3, c4⟩ := HXd.out.a.five
            obtain ⟨⟨y0, y1, y2, y3, y4⟩, z0, z1, z2, z3, z4⟩ := HXd.out.qq.five
            go_wp2_with fail
            clear b0 b1 b2 b3 b4 b5 b6 b7 b8 b9 b10 b11 p0 p1 p2 p3 p4 p5 p6 p7 p8 p9 p10 p11 r0 r1 r2 r3 r4 r5 r6 r7 r8 r9 r10 r11 q0 q1 q2 q3 q4 q5 q6 q7 q8 q9 q10 q11 a0 a1 a2 a3 a4 c0 c1 c2 c3 c4 y0 y1 y2 y3 y4 z0 z1 z2 z3 z4
            have hs12 : Tur (· = R) w8 ((((((((((((w8.setCell ⟨R, 0, none⟩ (.slice f1.A0 f1.n0 f1.c0)).setCell ⟨R, 1, none⟩ (.string rs1.stdin)).setCell ⟨R, 2, none⟩ (.slice f1.A2 rs1.replies.length f1.c2)).setCell ⟨R, 3, none⟩ (.slice f1.A3 rs1.fails.length f1.c3)).setCell ⟨R, 4, none⟩ (.int .i64 rs1.lim)).setCell ⟨R, 5, none⟩ (.int .i64 rs1.clock)).setCell ⟨R, 6, none⟩ (.int .u64 rs1.ch)).setCell ⟨R, 7, none⟩ (.slice f1.AF rs1.files.length f1.cF)).setCell ⟨R, 8, none⟩ (.int .i64 rs1.taken)).setCell ⟨R, 9, none⟩ (.slice f1.AO rs1.opn.length f1.cO)).setCell ⟨R, 10, none⟩ (.int .u64 rs1.num)).setCell ⟨R, 11, none⟩ (.slice f1.AE rs1.events.length f1.cE)) := Tur.set12 (.slice f1.A0 f1.n0 f1.c0) (.string rs1.stdin) (.slice f1.A2 rs1.replies.length f1.c2) (.slice f1.A3 rs1.fails.length f1.c3) (.int .i64 rs1.lim) (.int .i64 rs1.clock) (.int .u64 rs1.ch) (.slice f1.AF rs1.files.length f1.cF) (.int .i64 rs1.taken) (.slice f1.AO rs1.opn.length f1.cO) (.int .u64 rs1.num) (.slice f1.AE rs1.events.length f1.cE)
            have HQ9 := Lib.hid (HXd.out.q.box (g := R) hs12 (by have := HBE.out; omega) (by have := HBE.out; omega))
            have HB9 := Lib.hid (HXd.out.b.keep hs12 hBR)
            have HA9 := Lib.hid (HXd.out.a.keep hs12 hAR)
            have HR9 := Lib.hid (HXd.out.r.set12 (.slice f1.A0 f1.n0 f1.c0) (.string rs1.stdin) (.slice f1.A2 rs1.replies.length f1.c2) (.slice f1.A3 rs1.fails.length f1.c3) (.int .i64 rs1.lim) (.int .i64 rs1.clock) (.int .u64 rs1.ch) (.slice f1.AF rs1.files.length f1.cF) (.int .i64 rs1.taken) (.slice f1.AO rs1.opn.length f1.cO) (.int .u64 rs1.num) (.slice f1.AE rs1.events.length f1.cE))
            have HQQ9 := Lib.hid (HXd.out.qq.keep hs12 hQR)
            clear hs12
            generalize ((((((((((((w8.setCell ⟨R, 0, none⟩ (.slice f1.A0 f1.n0 f1.c0)).setCell ⟨R, 1, none⟩ (.string rs1.stdin)).setCell ⟨R, 2, none⟩ (.slice f1.A2 rs1.replies.length f1.c2)).setCell ⟨R, 3, none⟩ (.slice f1.A3 rs1.fails.length f1.c3)).setCell ⟨R, 4, none⟩ (.int .i64 rs1.lim)).setCell ⟨R, 5, none⟩ (.int .i64 rs1.clock)).setCell ⟨R, 6, none⟩ (.int .u64 rs1.ch)).setCell ⟨R, 7, none⟩ (.slice f1.AF rs1.files.length f1.cF)).setCell ⟨R, 8, none⟩ (.int .i64 rs1.taken)).setCell ⟨R, 9, none⟩ (.slice f1.AO rs1.opn.length f1.cO)).setCell ⟨R, 10, none⟩ (.int .u64 rs1.num)).setCell ⟨R, 11, none⟩ (.slice f1.AE rs1.events.length f1.cE)) = w9 at *
            refine HM.out _ _ ⟨HB9.out, HA9.out⟩ ?_
            clear HM M
            refine ord_alone (fun M hM => ?_)
            have HM := Lib.hid hM
            clear hM
            obtain ⟨⟨y0, y1, y2, y3, y4⟩, z0, z1, z2, z3, z4⟩ := HQQ9.out.five
            obtain ⟨⟨b0, b1, b2, b3, b4, b5, b6, b7, b8, b9, b10, b11⟩, -⟩ := HB9.out.twelve
            go_wp2_with fail
            clear y0 y1 y2 y3 y4 z0 z1 z2 z3 z4 b0 b1 b2 b3 b4 b5 b6 b7 b8 b9 b10 b11
            have hs5 : Tur (· = Q) w9 (((((w9.setCell ⟨Q, 0, none⟩ (.int .u8 k)).setCell ⟨Q, 1, none⟩ (.string name)).setCell ⟨Q, 2, none⟩ (.string (l.extract hh l.size))).setCell ⟨Q, 3, none⟩ (.bool true)).setCell ⟨Q, 4, none⟩ (.bool true)) := Tur.set5 (.int .u8 k) (.string name) (.string (l.extract hh l.size)) (.bool true) (.bool true)
            have HQ10 := Lib.hid (HQ9.out.box (g := Q) hs5 (by have := HBE.out; omega) (by have := HBE.out; omega))
            have HB10 := Lib.hid (HB9.out.keep hs5 hBQ)
            have HA10 := Lib.hid (HA9.out.keep hs5 hAQ)
            have HR10 := Lib.hid (HR9.out.keep hs5 hRQ)
            have HQQ10 := Lib.hid (HQQ9.out.set5 (.int .u8 k) (.string name) (.string (l.extract hh l.size)) (.bool true) (.bool true))
            clear hs5
            generalize (((((w9.setCell ⟨Q, 0, none⟩ (.int .u8 k)).setCell ⟨Q, 1, none⟩ (.string name)).setCell ⟨Q, 2, none⟩ (.string (l.extract hh l.size))).setCell ⟨Q, 3, none⟩ (.bool true)).setCell ⟨Q, 4, none⟩ (.bool true)) = w10 at *
            refine HM.out _ _ ⟨HB10.out, HA10.out⟩ ?_
            clear HM M
            iterate 3 (
              refine ord_read ?_ (fun wd hS M hM => ?_) ?_ ?_
              rotate_left
              · have HM := Lib.hid hM
                obtain ⟨⟨b0, b1, b2, b3, b4, b5, b6, b7, b8, b9, b10, b11⟩, -⟩ := hS.1.twelve
                obtain ⟨⟨a0, a1, a2, a3, a4⟩, -⟩ := hS.2.five
                clear hM hS
                go_wp2_with fail
                exact HM.out
              · rfl)
            refine NoPanic.normal (?_ : _)
            go_wp2_with fail
            obtain ⟨⟨x0, x1, x2, x3, x4, x5, x6, x7, x8, x9, x10, x11⟩, -⟩ := HR10.out.twelve
            obtain ⟨⟨y0, y1, y2, y3, y4⟩, -⟩ := HQQ10.out.five
            refine bodyPost_ret (v := .tuple #[.agg #[.slice f1.A0 f1.n0 f1.c0, .string rs1.stdin, .slice f1.A2 rs1.replies.length f1.c2, .slice f1.A3 rs1.fails.length f1.c3, .int .i64 rs1.lim, .int .i64 rs1.clock, .int .u64 rs1.ch, .slice f1.AF rs1.files.length f1.cF, .int .i64 rs1.taken, .slice f1.AO rs1.opn.length f1.cO, .int .u64 rs1.num, .slice f1.AE rs1.events.length f1.cE], .agg #[.int .u8 k, .string name, .string (l.extract hh l.size), .bool true, .bool true], .string x, .bool false, .int .i64 0]) (by simp [results, Tryd.results21, go_sem, x0, x1, x2, x3, x4, x5, x6, x7, x8, x9, x10, x11, y0, y1, y2, y3, y4]) rfl ?_
            refine ⟨f1, rs1, (l.extract hh l.size), true, 0, (x : ByteArray).data.toList, false, by rw [back]; rfl, ⟨l, HPP.out, .inr ⟨rfl, ?_, ?_, ?_⟩⟩, HQ10.out.out (by have := HBE.out; omega), HQ10.out.below⟩
            · rw [HTE.out]; exact HRX.out.symm
            · rw [HTE.out]; show false = !decide (Rd.pRec l.data.toList = []); rw [HRX.out, decide_eq_true HNE.out]; rfl
            · rw [HTE.out]; apply ByteArray.ext; apply Array.toList_inj.1; rw [ext_tail]; exact HREST.out.symm
          · obtain ⟨pp, hpp⟩ : ∃ pp, x.size = pp + 1 := ⟨x.size - 1, by omega⟩
            have hpx : pp < x.size := by omega
            have hl1 : x.data.toList.length = pp + 1 := hpp
            by_cases hq : x[pp] = 10
            · have hq2 : ((x[pp].toNat : Int) == 10) = true := by rw [hq]; rfl
              have HRX : Hid (Rd.pRec l.data.toList = (x.extract 0 pp).data.toList) := by
                unfold Hid
                rw [HR2.out, (Rd.suffix_ten x.data.toList).1 (by omega) (by simp only [hl1]; exact hq), hl1, Lib.extract_data]
                simp
              have hes : (x.extract 0 pp).size = pp := by rw [ByteArray.size_extract]; omega
              clear HR2 hl1 hq
              by_cases hp0 : pp = 0
              · have HNE : Hid ((x.extract 0 pp).data.toList = []) := data_nil (by omega)
                have hez : (x.extract 0 pp).size = 0 := by omega
                have HPZ := Lib.hid hp0
                clear hp0 hes
                have HN2 := Lib.hid ((HNB.out.set HAX.out 2 (.string (l.extract hh l.size)) (l.extract hh l.size) true true rfl).set HAX.out 4 (.bool true) (l.extract hh l.size) true true rfl)
                go_upto_region 25 with (fail)
                generalize (wr.setCell ⟨A, 2, none⟩ (.string (l.extract hh l.size))).setCell ⟨A, 4, none⟩ (.bool true) = w17 at *
                clear a0 a1 a2 a3 a4 c0 c1 c2 c3 c4
                have HXd := Lib.hid (HN2.out.pure (Below.refl w17.heap.size w17).drew)
                refine wp_region_noPanic ?_
                refine wp_region_ord (fun wd => Blk wd B 46 #[.slice f1.A0 f1.n0 f1.c0, .string rs1.stdin, .slice f1.A2 rs1.replies.length f1.c2, .slice f1.A3 rs1.fails.length f1.c3, .int .i64 rs1.lim, .int .i64 rs1.clock, .int .u64 rs1.ch, .slice f1.AF rs1.files.length f1.cF, .int .i64 rs1.taken, .slice f1.AO rs1.opn.length f1.cO, .int .u64 rs1.num, .slice f1.AE rs1.events.length f1.cE] ∧ Blk wd A 55 #[.int .u8 k, .string name, .string (l.extract hh l.size), .bool true, .bool true]) (.read 0 (.read 1 (.read 2 (.read 3 (.read 4 (.read 5 (.alone 6 (.alone 7 (.read 8 (.read 9 (.read 10 .done))))))))))) (by kernel_rfl) (by kernel_rfl) (fun _ _ _ _ _ h => h) ⟨HXd.out.b, HXd.out.a⟩ ?_
                simp only [Ord.ops, List.getElem?_toArray, List.getElem?_cons_zero, List.getElem?_cons_succ]
                generalize w17.drew = w8 at *
                iterate 6 (
                  refine ord_read ?_ (fun wd hS M hM => ?_) ?_ ?_
                  rotate_left
                  · have HM := Lib.hid hM
                    obtain ⟨⟨b0, b1, b2, b3, b4, b5, b6, b7, b8, b9, b10, b11⟩, -⟩ := hS.1.twelve
                    obtain ⟨⟨a0, a1, a2, a3, a4⟩, -⟩ := hS.2.five
                    clear hM hS
                    go_wp2_with fail
                    exact HM.out
                  · rfl)
                refine ord_alone (fun M hM => ?_)
                have HM := Lib.hid hM
                clear hM
                obtain ⟨⟨b0, b1, b2, b3, b4, b5, b6, b7, b8, b9, b10, b11⟩, p0, p1, p2, p3, p4, p5, p6, p7, p8, p9, p10, p11⟩ := HXd.out.b.twelve
                obtain ⟨⟨r0, r1, r2, r3, r4, r5, r6, r7, r8, r9, r10, r11⟩, q0, q1, q2, q3, q4, q5, q6, q7, q8, q9, q10, q11⟩ := HXd.out.r.twelve
                obtain ⟨⟨a0, a1, a2, a3, a4⟩, c0, c1, c2, c3, c4⟩ := HXd.out.a.five
                obtain ⟨⟨y0, y1, y2, y3, y4⟩, z0, z1, z2, z3, z4⟩ := HXd.out.qq.five
                go_wp2_with fail
                clear b0 b1 b2 b3 b4 b5 b6 b7 b8 b9 b10 b11 p0 p1 p2 p3 p4 p5 p6 p7 p8 p9 p10 p11 r0 r1 r2 r3 r4 r5 r6 r7 r8 r9 r10 r11 q0 q1 q2 q3 q4 q5 q6 q7 q8 q9 q10 q11 a0 a1 a2 a3 a4 c0 c1 c2 c3 c4 y0 y1 y2 y3 y4 z0 z1 z2 z3 z4
                have hs12 : Tur (· = R) w8 ((((((((((((w8.setCell ⟨R, 0, none⟩ (.slice f1.A0 f1.n0 f1.c0)).setCell ⟨R, 1, none⟩ (.string rs1.stdin)).setCell ⟨R, 2, none⟩ (.slice f1.A2 rs1.replies.length f1.c2)).setCell ⟨R, 3, none⟩ (.slice f1.A3 rs1.fails.length f1.c3)).setCell ⟨R, 4, none⟩ (.int .i64 rs1.lim)).setCell ⟨R, 5, none⟩ (.int .i64 rs1.clock)).setCell ⟨R, 6, none⟩ (.int .u64 rs1.ch)).setCell ⟨R, 7, none⟩ (.slice f1.AF rs1.files.length f1.cF)).setCell ⟨R, 8, none⟩ (.int .i64 rs1.taken)).setCell ⟨R, 9, none⟩ (.slice f1.AO rs1.opn.length f1.cO)).setCell ⟨R, 10, none⟩ (.int .u64 rs1.num)).setCell ⟨R, 11, none⟩ (.slice f1.AE rs1.events.length f1.cE)) := Tur.set12 (.slice f1.A0 f1.n0 f1.c0) (.string rs1.stdin) (.slice f1.A2 rs1.replies.length f1.c2) (.slice f1.A3 rs1.fails.length f1.c3) (.int .i64 rs1.lim) (.int .i64 rs1.clock) (.int .u64 rs1.ch) (.slice f1.AF rs1.files.length f1.cF) (.int .i64 rs1.taken) (.slice f1.AO rs1.opn.length f1.cO) (.int .u64 rs1.num) (.slice f1.AE rs1.events.length f1.cE)
                have HQ9 := Lib.hid (HXd.out.q.box (g := R) hs12 (by have := HBE.out; omega) (by have := HBE.out; omega))
                have HB9 := Lib.hid (HXd.out.b.keep hs12 hBR)
                have HA9 := Lib.hid (HXd.out.a.keep hs12 hAR)
                have HR9 := Lib.hid (HXd.out.r.set12 (.slice f1.A0 f1.n0 f1.c0) (.string rs1.stdin) (.slice f1.A2 rs1.replies.length f1.c2) (.slice f1.A3 rs1.fails.length f1.c3) (.int .i64 rs1.lim) (.int .i64 rs1.clock) (.int .u64 rs1.ch) (.slice f1.AF rs1.files.length f1.cF) (.int .i64 rs1.taken) (.slice f1.AO rs1.opn.length f1.cO) (.int .u64 rs1.num) (.slice f1.AE rs1.events.length f1.cE))
                have HQQ9 := Lib.hid (HXd.out.qq.keep hs12 hQR)
                clear hs12
                generalize ((((((((((((w8.setCell ⟨R, 0, none⟩ (.slice f1.A0 f1.n0 f1.c0)).setCell ⟨R, 1, none⟩ (.string rs1.stdin)).setCell ⟨R, 2, none⟩ (.slice f1.A2 rs1.replies.length f1.c2)).setCell ⟨R, 3, none⟩ (.slice f1.A3 rs1.fails.length f1.c3)).setCell ⟨R, 4, none⟩ (.int .i64 rs1.lim)).setCell ⟨R, 5, none⟩ (.int .i64 rs1.clock)).setCell ⟨R, 6, none⟩ (.int .u64 rs1.ch)).setCell ⟨R, 7, none⟩ (.slice f1.AF rs1.files.length f1.cF)).setCell ⟨R, 8, none⟩ (.int .i64 rs1.taken)).setCell ⟨R, 9, none⟩ (.slice f1.AO rs1.opn.length f1.cO)).setCell ⟨R, 10, none⟩ (.int .u64 rs1.num)).setCell ⟨R, 11, none⟩ (.slice f1.AE rs1.events.length f1.cE)) = w9 at *
                refine HM.out _ _ ⟨HB9.out, HA9.out⟩ ?_
                clear HM M
                refine ord_alone (fun M hM => ?_)
                have HM := Lib.hid hM
                clear hM
                obtain ⟨⟨y0, y1, y2, y3, y4⟩, z0, z1, z2, z3, z4⟩ := HQQ9.out.five
                obtain ⟨⟨b0, b1, b2, b3, b4, b5, b6, b7, b8, b9, b10, b11⟩, -⟩ := HB9.out.twelve
                go_wp2_with fail
                clear y0 y1 y2 y3 y4 z0 z1 z2 z3 z4 b0 b1 b2 b3 b4 b5 b6 b7 b8 b9 b10 b11
                have hs5 : Tur (· = Q) w9 (((((w9.setCell ⟨Q, 0, none⟩ (.int .u8 k)).setCell ⟨Q, 1, none⟩ (.string name)).setCell ⟨Q, 2, none⟩ (.string (l.extract hh l.size))).setCell ⟨Q, 3, none⟩ (.bool true)).setCell ⟨Q, 4, none⟩ (.bool true)) := Tur.set5 (.int .u8 k) (.string name) (.string (l.extract hh l.size)) (.bool true) (.bool true)
                have HQ10 := Lib.hid (HQ9.out.box (g := Q) hs5 (by have := HBE.out; omega) (by have := HBE.out; omega))
                have HB10 := Lib.hid (HB9.out.keep hs5 hBQ)
                have HA10 := Lib.hid (HA9.out.keep hs5 hAQ)
                have HR10 := Lib.hid (HR9.out.keep hs5 hRQ)
                have HQQ10 := Lib.hid (HQQ9.out.set5 (.int .u8 k) (.string name) (.string (l.extract hh l.size)) (.bool true) (.bool true))
                clear hs5
                generalize (((((w9.setCell ⟨Q, 0, none⟩ (.int .u8 k)).setCell ⟨Q, 1, none⟩ (.string name)).setCell ⟨Q, 2, none⟩ (.string (l.extract hh l.size))).setCell ⟨Q, 3, none⟩ (.bool true)).setCell ⟨Q, 4, none⟩ (.bool true)) = w10 at *
                refine HM.out _ _ ⟨HB10.out, HA10.out⟩ ?_
                clear HM M
                iterate 3 (
                  refine ord_read ?_ (fun wd hS M hM => ?_) ?_ ?_
                  rotate_left
                  · have HM := Lib.hid hM
                    obtain ⟨⟨b0, b1, b2, b3, b4, b5, b6, b7, b8, b9, b10, b11⟩, -⟩ := hS.1.twelve
                    obtain ⟨⟨a0, a1, a2, a3, a4⟩, -⟩ := hS.2.five
                    clear hM hS
                    go_wp2_with fail
                    exact HM.out
                  · rfl)
                refine NoPanic.normal (?_ : _)
                go_wp2_with fail
                obtain ⟨⟨x0, x1, x2, x3, x4, x5, x6, x7, x8, x9, x10, x11⟩, -⟩ := HR10.out.twelve
                obtain ⟨⟨y0, y1, y2, y3, y4⟩, -⟩ := HQQ10.out.five
                refine bodyPost_ret (v := .tuple #[.agg #[.slice f1.A0 f1.n0 f1.c0, .string rs1.stdin, .slice f1.A2 rs1.replies.length f1.c2, .slice f1.A3 rs1.fails.length f1.c3, .int .i64 rs1.lim, .int .i64 rs1.clock, .int .u64 rs1.ch, .slice f1.AF rs1.files.length f1.cF, .int .i64 rs1.taken, .slice f1.AO rs1.opn.length f1.cO, .int .u64 rs1.num, .slice f1.AE rs1.events.length f1.cE], .agg #[.int .u8 k, .string name, .string (l.extract hh l.size), .bool true, .bool true], .string (x.extract 0 pp), .bool false, .int .i64 0]) (by simp [results, Tryd.results21, go_sem, x0, x1, x2, x3, x4, x5, x6, x7, x8, x9, x10, x11, y0, y1, y2, y3, y4]) rfl ?_
                refine ⟨f1, rs1, (l.extract hh l.size), true, 0, ((x.extract 0 pp) : ByteArray).data.toList, false, by rw [back]; rfl, ⟨l, HPP.out, .inr ⟨rfl, ?_, ?_, ?_⟩⟩, HQ10.out.out (by have := HBE.out; omega), HQ10.out.below⟩
                · rw [HTE.out]; exact HRX.out.symm
                · rw [HTE.out]; show false = !decide (Rd.pRec l.data.toList = []); rw [HRX.out, decide_eq_true HNE.out]; rfl
                · rw [HTE.out]; apply ByteArray.ext; apply Array.toList_inj.1; rw [ext_tail]; exact HREST.out.symm
              · have HNE : Hid ((x.extract 0 pp).data.toList ≠ []) := data_ne (by omega)
                have hez : 0 < (x.extract 0 pp).size := by omega
                have hpz : ((pp : Int) == 0) = false := beq_eq_false_iff_ne.2 (by omega)
                have hp1 : 0 < pp := by omega
                have HN2 := Lib.hid ((HNB.out.set HAX.out 2 (.string (l.extract hh l.size)) (l.extract hh l.size) true true rfl).set HAX.out 4 (.bool false) (l.extract hh l.size) true false rfl)
                go_upto_region 25 with (fail)
                generalize (wr.setCell ⟨A, 2, none⟩ (.string (l.extract hh l.size))).setCell ⟨A, 4, none⟩ (.bool false) = w17 at *
                clear a0 a1 a2 a3 a4 c0 c1 c2 c3 c4
                have HXd := Lib.hid (HN2.out.pure (Below.refl w17.heap.size w17).drew)
                refine wp_region_noPanic ?_
                refine wp_region_ord (fun wd => Blk wd B 46 #[.slice f1.A0 f1.n0 f1.c0, .string rs1.stdin, .slice f1.A2 rs1.replies.length f1.c2, .slice f1.A3 rs1.fails.length f1.c3, .int .i64 rs1.lim, .int .i64 rs1.clock, .int .u64 rs1.ch, .slice f1.AF rs1.files.length f1.cF, .int .i64 rs1.taken, .slice f1.AO rs1.opn.length f1.cO, .int .u64 rs1.num, .slice f1.AE rs1.events.length f1.cE] ∧ Blk wd A 55 #[.int .u8 k, .string name, .string (l.extract hh l.size), .bool true, .bool false]) (.read 0 (.read 1 (.read 2 (.read 3 (.read 4 (.read 5 (.alone 6 (.alone 7 (.read 8 (.read 9 (.read 10 .done))))))))))) (by kernel_rfl) (by kernel_rfl) (fun _ _ _ _ _ h => h) ⟨HXd.out.b, HXd.out.a⟩ ?_
                simp only [Ord.ops, List.getElem?_toArray, List.getElem?_cons_zero, List.getElem?_cons_succ]
                generalize w17.drew = w8 at *
                iterate 6 (
                  refine ord_read ?_ (fun wd hS M hM => ?_) ?_ ?_
                  rotate_left
                  · have HM := Lib.hid hM
                    obtain ⟨⟨b0, b1, b2, b3, b4, b5, b6, b7, b8, b9, b10, b11⟩, -⟩ := hS.1.twelve
                    obtain ⟨⟨a0, a1, a2, a3, a4⟩, -⟩ := hS.2.five
                    clear hM hS
                    go_wp2_with fail
                    exact HM.out
                  · rfl)
                refine ord_alone (fun M hM => ?_)
                have HM := Lib.hid hM
                clear hM
                obtain ⟨⟨b0, b1, b2, b3, b4, b5, b6, b7, b8, b9, b10, b11⟩, p0, p1, p2, p3, p4, p5, p6, p7, p8, p9, p10, p11⟩ := HXd.out.b.twelve
                obtain ⟨⟨r0, r1, r2, r3, r4, r5, r6, r7, r8, r9, r10, r11⟩, q0, q1, q2, q3, q4, q5, q6, q7, q8, q9, q10, q11⟩ := HXd.out.r.twelve
                obtain ⟨⟨a0, a1, a2, a3, a4⟩, c0, c1, c2, c3, c4⟩ := HXd.out.a.five
                obtain ⟨⟨y0, y1, y2, y3, y4⟩, z0, z1, z2, z3, z4⟩ := HXd.out.qq.five
                go_wp2_with fail
                clear b0 b1 b2 b3 b4 b5 b6 b7 b8 b9 b10 b11 p0 p1 p2 p3 p4 p5 p6 p7 p8 p9 p10 p11 r0 r1 r2 r3 r4 r5 r6 r7 r8 r9 r10 r11 q0 q1 q2 q3 q4 q5 q6 q7 q8 q9 q10 q11 a0 a1 a2 a3 a4 c0 c1 c2 c3 c4 y0 y1 y2 y3 y4 z0 z1 z2 z3 z4
                have hs12 : Tur (· = R) w8 ((((((((((((w8.setCell ⟨R, 0, none⟩ (.slice f1.A0 f1.n0 f1.c0)).setCell ⟨R, 1, none⟩ (.string rs1.stdin)).setCell ⟨R, 2, none⟩ (.slice f1.A2 rs1.replies.length f1.c2)).setCell ⟨R, 3, none⟩ (.slice f1.A3 rs1.fails.length f1.c3)).setCell ⟨R, 4, none⟩ (.int .i64 rs1.lim)).setCell ⟨R, 5, none⟩ (.int .i64 rs1.clock)).setCell ⟨R, 6, none⟩ (.int .u64 rs1.ch)).setCell ⟨R, 7, none⟩ (.slice f1.AF rs1.files.length f1.cF)).setCell ⟨R, 8, none⟩ (.int .i64 rs1.taken)).setCell ⟨R, 9, none⟩ (.slice f1.AO rs1.opn.length f1.cO)).setCell ⟨R, 10, none⟩ (.int .u64 rs1.num)).setCell ⟨R, 11, none⟩ (.slice f1.AE rs1.events.length f1.cE)) := Tur.set12 (.slice f1.A0 f1.n0 f1.c0) (.string rs1.stdin) (.slice f1.A2 rs1.replies.length f1.c2) (.slice f1.A3 rs1.fails.length f1.c3) (.int .i64 rs1.lim) (.int .i64 rs1.clock) (.int .u64 rs1.ch) (.slice f1.AF rs1.files.length f1.cF) (.int .i64 rs1.taken) (.slice f1.AO rs1.opn.length f1.cO) (.int .u64 rs1.num) (.slice f1.AE rs1.events.length f1.cE)
                have HQ9 := Lib.hid (HXd.out.q.box (g := R) hs12 (by have := HBE.out; omega) (by have := HBE.out; omega))
                have HB9 := Lib.hid (HXd.out.b.keep hs12 hBR)
                have HA9 := Lib.hid (HXd.out.a.keep hs12 hAR)
                have HR9 := Lib.hid (HXd.out.r.set12 (.slice f1.A0 f1.n0 f1.c0) (.string rs1.stdin) (.slice f1.A2 rs1.replies.length f1.c2) (.slice f1.A3 rs1.fails.length f1.c3) (.int .i64 rs1.lim) (.int .i64 rs1.clock) (.int .u64 rs1.ch) (.slice f1.AF rs1.files.length f1.cF) (.int .i64 rs1.taken) (.slice f1.AO rs1.opn.length f1.cO) (.int .u64 rs1.num) (.slice f1.AE rs1.events.length f1.cE))
                have HQQ9 := Lib.hid (HXd.out.qq.keep hs12 hQR)
                clear hs12
                generalize ((((((((((((w8.setCell ⟨R, 0, none⟩ (.slice f1.A0 f1.n0 f1.c0)).setCell ⟨R, 1, none⟩ (.string rs1.stdin)).setCell ⟨R, 2, none⟩ (.slice f1.A2 rs1.replies.length f1.c2)).setCell ⟨R, 3, none⟩ (.slice f1.A3 rs1.fails.length f1.c3)).setCell ⟨R, 4, none⟩ (.int .i64 rs1.lim)).setCell ⟨R, 5, none⟩ (.int .i64 rs1.clock)).setCell ⟨R, 6, none⟩ (.int .u64 rs1.ch)).setCell ⟨R, 7, none⟩ (.slice f1.AF rs1.files.length f1.cF)).setCell ⟨R, 8, none⟩ (.int .i64 rs1.taken)).setCell ⟨R, 9, none⟩ (.slice f1.AO rs1.opn.length f1.cO)).setCell ⟨R, 10, none⟩ (.int .u64 rs1.num)).setCell ⟨R, 11, none⟩ (.slice f1.AE rs1.events.length f1.cE)) = w9 at *
                refine HM.out _ _ ⟨HB9.out, HA9.out⟩ ?_
                clear HM M
                refine ord_alone (fun M hM => ?_)
                have HM := Lib.hid hM
                clear hM
                obtain ⟨⟨y0, y1, y2, y3, y4⟩, z0, z1, z2, z3, z4⟩ := HQQ9.out.five
                obtain ⟨⟨b0, b1, b2, b3, b4, b5, b6, b7, b8, b9, b10, b11⟩, -⟩ := HB9.out.twelve
                go_wp2_with fail
                clear y0 y1 y2 y3 y4 z0 z1 z2 z3 z4 b0 b1 b2 b3 b4 b5 b6 b7 b8 b9 b10 b11
                have hs5 : Tur (· = Q) w9 (((((w9.setCell ⟨Q, 0, none⟩ (.int .u8 k)).setCell ⟨Q, 1, none⟩ (.string name)).setCell ⟨Q, 2, none⟩ (.string (l.extract hh l.size))).setCell ⟨Q, 3, none⟩ (.bool true)).setCell ⟨Q, 4, none⟩ (.bool false)) := Tur.set5 (.int .u8 k) (.string name) (.string (l.extract hh l.size)) (.bool true) (.bool false)
                have HQ10 := Lib.hid (HQ9.out.box (g := Q) hs5 (by have := HBE.out; omega) (by have := HBE.out; omega))
                have HB10 := Lib.hid (HB9.out.keep hs5 hBQ)
                have HA10 := Lib.hid (HA9.out.keep hs5 hAQ)
                have HR10 := Lib.hid (HR9.out.keep hs5 hRQ)
                have HQQ10 := Lib.hid (HQQ9.out.set5 (.int .u8 k) (.string name) (.string (l.extract hh l.size)) (.bool true) (.bool false))
                clear hs5
                generalize (((((w9.setCell ⟨Q, 0, none⟩ (.int .u8 k)).setCell ⟨Q, 1, none⟩ (.string name)).setCell ⟨Q, 2, none⟩ (.string (l.extract hh l.size))).setCell ⟨Q, 3, none⟩ (.bool true)).setCell ⟨Q, 4, none⟩ (.bool false)) = w10 at *
                refine HM.out _ _ ⟨HB10.out, HA10.out⟩ ?_
                clear HM M
                iterate 3 (
                  refine ord_read ?_ (fun wd hS M hM => ?_) ?_ ?_
                  rotate_left
                  · have HM := Lib.hid hM
                    obtain ⟨⟨b0, b1, b2, b3, b4, b5, b6, b7, b8, b9, b10, b11⟩, -⟩ := hS.1.twelve
                    obtain ⟨⟨a0, a1, a2, a3, a4⟩, -⟩ := hS.2.five
                    clear hM hS
                    go_wp2_with fail
                    exact HM.out
                  · rfl)
                refine NoPanic.normal (?_ : _)
                go_wp2_with fail
                obtain ⟨⟨x0, x1, x2, x3, x4, x5, x6, x7, x8, x9, x10, x11⟩, -⟩ := HR10.out.twelve
                obtain ⟨⟨y0, y1, y2, y3, y4⟩, -⟩ := HQQ10.out.five
                refine bodyPost_ret (v := .tuple #[.agg #[.slice f1.A0 f1.n0 f1.c0, .string rs1.stdin, .slice f1.A2 rs1.replies.length f1.c2, .slice f1.A3 rs1.fails.length f1.c3, .int .i64 rs1.lim, .int .i64 rs1.clock, .int .u64 rs1.ch, .slice f1.AF rs1.files.length f1.cF, .int .i64 rs1.taken, .slice f1.AO rs1.opn.length f1.cO, .int .u64 rs1.num, .slice f1.AE rs1.events.length f1.cE], .agg #[.int .u8 k, .string name, .string (l.extract hh l.size), .bool true, .bool false], .string (x.extract 0 pp), .bool true, .int .i64 0]) (by simp [results, Tryd.results21, go_sem, x0, x1, x2, x3, x4, x5, x6, x7, x8, x9, x10, x11, y0, y1, y2, y3, y4]) rfl ?_
                refine ⟨f1, rs1, (l.extract hh l.size), true, 0, ((x.extract 0 pp) : ByteArray).data.toList, true, by rw [back]; rfl, ⟨l, HPP.out, .inr ⟨rfl, ?_, ?_, ?_⟩⟩, HQ10.out.out (by have := HBE.out; omega), HQ10.out.below⟩
                · rw [HTE.out]; exact HRX.out.symm
                · rw [HTE.out]; show true = !decide (Rd.pRec l.data.toList = []); rw [HRX.out, decide_eq_false HNE.out]; rfl
                · rw [HTE.out]; apply ByteArray.ext; apply Array.toList_inj.1; rw [ext_tail]; exact HREST.out.symm
            · have hq2 : ((x[pp].toNat : Int) == 10) = false := ten_no hq
              have HRX : Hid (Rd.pRec l.data.toList = x.data.toList) := by
                unfold Hid
                rw [HR2.out]
                exact (Rd.suffix_ten x.data.toList).2 (fun _ => by simp only [hl1]; exact hq)
              have HNE : Hid (x.data.toList ≠ []) := data_ne (by omega)
              have hpz : ((pp : Int) + 1 == 0) = false := beq_eq_false_iff_ne.2 (by omega)
              clear HR2 hl1 hq
              have HN2 := Lib.hid ((HNB.out.set HAX.out 2 (.string (l.extract hh l.size)) (l.extract hh l.size) true true rfl).set HAX.out 4 (.bool false) (l.extract hh l.size) true false rfl)
              go_upto_region 25 with (fail)
              generalize (wr.setCell ⟨A, 2, none⟩ (.string (l.extract hh l.size))).setCell ⟨A, 4, none⟩ (.bool false) = w17 at *
              clear a0 a1 a2 a3 a4 c0 c1 c2 c3 c4
              have HXd := Lib.hid (HN2.out.pure (Below.refl w17.heap.size w17).drew)
              refine wp_region_noPanic ?_
              refine wp_region_ord (fun wd => Blk wd B 46 #[.slice f1.A0 f1.n0 f1.c0, .string rs1.stdin, .slice f1.A2 rs1.replies.length f1.c2, .slice f1.A3 rs1.fails.length f1.c3, .int .i64 rs1.lim, .int .i64 rs1.clock, .int .u64 rs1.ch, .slice f1.AF rs1.files.length f1.cF, .int .i64 rs1.taken, .slice f1.AO rs1.opn.length f1.cO, .int .u64 rs1.num, .slice f1.AE rs1.events.length f1.cE] ∧ Blk wd A 55 #[.int .u8 k, .string name, .string (l.extract hh l.size), .bool true, .bool false]) (.read 0 (.read 1 (.read 2 (.read 3 (.read 4 (.read 5 (.alone 6 (.alone 7 (.read 8 (.read 9 (.read 10 .done))))))))))) (by kernel_rfl) (by kernel_rfl) (fun _ _ _ _ _ h => h) ⟨HXd.out.b, HXd.out.a⟩ ?_
              simp only [Ord.ops, List.getElem?_toArray, List.getElem?_cons_zero, List.getElem?_cons_succ]
              generalize w17.drew = w8 at *
              iterate 6 (
                refine ord_read ?_ (fun wd hS M hM => ?_) ?_ ?_
                rotate_left
                · have HM := Lib.hid hM
                  obtain ⟨⟨b0, b1, b2, b3, b4, b5, b6, b7, b8, b9, b10, b11⟩, -⟩ := hS.1.twelve
                  obtain ⟨⟨a0, a1, a2, a3, a4⟩, -⟩ := hS.2.five
                  clear hM hS
                  go_wp2_with fail
                  exact HM.out
                · rfl)
              refine ord_alone (fun M hM => ?_)
              have HM := Lib.hid hM
              clear hM
              obtain ⟨⟨b0, b1, b2, b3, b4, b5, b6, b7, b8, b9, b10, b11⟩, p0, p1, p2, p3, p4, p5, p6, p7, p8, p9, p10, p11⟩ := HXd.out.b.twelve
              obtain ⟨⟨r0, r1, r2, r3, r4, r5, r6, r7, r8, r9, r10, r11⟩, q0, q1, q2, q3, q4, q5, q6, q7, q8, q9, q10, q11⟩ := HXd.out.r.twelve
              obtain ⟨⟨a0, a1, a2, a3, a4⟩, c0, c1, c2, c3, c4⟩ := HXd.out.a.five
              obtain ⟨⟨y0, y1, y2, y3, y4⟩, z0, z1, z2, z3, z4⟩ := HXd.out.qq.five
              go_wp2_with fail
              clear b0 b1 b2 b3 b4 b5 b6 b7 b8 b9 b10 b11 p0 p1 p2 p3 p4 p5 p6 p7 p8 p9 p10 p11 r0 r1 r2 r3 r4 r5 r6 r7 r8 r9 r10 r11 q0 q1 q2 q3 q4 q5 q6 q7 q8 q9 q10 q11 a0 a1 a2 a3 a4 c0 c1 c2 c3 c4 y0 y1 y2 y3 y4 z0 z1 z2 z3 z4
              have hs12 : Tur (· = R) w8 ((((((((((((w8.setCell ⟨R, 0, none⟩ (.slice f1.A0 f1.n0 f1.c0)).setCell ⟨R, 1, none⟩ (.string rs1.stdin)).setCell ⟨R, 2, none⟩ (.slice f1.A2 rs1.replies.length f1.c2)).setCell ⟨R, 3, none⟩ (.slice f1.A3 rs1.fails.length f1.c3)).setCell ⟨R, 4, none⟩ (.int .i64 rs1.lim)).setCell ⟨R, 5, none⟩ (.int .i64 rs1.clock)).setCell ⟨R, 6, none⟩ (.int .u64 rs1.ch)).setCell ⟨R, 7, none⟩ (.slice f1.AF rs1.files.length f1.cF)).setCell ⟨R, 8, none⟩ (.int .i64 rs1.taken)).setCell ⟨R, 9, none⟩ (.slice f1.AO rs1.opn.length f1.cO)).setCell ⟨R, 10, none⟩ (.int .u64 rs1.num)).setCell ⟨R, 11, none⟩ (.slice f1.AE rs1.events.length f1.cE)) := Tur.set12 (.slice f1.A0 f1.n0 f1.c0) (.string rs1.stdin) (.slice f1.A2 rs1.replies.length f1.c2) (.slice f1.A3 rs1.fails.length f1.c3) (.int .i64 rs1.lim) (.int .i64 rs1.clock) (.int .u64 rs1.ch) (.slice f1.AF rs1.files.length f1.cF) (.int .i64 rs1.taken) (.slice f1.AO rs1.opn.length f1.cO) (.int .u64 rs1.num) (.slice f1.AE rs1.events.length f1.cE)
              have HQ9 := Lib.hid (HXd.out.q.box (g := R) hs12 (by have := HBE.out; omega) (by have := HBE.out; omega))
              have HB9 := Lib.hid (HXd.out.b.keep hs12 hBR)
              have HA9 := Lib.hid (HXd.out.a.keep hs12 hAR)
              have HR9 := Lib.hid (HXd.out.r.set12 (.slice f1.A0 f1.n0 f1.c0) (.string rs1.stdin) (.slice f1.A2 rs1.replies.length f1.c2) (.slice f1.A3 rs1.fails.length f1.c3) (.int .i64 rs1.lim) (.int .i64 rs1.clock) (.int .u64 rs1.ch) (.slice f1.AF rs1.files.length f1.cF) (.int .i64 rs1.taken) (.slice f1.AO rs1.opn.length f1.cO) (.int .u64 rs1.num) (.slice f1.AE rs1.events.length f1.cE))
              have HQQ9 := Lib.hid (HXd.out.qq.keep hs12 hQR)
              clear hs12
              generalize ((((((((((((w8.setCell ⟨R, 0, none⟩ (.slice f1.A0 f1.n0 f1.c0)).setCell ⟨R, 1, none⟩ (.string rs1.stdin)).setCell ⟨R, 2, none⟩ (.slice f1.A2 rs1.replies.length f1.c2)).setCell ⟨R, 3, none⟩ (.slice f1.A3 rs1.fails.length f1.c3)).setCell ⟨R, 4, none⟩ (.int .i64 rs1.lim)).setCell ⟨R, 5, none⟩ (.int .i64 rs1.clock)).setCell ⟨R, 6, none⟩ (.int .u64 rs1.ch)).setCell ⟨R, 7, none⟩ (.slice f1.AF rs1.files.length f1.cF)).setCell ⟨R, 8, none⟩ (.int .i64 rs1.taken)).setCell ⟨R, 9, none⟩ (.slice f1.AO rs1.opn.length f1.cO)).setCell ⟨R, 10, none⟩ (.int .u64 rs1.num)).setCell ⟨R, 11, none⟩ (.slice f1.AE rs1.events.length f1.cE)) = w9 at *
              refine HM.out _ _ ⟨HB9.out, HA9.out⟩ ?_
              clear HM M
              refine ord_alone (fun M hM => ?_)
              have HM := Lib.hid hM
              clear hM
              obtain ⟨⟨y0, y1, y2, y3, y4⟩, z0, z1, z2, z3, z4⟩ := HQQ9.out.five
              obtain ⟨⟨b0, b1, b2, b3, b4, b5, b6, b7, b8, b9, b10, b11⟩, -⟩ := HB9.out.twelve
              go_wp2_with fail
              clear y0 y1 y2 y3 y4 z0 z1 z2 z3 z4 b0 b1 b2 b3 b4 b5 b6 b7 b8 b9 b10 b11
              have hs5 : Tur (· = Q) w9 (((((w9.setCell ⟨Q, 0, none⟩ (.int .u8 k)).setCell ⟨Q, 1, none⟩ (.string name)).setCell ⟨Q, 2, none⟩ (.string (l.extract hh l.size))).setCell ⟨Q, 3, none⟩ (.bool true)).setCell ⟨Q, 4, none⟩ (.bool false)) := Tur.set5 (.int .u8 k) (.string name) (.string (l.extract hh l.size)) (.bool true) (.bool false)
              have HQ10 := Lib.hid (HQ9.out.box (g := Q) hs5 (by have := HBE.out; omega) (by have := HBE.out; omega))
              have HB10 := Lib.hid (HB9.out.keep hs5 hBQ)
              have HA10 := Lib.hid (HA9.out.keep hs5 hAQ)
              have HR10 := Lib.hid (HR9.out.keep hs5 hRQ)
              have HQQ10 := Lib.hid (HQQ9.out.set5 (.int .u8 k) (.string name) (.string (l.extract hh l.size)) (.bool true) (.bool false))
              clear hs5
              generalize (((((w9.setCell ⟨Q, 0, none⟩ (.int .u8 k)).setCell ⟨Q, 1, none⟩ (.string name)).setCell ⟨Q, 2, none⟩ (.string (l.extract hh l.size))).setCell ⟨Q, 3, none⟩ (.bool true)).setCell ⟨Q, 4, none⟩ (.bool false)) = w10 at *
              refine HM.out _ _ ⟨HB10.out, HA10.out⟩ ?_
              clear HM M
              iterate 3 (
                refine ord_read ?_ (fun wd hS M hM => ?_) ?_ ?_
                rotate_left
                · have HM := Lib.hid hM
                  obtain ⟨⟨b0, b1, b2, b3, b4, b5, b6, b7, b8, b9, b10, b11⟩, -⟩ := hS.1.twelve
                  obtain ⟨⟨a0, a1, a2, a3, a4⟩, -⟩ := hS.2.five
                  clear hM hS
                  go_wp2_with fail
                  exact HM.out
                · rfl)
              refine NoPanic.normal (?_ : _)
              go_wp2_with fail
              obtain ⟨⟨x0, x1, x2, x3, x4, x5, x6, x7, x8, x9, x10, x11⟩, -⟩ := HR10.out.twelve
              obtain ⟨⟨y0, y1, y2, y3, y4⟩, -⟩ := HQQ10.out.five
              refine bodyPost_ret (v := .tuple #[.agg #[.slice f1.A0 f1.n0 f1.c0, .string rs1.stdin, .slice f1.A2 rs1.replies.length f1.c2, .slice f1.A3 rs1.fails.length f1.c3, .int .i64 rs1.lim, .int .i64 rs1.clock, .int .u64 rs1.ch, .slice f1.AF rs1.files.length f1.cF, .int .i64 rs1.taken, .slice f1.AO rs1.opn.length f1.cO, .int .u64 rs1.num, .slice f1.AE rs1.events.length f1.cE], .agg #[.int .u8 k, .string name, .string (l.extract hh l.size), .bool true, .bool false], .string x, .bool true, .int .i64 0]) (by simp [results, Tryd.results21, go_sem, x0, x1, x2, x3, x4, x5, x6, x7, x8, x9, x10, x11, y0, y1, y2, y3, y4]) rfl ?_
              refine ⟨f1, rs1, (l.extract hh l.size), true, 0, (x : ByteArray).data.toList, true, by rw [back]; rfl, ⟨l, HPP.out, .inr ⟨rfl, ?_, ?_, ?_⟩⟩, HQ10.out.out (by have := HBE.out; omega), HQ10.out.below⟩
              · rw [HTE.out]; exact HRX.out.symm
              · rw [HTE.out]; show true = !decide (Rd.pRec l.data.toList = []); rw [HRX.out, decide_eq_false HNE.out]; rfl
              · rw [HTE.out]; apply ByteArray.ext; apply Array.toList_inj.1; rw [ext_tail]; exact HREST.out.symm
      
end
end Go.Proofs.YtdbdmgmenojcaaaDoor
