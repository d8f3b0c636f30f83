/- In the law of the readers: where its things lie. -/
import Derived.Test.YtdbdmgmenojcaaaDoorG18
import Derived.Test.YtdbdmgmenojcaaaDoorG17
set_option linter.unusedVariables false
set_option linter.unusedSimpArgs false
namespace Go.Proofs.YtdbdmgmenojcaaaDoor
open Go.RowKit Wd
def put12 (wi : World) (g : Nat) (f : Fm) (rs : RSt) : World := ((((((((((((wi.setCell ⟨g, 0, none⟩ (.slice f.A0 f.n0 f.c0)).setCell ⟨g, 1, none⟩ (.string rs.stdin)).setCell ⟨g, 2, none⟩ (.slice f.A2 rs.replies.length f.c2)).setCell ⟨g, 3, none⟩ (.slice f.A3 rs.fails.length f.c3)).setCell ⟨g, 4, none⟩ (.int .i64 rs.lim)).setCell ⟨g, 5, none⟩ (.int .i64 rs.clock)).setCell ⟨g, 6, none⟩ (.int .u64 rs.ch)).setCell ⟨g, 7, none⟩ (.slice f.AF rs.files.length f.cF)).setCell ⟨g, 8, none⟩ (.int .i64 rs.taken)).setCell ⟨g, 9, none⟩ (.slice f.AO rs.opn.length f.cO)).setCell ⟨g, 10, none⟩ (.int .u64 rs.num)).setCell ⟨g, 11, none⟩ (.slice f.AE rs.events.length f.cE))
theorem put12_tur (wi : World) (g : Nat) (f : Fm) (rs : RSt) : Tur (· = g) wi (put12 wi g f rs) := Tur.set12 _ _ _ _ _ _ _ _ _ _ _ _
/-- The blocks of the readers, and of both rows of them. -/
def XB (lv mv : Value) (gs : List Nat) (g : Nat) : Prop := g ∈ gs ∨ lv.ownBlock = some g ∨ mv.ownBlock = some g
def rcellsV (pb : Nat) (r : RdV) : Array Value := rcl pb r.k r.name r.left r.fin r.ended
/-- In the law: the document's world, as it was stored last (f0, rs0), at V; the document's world as it is (f, rs); the readers' row lv, gs their blocks, rl what they are; the document's row mv, ml. -/
structure LR (w wr : World) (V : Nat) (lv mv : Value) (gs : List Nat) (rl ml : List RdV) (f0 : Fm) (rs0 : RSt) (F : Nat → Prop) (pb : Nat) (M : Mem) (st : St) (K : Nat → Prop) (f : Fm) (rs : RSt) : Prop where
  below : Below w.heap.size w wr
  blk : Blk wr V 46 (fcells f0 rs0)
  wat : WAt wr F pb M st
  rf : RF K wr f rs
  apart : ∀ g, K g → ¬ F g
  hV : w.heap.size ≤ V
  fw : ∀ g, F g → w.heap.size ≤ g ∧ g ≠ V
  kV : ∀ g, K g → g ≠ V ∧ g < wr.heap.size
  rowL : wr.ownsRow w.heap.size 22 1 lv gs.length (ptrs gs)
  rowM : wr.ownsRow w.heap.size 55 5 mv ml.length (mvals ml)
  gl : gs.length = rl.length
  rds : ∀ i, (h : i < rl.length) → ∃ g, gs[i]? = some g ∧ Blk wr g 26 (rcellsV pb rl[i])
  nd : gs.Nodup
  x : ∀ g, XB lv mv gs g → ¬ F g ∧ ¬ K g ∧ w.heap.size ≤ g
/-- A box of the law's own. -/
structure Bx (w wr : World) (V : Nat) (lv mv : Value) (gs : List Nat) (F K : Nat → Prop) (T : Nat) (t : TypeId) (cs : Array Value) : Prop where
  blk : Blk wr T t cs
  old : w.heap.size ≤ T
  nF : ¬ F T
  nK : ¬ K T
  nV : T ≠ V
  nX : ¬ XB lv mv gs T
section
variable {w wr wx : World} {V T : Nat} {t : TypeId} {cs : Array Value} {lv mv lv' mv' : Value} {gs : List Nat} {rl ml : List RdV} {F F' K K' G : Nat → Prop} {pb : Nat} {M M' : Mem} {st st' : St} {f f' f0 : Fm} {rs rs' rs0 : RSt}
theorem LR.gAt (h : LR w wr V lv mv gs rl ml f0 rs0 F pb M st K f rs) {g : Nat} (hg : g ∈ gs) : ∃ cs, Blk wr g 26 cs := by
  obtain ⟨i, hi, rfl⟩ := List.getElem_of_mem hg
  obtain ⟨g, h1, h2⟩ := h.rds i (by rw [← h.gl]; exact hi)
  rw [List.getElem?_eq_getElem hi] at h1
  exact ⟨_, by rw [Option.some.inj h1]; exact h2⟩
theorem LR.xlt (h : LR w wr V lv mv gs rl ml f0 rs0 F pb M st K f rs) {g : Nat} (hg : XB lv mv gs g) : g < wr.heap.size ∧ g ≠ V := by
  rcases hg with hg | hg | hg
  · obtain ⟨cs, hb⟩ := h.gAt hg
    exact ⟨hb.lt, cells_ne hb h.blk (by decide)⟩
  · obtain ⟨cs, hb, hl⟩ := own_lt h.rowL hg
    exact ⟨hl, cells_ne hb h.blk (by decide)⟩
  · obtain ⟨cs, hb, hl⟩ := own_lt h.rowM hg
    exact ⟨hl, cells_ne hb h.blk (by decide)⟩
/-- A new box. -/
theorem LR.box (h : LR w wr V lv mv gs rl ml f0 rs0 F pb M st K f rs) (t : TypeId) (cs : Array Value) : Bx w (wr.alloc (.cells cs t)) V lv mv gs F (fun b => K b ∧ b < wr.heap.size) wr.heap.size t cs :=
  ⟨Blk.new wr t cs, h.below.size, fun e => by have := h.wat.flt _ e; omega, fun e => by have := e.2; omega, fun e => by have := h.blk.lt; omega, fun e => by have := (h.xlt e).1; omega⟩
theorem Bx.pure (h : Bx w wr V lv mv gs F K T t cs) (hb : Below wr.heap.size wr wx) : Bx w wx V lv mv gs F (fun b => K b ∧ b < wr.heap.size) T t cs :=
  ⟨below_blk h.blk hb h.blk.lt, h.old, h.nF, fun e => h.nK e.1, h.nV, h.nX⟩
theorem LR.pure (h : LR w wr V lv mv gs rl ml f0 rs0 F pb M st K f rs) (hb : Below wr.heap.size wr wx) : LR w wx V lv mv gs rl ml f0 rs0 F pb M st (fun b => K b ∧ b < wr.heap.size) f rs where
  below := h.below.trans (hb.mono h.below.size)
  blk := below_blk h.blk hb h.blk.lt
  wat := h.wat.pure hb
  rf := RAt.pure (RAt.mono h.rf (fun b hb hK => ⟨hK, hb⟩)) hb
  apart := fun g hg => h.apart g hg.1
  hV := h.hV
  fw := h.fw
  kV := fun g hg => ⟨(h.kV g hg.1).1, Nat.lt_of_lt_of_le hg.2 hb.size⟩
  rowL := own_of_block h.rowL (fun g hg => hb.block g (own_lt h.rowL hg).choose_spec.2)
  rowM := own_of_block h.rowM (fun g hg => hb.block g (own_lt h.rowM hg).choose_spec.2)
  gl := h.gl
  rds := fun i hi => by
    obtain ⟨g, h1, h2⟩ := h.rds i hi
    exact ⟨g, h1, below_blk h2 hb h2.lt⟩
  nd := h.nd
  x := fun g hg => by
    obtain ⟨h1, h2, h3⟩ := h.x g hg
    exact ⟨h1, fun e => h2 e.1, h3⟩
theorem LR.drew (h : LR w wr V lv mv gs rl ml f0 rs0 F pb M st K f rs) : LR w wr.drew V lv mv gs rl ml f0 rs0 F pb M st (fun b => K b ∧ b < wr.heap.size) f rs := h.pure (Below.refl _ _).drew
/-- A call of the document's, that hands a world back. -/
theorem LR.doc (h : LR w wr V lv mv gs rl ml f0 rs0 F pb M st K f rs) (hb : Below wr.heap.size wr wx) (hr : RF (Nw K wr) wx f' rs') : LR w wx V lv mv gs rl ml f0 rs0 F pb M st (fun b => Nw K wr b ∧ b < wx.heap.size) f' rs' :=
  { h.pure hb with
    rf := RAt.mono hr (fun b hb hK => ⟨hK, hb⟩)
    apart := fun g hg e => by
      have := h.wat.flt g e
      rcases hg.1 with h1 | h1
      · exact h.apart g h1 e
      · omega
    kV := fun g hg => by
      refine ⟨?_, hg.2⟩
      rcases hg.1 with h1 | h1
      · exact (h.kV g h1).1
      · have := h.blk.lt; omega
    x := fun g hg => by
      obtain ⟨h1, h2, h3⟩ := h.x g hg
      have h4 := (h.xlt hg).1
      refine ⟨h1, fun e => ?_, h3⟩
      rcases e.1 with e | e
      · exact h2 e
      · omega }
theorem Bx.doc (h : Bx w wr V lv mv gs F K T t cs) (hb : Below wr.heap.size wr wx) : Bx w wx V lv mv gs F (fun b => Nw K wr b ∧ b < wx.heap.size) T t cs :=
  ⟨below_blk h.blk hb h.blk.lt, h.old, h.nF, fun e => by
    have := h.blk.lt
    rcases e.1 with e | e
    · exact h.nK e
    · omega, h.nV, h.nX⟩
/-- A call of the program's; one reader may have turned. -/
theorem LR.mineG (h : LR w wr V lv mv gs rl ml f0 rs0 F pb M st K f rs) (rl' : List RdV) (hl : rl'.length = rl.length) (hw : WAt wx F' pb M' st') (ht : Tur G wr wx) (hT : ∀ g, G g → F g ∨ g ∈ gs)
    (hF : ∀ g, F' g → F g ∨ wr.heap.size ≤ g) (hr : ∀ i, (hi : i < rl'.length) → ∃ g, gs[i]? = some g ∧ Blk wx g 26 (rcellsV pb rl'[i])) :
    LR w wx V lv mv gs rl' ml f0 rs0 F' pb M' st' (fun b => K b ∧ b < wr.heap.size) f rs := by
  have l1 := h.blk.lt
  have l2 := h.below.size
  have hTV : ¬ G V := fun e => by
    rcases hT V e with e | e
    · exact (h.fw V e).2 rfl
    · exact (h.xlt (.inl e)).2 rfl
  have rowk : ∀ (u : Value) (t : TypeId) (sz n : Nat) (cs : List Value), wr.ownsRow w.heap.size t sz u n cs → t ≠ 26 → (∀ g, u.ownBlock = some g → ¬ F g) → wx.ownsRow w.heap.size t sz u n cs := by
    intro u t sz n cs hr ht1 hnF
    refine own_of_block hr (fun g hg => ?_)
    obtain ⟨cur, hc, hlt⟩ := own_lt hr hg
    exact ht.block g hlt (fun e => by
      rcases hT g e with e | e
      · exact hnF g hg e
      · obtain ⟨cs', hb'⟩ := h.gAt e
        exact cells_ne hc hb' ht1 rfl)
  refine ⟨?_, h.blk.keep ht hTV, hw, ?_, ?_, h.hV, ?_, fun g hg => ⟨(h.kV g hg.1).1, Nat.lt_of_lt_of_le hg.2 ht.size⟩, ?_, ?_, by rw [hl]; exact h.gl, hr, h.nd, ?_⟩
  · exact h.below.trans (ht.below _ l2 (fun k hk e => by
      rcases hT k e with e | e
      · have := (h.fw k e).1; omega
      · have := (h.x k (.inl e)).2.2; omega))
  · exact RAt.keep (RAt.mono h.rf (fun b hb hK => ⟨hK, hb⟩)) ht.size (fun b hb hK => ht.block b hb (fun e => by
      rcases hT b e with e | e
      · exact h.apart b hK.1 e
      · exact (h.x b (.inl e)).2.1 hK.1))
  · intro g hg e
    rcases hF g e with e | e
    · exact h.apart g hg.1 e
    · have := hg.2; omega
  · intro g hg
    rcases hF g hg with e | e
    · exact h.fw g e
    · refine ⟨?_, ?_⟩ <;> omega
  · exact rowk _ _ _ _ _ h.rowL (by decide) (fun g hg => (h.x g (.inr (.inl hg))).1)
  · exact rowk _ _ _ _ _ h.rowM (by decide) (fun g hg => (h.x g (.inr (.inr hg))).1)
  · intro g hg
    obtain ⟨h1, h2, h3⟩ := h.x g hg
    have h4 := (h.xlt hg).1
    refine ⟨fun e => ?_, fun e => h2 e.1, h3⟩
    rcases hF g e with e | e
    · exact h1 e
    · omega
theorem LR.mine (h : LR w wr V lv mv gs rl ml f0 rs0 F pb M st K f rs) (hw : WAt wx F' pb M' st') (ht : Tur F wr wx) (hF : ∀ g, F' g → F g ∨ wr.heap.size ≤ g) :
    LR w wx V lv mv gs rl ml f0 rs0 F' pb M' st' (fun b => K b ∧ b < wr.heap.size) f rs :=
  h.mineG rl rfl hw ht (fun g hg => .inl hg) hF (fun i hi => by
    obtain ⟨g, h1, h2⟩ := h.rds i hi
    exact ⟨g, h1, h2.keep ht (fun e => (h.x g (.inl (List.mem_of_getElem? h1))).1 e)⟩)
theorem LR.nexted (h : LR w wr V lv mv gs rl ml f0 rs0 F pb M st K f rs) (i g : Nat) (hi : i < rl.length) (hg : gs[i]? = some g) (r : RdV) (hr : Blk wx g 26 (rcellsV pb r)) (hw : WAt wx F pb M' st') (ht : Tur (FR F g) wr wx) :
    LR w wx V lv mv gs (rl.set i r) ml f0 rs0 F pb M' st' (fun b => K b ∧ b < wr.heap.size) f rs :=
  h.mineG (rl.set i r) (by simp) hw ht (fun j hj => hj.elim .inl (fun e => .inr (by rw [e]; exact List.mem_of_getElem? hg))) (fun g hg => .inl hg) (fun j hj => by
    have hj' : j < rl.length := by simpa using hj
    rw [List.getElem_set]
    by_cases e : i = j
    · subst e
      rw [if_pos rfl]
      exact ⟨g, hg, hr⟩
    · rw [if_neg e]
      obtain ⟨g', h1, h2⟩ := h.rds j hj'
      refine ⟨g', h1, h2.keep ht (fun e2 => ?_)⟩
      rcases e2 with e2 | e2
      · exact (h.x g' (.inl (List.mem_of_getElem? h1))).1 e2
      · subst e2
        have hi2 : i < gs.length := by rw [h.gl]; exact hi
        have hj2 : j < gs.length := by rw [h.gl]; exact hj'
        rw [List.getElem?_eq_getElem hi2] at hg
        rw [List.getElem?_eq_getElem hj2] at h1
        exact e ((List.getElem_inj h.nd).1 ((Option.some.inj hg).trans (Option.some.inj h1).symm)))
/-- A box stays, whatever the program's call turns. -/
theorem Bx.mine (h : Bx w wr V lv mv gs F K T t cs) (ht : Tur G wr wx) (hT : ∀ g, G g → F g ∨ g ∈ gs) (hF : ∀ g, F' g → F g ∨ wr.heap.size ≤ g) : Bx w wx V lv mv gs F' (fun b => K b ∧ b < wr.heap.size) T t cs :=
  ⟨h.blk.keep ht (fun e => by
    rcases hT T e with e | e
    · exact h.nF e
    · exact h.nX (.inl e)), h.old, fun e => by
    have := h.blk.lt
    rcases hF T e with e | e
    · exact h.nF e
    · omega, fun e => h.nK e.1, h.nV, h.nX⟩
/-- The store of the world that the document handed back. -/
theorem LR.stored (h : LR w wr V lv mv gs rl ml f0 rs0 F pb M st K f rs) : LR w (put12 wr V f rs) V lv mv gs rl ml f rs F pb M st (fun b => K b ∧ b < wr.heap.size) f rs := by
  have hp := put12_tur wr V f rs
  refine ⟨h.below.trans (hp.below _ h.below.size (fun k hk e => by have e : k = V := e; have := h.hV; omega)), h.blk.set12 _ _ _ _ _ _ _ _ _ _ _ _, h.wat.keep hp.size (fun k hk e => hp.block k hk (fun e2 => (h.fw k e).2 e2)), RAt.keep (RAt.mono h.rf (fun b hb hK => ⟨hK, hb⟩)) hp.size (fun b hb hK => hp.block b hb (fun e => (h.kV b hK.1).1 e)), fun g hg => h.apart g hg.1, h.hV, h.fw, fun g hg => ⟨(h.kV g hg.1).1, Nat.lt_of_lt_of_le hg.2 hp.size⟩, ?_, ?_, h.gl, ?_, h.nd, ?_⟩
  · exact own_of_block h.rowL (fun g hg => hp.block g (own_lt h.rowL hg).choose_spec.2 (fun e => (h.xlt (.inr (.inl hg))).2 e))
  · exact own_of_block h.rowM (fun g hg => hp.block g (own_lt h.rowM hg).choose_spec.2 (fun e => (h.xlt (.inr (.inr hg))).2 e))
  · intro i hi
    obtain ⟨g, h1, h2⟩ := h.rds i hi
    exact ⟨g, h1, h2.keep hp (fun e => (h.xlt (.inl (List.mem_of_getElem? h1))).2 e)⟩
  · intro g hg
    obtain ⟨h1, h2, h3⟩ := h.x g hg
    exact ⟨h1, fun e => h2 e.1, h3⟩
theorem Bx.stored (h : Bx w wr V lv mv gs F K T t cs) (f : Fm) (rs : RSt) : Bx w (put12 wr V f rs) V lv mv gs F (fun b => K b ∧ b < wr.heap.size) T t cs :=
  ⟨h.blk.keep (put12_tur wr V f rs) h.nV, h.old, h.nF, fun e => h.nK e.1, h.nV, h.nX⟩
/-- A store in a box. -/
theorem LR.boxed (h : LR w wr V lv mv gs rl ml f0 rs0 F pb M st K f rs) (hx : Bx w wr V lv mv gs F K T t cs) (ht : Tur (· = T) wr wx) : LR w wx V lv mv gs rl ml f0 rs0 F pb M st (fun b => K b ∧ b < wr.heap.size) f rs := by
  refine ⟨h.below.trans (ht.below _ h.below.size (fun k hk e => by have e : k = T := e; have := hx.old; omega)), h.blk.keep ht (fun e => hx.nV e.symm), h.wat.keep ht.size (fun k hk e => ht.block k hk (fun e2 => hx.nF (by rw [← show k = T from e2]; exact e))), RAt.keep (RAt.mono h.rf (fun b hb hK => ⟨hK, hb⟩)) ht.size (fun b hb hK => ht.block b hb (fun e => hx.nK (by rw [← show b = T from e]; exact hK.1))), fun g hg => h.apart g hg.1, h.hV, h.fw, fun g hg => ⟨(h.kV g hg.1).1, Nat.lt_of_lt_of_le hg.2 ht.size⟩, ?_, ?_, h.gl, ?_, h.nd, ?_⟩
  · exact own_of_block h.rowL (fun g hg => ht.block g (own_lt h.rowL hg).choose_spec.2 (fun e => hx.nX (.inr (.inl (by rw [← show g = T from e]; exact hg)))))
  · exact own_of_block h.rowM (fun g hg => ht.block g (own_lt h.rowM hg).choose_spec.2 (fun e => hx.nX (.inr (.inr (by rw [← show g = T from e]; exact hg)))))
  · intro i hi
    obtain ⟨g, h1, h2⟩ := h.rds i hi
    exact ⟨g, h1, h2.keep ht (fun e => hx.nX (.inl (by rw [← show g = T from e]; exact List.mem_of_getElem? h1)))⟩
  · intro g hg
    obtain ⟨h1, h2, h3⟩ := h.x g hg
    exact ⟨h1, fun e => h2 e.1, h3⟩
theorem Bx.boxed {T2 : Nat} {t2 : TypeId} {cs2 : Array Value} (h : Bx w wr V lv mv gs F K T2 t2 cs2) (hne : T2 ≠ T) (ht : Tur (· = T) wr wx) : Bx w wx V lv mv gs F (fun b => K b ∧ b < wr.heap.size) T2 t2 cs2 :=
  ⟨h.blk.keep ht hne, h.old, h.nF, fun e => h.nK e.1, h.nV, h.nX⟩
/-- The program's row grows: a reader more. -/
theorem LR.moreL (h : LR w wr V lv mv gs rl ml f0 rs0 F pb M st K f rs) (rb : Nat) (r : RdV) (hrb : Blk wr rb 26 (rcellsV pb r)) (hn : rb ∉ gs) (hx : ¬ F rb ∧ ¬ K rb ∧ w.heap.size ≤ rb) (hg : wr.grownBy wx lv.ownBlock) (ho : wx.ownsRow w.heap.size 22 1 lv' (gs ++ [rb]).length (ptrs (gs ++ [rb])))
    (hat : ∀ g, lv'.ownBlock = some g → lv.ownBlock = some g ∨ wr.heap.size ≤ g) : LR w wx V lv' mv (gs ++ [rb]) (rl ++ [r]) ml f0 rs0 F pb M st (fun b => K b ∧ b < wr.heap.size) f rs := by
  have ht := Tur.of_grown hg
  have hno : ∀ (b : Nat) (t : TypeId) (cs : Array Value), wr.heap[b]? = some (.cells cs t (0, 0)) → t ≠ 22 → ¬ some b = lv.ownBlock := by
    intro b t cs hb hne e
    obtain ⟨cs', hc, -⟩ := own_lt h.rowL e.symm
    exact cells_ne hb hc hne rfl
  have hFX : ∀ g, some g = lv.ownBlock → ¬ F g ∧ ¬ K g ∧ w.heap.size ≤ g := fun g e => h.x g (.inr (.inl e.symm))
  refine ⟨h.below.trans (ht.below _ h.below.size (fun k hk e => by have := (hFX k e).2.2; omega)), h.blk.keep ht (hno _ _ _ h.blk (by decide)), h.wat.keep ht.size (fun k hk e => ht.block k hk (fun e2 => (hFX k e2).1 e)), RAt.keep (RAt.mono h.rf (fun b hb hK => ⟨hK, hb⟩)) ht.size (fun b hb hK => ht.block b hb (fun e => (hFX b e).2.1 hK.1)), fun g hg => h.apart g hg.1, h.hV, h.fw, fun g hg => ⟨(h.kV g hg.1).1, Nat.lt_of_lt_of_le hg.2 ht.size⟩, ho, own_of_block h.rowM (fun g hg2 => ht.block g (own_lt h.rowM hg2).choose_spec.2 (hno g _ _ (own_lt h.rowM hg2).choose_spec.1 (by decide))), by simp [h.gl], ?_, ?_, ?_⟩
  · intro i hi
    by_cases e : i < rl.length
    · obtain ⟨g, h1, h2⟩ := h.rds i e
      rw [List.getElem_append_left e]
      exact ⟨g, by rw [List.getElem?_append_left (by rw [h.gl]; exact e)]; exact h1, h2.keep ht (hno _ _ _ h2 (by decide))⟩
    · have e2 : i = rl.length := by rw [List.length_append] at hi; simp at hi; omega
      subst e2
      refine ⟨rb, by rw [← h.gl]; simp, ?_⟩
      rw [List.getElem_append_right (Nat.le_refl _)]
      simpa using hrb.keep ht (hno _ _ _ hrb (by decide))
  · rw [List.nodup_append]
    exact ⟨h.nd, by simp, fun a ha b hb e => by rw [List.mem_singleton.1 hb] at e; subst e; exact hn ha⟩
  · intro g hg
    have hb0 := h.below.size
    rcases hg with hg | hg | hg
    · rcases List.mem_append.1 hg with hg | hg
      · obtain ⟨a, b, c⟩ := h.x g (.inl hg)
        exact ⟨a, fun e => b e.1, c⟩
      · rw [List.mem_singleton.1 hg]
        exact ⟨hx.1, fun e => hx.2.1 e.1, hx.2.2⟩
    · rcases hat g hg with e | e
      · obtain ⟨a, b, c⟩ := h.x g (.inr (.inl e))
        exact ⟨a, fun e => b e.1, c⟩
      · exact ⟨fun e2 => by have := h.wat.flt g e2; omega, fun e2 => by have := e2.2; omega, by omega⟩
    · obtain ⟨a, b, c⟩ := h.x g (.inr (.inr hg))
      exact ⟨a, fun e => b e.1, c⟩
/-- The document's row turns (it grows, or is stored in). -/
theorem LR.turnM (h : LR w wr V lv mv gs rl ml f0 rs0 F pb M st K f rs) (ml' : List RdV) (ht : Tur (fun k => some k = mv.ownBlock) wr wx) (ho : wx.ownsRow w.heap.size 55 5 mv' ml'.length (mvals ml'))
    (hat : ∀ g, mv'.ownBlock = some g → mv.ownBlock = some g ∨ wr.heap.size ≤ g) : LR w wx V lv mv' gs rl ml' f0 rs0 F pb M st (fun b => K b ∧ b < wr.heap.size) f rs := by
  have hno : ∀ (b : Nat) (t : TypeId) (cs : Array Value), wr.heap[b]? = some (.cells cs t (0, 0)) → t ≠ 55 → ¬ some b = mv.ownBlock := by
    intro b t cs hb hne e
    obtain ⟨cs', hc, -⟩ := own_lt h.rowM e.symm
    exact cells_ne hb hc hne rfl
  have hFX : ∀ g, some g = mv.ownBlock → ¬ F g ∧ ¬ K g ∧ w.heap.size ≤ g := fun g e => h.x g (.inr (.inr e.symm))
  refine ⟨h.below.trans (ht.below _ h.below.size (fun k hk e => by have := (hFX k e).2.2; omega)), h.blk.keep ht (hno _ _ _ h.blk (by decide)), h.wat.keep ht.size (fun k hk e => ht.block k hk (fun e2 => (hFX k e2).1 e)), RAt.keep (RAt.mono h.rf (fun b hb hK => ⟨hK, hb⟩)) ht.size (fun b hb hK => ht.block b hb (fun e => (hFX b e).2.1 hK.1)), fun g hg => h.apart g hg.1, h.hV, h.fw, fun g hg => ⟨(h.kV g hg.1).1, Nat.lt_of_lt_of_le hg.2 ht.size⟩, own_of_block h.rowL (fun g hg2 => ht.block g (own_lt h.rowL hg2).choose_spec.2 (hno g _ _ (own_lt h.rowL hg2).choose_spec.1 (by decide))), ho, h.gl, ?_, h.nd, ?_⟩
  · intro i hi
    obtain ⟨g, h1, h2⟩ := h.rds i hi
    exact ⟨g, h1, h2.keep ht (hno _ _ _ h2 (by decide))⟩
  · intro g hg
    have hb0 := h.below.size
    rcases hg with hg | hg | hg
    · obtain ⟨a, b, c⟩ := h.x g (.inl hg)
      exact ⟨a, fun e => b e.1, c⟩
    · obtain ⟨a, b, c⟩ := h.x g (.inr (.inl hg))
      exact ⟨a, fun e => b e.1, c⟩
    · rcases hat g hg with e | e
      · obtain ⟨a, b, c⟩ := h.x g (.inr (.inr e))
        exact ⟨a, fun e => b e.1, c⟩
      · exact ⟨fun e2 => by have := h.wat.flt g e2; omega, fun e2 => by have := e2.2; omega, by omega⟩
end
end Go.Proofs.YtdbdmgmenojcaaaDoor
namespace Go.Proofs.YtdbdmgmenojcaaaDoor
open Go.RowKit Wd
section
variable {P : Program} {w : World}
/-- 'append(out, x)', x one element that lies in a block made before. -/
theorem wp_app_cells {ops : Array Oper} {rest : List Oper} {o : Oper} {a : Act} {Q : Exit → Act → World → Prop} (hgd : o.guard = none) (s x : Operand) (t : TypeId)
    (ho : o.op = .call { callee := .builtin .append, args := #[s, x], argTypes := #[t, t] })
    (e size bytes : Nat) (z : Value) (ht : P.underlying t = some (.slice e)) (hinf : (P.info? e).map (fun i => (i.zero, i.size, i.bytes)) = some (some z, size, bytes)) (hzs : z.cells.size = size) (hsz : 0 < size)
    (base : Nat) (v : Value) (n : Nat) (xs : List Value) (hs : a.eval s = v) (hown : w.ownsRow base e size v n xs)
    (news : List Value) (S : Nat) (hx : a.eval x = .slice (some ⟨S, 0, none⟩) 1 1) (hl : news.length = size) (hc : Blk w S e news.toArray) (h1 : ∀ u ∈ news, u.oneCell' = true)
    (h63 : n + 1 ≤ maxLen) (hbytes : (n + 1) * bytes ≤ 140737488355328) (hbase : base ≤ w.heap.size)
    (h : ∀ g cap w', n + 1 ≤ cap → cap ≤ maxLen → w'.ownsRow base e size (.slice (some ⟨g, 0, none⟩) (n + 1) cap) (n + 1) (xs ++ news) → w.grownBy w' v.ownBlock → (v.ownBlock = some g ∨ w.heap.size ≤ g) → wpList P ops Q rest (a.put o.dst (.slice (some ⟨g, 0, none⟩) (n + 1) cap)) w') : wpList P ops Q (o :: rest) a w := by
  obtain ⟨i, hi, hz0, hz1, hz2⟩ := info_parts hinf
  refine wpList_append_own_at _ hgd s x t ho base e i z size bytes ht hi hz0 hz1 hz2 hzs hsz v n xs hs hown ⟨S, 0, none⟩ 1 1 news hx (by omega) ?_ h1 h63 hbytes (by omega) ?_
  · intro j u hj
    have hj' : j < news.length := (List.getElem?_eq_some_iff.1 hj).1
    rw [add_off, hc.cell j]
    simpa using hj
  · intro v' w' ho' hg' hn' hat
    rcases ho'.2 with ⟨_, h0⟩ | ⟨g, cap, cur, e1, _, _, h4, h5, _⟩
    · omega
    · subst e1
      refine h g cap w' h4 h5 ho' hg' ?_
      rcases hat with h | h
      · exact Or.inl h.symm
      · right; injection h with hg; simp at hg; omega
end
theorem one_rd (r : RdV) : ∀ u ∈ mv5 r, u.oneCell' = true := by
  intro u hu
  simp [mv5] at hu
  rcases hu with rfl | rfl | rfl | rfl | rfl <;> rfl
theorem info_prd : (Tryd.prog.info? 22).map (fun i => (i.zero, i.size, i.bytes)) = some (some (.pointer none), 1, 8) := by kernel_rfl
theorem info_qrd : (Tryd.prog.info? 55).map (fun i => (i.zero, i.size, i.bytes)) = some (some (.agg #[.int .u8 0, .string ⟨#[]⟩, .string ⟨#[]⟩, .bool false, .bool false]), 5, 48) := by kernel_rfl
section
variable {w wr wx : World} {V T : Nat} {t : TypeId} {cs : Array Value} {lv mv lv' mv' : Value} {gs : List Nat} {F K : Nat → Prop}
theorem Bx.moreL (h : Bx w wr V lv mv gs F K T t cs) (rb : Nat) (hT : T ≠ rb) (hg : wr.grownBy wx lv.ownBlock) (hat : ∀ g, lv'.ownBlock = some g → lv.ownBlock = some g ∨ wr.heap.size ≤ g) : Bx w wx V lv' mv (gs ++ [rb]) F (fun b => K b ∧ b < wr.heap.size) T t cs := by
  have ht := Tur.of_grown hg
  refine ⟨h.blk.keep ht (fun e => h.nX (.inr (.inl e.symm))), h.old, h.nF, fun e => h.nK e.1, h.nV, fun e => ?_⟩
  rcases e with e | e | e
  · rcases List.mem_append.1 e with e | e
    · exact h.nX (.inl e)
    · exact hT (List.mem_singleton.1 e)
  · rcases hat T e with e | e
    · exact h.nX (.inr (.inl e))
    · have := h.blk.lt; omega
  · exact h.nX (.inr (.inr e))
theorem Bx.turnM (h : Bx w wr V lv mv gs F K T t cs) (ht : Tur (fun k => some k = mv.ownBlock) wr wx) (hat : ∀ g, mv'.ownBlock = some g → mv.ownBlock = some g ∨ wr.heap.size ≤ g) : Bx w wx V lv mv' gs F (fun b => K b ∧ b < wr.heap.size) T t cs := by
  refine ⟨h.blk.keep ht (fun e => h.nX (.inr (.inr e.symm))), h.old, h.nF, fun e => h.nK e.1, h.nV, fun e => ?_⟩
  rcases e with e | e | e
  · exact h.nX (.inl e)
  · exact h.nX (.inr (.inl e))
  · rcases hat T e with e | e
    · exact h.nX (.inr (.inr e))
    · have := h.blk.lt; omega
end
/-- The reader that New made, until it stands in the row. -/
structure NewR (w wr : World) (gs : List Nat) (F K : Nat → Prop) (rb : Nat) (cs : Array Value) : Prop where
  blk : Blk wr rb 26 cs
  old : w.heap.size ≤ rb
  nF : ¬ F rb
  nK : ¬ K rb
  nG : rb ∉ gs
section
variable {w wr wx : World} {gs : List Nat} {F K G : Nat → Prop} {rb : Nat} {cs : Array Value}
theorem NewR.keep (h : NewR w wr gs F K rb cs) (ht : Tur G wr wx) (hn : ¬ G rb) : NewR w wx gs F (fun b => K b ∧ b < wr.heap.size) rb cs := ⟨h.blk.keep ht hn, h.old, h.nF, fun e => h.nK e.1, h.nG⟩
theorem NewR.pure (h : NewR w wr gs F K rb cs) (hb : Below wr.heap.size wr wx) : NewR w wx gs F (fun b => K b ∧ b < wr.heap.size) rb cs := ⟨below_blk h.blk hb h.blk.lt, h.old, h.nF, fun e => h.nK e.1, h.nG⟩
theorem NewR.doc (h : NewR w wr gs F K rb cs) (hb : Below wr.heap.size wr wx) : NewR w wx gs F (fun b => Nw K wr b ∧ b < wx.heap.size) rb cs :=
  ⟨below_blk h.blk hb h.blk.lt, h.old, h.nF, fun e => by
    have := h.blk.lt
    rcases e.1 with e | e
    · exact h.nK e
    · omega, h.nG⟩
end
end Go.Proofs.YtdbdmgmenojcaaaDoor
namespace Go.Proofs.YtdbdmgmenojcaaaDoor
open Go.RowKit Wd
/-- What a call that tells a record leaves. -/
def RNext (F : Nat → Prop) (w : World) (rb pb : Nat) (M : Mem) (k : Int) (name : ByteArray) (en : Bool → Bool) (sep : ByteArray) (st : St) (left : ByteArray) (fin : Bool) (e : Ending) (w' : World) : Prop :=
  ∃ (st' : St) (l' : ByteArray) (fn' : Bool) (er : Int) (t : List UInt8) (ok : Bool), e = .returned (.tuple #[.string ⟨t.toArray⟩, .bool ok, .int .i64 er]) ∧ NextLP sep k name st left fin st' l' fn' er t ok ∧ RdX F w' rb pb M st' k name l' fn' (en ok) ∧ Tur (FR F rb) w w'
theorem size0 {l : ByteArray} (h : l.size = 0) : l = ⟨#[]⟩ := by
  apply ByteArray.ext
  apply Array.toList_inj.1
  exact data_nil h
section
variable {F : Nat → Prop} {w0 w : World} {rb pb : Nat} {M : Mem} {st : St} {k : Int} {name left : ByteArray} {fin ended : Bool}
set_option maxRecDepth 100000 in
set_option maxHeartbeats 4000000 in
theorem rp_next1 {z : Nat} (h : RdX F w rb pb M st k name left fin ended) (hb0 : Below w0.heap.size w0 w) (hF : ∀ g, F g → w0.heap.size ≤ g) (hrb0 : w0.heap.size ≤ rb) (hl : Lim z st) (hz : z ≤ 100000) (hls : left.size ≤ 200000) (hsh : w0.ShapedOpen Tryd.prog) (rs : ByteArray) (b : UInt8) (r : List UInt8) (hbr : rs.data.toList = b :: r) :
    Calls Tryd.prog 30 #[.pointer (some ⟨rb, 0, none⟩), .string rs] w (RNext F w rb pb M k name (fun _ => ended) rs st left fin) := by
  have hn : 0 < rs.size := by
    have := congrArg List.length hbr
    have e : rs.data.toList.length = rs.size := rfl
    simp at this; omega
  have hb : rs[0] = b := by
    have e : rs[0] = rs.data.toList[0]'(by rw [hbr]; simp) := rfl
    rw [e]
    simp [hbr]
  have hb1 : Below w.heap.size w ((w.alloc (.cells #[.pointer (some ⟨rb, 0, none⟩)] 22)).alloc (.cells #[.string rs] 9)) := ((Below.refl _ _).alloc (Nat.le_refl _) _).alloc (by simp) _
  have HB1 := Lib.hid hb1
  have HC0 := Lib.hid ((Blk.new w 22 #[.pointer (some ⟨rb, 0, none⟩)]).keep (Tur.of_alloc (F := fun _ => False) _ (.cells #[.string rs] 9)) (fun h => h))
  have hc1 := Blk.new (w.alloc (.cells #[.pointer (some ⟨rb, 0, none⟩)] 22)) 9 #[.string rs]
  rw [show (w.alloc (.cells #[.pointer (some ⟨rb, 0, none⟩)] 22)).heap.size = w.heap.size + 1 by simp] at hc1
  have HC1 := Lib.hid hc1
  have HR1 := Lib.hid (h.pure hb1)
  have HFL := Lib.hid (fun g (hg : FR F rb g) => show g < w.heap.size from hg.elim (fun e => h.wat.flt g e) (fun e => by rw [e]; exact h.rd.lt))
  have HF0 := Lib.hid (fun g (hg : FR F rb g) => show w0.heap.size ≤ g from hg.elim (fun e => hF g e) (fun e => by rw [e]; exact hrb0))
  have HB0 := Lib.hid hb0
  have HLM := Lib.hid hl
  have HZZ := Lib.hid hz
  have HLS := Lib.hid hls
  have hne : rs.toList.isEmpty = false := isEmpty_ne (by omega)
  have HN := Lib.hid (And.intro hn trivial)
  have HBB : Hid (∃ hn : 0 < rs.size, rs[0] = b) := ⟨hn, hb⟩
  have HBR := Lib.hid hbr
  clear hb1 hc1 h hn hb hb0 hF hrb0 hl hz hls hbr
  go_enter Tryd.func30, Tryd.ntmps30
  go_wp2_with fail
  obtain ⟨rc, hrc⟩ : ∃ x, x = w.heap.size := ⟨_, rfl⟩
  rw [← hrc] at HC0 HC1 HB1 HFL ⊢
  obtain ⟨sc, hsc⟩ : ∃ x, x = rc + 1 := ⟨_, rfl⟩
  rw [← hsc] at HC1 ⊢
  have HRC := Lib.hid hrc
  have HSC := Lib.hid hsc
  clear hrc hsc
  generalize (w.alloc (.cells #[.pointer (some ⟨rb, 0, none⟩)] 22)).alloc (.cells #[.string rs] 9) = w1 at *
  have c0 : w1.cell? ⟨rc, 0, none⟩ = some (.pointer (some ⟨rb, 0, none⟩)) := HC0.out.cell 0
  have c1 : w1.cell? ⟨sc, 0, none⟩ = some (.string rs) := HC1.out.cell 0
  have HK : Hid (∀ wr, Tur (FR F rb) w1 wr → wr.cell? ⟨rc, 0, none⟩ = some (.pointer (some ⟨rb, 0, none⟩)) ∧ wr.cell? ⟨sc, 0, none⟩ = some (.string rs)) := by
    intro wr ht
    exact ⟨(HC0.out.keep ht (fun hx => by have := HFL.out _ hx; omega)).cell 0, (HC1.out.keep ht (fun hx => by have := HFL.out _ hx; have := HSC.out; omega)).cell 0⟩
  go_wp2_with fail
  refine (rp_until HR1.out HLM.out HZZ.out HLS.out 62 _ (soT rs.data.toList) enters_nx1 (fun wr l s fn hr ht _ => by rw [HBR.out]; exact nx_so (HK.out wr ht).1 (HK.out wr ht).2 hr.cells.1.2.2.2.1 HBB.out.choose HBB.out.choose_spec)).mono ?_
  rintro e w2 ⟨st', l', fn', er, rfl, hp, hr2, ht2⟩
  have HP := Lib.hid hp
  have HX2 := Lib.hid hr2
  have HTX : Hid (Tur (FR F rb) w w2) := (Tur.of_gr (F := FR F rb) (by have := HB1.out; rw [HRC.out] at this; exact this)).trans ht2 (fun i _ hi => hi)
  have HB2 : Hid (Below w0.heap.size w0 w2) := HB0.out.trans (HTX.out.below _ HB0.out.size (fun g hg e => by have := HF0.out g e; omega))
  have HLZ := Lib.hid (show l'.size ≤ 300000 by
    have h1 := (pull_lim hp HLM.out).2
    have h2 := rem_le HLM.out k name
    have h3 := HZZ.out
    have h4 := HLS.out
    omega)
  clear hr2 hp c0 c1
  obtain ⟨c0, c1⟩ := HK.out w2 ht2
  clear ht2
  obtain ⟨⟨y0, y1, y2, y3, y4, y5⟩, z3, z4, z5⟩ := HX2.out.cells
  clear y0 y1 y2 y4 y5 z4 z5
  by_cases he : er = 0
  · subst he
    by_cases h0 : l'.size = 0
    · have e0 := isEmpty_eq h0
      have HD0 := Lib.hid (size0 h0)
      clear h0
      go_wp2_with fail
      go_ret3
      refine ⟨st', l', fn', 0, [], false, rfl, ⟨l', HP.out, .inr ⟨rfl, ?_, ?_, ?_⟩⟩, HX2.out, HTX.out⟩
      · rw [HD0.out, HBR.out]; rfl
      · rw [HD0.out, HBR.out]; rfl
      · rw [HD0.out, HBR.out]; rfl
    · have e0 := isEmpty_ne h0
      have HL0 := Lib.hid (data_ne h0)
      have hs1 : (1 : Nat) ≤ rs.size := HN.out.1
      have HBD : Hid ((rs.extract 0 1).data.toList = [b]) := by
        obtain ⟨hn, hb⟩ := HBB.out
        unfold Hid; rw [head_byte hn, hb]
      have hlsz := HLZ.out
      have HCUT : Hid (∀ n, Calls Tryd.prog 64 #[.string l', .string (rs.extract 0 1)] (w2.drewN n) fun e w' => e = .returned (.tuple #[.string ⟨(Lib.cut l'.data.toList [b]).1.toArray⟩, .string ⟨(Lib.cut l'.data.toList [b]).2.1.toArray⟩, .bool (Lib.cut l'.data.toList [b]).2.2]) ∧ ∃ m, w' = (w2.drewN n).drewN m) := by
        intro n
        have := Tryd.strings_Cut_shaped l' (rs.extract 0 1) (w2.drewN n) (shaped_below hsh (HB2.out.trans ((below_drew w2 n).mono HB2.out.size))) (by omega)
        rw [HBD.out] at this
        exact this
      clear h0
      go_wp2_with fail
      go_quiet ((go_at_call 64; exact Calls.quiet_of (HCUT.out _)))
      have HX3 := Lib.hid (HX2.out.drewN nq)
      have HT3 : Hid (Tur (FR F rb) w (w2.drewN nq)) := ⟨HTX.out.os, HTX.out.tape, HTX.out.output, HTX.out.size, HTX.out.block⟩
      have c0' : (w2.drewN nq).cell? ⟨rc, 0, none⟩ = some (.pointer (some ⟨rb, 0, none⟩)) := c0
      clear c0 c1 y3 z3
      generalize w2.drewN nq = w3 at *
      obtain ⟨⟨y0, y1, y2, y3, y4, y5⟩, z3, z4, z5⟩ := HX3.out.cells
      clear y0 y1 y2 y4 y5 z4 z5
      have HL3 := Lib.hid (HX3.out.setLeft ⟨(Lib.cut l'.data.toList [b]).2.1.toArray⟩)
      have HTL3 := Lib.hid (HT3.out.trans (HX3.out.turSet 3 (.string ⟨(Lib.cut l'.data.toList [b]).2.1.toArray⟩)) (fun i _ hi => hi))
      have HCV : Hid ((Lib.cut l'.data.toList [b]).1 = Rd.tw b l'.data.toList ∧ (Lib.cut l'.data.toList [b]).2.1 = Rd.rest1 b l'.data.toList) := by
        unfold Hid
        by_cases hm : b ∈ l'.data.toList
        · rw [Rd.cut_in hm]; exact ⟨rfl, rfl⟩
        · rw [Rd.cut_out hm, (Rd.tw_all hm).1, (Rd.tw_all hm).2]; exact ⟨rfl, rfl⟩
      have HTE : Hid (tellT rs.data.toList l'.data.toList = (Rd.tw b l'.data.toList, true, Rd.rest1 b l'.data.toList)) := by
        unfold Hid tellT
        rw [HBR.out]
        exact if_neg HL0.out
      go_wp2_with fail
      go_ret3
      refine ⟨st', _, fn', 0, _, true, rfl, ⟨l', HP.out, .inr ⟨rfl, ?_, ?_, ?_⟩⟩, HL3.out, HTL3.out⟩
      · rw [HTE.out, HCV.out.1]
      · rw [HTE.out]
      · rw [HTE.out, HCV.out.2]
  · go_wp2_with fail
    go_ret3
    exact ⟨st', l', fn', er, [], false, rfl, ⟨l', HP.out, .inl ⟨he, rfl, rfl, rfl⟩⟩, HX2.out, HTX.out⟩
end
end Go.Proofs.YtdbdmgmenojcaaaDoor
namespace Go.Proofs.YtdbdmgmenojcaaaDoor
open Go.RowKit Wd
section
variable {F : Nat → Prop} {w0 w : World} {rb pb : Nat} {M : Mem} {st : St} {k : Int} {name left : ByteArray} {fin ended : Bool}
set_option maxRecDepth 100000 in
set_option maxHeartbeats 4000000 in
theorem rp_para {z : Nat} (h : RdX F w rb pb M st k name left fin ended) (hb0 : Below w0.heap.size w0 w) (hF : ∀ g, F g → w0.heap.size ≤ g) (hrb0 : w0.heap.size ≤ rb) (hl : Lim z st) (hz : z ≤ 100000) (hls : left.size ≤ 200000) (hsh : w0.ShapedOpen Tryd.prog) :
    Calls Tryd.prog 60 #[.pointer (some ⟨rb, 0, none⟩)] w (RNext F w rb pb M k name (fun _ => ended) ⟨#[]⟩ st left fin) := by
  have hb1 : Below w.heap.size w ((w.alloc (.cells #[.pointer (some ⟨rb, 0, none⟩)] 22)).alloc (.cells #[.func (.func 83) #[] #[.pointer (some ⟨w.heap.size, 0, none⟩)]] 128)) := ((Below.refl _ _).alloc (Nat.le_refl _) _).alloc (by simp) _
  have HB1 := Lib.hid hb1
  have HC0 := Lib.hid ((Blk.new w 22 #[.pointer (some ⟨rb, 0, none⟩)]).keep (Tur.of_alloc (F := fun _ => False) _ (.cells #[.func (.func 83) #[] #[.pointer (some ⟨w.heap.size, 0, none⟩)]] 128)) (fun h => h))
  have hc1 := Blk.new (w.alloc (.cells #[.pointer (some ⟨rb, 0, none⟩)] 22)) 128 #[.func (.func 83) #[] #[.pointer (some ⟨w.heap.size, 0, none⟩)]]
  rw [show (w.alloc (.cells #[.pointer (some ⟨rb, 0, none⟩)] 22)).heap.size = w.heap.size + 1 by simp] at hc1
  have HC1 := Lib.hid hc1
  have HR1 := Lib.hid (h.pure hb1)
  have HFL := Lib.hid (fun g (hg : FR F rb g) => show g < w.heap.size from hg.elim (fun e => h.wat.flt g e) (fun e => by rw [e]; exact h.rd.lt))
  have HF0 := Lib.hid (fun g (hg : FR F rb g) => show w0.heap.size ≤ g from hg.elim (fun e => hF g e) (fun e => by rw [e]; exact hrb0))
  have HB0 := Lib.hid hb0
  have HLM := Lib.hid hl
  have HZZ := Lib.hid hz
  have HLS := Lib.hid hls
  have HSH := Lib.hid hsh
  have hen := enters_pa1
  clear hb1 hc1 h hsh hb0 hF hrb0 hl hz hls
  go_enter Tryd.func60, Tryd.ntmps60
  go_wp2_with fail
  obtain ⟨rc, hrc⟩ : ∃ x, x = w.heap.size := ⟨_, rfl⟩
  rw [← hrc] at HC0 HC1 HR1 HB1 HFL ⊢
  obtain ⟨fc, hfc⟩ : ∃ x, x = rc + 1 := ⟨_, rfl⟩
  rw [← hfc] at HC1 ⊢
  have HRC := Lib.hid hrc
  have HFC := Lib.hid hfc
  clear hrc hfc
  generalize (w.alloc (.cells #[.pointer (some ⟨rb, 0, none⟩)] 22)).alloc (.cells #[.func (.func 83) #[] #[.pointer (some ⟨rc, 0, none⟩)]] 128) = w1 at *
  have HK : Hid (∀ wr, Tur (FR F rb) w1 wr → wr.cell? ⟨rc, 0, none⟩ = some (.pointer (some ⟨rb, 0, none⟩)) ∧ wr.cell? ⟨fc, 0, none⟩ = some (.func (.func 83) #[] #[.pointer (some ⟨rc, 0, none⟩)])) := by
    intro wr ht
    exact ⟨(HC0.out.keep ht (fun hx => by have := HFL.out _ hx; omega)).cell 0, (HC1.out.keep ht (fun hx => by have := HFL.out _ hx; have := HFC.out; omega)).cell 0⟩
  have HTU : Hid (∀ wr, Tur (FR F rb) w1 wr → Tur (FR F rb) w wr ∧ Below w0.heap.size w0 wr) := by
    intro wr ht
    have h1 : Tur (FR F rb) w wr := (Tur.of_gr (F := FR F rb) (by have := HB1.out; rw [HRC.out] at this; exact this)).trans ht (fun i _ hi => hi)
    exact ⟨h1, HB0.out.trans (h1.below _ HB0.out.size (fun g hg e => by have := HF0.out g e; omega))⟩
  refine (rp_until HR1.out HLM.out HZZ.out HLS.out 85 _ (soT []) enters_pa2 (fun wr l s fn hr ht hll => pa_so HSH.out (HTU.out wr ht).2 (by omega) (HK.out wr ht).2 (HK.out wr ht).1 hr.cells.1.2.2.2.1)).mono ?_
  rintro e w2 ⟨st', l', fn', er, rfl, hp, hr2, ht2⟩
  have HP := Lib.hid hp
  have HX2 := Lib.hid hr2
  have HTX := Lib.hid (HTU.out w2 ht2).1
  have HB2 := Lib.hid (HTU.out w2 ht2).2
  have hlz : l'.size ≤ 300000 := by
    have h1 := (pull_lim hp HLM.out).2
    have h2 := rem_le HLM.out k name
    have h3 := HZZ.out
    have h4 := HLS.out
    omega
  clear hr2 hp
  obtain ⟨c0, c1⟩ := HK.out w2 ht2
  clear ht2
  by_cases he : er = 0
  · subst he
    have h3 := HX2.out.cells.1.2.2.2.1
    have HPB := Lib.hid (pa_bare c0 h3)
    have HCUT := Lib.hid (pa_cut HSH.out HB2.out l' (by omega))
    have HREST : Hid (Rd.pRest l'.data.toList = Lib.trimLeftB (Lib.cut (Rd.pBare l'.data.toList) [10, 10]).2.1 10) := rfl
    have HREC : Hid (Rd.pRec l'.data.toList = if Rd.pHas l'.data.toList then (Lib.cut (Rd.pBare l'.data.toList) [10, 10]).1 else Lib.trimSuffix (Lib.cut (Rd.pBare l'.data.toList) [10, 10]).1 [10]) := rfl
    have HLC := Lib.hid (show (Lib.cut (Rd.pBare l'.data.toList) [10, 10]).1.length ≤ 300000 by
      have h1 := pBareS_size l'
      have h2 : (Rd.pBare l'.data.toList).length = (pBareS l').size := by unfold pBareS; rw [Lib.size_mk]
      have h4 : (Lib.cut (Rd.pBare l'.data.toList) [10, 10]).1.length ≤ (Rd.pBare l'.data.toList).length := by
        unfold Lib.cut; split
        · show (List.take _ _).length ≤ _
          rw [List.length_take]; exact Nat.min_le_right _ _
        · exact Nat.le_refl _
      omega)
    have HTE : Hid (tellT [] l'.data.toList = (Rd.pRec l'.data.toList, !decide (Rd.pRec l'.data.toList = []), Rd.pRest l'.data.toList)) := rfl
    clear h3 hlz
    go_wp2_with fail
    refine HPB.out.mono ?_
    rintro e w3 ⟨rfl, hw⟩
    obtain rfl : w2 = w3 := hw.symm
    go_wp2_with fail
    refine HCUT.out.mono ?_
    rintro e w3 ⟨rfl, nq, rfl⟩
    clear HPB HCUT
    have HX3 := Lib.hid (HX2.out.drewN nq)
    have HT3 : Hid (Tur (FR F rb) w (w2.drewN nq)) := ⟨HTX.out.os, HTX.out.tape, HTX.out.output, HTX.out.size, HTX.out.block⟩
    have c0' : (w2.drewN nq).cell? ⟨rc, 0, none⟩ = some (.pointer (some ⟨rb, 0, none⟩)) := c0
    clear c0 c1
    generalize w2.drewN nq = w3 at *
    obtain ⟨⟨y0, y1, y2, y3, y4, y5⟩, z3, z4, z5⟩ := HX3.out.cells
    clear y0 y1 y2 y4 y5 z4 z5
    generalize (Lib.cut (Rd.pBare l'.data.toList) [10, 10]).2.1 = r at *
    generalize (Lib.cut (Rd.pBare l'.data.toList) [10, 10]).1 = c at *
    obtain ⟨q, hq⟩ : ∃ q, q = Lib.trimLeftB r 10 := ⟨_, rfl⟩
    have HTL : Hid (∀ w : World, Calls Tryd.prog 84 #[.string ⟨r.toArray⟩, .string ⟨#[10]⟩] w fun e w' => e = .returned (.string ⟨q.toArray⟩) ∧ w' = w) := by
      intro w
      have := trimLeft_ten ⟨r.toArray⟩ w
      rw [hq]
      simpa using this
    have HTS : Hid (∀ w : World, Calls Tryd.prog 86 #[.string ⟨c.toArray⟩, .string ⟨#[10]⟩] w fun e w' => e = .returned (.string ⟨(Lib.trimSuffix c [10]).toArray⟩) ∧ w' = w) := by
      intro w
      have := Tryd.strings_TrimSuffix ⟨c.toArray⟩ ⟨#[10]⟩ w (by rw [Lib.size_mk]; have := HLC.out; omega)
      simpa using this
    rw [← hq] at HREST
    clear hq
    have HL3 := Lib.hid (HX3.out.drew.setLeft ⟨q.toArray⟩)
    have HTL3 := Lib.hid ((Tur.drew HT3.out).trans (HX3.out.drew.turSet 3 (.string ⟨q.toArray⟩)) (fun i _ hi => hi))
    cases hh : Rd.pHas l'.data.toList
    · rw [hh, if_neg (by decide)] at HREC
      clear hh
      go_wp2_with fail
      refine (HTS.out _).mono ?_
      rintro e w4 ⟨rfl, hw⟩
      obtain rfl : w3 = w4 := hw.symm
      go_wp2_with fail
      refine wp_region_still_tail 5 (by kernel_rfl) (by kernel_rfl) ?_
      simp only [List.take_succ_cons, List.take_zero, List.drop_succ_cons, List.drop_zero]
      repeat (first | still_step | still_call (HTL.out _))
      refine wpStill_nil ?_
      change wpList _ _ _ _ _ w3.drew
      have y3' : w3.drew.cell? ⟨rb, 3, none⟩ = some (.string l') := y3
      have z3' : w3.drew.frozen? ⟨rb, 3, none⟩ = false := z3
      clear y3 z3 c0'
      generalize w3.drew = w4 at *
      rw [HREST.out, HREC.out] at HTE
      generalize Lib.trimSuffix c [10] = t at *
      cases t with
      | nil =>
        go_wp2_with fail
        go_ret3
        exact ⟨st', _, fn', 0, [], false, rfl, ⟨l', HP.out, .inr ⟨rfl, (congrArg (·.1) HTE.out).symm, (congrArg (·.2.1) HTE.out).symm, by rw [show (⟨#[]⟩ : ByteArray).data.toList = [] from rfl, HTE.out]⟩⟩, HL3.out, HTL3.out⟩
      | cons x t =>
        have e1 : (⟨(x :: t).toArray⟩ : ByteArray).toList.isEmpty = false := isEmpty_ne (by rw [Lib.size_mk]; simp)
        go_wp2_with fail
        go_ret3
        exact ⟨st', _, fn', 0, x :: t, true, rfl, ⟨l', HP.out, .inr ⟨rfl, (congrArg (·.1) HTE.out).symm, (congrArg (·.2.1) HTE.out).symm, by rw [show (⟨#[]⟩ : ByteArray).data.toList = [] from rfl, HTE.out]⟩⟩, HL3.out, HTL3.out⟩
    · rw [hh, if_pos rfl] at HREC
      clear hh HTS
      go_wp2_with fail
      refine wp_region_still_tail 5 (by kernel_rfl) (by kernel_rfl) ?_
      simp only [List.take_succ_cons, List.take_zero, List.drop_succ_cons, List.drop_zero]
      repeat (first | still_step | still_call (HTL.out _))
      refine wpStill_nil ?_
      change wpList _ _ _ _ _ w3.drew
      have y3' : w3.drew.cell? ⟨rb, 3, none⟩ = some (.string l') := y3
      have z3' : w3.drew.frozen? ⟨rb, 3, none⟩ = false := z3
      clear y3 z3 c0'
      generalize w3.drew = w4 at *
      rw [HREST.out, HREC.out] at HTE
      cases c with
      | nil =>
        go_wp2_with fail
        go_ret3
        exact ⟨st', _, fn', 0, [], false, rfl, ⟨l', HP.out, .inr ⟨rfl, (congrArg (·.1) HTE.out).symm, (congrArg (·.2.1) HTE.out).symm, by rw [show (⟨#[]⟩ : ByteArray).data.toList = [] from rfl, HTE.out]⟩⟩, HL3.out, HTL3.out⟩
      | cons x t =>
        have e1 : (⟨(x :: t).toArray⟩ : ByteArray).toList.isEmpty = false := isEmpty_ne (by rw [Lib.size_mk]; simp)
        go_wp2_with fail
        go_ret3
        exact ⟨st', _, fn', 0, x :: t, true, rfl, ⟨l', HP.out, .inr ⟨rfl, (congrArg (·.1) HTE.out).symm, (congrArg (·.2.1) HTE.out).symm, by rw [show (⟨#[]⟩ : ByteArray).data.toList = [] from rfl, HTE.out]⟩⟩, HL3.out, HTL3.out⟩
  · go_wp2_with fail
    go_ret3
    exact ⟨st', l', fn', er, [], false, rfl, ⟨l', HP.out, .inl ⟨he, rfl, rfl, rfl⟩⟩, HX2.out, HTX.out⟩
set_option maxRecDepth 20000 in
theorem rp_next2 {z : Nat} (h : RdX F w rb pb M st k name left fin ended) (hb0 : Below w0.heap.size w0 w) (hF : ∀ g, F g → w0.heap.size ≤ g) (hrb0 : w0.heap.size ≤ rb) (hl : Lim z st) (hz : z ≤ 100000) (hls : left.size ≤ 200000) (hsh : w0.ShapedOpen Tryd.prog) :
    Calls Tryd.prog 30 #[.pointer (some ⟨rb, 0, none⟩), .string ⟨#[]⟩] w (RNext F w rb pb M k name (fun _ => ended) ⟨#[]⟩ st left fin) := by
  have hb1 : Below w.heap.size w ((w.alloc (.cells #[.pointer (some ⟨rb, 0, none⟩)] 22)).alloc (.cells #[.string ⟨#[]⟩] 9)) := ((Below.refl _ _).alloc (Nat.le_refl _) _).alloc (by simp) _
  have HB1 := Lib.hid hb1
  have HR1 := Lib.hid (rp_para (h.pure hb1) (hb0.trans (hb1.mono hb0.size)) hF hrb0 hl hz hls hsh)
  clear hb1 h hsh hb0 hF hrb0 hl hz hls
  go_enter Tryd.func30, Tryd.ntmps30
  go_wp2_with fail
  generalize (w.alloc (.cells #[.pointer (some ⟨rb, 0, none⟩)] 22)).alloc (.cells #[.string ⟨#[]⟩] 9) = w1 at *
  refine HR1.out.mono ?_
  rintro e w2 ⟨st', l', fn', er, t, ok, rfl, hp, hr, ht⟩
  have HR := Lib.hid hr
  have HT := Lib.hid ((Tur.of_gr (F := FR F rb) HB1.out).trans ht (fun i _ hi => hi))
  have HP := Lib.hid hp
  clear hr ht hp HR1
  go_wp2_with fail
  go_ret3
  exact ⟨st', l', fn', er, t, ok, rfl, HP.out, HR.out, HT.out⟩
set_option maxRecDepth 20000 in
theorem rp_Next {z : Nat} (h : RdX F w rb pb M st k name left fin ended) (hb0 : Below w0.heap.size w0 w) (hF : ∀ g, F g → w0.heap.size ≤ g) (hrb0 : w0.heap.size ≤ rb) (hl : Lim z st) (hz : z ≤ 100000) (hls : left.size ≤ 200000) (hsh : w0.ShapedOpen Tryd.prog) (sep : ByteArray) :
    Calls Tryd.prog 8 #[.pointer (some ⟨rb, 0, none⟩), .string sep] w (RNext F w rb pb M k name (fun ok => !ok) sep st left fin) := by
  have hn : Calls Tryd.prog 30 #[.pointer (some ⟨rb, 0, none⟩), .string sep] w (RNext F w rb pb M k name (fun _ => ended) sep st left fin) := by
    cases hs : sep.data.toList with
    | nil =>
      have e : sep = ⟨#[]⟩ := by apply ByteArray.ext; apply Array.toList_inj.1; exact hs
      rw [e]
      exact rp_next2 h hb0 hF hrb0 hl hz hls hsh
    | cons b r => exact rp_next1 h hb0 hF hrb0 hl hz hls hsh sep b r hs
  obtain ⟨⟨y0, y1, y2, y3, y4, y5⟩, z3, z4, z5⟩ := h.cells
  have HN := Lib.hid hn
  clear y1 y2 y3 y4 y5 z3 z4 z5 h hn hb0 hF hrb0 hl hz hls hsh
  go_enter Tryd.func8, Tryd.ntmps8
  go_wp2_with fail
  refine HN.out.mono ?_
  rintro e w2 ⟨st', l', fn', er, t, ok, rfl, hp, hr, ht⟩
  obtain ⟨⟨y0', y1, y2, y3, y4, y5⟩, z3, z4, z5⟩ := hr.cells
  have HR := Lib.hid (hr.setEnded (!ok))
  have HT := Lib.hid (ht.trans (hr.turSet 5 (.bool (!ok))) (fun i _ hi => hi))
  have HP := Lib.hid hp
  clear y0' y1 y2 y3 y4 z3 z4 hr ht hp HN
  go_wp2_with fail
  go_ret3
  exact ⟨st', l', fn', er, t, ok, rfl, HP.out, HR.out, HT.out⟩
theorem rp_Ended {cs : Array Value} (hr : Blk w rb 26 cs) (h5 : cs[5]? = some (.bool ended)) :
    Calls Tryd.prog 9 #[.pointer (some ⟨rb, 0, none⟩)] w fun e w' => e = .returned (.bool ended) ∧ w' = w := by
  have y5 : w.cell? ⟨rb, 5, none⟩ = some (.bool ended) := by rw [hr.cell 5]; exact h5
  clear hr
  go_enter Tryd.func9, Tryd.ntmps9
  go_wp2_with fail
  go_ret
  exact ⟨rfl, rfl⟩
end
/-- What New leaves. -/
def NewP (w : World) (F : Nat → Prop) (pb : Nat) (M : Mem) (k : Int) (name : ByteArray) (o : St × Int) (e : Ending) (w' : World) : Prop :=
  ∃ M' F', WAt w' F' pb M' o.1 ∧ Tur F w w' ∧ (∀ g, F' g → F g ∨ w.heap.size ≤ g) ∧ M'.m ≤ M.m + 1 ∧ ((o.2 = 0 ∧ ∃ rb, e = .returned (.tuple #[.pointer (some ⟨rb, 0, none⟩), .int .i64 0]) ∧ w.heap.size ≤ rb ∧ ¬ F' rb ∧ Blk w' rb 26 (rcl pb k name ⟨#[]⟩ false false)) ∨ (o.2 ≠ 0 ∧ e = .returned (.tuple #[.pointer none, .int .i64 o.2])))
set_option maxRecDepth 20000 in
theorem rp_new {w : World} {F : Nat → Prop} {pb : Nat} {M : Mem} {st : St} (h : WAt w F pb M st) (k : Int) (name : ByteArray) (hk : name.size ≤ maxLen) (hno : st.opn.length ≤ 1000000000) (hnt : st.trace.length ≤ 1000000000) (hnr : st.replies.length ≤ 1000000000) (hnf : st.fails.length ≤ 1000000000) (hnm : M.m ≤ 1000000000) :
    Calls Tryd.prog 14 #[.pointer (some ⟨pb, 0, none⟩), .int .u8 k, .string name] w (NewP w F pb M k name (newL st k name)) := by
  have HH := Lib.hid h
  by_cases hk2 : k ≠ 1 ∧ k ≠ 2
  · have HO : Hid (newL st k name = (st, 2)) := if_pos hk2
    obtain ⟨h1, h2⟩ := hk2
    have e1 : (k == 1) = false := by simp [h1]
    have e2 : (k == 2) = false := by simp [h2]
    have d1 : (k != 1) = true := by simp [h1]
    have d2 : (k != 2) = true := by simp [h2]
    rw [HO.out]
    clear h
    go_enter Tryd.func14, Tryd.ntmps14
    go_wp2_with fail
    go_ret2
    exact ⟨M, F, HH.out, Tur.refl _ _, fun g hg => .inl hg, by omega, .inr ⟨show ¬ (2 : Int) = 0 by decide, rfl⟩⟩
  · have HO : Hid (newL st k name = openL st k name) := if_neg hk2
    rw [HO.out]
    have HOP := Lib.hid (wo_open h k name hk hno hnt hnr hnf hnm)
    obtain ⟨o, ho⟩ : ∃ o, o = openL st k name := ⟨_, rfl⟩
    rw [← ho] at HOP ⊢
    clear h ho HO hno hnt hnr hnf hnm
    have hw : k = 1 ∨ k = 2 := by omega
    clear hk2
    rcases hw with rfl | rfl
    all_goals
      go_enter Tryd.func14, Tryd.ntmps14
      go_wp2_with fail
      refine HOP.out.mono ?_
      rintro e w2 ⟨M', F', rfl, hW, ht, hF', hm'⟩
      have HW := Lib.hid hW
      have HT := Lib.hid ht
      have HF2 := Lib.hid hF'
      have HM := Lib.hid hm'
      clear hW ht hF' hm' HOP
      by_cases he : o.2 = 0
      · have HE := Lib.hid he
        rw [he]
        clear he
        go_wp2_with fail
        go_ret2
        have hb3 : ∀ cs : Array Value, Below w2.heap.size w2 (w2.alloc (.cells cs 26)) := fun _ => (Below.refl _ _).alloc (Nat.le_refl _) _
        exact ⟨M', F', HW.out.pure (hb3 _), HT.out.trans (Tur.of_gr (F := F) (hb3 _)) (fun i _ hi => hi), HF2.out, HM.out, .inl ⟨HE.out, w2.heap.size, rfl, HT.out.size, fun e => by have := HW.out.flt _ e; omega, Blk.new w2 _ _⟩⟩
      · go_wp2_with fail
        go_ret2
        exact ⟨M', F', HW.out, HT.out, HF2.out, HM.out, .inr ⟨he, rfl⟩⟩
end Go.Proofs.YtdbdmgmenojcaaaDoor
namespace Go.Proofs.YtdbdmgmenojcaaaDoor
namespace Rd
open Go.Lib
structure Span (T : List UInt8) (b e h : Nat) : Prop where
  be : b ≤ e
  eh : e ≤ h
  hn : h ≤ T.length
  pre : ∀ j, (hj : j < T.length) → j < b → T[j] = 10
  beg : ∀ hb : b < T.length, T[b] ≠ 10
  no : ∀ j, b ≤ j → j < e → occAt T [10, 10] j = false
  fin : e < T.length → occAt T [10, 10] e = true
  mid : ∀ j, (hj : j < T.length) → e ≤ j → j < h → T[j] = 10
  aft : ∀ hh : h < T.length, T[h] ≠ 10
theorem trim_at : ∀ (T : List UInt8) (b : Nat), b ≤ T.length → (∀ j, (hj : j < T.length) → j < b → T[j] = 10) → (∀ hb : b < T.length, T[b] ≠ 10) → trimLeftB T 10 = T.drop b
  | [], b, _, _, _ => by simp [trimLeftB]
  | x :: l, 0, _, _, h2 => by
    have h : x ≠ 10 := h2 (by simp)
    simp [trimLeftB, h]
  | x :: l, b + 1, h0, h1, h2 => by
    have h : x = 10 := h1 0 (by simp) (by omega)
    have ih := trim_at l b (by simpa using h0) (fun j hj hb => h1 (j + 1) (by simpa using hj) (by omega)) (fun hb => h2 (by simpa using hb))
    unfold trimLeftB at ih ⊢
    rw [List.drop_succ_cons, ← ih, h]
    rfl
theorem occ_drop (T : List UInt8) (b j : Nat) (sub : List UInt8) : occAt (T.drop b) sub j = occAt T sub (b + j) := by
  unfold occAt
  rw [List.drop_drop]
theorem occ_two {T : List UInt8} {j : Nat} : occAt T [10, 10] j = true ↔ ∃ h : j + 1 < T.length, T[j] = 10 ∧ T[j + 1] = 10 := by
  unfold occAt
  rw [List.isPrefixOf_iff_prefix]
  constructor
  · rintro ⟨r, hr⟩
    have hl := congrArg List.length hr
    rw [List.length_drop] at hl
    simp at hl
    have h : j + 1 < T.length := by omega
    refine ⟨h, ?_, ?_⟩
    · have h1 : (T.drop j)[0]? = some 10 := by rw [← hr]; rfl
      rw [List.getElem?_drop, Nat.add_zero, List.getElem?_eq_getElem (by omega)] at h1
      exact Option.some.inj h1
    · have h1 : (T.drop j)[1]? = some 10 := by rw [← hr]; rfl
      rw [List.getElem?_drop, List.getElem?_eq_getElem h] at h1
      exact Option.some.inj h1
  · rintro ⟨h, h1, h2⟩
    refine ⟨T.drop (j + 2), ?_⟩
    rw [List.drop_eq_getElem_cons (show j < T.length by omega), List.drop_eq_getElem_cons h, h1, h2]
    rfl
theorem cut_first {s sep : List UInt8} {i : Nat} (hi : i ≤ s.length) (h : occAt s sep i = true) (hno : ∀ j, j < i → occAt s sep j = false) : cut s sep = (s.take i, s.drop (i + sep.length), true) := by
  have e : index s sep = i := by
    rcases index_spec s sep with ⟨-, h2⟩ | ⟨k, h1, h2, h3, h4⟩
    · rw [h2 i hi] at h; cases h
    · rw [h1]
      rcases Nat.lt_trichotomy k i with g | g | g
      · rw [hno k g] at h3; cases h3
      · rw [g]
      · rw [h4 i g] at h; cases h
  unfold cut
  rw [e, if_pos (by omega)]
  rfl
theorem cut_none {s sep : List UInt8} (h : ∀ j, j ≤ s.length → occAt s sep j = false) : cut s sep = (s, [], false) := by
  have e : index s sep = -1 := by
    rcases index_spec s sep with ⟨h1, -⟩ | ⟨k, -, h2, h3, -⟩
    · exact h1
    · rw [h k h2] at h3; cases h3
  unfold cut
  rw [e]
  rfl
theorem span_spec {T : List UInt8} {b e h : Nat} (S : Span T b e h) : pHas T = decide (e < T.length) ∧ pRec T = (if e < T.length then (T.take e).drop b else trimSuffix (T.drop b) [10]) ∧ pRest T = T.drop h ∧ (e < T.length → b < e) := by
  have hb : pBare T = T.drop b := trim_at T b (by have := S.be; have := S.eh; have := S.hn; omega) S.pre S.beg
  have hbn : b ≤ T.length := by have := S.be; have := S.eh; have := S.hn; omega
  by_cases he : e < T.length
  · have ho := S.fin he
    obtain ⟨h1, h2, h3⟩ := occ_two.1 ho
    have hc : cut (pBare T) [10, 10] = ((T.drop b).take (e - b), (T.drop b).drop (e - b + 2), true) := by
      rw [hb]
      refine cut_first (by rw [List.length_drop]; omega) ?_ (fun j hj => ?_)
      · rw [occ_drop, show b + (e - b) = e by have := S.be; omega]; exact ho
      · rw [occ_drop]; exact S.no _ (by omega) (by omega)
    have hbe : b < e := by
      rcases Nat.lt_or_ge b e with g | g
      · exact g
      · have e1 : b = e := by have := S.be; omega
        subst e1
        exact absurd h2 (S.beg he)
    have hd : (T.drop b).drop (e - b + 2) = T.drop (e + 2) := by rw [List.drop_drop]; congr 1; omega
    have hh : e + 2 ≤ h := by
      rcases Nat.lt_or_ge h (e + 2) with g | g
      · exfalso
        have hl : h < T.length := by omega
        have := S.aft hl
        have hcase : h = e ∨ h = e + 1 := by have := S.eh; omega
        rcases hcase with rfl | rfl
        · exact this h2
        · exact this h3
      · exact g
    refine ⟨?_, ?_, ?_, fun _ => hbe⟩
    · unfold pHas; rw [hc]; simp [he]
    · unfold pRec pHas
      rw [hc, if_pos rfl, if_pos he]
      show (T.drop b).take (e - b) = _
      rw [List.drop_take]
    · unfold pRest
      rw [hc]
      show trimLeftB ((T.drop b).drop (e - b + 2)) 10 = _
      rw [hd, trim_at (T.drop (e + 2)) (h - (e + 2)) (by rw [List.length_drop]; have := S.hn; omega) (fun j hj hjb => ?_) (fun hjb => ?_), List.drop_drop]
      · congr 1; omega
      · rw [List.getElem_drop]; exact S.mid _ _ (by omega) (by omega)
      · rw [List.getElem_drop]
        have e2 : e + 2 + (h - (e + 2)) = h := by omega
        have hl : h < T.length := by rw [List.length_drop] at hjb; omega
        have := S.aft hl
        simpa [e2] using this
  · have hen : e = T.length := by have := S.eh; have := S.hn; omega
    have hc : cut (pBare T) [10, 10] = (T.drop b, [], false) := by
      rw [hb]
      refine cut_none (fun j hj => ?_)
      rw [List.length_drop] at hj
      rw [occ_drop]
      rcases Nat.lt_or_ge (b + j) e with g | g
      · exact S.no _ (by omega) g
      · cases ho : occAt T [10, 10] (b + j) with
        | false => rfl
        | true => obtain ⟨h1, -⟩ := occ_two.1 ho; omega
    refine ⟨?_, ?_, ?_, fun h => absurd h he⟩
    · unfold pHas; rw [hc]; simp [he]
    · unfold pRec pHas
      rw [hc, if_neg (show ¬ (false = true) by decide), if_neg he]
    · unfold pRest
      rw [hc]
      have h1 := S.eh
      have h2 := S.hn
      have h3 : T.drop h = [] := List.drop_of_length_le (by omega)
      rw [h3]
      rfl
theorem span_so {T : List UInt8} {b e h : Nat} (S : Span T b e h) : pSo T = (decide (b < e) && decide (e < T.length) && decide (h < T.length)) := by
  obtain ⟨h1, -, h3, h4⟩ := span_spec S
  unfold pSo
  rw [h1, h3]
  by_cases he : e < T.length
  · have := h4 he
    by_cases hh : h < T.length
    · have hn : T.drop h ≠ [] := by
        intro e2
        have := congrArg List.length e2
        rw [List.length_drop] at this
        simp at this
        omega
      simp [*]
    · have hn : T.drop h = [] := List.drop_of_length_le (by omega)
      simp [*]
  · simp [he]
/-- The last byte, cut off. -/
theorem suffix_ten (s : List UInt8) : (∀ (h : 0 < s.length), s[s.length - 1] = 10 → trimSuffix s [10] = s.take (s.length - 1)) ∧ ((∀ (h : 0 < s.length), s[s.length - 1] ≠ 10) → trimSuffix s [10] = s) := by
  rcases List.eq_nil_or_concat s with rfl | ⟨p, x, rfl⟩
  · exact ⟨fun h => absurd h (by simp), fun _ => rfl⟩
  · rw [List.concat_eq_append]
    have hl : (p ++ [x]).length - 1 = p.length := by simp
    have hx : ∀ h, (p ++ [x])[(p ++ [x]).length - 1]'h = x := fun h => by simp
    have hs : hasSuffix (p ++ [x]) [10] = decide (x = 10) := by
      unfold hasSuffix
      rw [Bool.eq_iff_iff, List.isSuffixOf_iff_suffix, decide_eq_true_eq]
      constructor
      · rintro ⟨q, hq⟩
        have := List.append_inj_right' hq rfl
        simp at this
        exact this.symm
      · rintro rfl
        exact ⟨p, rfl⟩
    refine ⟨fun h e => ?_, fun e => ?_⟩
    · rw [hx] at e
      unfold trimSuffix
      rw [hs, e, if_pos (by decide)]
      rfl
    · have e1 := e (by simp)
      rw [hx] at e1
      unfold trimSuffix
      rw [hs, decide_eq_false e1]
      rfl
/-- Where a byte stands: the length of what is ahead of it. -/
theorem tw_at : ∀ (T : List UInt8) (c : UInt8) (i : Nat), i ≤ T.length → (∀ j, (hj : j < T.length) → j < i → T[j] ≠ c) → (∀ h : i < T.length, T[i] = c) → (tw c T).length = i ∧ tw c T = T.take i ∧ rest1 c T = T.drop (i + 1) ∧ decide (c ∈ T) = decide (i < T.length)
  | [], c, i, h, _, _ => by
    have : i = 0 := by simpa using h
    subst this
    simp [tw, rest1]
  | x :: l, c, 0, _, _, h2 => by
    have h : x = c := h2 (by simp)
    subst h
    simp [tw, rest1]
  | x :: l, c, i + 1, h0, h1, h2 => by
    have h : x ≠ c := h1 0 (by simp) (by omega)
    obtain ⟨g1, g2, g3, g4⟩ := tw_at l c i (by simpa using h0) (fun j hj hb => h1 (j + 1) (by simpa using hj) (by omega)) (fun hb => h2 (by simpa using hb))
    have e1 : tw c (x :: l) = x :: tw c l := by simp [tw, h]
    have e2 : rest1 c (x :: l) = rest1 c l := by simp [rest1, h]
    refine ⟨by rw [e1, List.length_cons, g1], by rw [e1, g2]; rfl, by rw [e2, g3]; rfl, ?_⟩
    have e3 : (c ∈ x :: l) = (c ∈ l) := by simp [Ne.symm h]
    rw [show decide (c ∈ x :: l) = decide (c ∈ l) by simp [Ne.symm h], g4]
    simp
end Rd
end Go.Proofs.YtdbdmgmenojcaaaDoor
