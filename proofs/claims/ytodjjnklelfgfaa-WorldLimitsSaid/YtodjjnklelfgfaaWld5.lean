/- A world: what turns of it, part by part; the walks of event and Chance. -/
import Derived.Test.YtodjjnklelfgfaaWld4
import Derived.Deep.AppendLies
import Derived.Deep.RegionLaw
import Derived.Deep.DrawnRows
namespace Go.Proofs.Ytodjjnklelfgfaa
open Go.RowKit Wd
open Go.WideMaps Go.WideElems Go.WideAt

theorem cells_ne {w : World} {a b : Nat} {t u : TypeId} {cs cu : Array Value} (h : w.heap[a]? = some (.cells cs t (0, 0))) (k : w.heap[b]? = some (.cells cu u (0, 0))) (hne : t ≠ u) : a ≠ b := by
  rintro rfl; rw [h] at k; injection k with k; injection k with _ h2; exact hne h2
theorem map_ne {w : World} {a b : Nat} {t : TypeId} {cs : Array Value} {P : Program} {k e : TypeId} {m : Nat} {f : List UInt8 → Option Value} (h : w.heap[a]? = some (.cells cs t (0, 0))) (hm : MapS P k e w b m f) : a ≠ b := by
  rintro rfl
  obtain ⟨D, ⟨es, c, hb, _⟩, _⟩ := hm
  rw [hb] at h; cases h
section
variable {w w' : World} {F G : Nat → Prop} {pb : Nat} {M : Mem} {st : St}
theorem WAt.lt (h : WAt w F pb M st) : pb < w.heap.size := h.flt pb h.fp
theorem WAt.head' (h : WAt w F pb M st) (ht : Tur G w w') (hn : ¬ G pb) : Blk w' pb 84 (wcells M st) := h.head.keep ht hn
theorem WAt.map' (h : WAt w F pb M st) (ht : Tur G w w') (hn : ¬ G M.bm) : MapS Try.prog 9 9 w' M.bm M.m (fun l => (st.files l).map Value.string) := h.map.of_block (ht.block _ h.map.lt hn)
theorem WAt.rowO' (h : WAt w F pb M st) (ht : Tur G w w') (hn : ∀ g, M.vo.ownBlock = some g → ¬ G g) : w'.ownsRow 0 88 1 M.vo st.opn.length (ptrs M.gs) := own_of_block h.rowO fun g hg => ht.block g (h.flt g (h.fo g hg)) (hn g hg)
theorem WAt.strm' (h : WAt w F pb M st) (ht : Tur G w w') (hn : ∀ g ∈ M.gs, ¬ G g) : ∀ i, (hi : i < st.opn.length) → ∃ g, M.gs[i]? = some g ∧ Blk w' g 93 st.opn[i].cells := fun i hi => by
  obtain ⟨g, hg, hB⟩ := h.strm i hi
  exact ⟨g, hg, hB.keep ht (hn g (List.mem_of_getElem? hg))⟩
theorem WAt.rowT' (h : WAt w F pb M st) (ht : Tur G w w') (hn : ∀ g, M.vt.ownBlock = some g → ¬ G g) : w'.ownsRow 0 41 5 M.vt st.trace.length (evals st.trace) := own_of_block h.rowT fun g hg => ht.block g (h.flt g (h.ft g hg)) (hn g hg)
theorem WAt.rowR' (h : WAt w F pb M st) (ht : Tur G w w') (hn : ∀ g, M.vr.ownBlock = some g → ¬ G g) : w'.ownsRow 0 63 3 M.vr st.replies.length (rvals st.replies) := own_of_block h.rowR fun g hg => ht.block g (h.flt g (h.fr g hg)) (hn g hg)
theorem WAt.rowF' (h : WAt w F pb M st) (ht : Tur G w w') (hn : ∀ g, M.vf.ownBlock = some g → ¬ G g) : w'.ownsRow 0 65 2 M.vf st.fails.length (fvals st.fails) := own_of_block h.rowF fun g hg => ht.block g (h.flt g (h.ff g hg)) (hn g hg)
/-- What a block of its is. -/
theorem WAt.gsAt (h : WAt w F pb M st) {g : Nat} (hg : g ∈ M.gs) : ∃ cs, w.heap[g]? = some (.cells cs 93 (0, 0)) := by
  obtain ⟨i, hi, rfl⟩ := List.mem_iff_getElem.1 hg
  obtain ⟨g', hg', hB⟩ := h.strm i (by rw [← h.gl]; exact hi)
  rw [List.getElem?_eq_getElem hi] at hg'
  injection hg' with hg'
  exact ⟨_, by rw [hg']; exact hB⟩
end
theorem one_ev {e : Ev} : ∀ u ∈ e.vals, u.oneCell' = true := by
  intro u hu; simp [Ev.vals] at hu; rcases hu with rfl | rfl | rfl | rfl | rfl <;> rfl
theorem info_ev : (Try.prog.info? 41).map (fun i => (i.zero, i.size, i.bytes)) = some (some (.agg #[.int .u8 0, .int .u8 0, .string ⟨#[]⟩, .string ⟨#[]⟩, .int .i64 0]), 5, 48) := by kernel_rfl
def Wd.St.traced (st : St) (e : Ev) : St := { st with trace := st.trace ++ [e] }
def Wd.Ev.val (e : Ev) : Value := .agg #[.int .u8 e.k, .int .u8 e.st, .string e.name, .string e.data, .int .i64 e.status]
theorem WAt.traced {w w3 : World} {F : Nat → Prop} {pb : Nat} {M : Mem} {st : St} (h : WAt w F pb M st) {g n' cap : Nat} (ev : Ev) (hg : w.grownBy w3 M.vt.ownBlock)
    (ho : w3.ownsRow 0 41 5 (.slice (some ⟨g, 0, none⟩) n' cap) n' (evals st.trace ++ ev.vals)) (hn : n' = st.trace.length + 1) (hat : M.vt.ownBlock = some g ∨ w.heap.size ≤ g) :
    WAt (w3.setCell ⟨pb, 12, none⟩ (.slice (some ⟨g, 0, none⟩) n' cap)) (fun k => F k ∨ k = g) pb { M with vt := .slice (some ⟨g, 0, none⟩) n' cap } (st.traced ev) ∧ Tur F w (w3.setCell ⟨pb, 12, none⟩ (.slice (some ⟨g, 0, none⟩) n' cap)) := by
  have h1 : Tur (fun k => some k = M.vt.ownBlock) w w3 := Tur.of_grown hg
  have h2 : Tur (fun k => some k = M.vt.ownBlock ∨ k = pb) w (w3.setCell ⟨pb, 12, none⟩ (.slice (some ⟨g, 0, none⟩) n' cap)) := (h1.mono (fun _ _ e => .inl e)).trans (Tur.of_set ⟨pb, 12, none⟩ _) (fun _ _ e => .inr e)
  obtain ⟨cur, hcur, hgl'⟩ := own_lt ho rfl
  have hgl : g < w3.heap.size := hgl'
  have hvt : ∀ k cs t, w.heap[k]? = some (.cells cs t (0, 0)) → t ≠ 41 → ¬ some k = M.vt.ownBlock := by
    intro k cs t hk ht e
    obtain ⟨cur, hc, -⟩ := own_lt h.rowT e.symm
    exact cells_ne hk hc ht rfl
  have hpbg : pb ≠ g := by
    rcases hat with e | e
    · exact fun e' => hvt pb _ _ h.head (by decide) (by rw [e, e'])
    · have := h.lt; omega
  have hsz : w.heap.size ≤ w3.heap.size := hg.size
  have hrow : ∀ (v : Value) (t : TypeId) (sz n : Nat) (cs : List Value), w.ownsRow 0 t sz v n cs → t ≠ 41 → t ≠ 84 → ∀ k, v.ownBlock = some k → ¬ (some k = M.vt.ownBlock ∨ k = pb) := by
    intro v t sz n cs hr ht1 ht2 k hk
    obtain ⟨cur, hc, -⟩ := own_lt hr hk
    rintro (e | e)
    · exact hvt k _ _ hc ht1 e
    · exact cells_ne hc h.head ht2 e
  refine ⟨?_, h2.mono (fun k _ e => by rcases e with e | e; exact h.ft k e.symm; rw [e]; exact h.fp)⟩
  exact {
    flt := fun k hk => by
      show k < (w3.setCell _ _).heap.size
      rw [show (w3.setCell ⟨pb, 12, none⟩ (.slice (some ⟨g, 0, none⟩) n' cap)).heap.size = w3.heap.size by simp [World.setCell]]
      rcases hk with hk | rfl
      · have := h.flt k hk; omega
      · exact hgl
    fp := .inl h.fp
    fm := .inl h.fm
    fo := fun g hg => .inl (h.fo g hg)
    ft := fun k hk => .inr (by injection hk with hk; exact hk.symm)
    fr := fun g hg => .inl (h.fr g hg)
    ff := fun g hg => .inl (h.ff g hg)
    fg := fun g hg => .inl (h.fg g hg)
    head := by
      have hB : Blk w3 pb 84 (wcells M st) := h.head.keep h1 (hvt pb _ _ h.head (by decide))
      exact hB.set 12 (.slice (some ⟨g, 0, none⟩) n' cap)
    map := h.map' h2 (by
      rintro (e | e)
      · obtain ⟨cur, hc, -⟩ := own_lt h.rowT e.symm
        exact map_ne hc h.map rfl
      · exact map_ne h.head h.map e.symm)
    rowO := h.rowO' h2 (hrow _ _ _ _ _ h.rowO (by decide) (by decide))
    strm := h.strm' h2 (fun k hk => by
      obtain ⟨cs, hc⟩ := h.gsAt hk
      rintro (e | e)
      · exact hvt k _ _ hc (by decide) e
      · exact cells_ne hc h.head (by decide) e)
    nd := h.nd
    rowT := by
      have : (evals (st.traced ev).trace) = evals st.trace ++ ev.vals := by simp [evals, St.traced]
      rw [this, show (st.traced ev).trace.length = n' by simp [St.traced, hn]]
      exact own_of_block ho (fun k hk => (Tur.of_set (w := w3) ⟨pb, 12, none⟩ _).block k (own_lt ho hk).choose_spec.2 (fun e => by injection hk with hk; change g = k at hk; subst hk; exact hpbg e.symm))
    rowR := h.rowR' h2 (hrow _ _ _ _ _ h.rowR (by decide) (by decide))
    rowF := h.rowF' h2 (hrow _ _ _ _ _ h.rowF (by decide) (by decide)) }
/-- What a cell holds: a name for it that a store may turn. -/
def valAt (w : World) (b i : Nat) : Value := (w.cell? ⟨b, i, none⟩).getD undef
theorem valAt_of {w : World} {b i : Nat} {v : Value} (h : w.cell? ⟨b, i, none⟩ = some v) : valAt w b i = v := by unfold valAt; rw [h]; rfl
theorem valAt_is {w : World} {b i : Nat} {v : Value} (h : w.cell? ⟨b, i, none⟩ = some v) : w.cell? ⟨b, i, none⟩ = some (valAt w b i) := by rw [valAt_of h, h]
attribute [irreducible] valAt
theorem hg_of {wa wb X : World} {v : Value} {b i : Nat} (h : valAt X b i = v) (hg : wa.grownBy wb (valAt X b i).ownBlock) : wa.grownBy wb v.ownBlock := h ▸ hg
theorem own_val {w X : World} {v : Value} {b i base e size n : Nat} {xs : List Value} (h : valAt X b i = v) (ho : w.ownsRow base e size v n xs) : w.ownsRow base e size (valAt X b i) n xs := h.symm ▸ ho
theorem at_of {X : World} {v : Value} {b i g N : Nat} (h : valAt X b i = v) (hg : (valAt X b i).ownBlock = some g ∨ g = N) : v.ownBlock = some g ∨ g = N := h ▸ hg
attribute [local go_sem ↓] Go.wp_at_zero Go.wp_at_succ
set_option maxRecDepth 20000 in
set_option maxHeartbeats 4000000 in
theorem wo_event {w : World} {F : Nat → Prop} {pb : Nat} {M : Mem} {st : St} (h : WAt w F pb M st) (ev : Ev) (hn : st.trace.length ≤ 1000000000) :
    Calls Try.prog 35 #[.pointer (some ⟨pb, 0, none⟩), ev.val] w fun e w' => ∃ M' F', e = .returned (.tuple #[]) ∧ WAt w' F' pb M' (st.traced ev) ∧ Tur F w w' ∧ (∀ g, F' g → F g ∨ w.heap.size ≤ g) ∧ M'.m = M.m ∧ M'.gs = M.gs := by
  obtain ⟨ek, es, en, ed, et⟩ := ev
  show Calls Try.prog 35 #[.pointer (some ⟨pb, 0, none⟩), .agg #[.int .u8 ek, .int .u8 es, .string en, .string ed, .int .i64 et]] w _
  have hB0 := (Below.refl w.heap.size w).alloc (Nat.le_refl _) (.cells #[.int .u8 ek, .int .u8 es, .string en, .string ed, .int .i64 et] 41)
  have HB0 := Lib.hid hB0
  have HH := Lib.hid (h.pure hB0)
  have HE := Lib.hid (Blk.new w 41 #[.int .u8 ek, .int .u8 es, .string en, .string ed, .int .i64 et])
  have HF := Lib.hid h.flt
  have hlt := h.lt
  have hz1 : st.trace.length + 1 ≤ maxLen := by unfold maxLen; omega
  have hz2 : (st.trace.length + 1) * 48 ≤ 140737488355328 := by omega
  clear h hB0
  go_enter Try.func35, Try.ntmps35
  go_wp2_with fail
  generalize w.alloc (.cells #[.int .u8 ek, .int .u8 es, .string en, .string ed, .int .i64 et] 41) = w1 at *
  obtain ⟨E, hE⟩ : ∃ E, E = w.heap.size := ⟨_, rfl⟩
  rw [← hE] at HE HB0 HF ⊢
  have hE1 : E < w1.heap.size := HE.out.lt
  have HE0 := Lib.hid hE
  clear hE
  have HFF : Hid (∀ k, F k → k < E) := HF.out
  have hpbE : pb < E := HFF.out _ HH.out.fp
  have hpb1 : pb < w1.heap.size := HH.out.lt
  obtain ⟨iv, hi, hzz, hz3, hz4⟩ := info_parts info_ev
  have HNP := Lib.hid (show some pb ≠ M.vt.ownBlock from fun e => by
    obtain ⟨cur, hc, -⟩ := own_lt HH.out.rowT e.symm
    exact cells_ne HH.out.head hc (by decide) rfl)
  have HEP := Lib.hid (show ¬ E = pb by omega)
  have HNE := Lib.hid (show some E ≠ M.vt.ownBlock from fun e => by
    have := HFF.out _ (HH.out.ft _ e.symm); omega)
  have c12 : w1.cell? ⟨pb, 12, none⟩ = some M.vt := HH.out.cell 12
  obtain ⟨⟨e0, e1, e2, e3, e4⟩, -⟩ := HE.out.five
  go_region_law ((refine step_append_lies _ (by rfl) _ _ _ (by rfl) 0 41 iv _ 5 48 Try.underlying37 hi hzz hz3 hz4 rfl (by decide) M.vt st.trace.length _ (by rfl) (own_of_block (HH.out.rowT.alloc (.cells #[.int .u8 ek, .int .u8 es, .string en, .string ed, .int .i64 et] 41)) (fun _ _ => rfl)) ⟨w1.heap.size, 0, none⟩ 1 1 (Ev.vals ⟨ek, es, en, ed, et⟩) (by rfl) rfl (World.news_of_block (heap_alloc_new w1 (.cells #[.int .u8 ek, .int .u8 es, .string en, .string ed, .int .i64 et] 41))) one_ev (by decide) hz1 hz2 (Nat.zero_le _) (w1.heap.size + 1) (by simp) ?_; intro g2 cap2 w3 hown2 hgrow2 hat2 hlt2; have hd9 : Blk w3 pb 84 (wcells M st) := (hgrow2.block pb (by simp; omega) HNP.out).trans (below_blk HH.out.head ((((Below.refl _ _).alloc (Nat.le_refl _) (.cells #[.int .u8 ek, .int .u8 es, .string en, .string ed, .int .i64 et] 41))).drew) hpb1); have c13 : w3.cell? ⟨pb, 12, none⟩ = some M.vt := hd9.cell 12; have f13 : w3.frozen? ⟨pb, 12, none⟩ = false := hd9.free 12))
  all_goals
    have hw1 : WAt (w1.alloc (.cells #[.int .u8 ek, .int .u8 es, .string en, .string ed, .int .i64 et] 41)).drew F pb M st := HH.out.pure (((Below.refl _ _).alloc (Nat.le_refl _) _).drew)
    have hB1 := HB0.out.trans ((((Below.refl w1.heap.size w1).alloc (Nat.le_refl _) (.cells #[.int .u8 ek, .int .u8 es, .string en, .string ed, .int .i64 et] 41)).drew).mono (Nat.le_of_lt hE1))
    obtain ⟨hA, hT⟩ := hw1.traced ⟨ek, es, en, ed, et⟩ hgrow2 hown2 rfl (hat2.imp id (fun e => by simp [e]))
    show bodyPost _ _ _ _ _ _
    refine bodyPost_end (v := .tuple #[]) (by simp [results, Try.results35, go_sem]) rfl ⟨_, _, rfl, hA, ?_, ?_, rfl, rfl⟩
    · exact ((Tur.of_below hB1).mono (fun k hk hF => by have := HE0.out; have : E ≤ k := hF; omega)).trans hT (fun k hk hF => hF)
    · rintro k (hk | rfl)
      · exact .inl hk
      · rcases hat2 with e | e
        · exact .inl (HH.out.ft _ e)
        · right; have := HE0.out; omega
end Go.Proofs.Ytodjjnklelfgfaa
