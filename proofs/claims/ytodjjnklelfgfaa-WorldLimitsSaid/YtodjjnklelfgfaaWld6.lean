/- A world: files put, streams opened; the walks of File and IsOpen. -/
import Derived.Test.YtodjjnklelfgfaaWld5
namespace Go.Proofs.Ytodjjnklelfgfaa
open Go.RowKit Wd
open Go.WideMaps Go.WideElems Go.WideAt
open Go.Maps (Keyed string_keyed)

def Wd.setF (f : List UInt8 → Option ByteArray) (l : List UInt8) (d : ByteArray) : List UInt8 → Option ByteArray := fun x => if x = l then some d else f x
theorem klaw : Keyed Try.prog 9 := string_keyed Try.underlying9
theorem zero_string (w : World) : (zeroValue 9).run Try.prog w = .ok (.string ⟨#[]⟩) w := by kernel_rfl
theorem plain_zero_string : ∃ d, plainElem (H := Unit) Try.prog 9 (.string ⟨#[]⟩) = some (d, []) := ⟨_, plainElem_string Try.underlying9 (by decide)⟩
theorem WAt.put {w w' : World} {F : Nat → Prop} {pb m' : Nat} {M : Mem} {st : St} (h : WAt w F pb M st) (l : List UInt8) (d : ByteArray)
    (hm : MapS Try.prog 9 9 w' M.bm m' (setAt (fun l => (st.files l).map Value.string) l (some (.string d)))) (ht : w.mapTurned w' M.bm) :
    WAt w' F pb { M with m := m' } { st with files := setF st.files l d } ∧ Tur F w w' := by
  have h1 : Tur (· = M.bm) w w' := (Tur.of_grown ht.grown).mono (fun k _ hk => by injection hk)
  have hne : ∀ (k : Nat) cs t, w.heap[k]? = some (.cells cs t (0, 0)) → ¬ k = M.bm := fun k cs t hk e => map_ne hk h.map e
  have hrow : ∀ (v : Value) (t : TypeId) (sz n : Nat) (cs : List Value), w.ownsRow 0 t sz v n cs → ∀ k, v.ownBlock = some k → ¬ k = M.bm := fun v t sz n cs hr k hk => by
    obtain ⟨cur, hc, -⟩ := own_lt hr hk
    exact hne k _ _ hc
  refine ⟨?_, h1.mono (fun k _ e => by rw [e]; exact h.fm)⟩
  exact {
    flt := fun k hk => Nat.lt_of_lt_of_le (h.flt k hk) h1.size
    fp := h.fp
    fm := h.fm
    fo := h.fo
    ft := h.ft
    fr := h.fr
    ff := h.ff
    fg := h.fg
    head := h.head' h1 (hne pb _ _ h.head)
    map := by
      have e : (fun x => (setF st.files l d x).map Value.string) = setAt (fun l => (st.files l).map Value.string) l (some (.string d)) := by
        funext x
        unfold setF setAt
        split <;> rfl
      show MapS _ _ _ w' M.bm m' (fun x => (setF st.files l d x).map Value.string)
      rw [e]
      exact hm
    rowO := h.rowO' h1 (hrow _ _ _ _ _ h.rowO)
    strm := h.strm' h1 (fun g hg => by obtain ⟨cs, hc⟩ := h.gsAt hg; exact hne g _ _ hc)
    nd := h.nd
    rowT := h.rowT' h1 (hrow _ _ _ _ _ h.rowT)
    rowR := h.rowR' h1 (hrow _ _ _ _ _ h.rowR)
    rowF := h.rowF' h1 (hrow _ _ _ _ _ h.rowF) }
theorem WAt.opened {w w3 : World} {F : Nat → Prop} {pb : Nat} {M : Mem} {st : St} (h : WAt w F pb M st) {g n' cap gx : Nat} (sm : Sm) (hx : Blk w gx 93 sm.cells) (hxF : ¬ F gx) (hg : w.grownBy w3 M.vo.ownBlock)
    (ho : w3.ownsRow 0 88 1 (.slice (some ⟨g, 0, none⟩) n' cap) n' (ptrs M.gs ++ [.pointer (some ⟨gx, 0, none⟩)])) (hn : n' = st.opn.length + 1) (hat : M.vo.ownBlock = some g ∨ w.heap.size ≤ g) :
    WAt (w3.setCell ⟨pb, 10, none⟩ (.slice (some ⟨g, 0, none⟩) n' cap)) (fun k => F k ∨ k = g ∨ k = gx) pb { M with vo := .slice (some ⟨g, 0, none⟩) n' cap, gs := M.gs ++ [gx] } { st with opn := st.opn ++ [sm] } ∧ Tur F w (w3.setCell ⟨pb, 10, none⟩ (.slice (some ⟨g, 0, none⟩) n' cap)) := by
  have h1 : Tur (fun k => some k = M.vo.ownBlock) w w3 := Tur.of_grown hg
  have h2 : Tur (fun k => some k = M.vo.ownBlock ∨ k = pb) w (w3.setCell ⟨pb, 10, none⟩ (.slice (some ⟨g, 0, none⟩) n' cap)) := (h1.mono (fun _ _ e => .inl e)).trans (Tur.of_set ⟨pb, 10, none⟩ _) (fun _ _ e => .inr e)
  obtain ⟨cur, hcur, hgl'⟩ := own_lt ho rfl
  have hgl : g < w3.heap.size := hgl'
  have hvo : ∀ k cs t, w.heap[k]? = some (.cells cs t (0, 0)) → t ≠ 88 → ¬ some k = M.vo.ownBlock := by
    intro k cs t hk ht e
    obtain ⟨cur, hc, -⟩ := own_lt h.rowO e.symm
    exact cells_ne hk hc ht rfl
  have hpbg : pb ≠ g := by
    rcases hat with e | e
    · exact fun e' => hvo pb _ _ h.head (by decide) (by rw [e, e'])
    · have := h.lt; omega
  have hsz : w.heap.size ≤ w3.heap.size := hg.size
  have hrow : ∀ (v : Value) (t : TypeId) (sz n : Nat) (cs : List Value), w.ownsRow 0 t sz v n cs → t ≠ 88 → t ≠ 84 → ∀ k, v.ownBlock = some k → ¬ (some k = M.vo.ownBlock ∨ k = pb) := by
    intro v t sz n cs hr ht1 ht2 k hk
    obtain ⟨cur, hc, -⟩ := own_lt hr hk
    rintro (e | e)
    · exact hvo k _ _ hc ht1 e
    · exact cells_ne hc h.head ht2 e
  have hst : ∀ k cs, w.heap[k]? = some (.cells cs 93 (0, 0)) → ¬ (some k = M.vo.ownBlock ∨ k = pb) := by
    intro k cs hc
    rintro (e | e)
    · exact hvo k _ _ hc (by decide) e
    · exact cells_ne hc h.head (by decide) e
  have hgl0 := h.gl
  refine ⟨?_, h2.mono (fun k _ e => by rcases e with e | e; exact h.fo k e.symm; rw [e]; exact h.fp)⟩
  exact {
    flt := fun k hk => by
      show k < (w3.setCell _ _).heap.size
      rw [show (w3.setCell ⟨pb, 10, none⟩ (.slice (some ⟨g, 0, none⟩) n' cap)).heap.size = w3.heap.size by simp [World.setCell]]
      rcases hk with hk | rfl | rfl
      · have := h.flt k hk; omega
      · exact hgl
      · have := hx.lt; omega
    fp := .inl h.fp
    fm := .inl h.fm
    fo := fun k hk => .inr (.inl (by injection hk with hk; exact hk.symm))
    ft := fun g hg => .inl (h.ft g hg)
    fr := fun g hg => .inl (h.fr g hg)
    ff := fun g hg => .inl (h.ff g hg)
    fg := fun k hk => by
      rcases List.mem_append.1 hk with hk | hk
      · exact .inl (h.fg k hk)
      · exact .inr (.inr (List.mem_singleton.1 hk))
    head := by
      have hB : Blk w3 pb 84 (wcells M st) := h.head.keep h1 (hvo pb _ _ h.head (by decide))
      exact hB.set 10 (.slice (some ⟨g, 0, none⟩) n' cap)
    map := h.map' h2 (by
      rintro (e | e)
      · obtain ⟨cur, hc, -⟩ := own_lt h.rowO e.symm
        exact map_ne hc h.map rfl
      · exact map_ne h.head h.map e.symm)
    rowO := by
      have : ptrs (M.gs ++ [gx]) = ptrs M.gs ++ [.pointer (some ⟨gx, 0, none⟩)] := by simp [ptrs]
      show World.ownsRow _ 0 88 1 _ (st.opn ++ [sm]).length (ptrs (M.gs ++ [gx]))
      rw [this, show (st.opn ++ [sm]).length = n' by simp [hn]]
      exact own_of_block ho (fun k hk => (Tur.of_set (w := w3) ⟨pb, 10, none⟩ _).block k (own_lt ho hk).choose_spec.2 (fun e => by injection hk with hk; change g = k at hk; subst hk; exact hpbg e.symm))
    strm := fun i hi => by
      show ∃ g, (M.gs ++ [gx])[i]? = some g ∧ Blk _ g _ ((st.opn ++ [sm])[i]'hi).cells
      rw [List.length_append] at hi
      by_cases hlt : i < st.opn.length
      · obtain ⟨g', hg', hB⟩ := h.strm' h2 (fun k hk => by obtain ⟨cs, hc⟩ := h.gsAt hk; exact hst k _ hc) i hlt
        refine ⟨g', ?_, ?_⟩
        · rw [List.getElem?_append_left (by omega)]; exact hg'
        · rw [List.getElem_append_left hlt]; exact hB
      · have hi' : i = st.opn.length := by simp at hi; omega
        subst hi'
        refine ⟨gx, ?_, ?_⟩
        · rw [List.getElem?_append_right (by omega), hgl0, Nat.sub_self]; rfl
        · rw [List.getElem_append_right (by omega)]
          simp only [Nat.sub_self, List.getElem_cons_zero]
          exact hx.keep h2 (hst gx _ hx)
    nd := by
      show (M.gs ++ [gx]).Nodup
      rw [List.nodup_append]
      exact ⟨h.nd, by simp, fun a ha b hb e => by rw [List.mem_singleton.1 hb] at e; subst e; exact hxF (h.fg _ ha)⟩
    rowT := h.rowT' h2 (hrow _ _ _ _ _ h.rowT (by decide) (by decide))
    rowR := h.rowR' h2 (hrow _ _ _ _ _ h.rowR (by decide) (by decide))
    rowF := h.rowF' h2 (hrow _ _ _ _ _ h.rowF (by decide) (by decide)) }
theorem wo_file {w : World} {F : Nat → Prop} {pb : Nat} {M : Mem} {st : St} (h : WAt w F pb M st) (name : ByteArray) (hk : name.size ≤ maxLen) :
    Calls Try.prog 13 #[.pointer (some ⟨pb, 0, none⟩), .string name] w fun e w' => e = .returned (.tuple #[.string ((st.files name.data.toList).getD ⟨#[]⟩), .bool (st.files name.data.toList).isSome]) ∧ w = w' := by
  have c8 : w.cell? ⟨pb, 8, none⟩ = some (.map (some M.bm)) := h.cell 8
  have H := Lib.hid h
  have HLK : Hid ((((fun l => (st.files l).map Value.string) name.data.toList).getD (.string ⟨#[]⟩) = .string ((st.files name.data.toList).getD ⟨#[]⟩)) ∧ ((fun l => (st.files l).map Value.string) name.data.toList).isSome = (st.files name.data.toList).isSome) := by
    unfold Hid
    show ((st.files name.data.toList).map Value.string).getD _ = _ ∧ ((st.files name.data.toList).map Value.string).isSome = _
    cases st.files name.data.toList <;> exact ⟨rfl, rfl⟩
  generalize (st.files name.data.toList).getD ⟨#[]⟩ = fd at *
  generalize (st.files name.data.toList).isSome = fb at *
  clear h
  go_enter Try.func13, Try.ntmps13
  go_wp2_with fail
  refine (wo_none H.out).mono ?_
  rintro e w2 ⟨rfl, rfl⟩
  go_wp2_with (at_lookup; refine wp_map_look_ok rfl _ _ _ rfl klaw Try.underlying81 (.string ⟨#[]⟩) (zero_string _) plain_zero_string rfl H.out.map _ _ rfl (keyOf_string_mk Try.underlying9 hk) ?_; rw [HLK.out.1, HLK.out.2])
  go_ret2
  exact ⟨rfl, rfl⟩
theorem wo_isopen {w : World} {F : Nat → Prop} {pb : Nat} {M : Mem} {st : St} (h : WAt w F pb M st) (k : Int) (name : ByteArray) (hn : st.opn.length ≤ 1000000000) :
    Calls Try.prog 18 #[.pointer (some ⟨pb, 0, none⟩), .int .u8 k, .string name] w fun e w' => e = .returned (.bool (decide (k = 6) || (find st k name).isSome)) ∧ Below w.heap.size w w' := by
  have H := Lib.hid h
  clear h
  by_cases h6 : k = 6
  · subst h6
    have HV : Hid ((decide ((6 : Int) = 6) || (find st 6 name).isSome) = true) := by unfold Hid; simp
    rw [HV.out]
    go_enter Try.func18, Try.ntmps18
    go_wp2_with fail
    refine (wo_none H.out).mono ?_
    rintro e w2 ⟨rfl, rfl⟩
    go_wp2_with fail
    go_ret
    exact ⟨rfl, Below.refl _ _⟩
  · have e6 : (k == 6) = false := by simp [h6]
    cases hf : find st k name with
    | none =>
      have HV : Hid ((decide (k = 6) || (none : Option Nat).isSome) = false) := by unfold Hid; simp [h6]
      have HFV : Hid (findV M st k name = .pointer none) := by unfold Hid findV; rw [hf]
      rw [HV.out]
      clear h6 hf
      go_enter Try.func18, Try.ntmps18
      go_wp2_with fail
      refine (wo_none H.out).mono ?_
      rintro e w2 ⟨rfl, rfl⟩
      go_wp2_with fail
      refine (wo_find H.out k name hn).mono ?_
      rintro e w2 ⟨rfl, hb⟩
      rw [HFV.out]
      go_wp2_with fail
      go_ret
      exact ⟨rfl, hb⟩
    | some i =>
      have HV : Hid ((decide (k = 6) || (some i : Option Nat).isSome) = true) := by unfold Hid; simp
      have HFV : Hid (findV M st k name = .pointer (some ⟨M.gs.getD i 0, 0, none⟩)) := by unfold Hid findV; rw [hf]
      rw [HV.out]
      clear h6 hf
      go_enter Try.func18, Try.ntmps18
      go_wp2_with fail
      refine (wo_none H.out).mono ?_
      rintro e w2 ⟨rfl, rfl⟩
      go_wp2_with fail
      refine (wo_find H.out k name hn).mono ?_
      rintro e w2 ⟨rfl, hb⟩
      rw [HFV.out]
      go_wp2_with fail
      go_ret
      exact ⟨rfl, hb⟩
end Go.Proofs.Ytodjjnklelfgfaa
