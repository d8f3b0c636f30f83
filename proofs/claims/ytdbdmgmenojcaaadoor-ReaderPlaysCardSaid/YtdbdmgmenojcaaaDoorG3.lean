/- A world: the walk of Close. -/
import Derived.Test.YtdbdmgmenojcaaaDoorG2
import Derived.StillTailTactics
set_option linter.unusedVariables false
set_option linter.unusedSimpArgs false
namespace Go.Proofs.YtdbdmgmenojcaaaDoor
open Go.RowKit Wd
open Go.WideMaps Go.WideElems Go.WideAt

namespace Wd
def smZero : Sm := ⟨0, ⟨#[]⟩, ⟨#[]⟩⟩
theorem keep_filter (l : List Sm) (q : Sm → Bool) : (keepI (fun i => q (l.getD i smZero)) l.length).map (fun i => l.getD i smZero) = l.filter (fun x => !q x) := by
  have h : (List.range l.length).map (fun i => l.getD i smZero) = l := by
    apply List.ext_getElem
    · simp
    · intro i h1 h2
      simp [List.getD, h2]
  conv => rhs; rw [← h]
  rw [List.filter_map]
  rfl
theorem keepR_sub (p : Nat → Bool) (gs : List Nat) : ∀ k, k ≤ gs.length → (keepR p gs k).Sublist (gs.take k) := by
  intro k
  induction k with
  | zero => intro _; exact List.Sublist.refl _
  | succ k ih =>
    intro hk
    rw [List.take_succ_eq_append_getElem (by omega)]
    cases hp : p k
    · rw [keepR_no hp, show gs.getD k 0 = gs[k] by simp [List.getD, show k < gs.length by omega]]
      exact (ih (by omega)).append (List.Sublist.refl _)
    · rw [keepR_yes hp]
      exact (ih (by omega)).trans (List.sublist_append_left _ _)
def closeX (st : St) (name : ByteArray) (k : Nat) : Int := if k = 2 ∨ k = 5 then (replyR st name).status else 0
def closeK (st : St) (name : ByteArray) : Nat → St × Int × Bool
  | 0 => (st, 0, false)
  | n + 1 => if (find st ((n + 1 : Nat) : Int) name).isSome then ((closeK st name n).1.traced ⟨3, ((n + 1 : Nat) : Int), name, ⟨#[]⟩, closeX st name (n + 1)⟩, closeX st name (n + 1), true) else closeK st name n
theorem closeK_same (st : St) (name : ByteArray) (n : Nat) : (closeK st name n).1 = { st with trace := (closeK st name n).1.trace } ∧ (closeK st name n).1.trace.length ≤ st.trace.length + n := by
  induction n with
  | zero => exact ⟨rfl, Nat.le_refl _⟩
  | succ n ih =>
    unfold closeK
    split
    · obtain ⟨h1, h2⟩ := ih
      refine ⟨?_, ?_⟩
      · simp only [St.traced]
        rw [h1]
      · simp only [St.traced, List.length_append]
        show _ + 1 ≤ _
        omega
    · exact ⟨ih.1, by omega⟩
def closeL (st : St) (name : ByteArray) : St × Int × Bool :=
  ({ (closeK st name 5).1 with opn := st.opn.filter (fun m => !decide (m.name = name)) }, (closeK st name 5).2.1, (closeK st name 5).2.2)
end Wd
theorem WAt.deleted {w w' : World} {F : Nat → Prop} {pb : Nat} {M : Mem} {st : St} (h : WAt w F pb M st) {v' : Value} (p : Nat → Bool) (ht : Tur (fun k => some k = M.vo.ownBlock) w w')
    (ho : w'.ownsRow 0 99 1 v' (keepR p M.gs st.opn.length).length (ptrs (keepR p M.gs st.opn.length))) (hv : v'.ownBlock = M.vo.ownBlock) :
    WAt (w'.setCell ⟨pb, 10, none⟩ v') F pb { M with vo := v', gs := keepR p M.gs st.opn.length } { st with opn := (keepI p st.opn.length).map (fun i => st.opn.getD i smZero) } ∧ Tur F w (w'.setCell ⟨pb, 10, none⟩ v') := by
  have h2 : Tur (fun k => some k = M.vo.ownBlock ∨ k = pb) w (w'.setCell ⟨pb, 10, none⟩ v') := (ht.mono (fun _ _ e => .inl e)).trans (Tur.of_set ⟨pb, 10, none⟩ _) (fun _ _ e => .inr e)
  have hvo : ∀ k cs t, w.heap[k]? = some (.cells cs t (0, 0)) → t ≠ 99 → ¬ some k = M.vo.ownBlock := by
    intro k cs t hk ht e
    obtain ⟨cur, hc, -⟩ := own_lt h.rowO e.symm
    exact cells_ne hk hc ht rfl
  have hrow : ∀ (v : Value) (t : TypeId) (sz n : Nat) (cs : List Value), w.ownsRow 0 t sz v n cs → t ≠ 99 → t ≠ 93 → ∀ k, v.ownBlock = some k → ¬ (some k = M.vo.ownBlock ∨ k = pb) := by
    intro v t sz n cs hr ht1 ht2 k hk
    obtain ⟨cur, hc, -⟩ := own_lt hr hk
    rintro (e | e)
    · exact hvo k _ _ hc ht1 e
    · exact cells_ne hc h.head ht2 e
  have hst : ∀ k cs, w.heap[k]? = some (.cells cs 109 (0, 0)) → ¬ (some k = M.vo.ownBlock ∨ k = pb) := by
    intro k cs hc
    rintro (e | e)
    · exact hvo k _ _ hc (by decide) e
    · exact cells_ne hc h.head (by decide) e
  have hgl0 := h.gl
  have hln : (keepR p M.gs st.opn.length).length = ((keepI p st.opn.length).map (fun i => st.opn.getD i smZero)).length := by simp [keepR]
  have hmem : ∀ i ∈ keepI p st.opn.length, i < st.opn.length := by
    intro i hi
    unfold keepI at hi
    simpa using (List.mem_filter.1 hi).1
  refine ⟨?_, h2.mono (fun k _ e => by rcases e with e | e; exact h.fo k e.symm; rw [e]; exact h.fp)⟩
  exact {
    flt := fun k hk => Nat.lt_of_lt_of_le (h.flt k hk) h2.size
    fp := h.fp
    fm := h.fm
    fo := fun k hk => h.fo k (by rw [← hv]; exact hk)
    ft := h.ft
    fr := h.fr
    ff := h.ff
    fg := fun k hk => h.fg k (List.mem_of_mem_take ((keepR_sub p M.gs st.opn.length (by omega)).subset hk))
    head := by
      have hB : Blk w' pb 93 (wcells M st) := h.head.keep ht (hvo pb _ _ h.head (by decide))
      exact hB.set 10 v'
    map := h.map' h2 (by
      rintro (e | e)
      · obtain ⟨cur, hc, -⟩ := own_lt h.rowO e.symm
        exact map_ne hc h.map rfl
      · exact map_ne h.head h.map e.symm)
    rowO := by
      show World.ownsRow _ 0 99 1 v' ((keepI p st.opn.length).map _).length (ptrs (keepR p M.gs st.opn.length))
      rw [← hln]
      exact own_of_block ho (fun k hk => (Tur.of_set (w := w') ⟨pb, 10, none⟩ _).block k (own_lt ho hk).choose_spec.2 (fun e => by
        have e' : k = pb := e
        exact hvo pb _ _ h.head (by decide) (by rw [← hv, hk, e'])))
    strm := fun i hi => by
      have hi' : i < (keepI p st.opn.length).length := by simpa using hi
      have hj := hmem _ (List.getElem_mem hi')
      obtain ⟨g, hg, hB⟩ := h.strm' h2 (fun k hk => by obtain ⟨cs, hc⟩ := h.gsAt hk; exact hst k _ hc) _ hj
      refine ⟨g, ?_, ?_⟩
      · show (keepR p M.gs st.opn.length)[i]? = some g
        unfold keepR
        rw [List.getElem?_map, List.getElem?_eq_getElem hi']
        simp [List.getD, hg]
      · show Blk _ g _ (((keepI p st.opn.length).map (fun i => st.opn.getD i smZero))[i]'hi).cells
        rw [List.getElem_map]
        have e : st.opn.getD (keepI p st.opn.length)[i] smZero = st.opn[(keepI p st.opn.length)[i]] := by simp [List.getD, hj]
        rw [e]
        exact hB
    nd := ((keepR_sub p M.gs st.opn.length (by omega)).trans (List.take_sublist _ _)).nodup h.nd
    rowT := h.rowT' h2 (hrow _ _ _ _ _ h.rowT (by decide) (by decide))
    rowR := h.rowR' h2 (hrow _ _ _ _ _ h.rowR (by decide) (by decide))
    rowF := h.rowF' h2 (hrow _ _ _ _ _ h.rowF (by decide) (by decide)) }
set_option maxRecDepth 100000 in
theorem enters_close : ∀ (args : Array Value) (w : World), (callFunc 42 args).run Tryd.prog w = .ok (.enter 42 args) w := fun _ _ => rfl
theorem wo_close1 {w : World} {g b : Nat} {s : Sm} {name : ByteArray} (hs : Blk w g 109 s.cells) (hb : w.cell? ⟨b, 0, none⟩ = some (.string name)) :
    Calls Tryd.prog 42 #[.pointer (some ⟨g, 0, none⟩), .pointer (some ⟨b, 0, none⟩)] w fun e w' => e = .returned (.bool (decide (s.name = name))) ∧ ∃ n, w' = w.drewN n := by
  have c1 : w.cell? ⟨g, 1, none⟩ = some (.string s.name) := hs.cell 1
  have HH : Hid (decide (s.name = name) = (s.name.toList == name.toList)) := by unfold Hid; rw [str_eq]
  rw [HH.out]
  generalize s.name = sn at *
  clear hs HH
  go_enter Tryd.func42, Tryd.ntmps42
  go_wp2_with fail
  go_quiet (fail)
  go_wp2_with fail
  go_ret
  exact ⟨rfl, nq, rfl⟩
theorem find_traced {st : St} {t : List Ev} (k : Int) (name : ByteArray) : find { st with trace := t } k name = find st k name := rfl
theorem reply_traced {st : St} {t : List Ev} (name : ByteArray) : replyR { st with trace := t } name = replyR st name := rfl
theorem ret_x {a b : Int} (h : a = b) : Value.int .i64 a = .int .i64 b := by rw [h]
set_option maxRecDepth 20000 in
set_option maxHeartbeats 4000000 in
theorem wo_close {w : World} {F : Nat → Prop} {pb : Nat} {M : Mem} {st : St} (h : WAt w F pb M st) (name : ByteArray) (hno : st.opn.length ≤ 1000000000) (hnt : st.trace.length ≤ 100000000) (hnr : st.replies.length ≤ 1000000000) :
    Calls Tryd.prog 16 #[.pointer (some ⟨pb, 0, none⟩), .string name] w fun e w' => ∃ M' F', e = .returned (.tuple #[.int .i64 (closeL st name).2.1, .bool (closeL st name).2.2]) ∧ WAt w' F' pb M' (closeL st name).1 ∧ Tur F w w' ∧ (∀ g, F' g → F g ∨ w.heap.size ≤ g) ∧ M'.m = M.m := by
  have hB0 := (Below.refl w.heap.size w).alloc (Nat.le_refl _) (.cells #[.string name] 9)
  have HB0 := Lib.hid hB0
  have H := Lib.hid (h.pure hB0)
  have HN := Lib.hid (Blk.new w 9 #[.string name])
  have HF0 := Lib.hid h.flt
  obtain ⟨b, hb⟩ : ∃ b, b = w.heap.size := ⟨_, rfl⟩
  have HBE := Lib.hid hb
  rw [← hb] at HN
  clear h hB0
  go_enter Tryd.func16, Tryd.ntmps16
  go_wp2_with fail
  have hsz1 : (w.alloc (.cells #[.string name] 9)).heap.size = w.heap.size + 1 := by simp
  have HSZ1 := Lib.hid hsz1
  clear hsz1
  rw [← hb]
  clear hb
  generalize w.alloc (.cells #[.string name] 9) = w1 at *
  refine (wo_none H.out).mono ?_
  rintro e w2 ⟨rfl, rfl⟩
  go_wp2_with fail
  go_loopw [6, 7, 8] (fun x av kv wr => ∃ (n : Nat) (M' : Mem) (F' : Nat → Prop), n ≤ 5 ∧ kv = .int .u8 (n + 1 : Nat) ∧ x = .int .i64 (closeK st name n).2.1 ∧ av = .bool (closeK st name n).2.2 ∧ WAt wr F' pb M' (closeK st name n).1 ∧ Tur F w1 wr ∧ (∀ g, F' g → F g ∨ w1.heap.size ≤ g) ∧ Blk wr b 9 #[.string name] ∧ M'.m = M.m) (fun _ _ kv _ => 6 - (intOf kv).toNat)
  case atStart => exact ⟨0, M, F, by omega, rfl, rfl, rfl, H.out, Tur.refl _ _, fun _ h => .inl h, HN.out, rfl⟩
  case round =>
    obtain ⟨n, M', F', hn5, rfl, rfl, rfl, hW, hT, hF, hN, hm⟩ := hrel
    have HW := Lib.hid hW
    have HT := Lib.hid hT
    have HFF := Lib.hid hF
    have HNB := Lib.hid hN
    have HM := Lib.hid hm
    obtain ⟨hsame, htl⟩ := closeK_same st name n
    have HSAME := Lib.hid hsame
    have hbc := hN.cell 0
    have hbc' : wr.cell? ⟨b, 0, none⟩ = some (.string name) := hbc
    clear hW hT hF hN hm hsame hbc
    by_cases hlt : n < 5
    · have hfind : find (closeK st name n).1 ((n + 1 : Nat) : Int) name = find st ((n + 1 : Nat) : Int) name := by rw [HSAME.out]; rfl
      have hopn : (closeK st name n).1.opn = st.opn := by rw [HSAME.out]
      have hrep : (closeK st name n).1.replies = st.replies := by rw [HSAME.out]
      have hrr : replyR (closeK st name n).1 name = replyR st name := by rw [HSAME.out]; rfl
      have HFI := Lib.hid hfind
      have HOP := Lib.hid hopn
      have HRE := Lib.hid hrep
      have HRR := Lib.hid hrr
      clear hfind hopn hrep hrr
      cases hf : find st ((n + 1 : Nat) : Int) name with
      | none =>
        have HFV : Hid (findV M' (closeK st name n).1 ((n : Int) + 1) name = .pointer none) := by
          unfold Hid findV
          rw [show find (closeK st name n).1 ((n : Int) + 1) name = none from HFI.out.trans hf]
        have HCK : Hid (closeK st name (n + 1) = closeK st name n) := by unfold Hid; rw [closeK]; rw [hf]; rfl
        clear hf
        go_wp2_with fail
        refine (wo_find HW.out _ name (by rw [HOP.out]; exact hno)).mono ?_
        rintro e w2 ⟨rfl, hb2⟩
        rw [HFV.out]
        have HW2 := Lib.hid (HW.out.pure hb2)
        have HT2 := Lib.hid (HT.out.trans (Tur.of_gr (F := F) hb2) (fun _ _ e => e))
        have HNB2 := Lib.hid (below_blk HNB.out hb2 HNB.out.lt)
        have hbc2 : w2.cell? ⟨b, 0, none⟩ = some (.string name) := HNB2.out.cell 0
        clear hbc' hb2
        go_wp2_with fail
        go_roundw
        case rel => exact ⟨n + 1, M', F', by omega, by go_num, by rw [HCK.out], by rw [HCK.out], by rw [HCK.out]; exact HW2.out, HT2.out, HFF.out, HNB2.out, HM.out⟩
        case measure => simp [intOf]; omega
      | some i =>
        have HFV : Hid (findV M' (closeK st name n).1 ((n : Int) + 1) name = .pointer (some ⟨M'.gs.getD i 0, 0, none⟩)) := by
          unfold Hid findV
          rw [show find (closeK st name n).1 ((n : Int) + 1) name = some i from HFI.out.trans hf]
        have HCK : Hid (closeK st name (n + 1) = ((closeK st name n).1.traced ⟨3, ((n + 1 : Nat) : Int), name, ⟨#[]⟩, closeX st name (n + 1)⟩, closeX st name (n + 1), true)) := by unfold Hid; rw [closeK]; rw [hf]; rfl
        clear hf
        have h25 : n = 1 ∨ n = 4 ∨ (n ≠ 1 ∧ n ≠ 4) := by omega
        by_cases hr : n = 1 ∨ n = 4
        · have HXX : Hid ((replyR st name).status = closeX st name (n + 1)) := by unfold Hid closeX; rw [if_pos (by omega)]
          have hk2 : (((n : Int) + 1) == 2) = true ∨ ((((n : Int) + 1) == 2) = false ∧ (((n : Int) + 1) == 5) = true) := by
            rcases hr with h | h
            · left; rw [h]; rfl
            · right; rw [h]; exact ⟨rfl, rfl⟩
          clear hr h25
          have hnr2 : (closeK st name n).1.replies.length ≤ 1000000000 := by rw [HRE.out]; exact hnr
          have HNR2 := Lib.hid hnr2
          clear hnr2
          rcases hk2 with hk2 | ⟨hk2, hk3⟩
          all_goals
            go_wp2_with fail
            refine (wo_find HW.out _ name (by rw [HOP.out]; exact hno)).mono ?_
            rintro e w2 ⟨rfl, hb2⟩
            rw [HFV.out]
            have HW2 := Lib.hid (HW.out.pure hb2)
            have HT2 := Lib.hid (HT.out.trans (Tur.of_gr (F := F) hb2) (fun _ _ e => e))
            have HNB2 := Lib.hid (below_blk HNB.out hb2 HNB.out.lt)
            have hbc2 : w2.cell? ⟨b, 0, none⟩ = some (.string name) := HNB2.out.cell 0
            clear hbc' hb2
            go_wp2_with fail
            refine (wo_reply HW2.out name HNR2.out).mono ?_
            rintro e w3 ⟨rfl, hb3⟩
            rw [HRR.out]
            have h3 := HW2.out.pure hb3
            have hn3 := below_blk HNB2.out hb3 HNB2.out.lt
            have ht3 := HT2.out.trans (Tur.of_gr (F := F) hb3) (fun _ _ e => e)
            generalize replyR st name = rr at *
            obtain ⟨rc, ro, rs⟩ := rr
            simp only [Rp.val]
            have hba := (Below.refl w3.heap.size w3).alloc (Nat.le_refl _) (.cells #[.string rc, .string ro, .int .i64 rs] 87)
            have H4 := Lib.hid (h3.pure hba)
            have HNB4 := Lib.hid (below_blk hn3 hba hn3.lt)
            have HT4 := Lib.hid (ht3.trans (Tur.of_gr (F := F) hba) (fun _ _ e => e))
            have hbc3 : w3.cell? ⟨b, 0, none⟩ = some (.string name) := hn3.cell 0
            have hb3l : b < w3.heap.size := hn3.lt
            clear hbc2 hb3 h3 hn3 ht3 hba
            go_wp2_with fail
            generalize w3.alloc (.cells #[.string rc, .string ro, .int .i64 rs] 87) = w4 at *
            refine (wo_event H4.out ⟨3, (n : Int) + 1, name, ⟨#[]⟩, rs⟩ (by have := hnt; have := htl; omega)).mono ?_
            rintro e w5 ⟨M5, F5, rfl, h5, t5, f5, m5, -⟩
            have hB5 : Blk w5 b 9 #[.string name] := HNB4.out.keep t5 (fun e => by
              rcases HFF.out _ e with e | e
              · have := HF0.out _ e; have := HBE.out; omega
              · have := HSZ1.out; have := HBE.out; omega)
            go_wp2_with fail
            go_roundw
            case rel => exact ⟨n + 1, M5, F5, by omega, by go_num, by rw [HCK.out]; exact ret_x HXX.out, by rw [HCK.out], by rw [HCK.out, ← HXX.out]; exact h5, HT4.out.trans t5 (fun i hi e => (HFF.out i e).resolve_right (by omega)), fun i e => by
                rcases f5 i e with e | e
                · exact HFF.out i e
                · right; have := (HT4.out).size; omega, hB5, by rw [m5]; exact HM.out⟩
            case measure => simp [intOf]; omega
        · have HXX : Hid ((0 : Int) = closeX st name (n + 1)) := by unfold Hid closeX; rw [if_neg (by omega)]
          have hk2 : (((n : Int) + 1) == 2) = false := beq_eq_false_iff_ne.2 (by omega)
          have hk3 : (((n : Int) + 1) == 5) = false := beq_eq_false_iff_ne.2 (by omega)
          clear hr h25
          go_wp2_with fail
          refine (wo_find HW.out _ name (by rw [HOP.out]; exact hno)).mono ?_
          rintro e w2 ⟨rfl, hb2⟩
          rw [HFV.out]
          have HW2 := Lib.hid (HW.out.pure hb2)
          have HT2 := Lib.hid (HT.out.trans (Tur.of_gr (F := F) hb2) (fun _ _ e => e))
          have HNB2 := Lib.hid (below_blk HNB.out hb2 HNB.out.lt)
          have hbc2 : w2.cell? ⟨b, 0, none⟩ = some (.string name) := HNB2.out.cell 0
          clear hbc' hb2
          go_wp2_with fail
          refine (wo_event HW2.out ⟨3, (n : Int) + 1, name, ⟨#[]⟩, 0⟩ (by have := hnt; have := htl; omega)).mono ?_
          rintro e w5 ⟨M5, F5, rfl, h5, t5, f5, m5, -⟩
          have hB5 : Blk w5 b 9 #[.string name] := HNB2.out.keep t5 (fun e => by
            rcases HFF.out _ e with e | e
            · have := HF0.out _ e; have := HBE.out; omega
            · have := HSZ1.out; have := HBE.out; omega)
          go_wp2_with fail
          go_roundw
          case rel => exact ⟨n + 1, M5, F5, by omega, by go_num, by rw [HCK.out]; exact ret_x HXX.out, by rw [HCK.out], by rw [HCK.out, ← HXX.out]; exact h5, HT2.out.trans t5 (fun i hi e => (HFF.out i e).resolve_right (by omega)), fun i e => by
              rcases f5 i e with e | e
              · exact HFF.out i e
              · right; have := (HT2.out).size; omega, hB5, by rw [m5]; exact HM.out⟩
          case measure => simp [intOf]; omega
    · obtain rfl : n = 5 := by omega
      have hopn : (closeK st name 5).1.opn = st.opn := by rw [HSAME.out]
      obtain ⟨S5, hS5⟩ : ∃ S5, S5 = (closeK st name 5).1 := ⟨_, rfl⟩
      have HS5 := Lib.hid hS5
      rw [← hS5] at HW hopn HSAME
      have HOP := Lib.hid hopn
      have c10 : wr.cell? ⟨pb, 10, none⟩ = some M'.vo := HW.out.cell 10
      have f10 := HW.out.free 10
      have hFirst : First (fun i => decide ((S5.opn.getD i smZero).name = name)) M'.gs.length (S5.opn.findIdx? (fun m => decide (m.name = name))) := by
        rw [HW.out.gl]
        exact first_find S5.opn (fun m => decide (m.name = name)) _ (fun i h => by simp [List.getD, h])
      have HFI := Lib.hid hFirst
      have hlen : S5.opn.length ≤ 1000000000 := by rw [HOP.out]; exact hno
      have HLEN := Lib.hid hlen
      clear hbc' hS5 hopn hFirst hlen
      go_wp2_with fail
      refine (wo_deleteS 42 _ _ _ HW.out.rowO enters_close (fun i hi wx hx => ?_) HFI.out HLEN.out).mono ?_
      · obtain ⟨g, hg, hB⟩ := HW.out.strm i (by rw [← HW.out.gl]; exact hi)
        obtain rfl : M'.gs[i] = g := by rw [List.getElem?_eq_getElem hi] at hg; injection hg
        have hi' : i < S5.opn.length := by rw [← HW.out.gl]; exact hi
        have hne : ∀ k cs t, wr.heap[k]? = some (.cells cs t (0, 0)) → t ≠ 99 → ¬ some k = M'.vo.ownBlock := by
          intro k cs t hk ht e
          obtain ⟨cur, hc, -⟩ := own_lt HW.out.rowO e.symm
          exact cells_ne hk hc ht rfl
        have hBx := hB.keep hx (hne _ _ _ hB (by decide))
        have hNx := HNB.out.keep hx (hne _ _ _ HNB.out (by decide))
        refine (wo_close1 (s := S5.opn[i]) hBx (hNx.cell 0)).mono ?_
        rintro e w' ⟨rfl, n, rfl⟩
        exact ⟨by simp [List.getD, hi'], n, rfl⟩
      rintro e w6 ⟨v6, rfl, ho6, ht6, hv6⟩
      obtain ⟨A6, cap6, rfl, -, -⟩ := own_form ho6
      obtain ⟨h7, t7⟩ := HW.out.deleted (fun i => decide ((S5.opn.getD i smZero).name = name)) ht6 ho6 hv6
      have hne : ¬ some pb = M'.vo.ownBlock := fun e => by
        obtain ⟨cur, hc, -⟩ := own_lt HW.out.rowO e.symm
        exact cells_ne HW.out.head hc (by decide) rfl
      have hd6 := HW.out.head.keep ht6 hne
      have c11 : w6.cell? ⟨pb, 10, none⟩ = some M'.vo := hd6.cell 10
      have f11 : w6.frozen? ⟨pb, 10, none⟩ = false := hd6.free 10
      have HT7 := Lib.hid (HT.out.trans t7 (fun i hi e => (HFF.out i e).resolve_right (by omega)))
      rw [keep_filter S5.opn (fun m => decide (m.name = name))] at h7
      obtain ⟨N6, hN6⟩ : ∃ N6, N6 = (keepR (fun i => decide ((S5.opn.getD i smZero).name = name)) M'.gs S5.opn.length).length := ⟨_, rfl⟩
      obtain ⟨M7, hM7, h7'⟩ : ∃ M7 : Mem, M7.m = M'.m ∧ WAt (w6.setCell ⟨pb, 10, none⟩ (.slice A6 N6 cap6)) F' pb M7 { S5 with opn := S5.opn.filter (fun m => !decide (m.name = name)) } := ⟨{ M' with vo := .slice A6 N6 cap6, gs := keepR (fun i => decide ((S5.opn.getD i smZero).name = name)) M'.gs S5.opn.length }, rfl, by rw [hN6]; exact h7⟩
      have H7 := Lib.hid h7'
      have HM7 := Lib.hid hM7
      rw [← hN6] at HT7 ⊢
      clear h7' hM7 hN6
      clear h7 t7 ho6 ht6 hv6 hne hd6 c10 f10
      go_wp2_with fail
      go_ret2
      exact ⟨M7, F', rfl, by unfold closeL; rw [← HS5.out]; have := H7.out; rw [HOP.out] at this; exact this, (Tur.of_gr (F := F) HB0.out).trans HT7.out (fun _ _ e => e), fun i e => by
        rcases HFF.out i e with e | e
        · exact .inl e
        · right; have := HSZ1.out; omega, HM7.out.trans HM.out⟩
end Go.Proofs.YtdbdmgmenojcaaaDoor
namespace Go.Proofs.YtdbdmgmenojcaaaDoor
open Go.RowKit Wd
open Go.WideMaps Go.WideElems Go.WideAt

/-- How long the slice in a cell is. -/
def lenAt (w : World) (b i : Nat) : Nat := match w.cell? ⟨b, i, none⟩ with
  | some (.slice _ n _) => n
  | _ => 0
theorem lenAt_of {w : World} {b i n cap : Nat} {A : Option Addr} (h : w.cell? ⟨b, i, none⟩ = some (.slice A n cap)) : lenAt w b i = n := by unfold lenAt; rw [h]
/-- Closed one behind the other, the first first. -/
inductive Wd.ClosedTo (st : St) : St → Prop
  | refl : ClosedTo st st
  | step {s : St} {m : Sm} {r : List Sm} : ClosedTo st s → s.opn = m :: r → ClosedTo st (closeL s m.name).1
theorem closeL_opn (st : St) (name : ByteArray) : (closeL st name).1.opn = st.opn.filter (fun m => !decide (m.name = name)) := rfl
theorem closeL_trace (st : St) (name : ByteArray) : (closeL st name).1.trace.length ≤ st.trace.length + 5 := (closeK_same st name 5).2
theorem closeL_rep (st : St) (name : ByteArray) : (closeL st name).1.replies = st.replies := by show (closeK st name 5).1.replies = _; rw [(closeK_same st name 5).1]
theorem closeL_less {st : St} {m : Sm} {r : List Sm} (h : st.opn = m :: r) : (closeL st m.name).1.opn.length < st.opn.length := by
  rw [closeL_opn, h, List.filter_cons, if_neg (by simp)]
  exact Nat.lt_succ_of_le (List.length_filter_le _ _)

theorem emod_tmod (x n : Int) (hn : 0 < n) : x % n = if x.tmod n < 0 then x.tmod n + n else x.tmod n := by
  have h1 := Int.emod_nonneg x (Int.ne_of_gt hn)
  have h2 := Int.emod_lt_of_pos x hn
  have h3 := Int.tmod_eq_emod (a := x) (b := n)
  by_cases hc : 0 ≤ x ∨ n ∣ x
  · rw [if_pos hc] at h3
    rw [if_neg (by omega)]
    omega
  · rw [if_neg hc] at h3
    have h4 : x % n ≠ 0 := fun e => hc (.inr (Int.dvd_of_emod_eq_zero e))
    rw [if_pos (by omega)]
    omega
theorem tmod_range (x n : Int) (hn : 0 < n) : -n < x.tmod n ∧ x.tmod n < n := by
  have h1 := Int.emod_nonneg x (Int.ne_of_gt hn)
  have h2 := Int.emod_lt_of_pos x hn
  have h3 := Int.tmod_eq_emod (a := x) (b := n)
  by_cases hc : 0 ≤ x ∨ n ∣ x
  · rw [if_pos hc] at h3
    constructor <;> omega
  · rw [if_neg hc] at h3
    have h4 : x % n ≠ 0 := fun e => hc (.inr (Int.dvd_of_emod_eq_zero e))
    constructor <;> omega
theorem w_pick (x n : Int) (w : World) (hx : (Lit.int .i64 x).wf = true) (hn : 0 < n) (hn2 : n ≤ 1000000) :
    Calls Tryd.prog 20 #[.int .i64 x, .int .i64 n] w fun e w' => e = .returned (.int .i64 (x % n)) ∧ w = w' := by
  have hh := emod_tmod x n hn
  have HH := Lib.hid hh
  have hx1 : -9223372036854775808 ≤ x ∧ x ≤ 9223372036854775807 := by
    simp [Lit.wf, IntKind.min, IntKind.max, IntKind.bits, IntKind.signed] at hx; omega
  have ht1 := tmod_range x n hn
  obtain ⟨h3, h4⟩ := ht1
  clear hh hx
  by_cases hneg : x.tmod n < 0
  · have HV := Lib.hid (HH.out.trans (if_pos hneg))
    have hn0 : ¬ n ≤ 0 := by omega
    have hne0 : ¬ n = 0 := by omega
    go_enter Tryd.func20, Tryd.ntmps20
    go_wp2_with fail
    go_ret
    exact ⟨ret_int (by rw [HV.out]), rfl⟩
  · have HV := Lib.hid (HH.out.trans (if_neg hneg))
    have hn0 : ¬ n ≤ 0 := by omega
    have hne0 : ¬ n = 0 := by omega
    go_enter Tryd.func20, Tryd.ntmps20
    go_wp2_with fail
    go_ret
    exact ⟨ret_int (by rw [HV.out]), rfl⟩
end Go.Proofs.YtdbdmgmenojcaaaDoor
namespace Go.Proofs.YtdbdmgmenojcaaaDoor
open Go.RowKit Wd
open Go.WideMaps Go.WideElems Go.WideAt



set_option maxRecDepth 100000 in
theorem wo_cloneR0 (w : World) : Calls Tryd.prog 31 #[.slice none 0 0] w fun e w' => e = .returned (.slice none 0 0) ∧ w = w' := by
  have hnil := fun w => Lib.run_eql_slice_nil (P := Tryd.prog) w 34 87 none 0 0 0 0 Tryd.underlying34
  go_enter Tryd.func31, Tryd.ntmps31
  go_wp2_with fail
  go_ret
  exact ⟨rfl, rfl⟩
set_option maxRecDepth 100000 in
theorem wo_cloneF0 (w : World) : Calls Tryd.prog 32 #[.slice none 0 0] w fun e w' => e = .returned (.slice none 0 0) ∧ w = w' := by
  have hnil := fun w => Lib.run_eql_slice_nil (P := Tryd.prog) w 35 85 none 0 0 0 0 Tryd.underlying35
  go_enter Tryd.func32, Tryd.ntmps32
  go_wp2_with fail
  go_ret
  exact ⟨rfl, rfl⟩
def Wd.filesOf (l : List (ByteArray × ByteArray)) : List UInt8 → Option ByteArray := l.foldl (fun f p => setF f p.1.data.toList p.2) (fun _ => none)
theorem run_look_none {P : Program} {k e : TypeId} {w : World} {b m : Nat} {f : List UInt8 → Option Value} (h : MapS P k e w b m f) {t : TypeId} (K : Go.Maps.Keyed P k) (ht : P.underlying t = some (.map k e)) {z : Value} (hz : (zeroValue e).run P w = .ok z w)
    {key : Value} {l : List UInt8} (hkey : keyOf P k key = some (.string l)) (hn : f l = none) : (Instr.lookup t (.map (some b)) key true).run P w = .ok (.tuple #[z, .bool false]) w := by
  obtain ⟨D, hown, _, hf⟩ := h
  obtain ⟨es, clock, hb, F, _, rfl⟩ := hown
  rcases Maps.fit_look true K ht hz hb F hkey with ⟨hrun, _, _⟩ | ⟨e0, y, _, _, _, _, hat, _⟩
  · exact hrun
  · have := has_of_atKey hat
    rw [(hf l).1 hn] at this
    cases this
theorem filesOf_succ {l : List (ByteArray × ByteArray)} {k : Nat} (h : k < l.length) : filesOf (l.take (k + 1)) = setF (filesOf (l.take k)) l[k].1.data.toList l[k].2 := by
  unfold filesOf
  rw [List.take_succ_eq_append_getElem h, List.foldl_append]
  rfl
set_option maxRecDepth 20000 in
set_option maxHeartbeats 4000000 in
theorem wo_new0 {w : World} {g cap : Nat} (l : List (ByteArray × ByteArray)) (stdin : ByteArray) (lim clock chance : Int) (hg : g < w.heap.size) (hcells : ∀ i, (h : i < l.length) → w.cell? ⟨g, i * 2, none⟩ = some (.string l[i].1) ∧ w.cell? ⟨g, i * 2 + 1, none⟩ = some (.string l[i].2))
    (hcap : l.length ≤ cap) (hl : l.length ≤ 1000) (hsz : ∀ p ∈ l, p.1.size ≤ maxLen ∧ p.2.size ≤ maxLen) (hnew : ∀ k, (h : k < l.length) → filesOf (l.take k) l[k].1.data.toList = none) (hlim : 0 ≤ lim ∧ lim ≤ 16) :
    Calls Tryd.prog 12 #[.agg #[.slice (some ⟨g, 0, none⟩) l.length cap, .string stdin, .slice none 0 0, .slice none 0 0, .int .i64 lim, .int .i64 clock, .int .u64 chance]] w fun e w' => ∃ pb M F, e = .returned (.tuple #[.pointer (some ⟨pb, 0, none⟩), .int .i64 0]) ∧ WAt w' F pb M ⟨lim, clock, filesOf l, stdin, [], chance, [], [], []⟩ ∧ Below w.heap.size w w' ∧ (∀ g, F g → w.heap.size ≤ g) ∧ M.m ≤ l.length := by
  have HC := Lib.hid hcells
  have HNEW := Lib.hid hnew
  have HSZ := Lib.hid hsz
  have HB := Lib.hid (Blk.new w 38 #[.slice (some ⟨g, 0, none⟩) l.length cap, .string stdin, .slice none 0 0, .slice none 0 0, .int .i64 lim, .int .i64 clock, .int .u64 chance])
  have HB0 := Lib.hid ((Below.refl w.heap.size w).alloc (Nat.le_refl _) (.cells #[.slice (some ⟨g, 0, none⟩) l.length cap, .string stdin, .slice none 0 0, .slice none 0 0, .int .i64 lim, .int .i64 clock, .int .u64 chance] 38))
  obtain ⟨n, hnn⟩ : ∃ n, n = l.length := ⟨_, rfl⟩
  rw [← hnn] at HB HB0 hcap hl ⊢
  have HNN := Lib.hid hnn
  clear hcells hnew hsz hnn
  go_enter Tryd.func12, Tryd.ntmps12
  go_wp2_with fail
  generalize w.alloc (.cells #[.slice (some ⟨g, 0, none⟩) n cap, .string stdin, .slice none 0 0, .slice none 0 0, .int .i64 lim, .int .i64 clock, .int .u64 chance] 38) = w1 at *
  obtain ⟨B, hB⟩ : ∃ B, B = w.heap.size := ⟨_, rfl⟩
  rw [← hB] at HB HB0 ⊢
  have HBE := Lib.hid hB
  have S1 : ∀ w', Blk w' B 38 #[.slice (some ⟨g, 0, none⟩) n cap, .string stdin, .slice none 0 0, .slice none 0 0, .int .i64 lim, .int .i64 clock, .int .u64 chance] → w'.cell? ⟨B, 0, none⟩ = some (.slice (some ⟨g, 0, none⟩) n cap) ∧ w'.cell? ⟨B, 1, none⟩ = some (.string stdin) ∧ w'.cell? ⟨B, 2, none⟩ = some (.slice none 0 0) ∧ w'.cell? ⟨B, 3, none⟩ = some (.slice none 0 0) ∧ w'.cell? ⟨B, 4, none⟩ = some (.int .i64 lim) ∧ w'.cell? ⟨B, 5, none⟩ = some (.int .i64 clock) ∧ w'.cell? ⟨B, 6, none⟩ = some (.int .u64 chance) := fun w' h => ⟨h.cell 0, h.cell 1, h.cell 2, h.cell 3, h.cell 4, h.cell 5, h.cell 6⟩
  obtain ⟨c0, c1, c2, c3, c4, c5, c6⟩ := S1 w1 HB.out
  clear hB S1
  have hmm := @run_makeMap Tryd.prog
  go_region_held3 (fun w' => w'.cell? ⟨B, 0, none⟩ = some (.slice (some ⟨g, 0, none⟩) n cap) ∧ w'.cell? ⟨B, 1, none⟩ = some (.string stdin) ∧ w'.cell? ⟨B, 2, none⟩ = some (.slice none 0 0) ∧ w'.cell? ⟨B, 3, none⟩ = some (.slice none 0 0) ∧ w'.cell? ⟨B, 4, none⟩ = some (.int .i64 lim) ∧ w'.cell? ⟨B, 5, none⟩ = some (.int .i64 clock) ∧ w'.cell? ⟨B, 6, none⟩ = some (.int .u64 chance)) (go_keep) (first | (go_at_call 31; refine (wo_cloneR0 _).mono ?_; rintro e w2 ⟨rfl, rfl⟩) | (go_at_call 32; refine (wo_cloneF0 _).mono ?_; rintro e w2 ⟨rfl, rfl⟩))
  all_goals
    have hmap0 := MapS.made Tryd.prog 9 9 w1
    obtain ⟨bm, hbm⟩ : ∃ bm, bm = w1.heap.size := ⟨_, rfl⟩
    rw [← hbm] at hmap0
    have HBM := Lib.hid hbm
    have HWA : Hid (∃ M0 : Mem, M0.m = 0 ∧ M0.vr = .slice none 0 0 ∧ WAt ((w1.alloc (.map #[] 0)).alloc (.cells #[.bool true, .slice (some ⟨g, 0, none⟩) n cap, .string stdin, .slice none 0 0, .slice none 0 0, .int .i64 lim, .int .i64 clock, .int .u64 chance, .map (some w1.heap.size), .string stdin, .slice none 0 0, .int .u64 chance, .slice none 0 0, .slice none 0 0, .slice none 0 0] 93)).drew (fun k => k = w1.heap.size ∨ k = w1.heap.size + 1) (w1.heap.size + 1) M0 ⟨lim, clock, filesOf (l.take 0), stdin, [], chance, [], [], []⟩) := by
      refine ⟨⟨.slice (some ⟨g, 0, none⟩) n cap, .string stdin, .slice none 0 0, .slice none 0 0, .int .u64 chance, w1.heap.size, 0, .slice none 0 0, [], .slice none 0 0, .slice none 0 0, .slice none 0 0⟩, rfl, rfl, ?_⟩
      exact {
        flt := fun k hk => by
          show k < ((w1.alloc _).alloc _).heap.size
          simp; omega
        fp := .inr rfl
        fm := .inl rfl
        fo := fun g hg => by cases hg
        ft := fun g hg => by cases hg
        fr := fun g hg => by cases hg
        ff := fun g hg => by cases hg
        fg := fun g hg => by cases hg
        head := by
          have h := Blk.new (w1.alloc (.map #[] 0)) 93 #[.bool true, .slice (some ⟨g, 0, none⟩) n cap, .string stdin, .slice none 0 0, .slice none 0 0, .int .i64 lim, .int .i64 clock, .int .u64 chance, .map (some w1.heap.size), .string stdin, .slice none 0 0, .int .u64 chance, .slice none 0 0, .slice none 0 0, .slice none 0 0]
          rw [show (w1.alloc (.map #[] 0)).heap.size = w1.heap.size + 1 by simp] at h
          exact h
        map := by
          rw [hbm] at hmap0
          exact hmap0.of_block (((Below.refl (w1.alloc (.map #[] 0)).heap.size (w1.alloc (.map #[] 0))).alloc (Nat.le_refl _) _).block _ (by simp))
        rowO := World.ownsRow_nil _ _ _ _
        strm := fun i h => by simp at h
        nd := List.nodup_nil
        rowT := World.ownsRow_nil _ _ _ _
        rowR := World.ownsRow_nil _ _ _ _
        rowF := World.ownsRow_nil _ _ _ _ }
    have HB2 := Lib.hid (((HB0.out.alloc (by have := HB0.out.size; have := HBE.out; omega) (.map #[] 0)).alloc (by have := HB0.out.size; have := HBE.out; simp; omega) (.cells #[.bool true, .slice (some ⟨g, 0, none⟩) n cap, .string stdin, .slice none 0 0, .slice none 0 0, .int .i64 lim, .int .i64 clock, .int .u64 chance, .map (some w1.heap.size), .string stdin, .slice none 0 0, .int .u64 chance, .slice none 0 0, .slice none 0 0, .slice none 0 0] 93)).drew)
    have HBS : Hid (Blk ((w1.alloc (.map #[] 0)).alloc (.cells #[.bool true, .slice (some ⟨g, 0, none⟩) n cap, .string stdin, .slice none 0 0, .slice none 0 0, .int .i64 lim, .int .i64 clock, .int .u64 chance, .map (some w1.heap.size), .string stdin, .slice none 0 0, .int .u64 chance, .slice none 0 0, .slice none 0 0, .slice none 0 0] 93)).drew B 38 #[.slice (some ⟨g, 0, none⟩) n cap, .string stdin, .slice none 0 0, .slice none 0 0, .int .i64 lim, .int .i64 clock, .int .u64 chance]) :=
      below_blk HB.out (((((Below.refl w1.heap.size w1).alloc (Nat.le_refl _) (.map #[] 0)).alloc (by simp) (.cells #[.bool true, .slice (some ⟨g, 0, none⟩) n cap, .string stdin, .slice none 0 0, .slice none 0 0, .int .i64 lim, .int .i64 clock, .int .u64 chance, .map (some w1.heap.size), .string stdin, .slice none 0 0, .int .u64 chance, .slice none 0 0, .slice none 0 0, .slice none 0 0] 93)).drew)) HB.out.lt
    have HB1S := Lib.hid HB0.out.size
    clear hmap0 hbm c0 c1 c2 c3 c4 c5 c6 hmm
    generalize ((w1.alloc (.map #[] 0)).alloc (.cells #[.bool true, .slice (some ⟨g, 0, none⟩) n cap, .string stdin, .slice none 0 0, .slice none 0 0, .int .i64 lim, .int .i64 clock, .int .u64 chance, .map (some w1.heap.size), .string stdin, .slice none 0 0, .int .u64 chance, .slice none 0 0, .slice none 0 0, .slice none 0 0] 93)).drew = w2 at *
    obtain ⟨M0, hM0, hMv, hWA⟩ := HWA.out
    have HMV := Lib.hid hMv
    have c0 : w2.cell? ⟨B, 0, none⟩ = some (.slice (some ⟨g, 0, none⟩) n cap) := HBS.out.cell 0
    have HW0 := Lib.hid hWA
    have HM0 := Lib.hid hM0
    clear HWA hWA hM0 hMv
    obtain ⟨pb, hpb⟩ : ∃ pb, pb = w1.heap.size + 1 := ⟨_, rfl⟩
    rw [← hpb] at HW0 ⊢
    obtain ⟨F0, hF0⟩ : ∃ F0 : Nat → Prop, F0 = fun k => k = w1.heap.size ∨ k = pb := ⟨_, rfl⟩
    have HF0 : Hid (∀ k, F0 k → w.heap.size ≤ k) := by
      unfold Hid; intro k hk; rw [hF0] at hk; have := HB1S.out
      rcases hk with hk | hk <;> omega
    rw [← hF0] at HW0
    clear hF0 hpb
    generalize w1.heap.size = sz1 at *
    go_wp2_with fail
    go_loopw [28] (fun i wr => ∃ (k : Nat) (M' : Mem), k ≤ n ∧ i = .int .i64 k ∧ WAt wr F0 pb M' ⟨lim, clock, filesOf (l.take k), stdin, [], chance, [], [], []⟩ ∧ M'.m ≤ k ∧ M'.vr = .slice none 0 0 ∧ Below B w wr ∧ Blk wr B 38 #[.slice (some ⟨g, 0, none⟩) n cap, .string stdin, .slice none 0 0, .slice none 0 0, .int .i64 lim, .int .i64 clock, .int .u64 chance]) (fun i _ => n - (intOf i).toNat)
    case atStart => exact ⟨0, M0, Nat.zero_le _, rfl, HW0.out, by rw [HM0.out]; exact Nat.le_refl _, HMV.out, HB2.out, HBS.out⟩
    case round =>
      obtain ⟨k, M', hk, rfl, hW, hm, hvr, hb, hS⟩ := hrel
      have HVR := Lib.hid hvr
      have HW := Lib.hid hW
      have HM := Lib.hid hm
      have HBB := Lib.hid hb
      have HSS := Lib.hid hS
      have hgB : g < B := by have := HBE.out; omega
      clear hW hm hb hS hvr
      by_cases hlt : k < n
      · have hkl : k < l.length := by have := HNN.out; omega
        obtain ⟨d0, d1⟩ := HC.out k hkl
        have d0' := (HBB.out.cell (p := ⟨g, k * 2, none⟩) hgB).trans d0
        have d1' := (HBB.out.cell (p := ⟨g, k * 2 + 1, none⟩) hgB).trans d1
        obtain ⟨hs1, hs2⟩ := HSZ.out l[k] (List.getElem_mem _)
        have hnone := HNEW.out k hkl
        have hfs := filesOf_succ hkl
        generalize l[k].1 = fname at *
        generalize l[k].2 = fdata at *
        have HNONE := Lib.hid hnone
        have HFS := Lib.hid hfs
        clear d0 d1 hnone hfs
        have HBA := Lib.hid ((Below.refl wr.heap.size wr).alloc (Nat.le_refl _) (.cells #[.string fname, .string fdata] 83))
        have HBN := Lib.hid (Blk.new wr 83 #[.string fname, .string fdata])
        have HWB := Lib.hid (HW.out.pure HBA.out)
        have HSB := Lib.hid (below_blk HSS.out HBA.out HSS.out.lt)
        have HBC := Lib.hid (HBB.out.trans (HBA.out.mono (by have := HBB.out.size; have := HBE.out; omega)))
        have hgl : g < wr.heap.size := by have := HBB.out.size; omega
        go_wp2_with fail
        generalize wr.alloc (.cells #[.string fname, .string fdata] 83) = w3 at *
        obtain ⟨X, hX⟩ : ∃ X, X = wr.heap.size := ⟨_, rfl⟩
        rw [← hX] at HBN ⊢
        have HXE := Lib.hid hX
        clear hX d0' d1'
        have c8 : w3.cell? ⟨pb, 8, none⟩ = some (.map (some M'.bm)) := HWB.out.cell 8
        obtain ⟨⟨n0, n1⟩, -⟩ := HBN.out.two
        have hlk : ∀ q, (Instr.lookup 88 (.map (some M'.bm)) (.string fname) true).run Tryd.prog (w3.drewN q) = .ok (.tuple #[.string ⟨#[]⟩, .bool false]) (w3.drewN q) := fun q => run_look_none (HWB.out.drewN q).map klaw Tryd.underlying88 (zero_string _) (keyOf_string_mk Tryd.underlying9 hs1) (by show ((filesOf (l.take k)) fname.data.toList).map Value.string = none; rw [HNONE.out]; rfl)
        go_wp2_with fail
        go_quiet (fail)
        have HW4 := Lib.hid (HWB.out.drewN nq)
        have HS4 : Hid (Blk (w3.drewN nq) B 38 #[.slice (some ⟨g, 0, none⟩) n cap, .string stdin, .slice none 0 0, .slice none 0 0, .int .i64 lim, .int .i64 clock, .int .u64 chance]) := HSB.out
        have HX4 : Hid (Blk (w3.drewN nq) X 83 #[.string fname, .string fdata]) := HBN.out
        have HB4 := Lib.hid (HBC.out.trans ((below_drew w3 nq).mono (by have := HBC.out.size; have := HBE.out; omega)))
        clear hlk c8 n0 n1
        generalize w3.drewN nq = w4 at *
        have c8 : w4.cell? ⟨pb, 8, none⟩ = some (.map (some M'.bm)) := HW4.out.cell 8
        obtain ⟨⟨n0, n1⟩, -⟩ := HX4.out.two
        go_wp2_with fail
        go_still_tail 8, (by kernel_rfl)
        change wpList _ _ _ _ _ w4.drew
        have HW5 := Lib.hid HW4.out.drew
        have HS5 : Hid (Blk w4.drew B 38 #[.slice (some ⟨g, 0, none⟩) n cap, .string stdin, .slice none 0 0, .slice none 0 0, .int .i64 lim, .int .i64 clock, .int .u64 chance]) := HS4.out
        have HB5 := Lib.hid HB4.out.drew
        clear c8 n0 n1
        generalize w4.drew = w5 at *
        have hmm2 : M'.m < maxLen := by unfold maxLen; have := HM.out; omega
        have HBM2 := Lib.hid (show ¬ B = M'.bm from map_ne HS5.out HW5.out.map)
        have HMB := Lib.hid (show (if ((fun x => (filesOf (l.take k) x).map Value.string) fname.data.toList).isSome then M'.m else M'.m + 1) ≤ k + 1 by have := HM.out; split <;> omega)
        go_wp2_with (at_mapUpdate; refine wp_map_put rfl _ _ _ _ rfl klaw Tryd.underlying9 Tryd.underlying88 rfl HW5.out.map hmm2 _ (.string fdata) _ rfl rfl (keyOf_string_mk Tryd.underlying9 hs1) ⟨_, plainElem_string Tryd.underlying9 hs2⟩ ?_; intro w6 hmap6 hturn6; obtain ⟨h6', t6⟩ := HW5.out.put fname.data.toList fdata hmap6 hturn6; obtain ⟨M6, hm6, hv6, h6⟩ : ∃ M6 : Mem, M6.m ≤ k + 1 ∧ M6.vr = .slice none 0 0 ∧ WAt w6 F0 pb M6 ⟨lim, clock, setF (filesOf (l.take k)) fname.data.toList fdata, stdin, [], chance, [], [], []⟩ := ⟨{ M' with m := (if ((fun x => (filesOf (l.take k) x).map Value.string) fname.data.toList).isSome then M'.m else M'.m + 1) }, HMB.out, HVR.out, h6'⟩; clear h6'; have HW6 := Lib.hid h6; have HS6 := Lib.hid (HS5.out.keep ((Tur.of_grown hturn6.grown).mono (fun k _ e => (show k = M'.bm by injection e))) HBM2.out); have HB6 := Lib.hid (HB5.out.trans (t6.below B (by have := HB5.out.size; have := HBE.out; omega) (fun k hk hF => by have := HF0.out _ hF; have := HBE.out; omega))); clear h6 t6 hmap6 hturn6)
        go_roundw
        case rel => exact ⟨k + 1, M6, by omega, by go_num, by rw [HFS.out]; exact HW6.out, hm6, hv6, HB6.out, HS6.out⟩
        case measure => simp [intOf]; omega
      · obtain rfl : k = n := by omega
        have c13 : wr.cell? ⟨pb, 13, none⟩ = some M'.vr := HW.out.cell 13
        rw [HVR.out] at c13
        have c4 : wr.cell? ⟨B, 4, none⟩ = some (.int .i64 lim) := HSS.out.cell 4
        have hl1 : ¬ lim < 0 := by omega
        have hl2 : ¬ 16 < lim := by omega
        have HLK := Lib.hid (show l.take k = l by rw [HNN.out, List.take_length])
        go_wp2_with fail
        go_loopw [57] (fun i wx => i = .int .i64 0 ∧ wx = wr) (fun _ _ => 0)
        case atStart => exact ⟨rfl, rfl⟩
        case round =>
          obtain ⟨rfl, rfl⟩ := hrel
          go_wp2_with fail
          go_ret2
          exact ⟨pb, M', F0, rfl, by have := HW.out; rw [HLK.out] at this; exact this, by have := HBB.out; rw [HBE.out] at this; exact this, HF0.out, HM.out⟩
end Go.Proofs.YtdbdmgmenojcaaaDoor
namespace Go.Proofs.YtdbdmgmenojcaaaDoor
open Go.RowKit Wd
open Go.WideMaps Go.WideElems Go.WideAt

theorem info_rp : (Tryd.prog.info? 87).map (fun i => (i.zero, i.size, i.bytes)) = some (some (.agg #[.string ⟨#[]⟩, .string ⟨#[]⟩, .int .i64 0]), 3, 40) := by kernel_rfl
theorem one_rp {e : Rp} : ∀ u ∈ e.vals, u.oneCell' = true := by
  intro u hu; simp [Rp.vals] at hu; rcases hu with rfl | rfl | rfl <;> rfl
set_option maxRecDepth 100000 in
theorem wo_cloneR {w : World} {v : Value} (l : List Rp) (hrow : w.ownsRow 0 87 3 v l.length (rvals l)) (hn : l.length ≤ 1000000000) :
    Calls Tryd.prog 31 #[v] w fun e w' => ∃ v', e = .returned v' ∧ w'.ownsRow w.heap.size 87 3 v' l.length (rvals l) ∧ Below w.heap.size w w' := by
  rcases hrow.2 with ⟨rfl, h0⟩ | ⟨g, cap, cur, rfl, hg0, hcur, hlc, hcm, hcs, htk⟩
  · have hl : l = [] := List.eq_nil_of_length_eq_zero h0
    subst hl
    have hnil := fun w => Lib.run_eql_slice_nil (P := Tryd.prog) w 34 87 none 0 0 0 0 Tryd.underlying34
    go_enter Tryd.func31, Tryd.ntmps31
    go_wp2_with fail
    go_ret
    exact ⟨_, rfl, World.ownsRow_nil _ _ _ _, Below.refl _ _⟩
  · have HROW := Lib.hid hrow
    have hz1 : 0 + l.length ≤ maxLen := by unfold maxLen; omega
    have hz2 : (0 + l.length) * 40 ≤ 140737488355328 := by omega
    have hba := (Below.refl w.heap.size w).alloc (Nat.le_refl _) (.cells #[] 87)
    have HBA := Lib.hid hba
    have HR1 := Lib.hid (own_of_block hrow (fun g hg => hba.block g (own_lt hrow hg).choose_spec.2))
    have HE : Hid ((w.alloc (.cells #[] 87)).ownsRow w.heap.size 87 3 (.slice (some ⟨w.heap.size, 0, none⟩) 0 0) 0 []) :=
      ⟨rfl, .inr ⟨w.heap.size, 0, #[], rfl, Nat.le_refl _, Blk.new w _ _, Nat.le_refl _, Nat.zero_le _, rfl, rfl⟩⟩
    have hall : ∀ u ∈ rvals l, u.oneCell' = true := by
      intro u hu
      obtain ⟨e, -, he⟩ := List.mem_flatMap.1 hu
      exact one_rp u he
    have HALL := Lib.hid hall
    clear hrow hcur hcs htk hba hall hg0
    have hnil := fun w => Lib.run_eql_slice_nil (P := Tryd.prog) w 34 87 (some ⟨g, 0, none⟩) l.length cap 0 0 Tryd.underlying34
    go_enter Tryd.func31, Tryd.ntmps31
    go_wp2_with (at_builtin; refine wp_appn rfl _ _ _ rfl 87 3 40 _ Tryd.underlying34 info_rp rfl (by decide) w.heap.size (.slice (some ⟨w.heap.size, 0, none⟩) 0 0) 0 [] rfl HE.out 0 (.slice (some ⟨g, 0, none⟩) l.length cap) l.length _ rfl HR1.out HALL.out hz1 hz2 (by simp) ?_; intro A1 cap1 w1 hown1 hgrow1 hat1)
    go_ret
    refine ⟨_, rfl, by have := hown1; simp only [Nat.zero_add, List.nil_append] at this ⊢; exact this, ?_⟩
    exact ⟨hgrow1.os.trans HBA.out.os, hgrow1.tape.trans HBA.out.tape, hgrow1.output.trans HBA.out.output, Nat.le_trans HBA.out.size hgrow1.size, fun k hk => (hgrow1.block k (by have := HBA.out.size; omega) (by intro e; injection e with e; change k = w.heap.size at e; omega)).trans (HBA.out.block k hk)⟩
set_option maxRecDepth 100000 in
theorem enters_new1 : ∀ (args : Array Value) (w : World), (callFunc 34 args).run Tryd.prog w = .ok (.enter 34 args) w := fun _ _ => rfl
theorem wo_new1 {w : World} {a : Nat} (r : Rp) {cmd : ByteArray} (ha : w.cell? ⟨a, 0, none⟩ = some (.string cmd)) (hal : a < w.heap.size) :
    Calls Tryd.prog 34 #[r.val, .pointer (some ⟨a, 0, none⟩)] w fun e w' => e = .returned (.bool (isRp cmd r)) ∧ Below w.heap.size w w' := by
  obtain ⟨rc, ro, rs⟩ := r
  have HB0 := Lib.hid ((Below.refl w.heap.size w).alloc (Nat.le_refl _) (.cells #[.string rc, .string ro, .int .i64 rs] 87))
  have ca := (HB0.out.cell (p := ⟨a, 0, none⟩) hal).trans ha
  have HH : Hid (isRp cmd ⟨rc, ro, rs⟩ = (rc.toList == cmd.toList)) := by unfold Hid; rw [str_eq]; rfl
  rw [HH.out]
  clear ha
  show Calls Tryd.prog 34 #[.agg #[.string rc, .string ro, .int .i64 rs], .pointer (some ⟨a, 0, none⟩)] w _
  go_enter Tryd.func34, Tryd.ntmps34
  go_wp2_with fail
  go_ret
  exact ⟨rfl, HB0.out⟩
theorem own_take {w : World} {base e sz n k g cap : Nat} {cs : List Value} (h : w.ownsRow base e sz (.slice (some ⟨g, 0, none⟩) n cap) n cs) (hk : k ≤ n) : w.ownsRow base e sz (.slice (some ⟨g, 0, none⟩) k cap) k (cs.take (k * sz)) := by
  obtain ⟨hl, ⟨hv, -⟩ | ⟨g', cap', cur, hv, hg0, hcur, hlc, hcm, hcs, htk⟩⟩ := h
  · cases hv
  · cases hv
    have hle : k * sz ≤ n * sz := Nat.mul_le_mul_right _ hk
    refine ⟨by rw [List.length_take, hl]; omega, .inr ⟨g, cap, cur, rfl, hg0, hcur, by omega, hcm, hcs, ?_⟩⟩
    rw [← htk, List.take_take, Nat.min_eq_left hle]
theorem rvals_take (l : List Rp) (k : Nat) : (rvals l).take (k * 3) = rvals (l.take k) := by
  induction l generalizing k with
  | nil => simp [rvals]
  | cons a l ih =>
    cases k with
    | zero => simp [rvals]
    | succ k =>
      have : (k + 1) * 3 = k * 3 + 3 := by omega
      rw [this]
      show (rvals l |> fun x => a.vals ++ x).take _ = a.vals ++ rvals (l.take k)
      rw [← ih k]
      simp [Rp.vals]
/-- slices.ContainsFunc over replies. -/
theorem wo_containsR {w : World} {v : Value} {n : Nat} (l : List Rp) (f : Nat) (caps : Array Value) (q : Rp → Bool) (hrow : w.ownsRow 0 87 3 v n (rvals l)) (hln : n = l.length) (hc : ∀ (args : Array Value) (w : World), (callFunc f args).run Tryd.prog w = .ok (.enter f args) w)
    (hg : ∀ r, ∀ wr, Below w.heap.size w wr → Calls Tryd.prog f (#[r.val] ++ caps) wr fun e w' => e = .returned (.bool (q r)) ∧ Below wr.heap.size wr w') (hn : n ≤ 1000000000) :
    Calls Tryd.prog 33 #[v, .func (.func f) #[] caps] w fun e w' => e = .returned (.bool (l.any q)) ∧ Below w.heap.size w w' := by
  have HC := Lib.hid (wo_indexR l f caps q hrow hln hc hg hn)
  have HV : Hid ((0 ≤ ixV (l.findIdx? q)) ↔ l.any q = true) := by
    unfold Hid
    cases h : l.findIdx? q with
    | some i =>
      obtain ⟨hi, h1, -⟩ := List.findIdx?_eq_some_iff_getElem.1 h
      exact ⟨fun _ => List.any_eq_true.2 ⟨_, List.getElem_mem hi, h1⟩, fun _ => by simp [ixV]⟩
    | none =>
      have := List.findIdx?_eq_none_iff.1 h
      refine ⟨fun h' => by simp [ixV] at h', fun h' => ?_⟩
      obtain ⟨x, hx, hq⟩ := List.any_eq_true.1 h'
      rw [this x hx] at hq; cases hq
  clear hrow hln hc hg
  generalize l.findIdx? q = o at *
  generalize l.any q = b at *
  generalize ixV o = i at *
  go_enter Tryd.func33, Tryd.ntmps33
  go_wp2_with fail
  refine (HC.out).mono ?_
  rintro e w2 ⟨rfl, hb⟩
  have HB := Lib.hid hb
  clear hb HC
  by_cases h : 0 ≤ i
  · have hbt := HV.out.1 h
    subst hbt
    have HD : Hid (decide (0 ≤ i) = true) := by unfold Hid; simp [h]
    go_wp2_with fail
    go_ret
    exact ⟨by first | rfl | simp [HD.out] | (show Ending.returned (.bool (decide (0 ≤ i))) = _; rw [HD.out]), HB.out⟩
  · have hbf : b = false := by cases b; rfl; exact absurd (HV.out.2 rfl) h
    subst hbf
    have HD : Hid (decide (0 ≤ i) = false) := by unfold Hid; simp [h]
    go_wp2_with fail
    go_ret
    exact ⟨by first | rfl | simp [HD.out] | (show Ending.returned (.bool (decide (0 ≤ i))) = _; rw [HD.out]), HB.out⟩
end Go.Proofs.YtdbdmgmenojcaaaDoor
