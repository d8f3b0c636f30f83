/- A world: the walks of CloseAll and Trace; Pick. -/
import Derived.Test.YtodjjnklelfgfaaWld10
namespace Go.Proofs.Ytodjjnklelfgfaa
open Go.RowKit Wd
open Go.WideMaps Go.WideElems Go.WideAt

/-- How long the slice in a cell is. -/
def lenAt (w : World) (b i : Nat) : Nat := match w.cell? ⟨b, i, none⟩ with
  | some (.slice _ n _) => n
  | _ => 0
theorem lenAt_of {w : World} {b i n cap : Nat} {A : Option Addr} (h : w.cell? ⟨b, i, none⟩ = some (.slice A n cap)) : lenAt w b i = n := by unfold lenAt; rw [h]
/-- Closed one behind the other, the first first. -/
inductive Wd.ClosedTo (st : St) : St → Prop
  | refl : ClosedTo st st
  | step {s : St} {m : Sm} {r : List Sm} : ClosedTo st s → s.opn = m :: r → ClosedTo st (closeL s m.name).1
theorem closeL_opn (st : St) (name : ByteArray) : (closeL st name).1.opn = st.opn.filter (fun m => !decide (m.name = name)) := rfl
theorem closeL_trace (st : St) (name : ByteArray) : (closeL st name).1.trace.length ≤ st.trace.length + 5 := (closeK_same st name 5).2
theorem closeL_rep (st : St) (name : ByteArray) : (closeL st name).1.replies = st.replies := by show (closeK st name 5).1.replies = _; rw [(closeK_same st name 5).1]
theorem closeL_less {st : St} {m : Sm} {r : List Sm} (h : st.opn = m :: r) : (closeL st m.name).1.opn.length < st.opn.length := by
  rw [closeL_opn, h, List.filter_cons, if_neg (by simp)]
  exact Nat.lt_succ_of_le (List.length_filter_le _ _)
set_option maxRecDepth 20000 in
set_option maxHeartbeats 2000000 in
theorem wo_closeall {w : World} {F : Nat → Prop} {pb : Nat} {M : Mem} {st : St} (h : WAt w F pb M st) (hno : st.opn.length ≤ 1000000) (hnt : st.trace.length ≤ 10000000) (hnr : st.replies.length ≤ 1000000000) :
    Calls Try.prog 20 #[.pointer (some ⟨pb, 0, none⟩)] w fun e w' => ∃ st' M' F', e = .returned (.tuple #[]) ∧ ClosedTo st st' ∧ st'.opn = [] ∧ WAt w' F' pb M' st' ∧ Tur F w w' ∧ (∀ g, F' g → F g ∨ w.heap.size ≤ g) ∧ st'.trace.length ≤ st.trace.length + 5 * st.opn.length := by
  have H := Lib.hid h
  clear h
  go_enter Try.func20, Try.ntmps20
  go_wp2_with fail
  go_loopw [] (fun wr => ∃ (st' : St) (M' : Mem) (F' : Nat → Prop), ClosedTo st st' ∧ WAt wr F' pb M' st' ∧ Tur F w wr ∧ (∀ g, F' g → F g ∨ w.heap.size ≤ g) ∧ st'.trace.length + 5 * st'.opn.length ≤ st.trace.length + 5 * st.opn.length ∧ st'.replies = st.replies) (fun wr => lenAt wr pb 10)
  case atStart => exact ⟨st, M, F, .refl, H.out, Tur.refl _ _, fun _ h => .inl h, Nat.le_refl _, rfl⟩
  case round =>
    obtain ⟨st', M', F', hR, hW, hT, hF, hb, hrp⟩ := hrel
    obtain ⟨A, cap, hvo, hc1, hc2⟩ := own_form hW.rowO
    have c10 : wr.cell? ⟨pb, 10, none⟩ = some (.slice A st'.opn.length cap) := hvo ▸ hW.cell 10
    have HLA := Lib.hid (lenAt_of c10)
    have HR := Lib.hid hR
    have HW := Lib.hid hW
    have HT := Lib.hid hT
    have HFF := Lib.hid hF
    have HB := Lib.hid hb
    have HRP := Lib.hid hrp
    have HVO := Lib.hid hvo
    clear hR hW hT hF hb hrp hvo
    cases hop : st'.opn with
    | nil =>
      rw [hop] at c10
      have HOP := Lib.hid hop
      have HB2 : Hid (st'.trace.length ≤ st.trace.length + 5 * st.opn.length) := by unfold Hid; have := HB.out; omega
      clear hop hc1
      go_wp2_with fail
      refine (wo_none HW.out).mono ?_
      rintro e w2 ⟨rfl, rfl⟩
      go_wp2_with fail
      exact bodyPost_end (v := .tuple #[]) (by simp [results, Try.results20, go_sem]) rfl ⟨st', M', F', rfl, HR.out, HOP.out, HW.out, HT.out, HFF.out, HB2.out⟩
    | cons m r =>
      obtain ⟨N, hN⟩ : ∃ N, N = st'.opn.length := ⟨_, rfl⟩
      have hN1 : 0 < N := by rw [hN, hop]; exact Nat.succ_pos _
      rw [← hN] at c10 hc1
      have hrow := HW.out.rowO
      rw [HVO.out, ← hN] at hrow
      obtain ⟨g, cap', hv, -, -⟩ := ownBlock_form hrow hN1
      obtain ⟨rfl, -, -⟩ := Value.slice.inj hv
      obtain ⟨gm, hgm, hBm⟩ := HW.out.strm 0 (by rw [← hN]; exact hN1)
      have hm0 : st'.opn[0]'(by rw [← hN]; exact hN1) = m := by simp [hop]
      rw [hm0] at hBm
      have cg : wr.cell? ⟨g, 0, none⟩ = some (.pointer (some ⟨gm, 0, none⟩)) := by
        rw [hrow.cellAt 0 (by omega)]
        simp [ptrs, hgm]
      have cm : wr.cell? ⟨gm, 1, none⟩ = some (.string m.name) := hBm.cell 1
      have HOP := Lib.hid hop
      have HNN := Lib.hid hN
      have hNc : ((N : Int) == 0) = false := beq_eq_false_iff_ne.2 (by omega)
      have hno' : st'.opn.length ≤ 1000000000 := by have := HB.out; omega
      have hnt' : st'.trace.length ≤ 100000000 := by have := HB.out; omega
      have hnr' : st'.replies.length ≤ 1000000000 := by rw [HRP.out]; exact hnr
      have HNO := Lib.hid hno'
      have HNT := Lib.hid hnt'
      have HNR := Lib.hid hnr'
      have hl1 := closeL_less hop
      have hl2 := closeL_trace st' m.name
      have HL1 := Lib.hid hl1
      have HL2 := Lib.hid hl2
      clear hop hN hrow hv hgm hBm hm0 hno' hnt' hnr' hl1 hl2
      go_wp2_with fail
      refine (wo_none HW.out).mono ?_
      rintro e w2 ⟨rfl, rfl⟩
      go_wp2_with fail
      refine (wo_close HW.out m.name HNO.out HNT.out HNR.out).mono ?_
      rintro e w3 ⟨M3, F3, rfl, h3, t3, f3, m3⟩
      obtain ⟨A3, cap3, hv3, -, -⟩ := own_form h3.rowO
      have hl3 : lenAt w3 pb 10 = (closeL st' m.name).1.opn.length := lenAt_of (A := A3) (cap := cap3) ((h3.cell 10).trans (congrArg some hv3))
      have HL3 := Lib.hid hl3
      clear hv3 hl3 c10 cg cm
      go_wp2_with fail
      go_roundw
      case rel => exact ⟨_, M3, F3, .step HR.out HOP.out, h3, HT.out.trans t3 (fun i hi e => (HFF.out i e).resolve_right (by omega)), fun i e => by
        rcases f3 i e with e | e
        · exact HFF.out i e
        · right; have := HT.out.size; omega, by have := HB.out; have := HL1.out; have := HL2.out; omega, (closeL_rep st' m.name).trans HRP.out⟩
      case measure =>
        show lenAt w3 pb 10 < lenAt wr pb 10
        rw [HL3.out, HLA.out]
        exact HL1.out
theorem emod_tmod (x n : Int) (hn : 0 < n) : x % n = if x.tmod n < 0 then x.tmod n + n else x.tmod n := by
  have h1 := Int.emod_nonneg x (Int.ne_of_gt hn)
  have h2 := Int.emod_lt_of_pos x hn
  have h3 := Int.tmod_eq_emod (a := x) (b := n)
  by_cases hc : 0 ≤ x ∨ n ∣ x
  · rw [if_pos hc] at h3
    rw [if_neg (by omega)]
    omega
  · rw [if_neg hc] at h3
    have h4 : x % n ≠ 0 := fun e => hc (.inr (Int.dvd_of_emod_eq_zero e))
    rw [if_pos (by omega)]
    omega
theorem tmod_range (x n : Int) (hn : 0 < n) : -n < x.tmod n ∧ x.tmod n < n := by
  have h1 := Int.emod_nonneg x (Int.ne_of_gt hn)
  have h2 := Int.emod_lt_of_pos x hn
  have h3 := Int.tmod_eq_emod (a := x) (b := n)
  by_cases hc : 0 ≤ x ∨ n ∣ x
  · rw [if_pos hc] at h3
    constructor <;> omega
  · rw [if_neg hc] at h3
    have h4 : x % n ≠ 0 := fun e => hc (.inr (Int.dvd_of_emod_eq_zero e))
    constructor <;> omega
theorem w_pick (x n : Int) (w : World) (hx : (Lit.int .i64 x).wf = true) (hn : 0 < n) (hn2 : n ≤ 1000000) :
    Calls Try.prog 10 #[.int .i64 x, .int .i64 n] w fun e w' => e = .returned (.int .i64 (x % n)) ∧ w = w' := by
  have hh := emod_tmod x n hn
  have HH := Lib.hid hh
  have hx1 : -9223372036854775808 ≤ x ∧ x ≤ 9223372036854775807 := by
    simp [Lit.wf, IntKind.min, IntKind.max, IntKind.bits, IntKind.signed] at hx; omega
  have ht1 := tmod_range x n hn
  obtain ⟨h3, h4⟩ := ht1
  clear hh hx
  by_cases hneg : x.tmod n < 0
  · have HV := Lib.hid (HH.out.trans (if_pos hneg))
    have hn0 : ¬ n ≤ 0 := by omega
    have hne0 : ¬ n = 0 := by omega
    go_enter Try.func10, Try.ntmps10
    go_wp2_with fail
    go_ret
    exact ⟨ret_int (by rw [HV.out]), rfl⟩
  · have HV := Lib.hid (HH.out.trans (if_neg hneg))
    have hn0 : ¬ n ≤ 0 := by omega
    have hne0 : ¬ n = 0 := by omega
    go_enter Try.func10, Try.ntmps10
    go_wp2_with fail
    go_ret
    exact ⟨ret_int (by rw [HV.out]), rfl⟩
end Go.Proofs.Ytodjjnklelfgfaa
