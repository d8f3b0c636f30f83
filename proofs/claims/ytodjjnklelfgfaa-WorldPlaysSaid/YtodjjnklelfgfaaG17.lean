/- A world: each call of the program in one contract, whatever it is handed: Write (writeS), Read (readL), CloseAll; and the document's: Opened, Write, Read. -/
import Derived.Test.YtodjjnklelfgfaaG15
import Derived.Test.YtodjjnklelfgfaaG16
import Derived.Test.YtodjjnklelfgfaaG8
import Derived.Test.YtodjjnklelfgfaaG6
import Derived.Deep.Cut
import Derived.Test.YtodjjnklelfgfaaG12
import Derived.Deep.Slices
import Derived.OpenShut
import Derived.SliceStrings
import Derived.WideShapes
set_option linter.unusedVariables false
set_option linter.unusedSimpArgs false
namespace Go.Proofs.Ytodjjnklelfgfaa
open Go.RowKit Wd
open Go.WideMaps Go.WideElems Go.WideAt

set_option maxRecDepth 20000 in
set_option maxHeartbeats 2000000 in
theorem wo_closeallM {w : World} {F : Nat → Prop} {pb : Nat} {M : Mem} {st : St} (h : WAt w F pb M st) (hno : st.opn.length ≤ 1000000) (hnt : st.trace.length ≤ 10000000) (hnr : st.replies.length ≤ 1000000000) :
    Calls Try.prog 20 #[.pointer (some ⟨pb, 0, none⟩)] w fun e w' => ∃ st' M' F', e = .returned (.tuple #[]) ∧ ClosedTo st st' ∧ st'.opn = [] ∧ WAt w' F' pb M' st' ∧ Tur F w w' ∧ (∀ g, F' g → F g ∨ w.heap.size ≤ g) ∧ st'.trace.length ≤ st.trace.length + 5 * st.opn.length ∧ M'.m = M.m := by
  have H := Lib.hid h
  clear h
  go_enter Try.func20, Try.ntmps20
  go_wp2_with fail
  go_loopw [] (fun wr => ∃ (st' : St) (M' : Mem) (F' : Nat → Prop), ClosedTo st st' ∧ WAt wr F' pb M' st' ∧ Tur F w wr ∧ (∀ g, F' g → F g ∨ w.heap.size ≤ g) ∧ st'.trace.length + 5 * st'.opn.length ≤ st.trace.length + 5 * st.opn.length ∧ st'.replies = st.replies ∧ M'.m = M.m) (fun wr => lenAt wr pb 10)
  case atStart => exact ⟨st, M, F, .refl, H.out, Tur.refl _ _, fun _ h => .inl h, Nat.le_refl _, rfl, rfl⟩
  case round =>
    obtain ⟨st', M', F', hR, hW, hT, hF, hb, hrp, hmm⟩ := hrel
    obtain ⟨A, cap, hvo, hc1, hc2⟩ := own_form hW.rowO
    have c10 : wr.cell? ⟨pb, 10, none⟩ = some (.slice A st'.opn.length cap) := hvo ▸ hW.cell 10
    have HLA := Lib.hid (lenAt_of c10)
    have HMM := Lib.hid hmm
    have HR := Lib.hid hR
    have HW := Lib.hid hW
    have HT := Lib.hid hT
    have HFF := Lib.hid hF
    have HB := Lib.hid hb
    have HRP := Lib.hid hrp
    have HVO := Lib.hid hvo
    clear hR hW hT hF hb hrp hvo hmm
    cases hop : st'.opn with
    | nil =>
      rw [hop] at c10
      have HOP := Lib.hid hop
      have HB2 : Hid (st'.trace.length ≤ st.trace.length + 5 * st.opn.length) := by unfold Hid; have := HB.out; omega
      clear hop hc1
      go_wp2_with fail
      refine (wo_none HW.out).mono ?_
      rintro e w2 ⟨rfl, rfl⟩
      go_wp2_with fail
      exact bodyPost_end (v := .tuple #[]) (by simp [results, Try.results20, go_sem]) rfl ⟨st', M', F', rfl, HR.out, HOP.out, HW.out, HT.out, HFF.out, HB2.out, HMM.out⟩
    | cons m r =>
      obtain ⟨N, hN⟩ : ∃ N, N = st'.opn.length := ⟨_, rfl⟩
      have hN1 : 0 < N := by rw [hN, hop]; exact Nat.succ_pos _
      rw [← hN] at c10 hc1
      have hrow := HW.out.rowO
      rw [HVO.out, ← hN] at hrow
      obtain ⟨g, cap', hv, -, -⟩ := ownBlock_form hrow hN1
      obtain ⟨rfl, -, -⟩ := Value.slice.inj hv
      obtain ⟨gm, hgm, hBm⟩ := HW.out.strm 0 (by rw [← hN]; exact hN1)
      have hm0 : st'.opn[0]'(by rw [← hN]; exact hN1) = m := by simp [hop]
      rw [hm0] at hBm
      have cg : wr.cell? ⟨g, 0, none⟩ = some (.pointer (some ⟨gm, 0, none⟩)) := by
        rw [hrow.cellAt 0 (by omega)]
        simp [ptrs, hgm]
      have cm : wr.cell? ⟨gm, 1, none⟩ = some (.string m.name) := hBm.cell 1
      have HOP := Lib.hid hop
      have HNN := Lib.hid hN
      have hNc : ((N : Int) == 0) = false := beq_eq_false_iff_ne.2 (by omega)
      have hno' : st'.opn.length ≤ 1000000000 := by have := HB.out; omega
      have hnt' : st'.trace.length ≤ 100000000 := by have := HB.out; omega
      have hnr' : st'.replies.length ≤ 1000000000 := by rw [HRP.out]; exact hnr
      have HNO := Lib.hid hno'
      have HNT := Lib.hid hnt'
      have HNR := Lib.hid hnr'
      have hl1 := closeL_less hop
      have hl2 := closeL_trace st' m.name
      have HL1 := Lib.hid hl1
      have HL2 := Lib.hid hl2
      clear hop hN hrow hv hgm hBm hm0 hno' hnt' hnr' hl1 hl2
      go_wp2_with fail
      refine (wo_none HW.out).mono ?_
      rintro e w2 ⟨rfl, rfl⟩
      go_wp2_with fail
      refine (wo_close HW.out m.name HNO.out HNT.out HNR.out).mono ?_
      rintro e w3 ⟨M3, F3, rfl, h3, t3, f3, m3⟩
      obtain ⟨A3, cap3, hv3, -, -⟩ := own_form h3.rowO
      have hl3 : lenAt w3 pb 10 = (closeL st' m.name).1.opn.length := lenAt_of (A := A3) (cap := cap3) ((h3.cell 10).trans (congrArg some hv3))
      have HL3 := Lib.hid hl3
      clear hv3 hl3 c10 cg cm
      go_wp2_with fail
      go_roundw
      case rel => exact ⟨_, M3, F3, .step HR.out HOP.out, h3, HT.out.trans t3 (fun i hi e => (HFF.out i e).resolve_right (by omega)), fun i e => by
        rcases f3 i e with e | e
        · exact HFF.out i e
        · right; have := HT.out.size; omega, by have := HB.out; have := HL1.out; have := HL2.out; omega, (closeL_rep st' m.name).trans HRP.out, m3.trans HMM.out⟩
      case measure =>
        show lenAt w3 pb 10 < lenAt wr pb 10
        rw [HL3.out, HLA.out]
        exact HL1.out
theorem fail_no {st : St} {op : Int} {nm : ByteArray} (h : ¬ failB st op nm = true) : failB st op nm = false := by simpa using h
def WrP (w : World) (F : Nat → Prop) (pb : Nat) (M : Mem) (r : St × Int) (e : Ending) (w' : World) : Prop :=
  ∃ M' F', e = .returned (.int .i64 r.2) ∧ WAt w' F' pb M' r.1 ∧ Tur F w w' ∧ (∀ g, F' g → F g ∨ w.heap.size ≤ g) ∧ M'.m ≤ M.m + 1
theorem WrP.still {w w' : World} {F : Nat → Prop} {pb : Nat} {M : Mem} {r : St × Int} {e : Ending} (h : e = .returned (.int .i64 r.2) ∧ WAt w' F pb M r.1 ∧ Tur F w w') : WrP w F pb M r e w' :=
  ⟨M, F, h.1, h.2.1, h.2.2, fun _ h => .inl h, by omega⟩
theorem wo_write {w : World} {F : Nat → Prop} {pb : Nat} {M : Mem} {st : St} (h : WAt w F pb M st) (k : Int) (nm data : ByteArray) (hk : nm.size ≤ maxLen) (hd : data.size ≤ maxLen) (hf : ((st.files nm.data.toList).getD ⟨#[]⟩).size + data.size ≤ 4294967296) (hno : st.opn.length ≤ 1000000000) (hnf : st.fails.length ≤ 1000000000) (hnt : st.trace.length ≤ 1000000000) (hnm : M.m ≤ 1000000000) :
    Calls Try.prog 12 #[.pointer (some ⟨pb, 0, none⟩), .int .u8 k, .string nm, .string data] w (WrP w F pb M (writeS st k nm data)) := by
  by_cases h6 : k = 6
  · subst h6
    by_cases hfl : failB st 3 ⟨#[]⟩ = true
    · have e : writeS st 6 nm data = (st, 14) := by unfold writeS; simp [hfl]
      rw [e]
      exact (wo_write_out_fail h nm data hfl hnf).mono fun e w' h => WrP.still h
    · by_cases hd0 : data.size = 0
      · have e : writeS st 6 nm data = (st, 0) := by unfold writeS; simp [fail_no hfl, hd0]
        rw [e]
        have e2 : data = ⟨#[]⟩ := ByteArray.ext (Array.eq_empty_of_size_eq_zero hd0)
        rw [e2]
        exact (wo_write_out_none h nm (fail_no hfl) hnf).mono fun e w' h => WrP.still h
      · have e : writeS st 6 nm data = (st.traced ⟨2, 6, ⟨#[]⟩, data, 0⟩, 0) := by unfold writeS; simp [fail_no hfl, hd0]
        rw [e]
        refine (wo_write_out h nm data hd0 (fail_no hfl) hnf hnt).mono ?_
        rintro e w' ⟨M', F', h1, h2, h3, h4, h5⟩
        exact ⟨M', F', h1, h2, h3, h4, by omega⟩
  by_cases hkk : k = 3 ∨ k = 4 ∨ k = 5
  · cases hfi : Wd.find st k nm with
    | none =>
      have e : writeS st k nm data = (st, 16) := by unfold writeS; rw [if_pos ⟨h6, .inr hfi⟩]
      rw [e]
      exact (wo_write_nil h k nm data hkk hfi hno hnf).mono fun e w' h => WrP.still h
    | some i =>
      have hc : ¬ (k ≠ 6 ∧ ((k ≠ 3 ∧ k ≠ 4 ∧ k ≠ 5) ∨ Wd.find st k nm = none)) := by
        rintro ⟨-, h | h⟩
        · omega
        · rw [hfi] at h; cases h
      by_cases hfl : failB st 3 nm = true
      · have e : writeS st k nm data = (st, 14) := by unfold writeS; rw [if_neg hc, if_neg h6, if_pos hfl]
        rw [e]
        exact (wo_write_fail h k nm data i hkk hfi hfl hno hnf).mono fun e w' h => WrP.still h
      by_cases hd0 : data.size = 0
      · have e : writeS st k nm data = (st, 0) := by unfold writeS; rw [if_neg hc, if_neg h6, if_neg hfl, if_pos hd0]
        rw [e]
        exact (wo_write_none h k nm data hno hnf hnt i hfi (fail_no hfl) hkk hd0).mono fun e w' h => WrP.still h
      by_cases h5 : k = 5
      · have e : writeS st k nm data = (st.traced ⟨2, 5, nm, data, 0⟩, 0) := by unfold writeS; rw [if_neg hc, if_neg h6, if_neg hfl, if_neg hd0, h5]; simp
        rw [e]
        refine (wo_write_pipe h k nm data hno hnf hnt i hfi (fail_no hfl) h5 hd0).mono ?_
        rintro e w' ⟨M', F', h1, h2, h3, h4, h5⟩
        exact ⟨M', F', h1, h2, h3, h4, by omega⟩
      · have h34 : k = 3 ∨ k = 4 := by omega
        have e : writeS st k nm data = (({ st with files := setF st.files nm.data.toList ((st.files nm.data.toList).getD ⟨#[]⟩ ++ data) } : St).traced ⟨2, k, nm, data, 0⟩, 0) := by unfold writeS; rw [if_neg hc, if_neg h6, if_neg hfl, if_neg hd0, if_pos h34]
        rw [e]
        exact wo_write_file h k nm data hno hnf hnt i hfi (fail_no hfl) h34 hd0 hk hf hnm
  · have e : writeS st k nm data = (st, 16) := by unfold writeS; rw [if_pos ⟨h6, .inl ⟨by omega, by omega, by omega⟩⟩]
    rw [e]
    exact (wo_write_kind h k nm data ⟨h6, by omega⟩).mono fun e w' h => WrP.still h
def RdP (w : World) (F : Nat → Prop) (pb : Nat) (M : Mem) (r : St × ByteArray × Int) (e : Ending) (w' : World) : Prop :=
  e = .returned (.tuple #[.string r.2.1, .int .i64 r.2.2]) ∧ WAt w' F pb M r.1 ∧ Tur F w w'
theorem wo_read {w : World} {F : Nat → Prop} {pb : Nat} {M : Mem} {st : St} (h : WAt w F pb M st) (k : Int) (nm : ByteArray) (n : Int) (hn : n ≤ 9223372036854775807) (hss : st.stdin.size ≤ 4294967296) (hls : ∀ s ∈ st.opn, s.left.size ≤ 4294967296) (hno : st.opn.length ≤ 1000000000) (hnf : st.fails.length ≤ 1000000000) :
    Calls Try.prog 11 #[.pointer (some ⟨pb, 0, none⟩), .int .u8 k, .string nm, .int .i64 n] w (RdP w F pb M (readL st k nm n)) := by
  by_cases hk : k = 1 ∨ k = 2
  · cases hf : Wd.find st k nm with
    | none =>
      have e : readL st k nm n = (st, ⟨#[]⟩, 16) := by unfold readL; rw [if_neg (not_not_intro hk), hf]
      rw [e]
      exact wo_read_nil h k nm n hk hf hno hnf
    | some i =>
      by_cases h1 : n < 1
      · have e : readL st k nm n = (st, ⟨#[]⟩, 2) := by unfold readL; rw [if_neg (not_not_intro hk), hf]; simp only []; rw [if_pos h1]
        rw [e]
        exact wo_read_arg h k nm n i hk hf h1 hno hnf
      by_cases hfl : failB st 2 nm = true
      · have e : readL st k nm n = (st, ⟨#[]⟩, 13) := by unfold readL; rw [if_neg (not_not_intro hk), hf]; simp only []; rw [if_neg h1, if_pos hfl]
        rw [e]
        exact wo_read_fail h k nm n i hk hf h1 hfl hno hnf
      obtain ⟨q, rfl⟩ := Int.eq_ofNat_of_zero_le (show 0 ≤ n by omega)
      by_cases hin : k = 1 ∧ nm = minus
      · have e : readL st k nm (q : Int) = ({ st with stdin := st.stdin.extract (cutN q st.stdin) st.stdin.size }, st.stdin.extract 0 (cutN q st.stdin), 0) := by unfold readL; rw [if_neg (not_not_intro hk), hf]; simp only []; rw [if_neg h1, if_neg hfl, if_pos hin]
        rw [e]
        obtain ⟨rfl, rfl⟩ := hin
        exact wo_read_in h q hno hnf (by omega) h1 hss i hf (fail_no hfl)
      · have e : readL st k nm (q : Int) = ({ st with opn := setAtL st.opn i ((st.opn.getD i smZero).left.extract (cutN q (st.opn.getD i smZero).left) (st.opn.getD i smZero).left.size) }, (st.opn.getD i smZero).left.extract 0 (cutN q (st.opn.getD i smZero).left), 0) := by unfold readL; rw [if_neg (not_not_intro hk), hf]; simp only []; rw [if_neg h1, if_neg hfl, if_neg hin]
        rw [e]
        have hil : i < st.opn.length := (List.findIdx?_eq_some_iff_getElem.1 hf).1
        have hm : st.opn.getD i smZero ∈ st.opn := by simp [List.getD_eq_getElem?_getD, List.getElem?_eq_getElem hil]
        exact wo_read_st h k nm q hk hin hno hnf (by omega) h1 i hf (fail_no hfl) _ rfl (hls _ hm)
  · have e : readL st k nm n = (st, ⟨#[]⟩, 16) := by unfold readL; rw [if_pos hk]
    rw [e]
    exact wo_read_kind h k nm n ⟨fun e => hk (.inl e), fun e => hk (.inr e)⟩ hno hnf
section
variable {K : Nat → Prop} {w : World} {f : Fm} {st : RSt}
theorem fw_open (h : RF K w f st) (k : Int) (name : ByteArray) (hev : st.events.length ≤ 100000) (hop : st.opn.length ≤ 100000) (hfil : st.files.length ≤ 100000) :
    Calls Try.prog 44 #[.agg (fcells f st), .int .u8 k, .string name] w (WrPost K w (openD st k name).1 (openD st k name).2) := by
  by_cases h0 : k < 1 ∨ 5 < k
  · exact fw_open_no h k name h0
  have hk : k = 1 ∨ k = 2 ∨ k = 3 ∨ k = 4 ∨ k = 5 := by omega
  rcases hk with rfl | rfl | rfl | rfl | rfl
  · exact fw_open_1 h name hev hop hfil
  · exact fw_open_2 h name hev hop hfil
  · exact fw_open_3 h name hev hop hfil
  · exact fw_open_4 h name hev hop hfil
  · exact fw_open_5 h name hev hop hfil
theorem fw_write (h : RF K w f st) (k : Int) (name data : ByteArray) (hev : st.events.length ≤ 100000) (hfil : st.files.length ≤ 100000) (hcat0 : ((fileF st name).getD (⟨#[]⟩, ⟨#[]⟩)).2.size + data.size ≤ 9223372036854775807) :
    Calls Try.prog 46 #[.agg (fcells f st), .int .u8 k, .string name, .string data] w (WrPost K w (writeD st k name data).1 (writeD st k name data).2) := by
  by_cases h0 : k ≠ 6 ∧ k ≠ 3 ∧ k ≠ 4 ∧ k ≠ 5
  · have e : writeD st k name data = (st, 16) := by unfold writeD; rw [if_pos ⟨h0.1, .inl h0.2⟩]
    rw [e]
    exact fw_write1 h k name data h0
  have hk : k = 3 ∨ k = 4 ∨ k = 5 ∨ k = 6 := by omega
  rcases hk with rfl | rfl | rfl | rfl
  · exact fw_write_3 h name data hev hfil hcat0
  · exact fw_write_4 h name data hev hfil hcat0
  · exact fw_write_5 h name data hev
  · exact fw_write_6 h name data hev
theorem fw_read (h : RF K w f st) (k : Int) (name : ByteArray) (n : Int) (hn : n ≤ 9223372036854775807) (hop : st.opn.length ≤ 100000) (htk : st.taken ≤ st.stdin.size) (hsz : st.stdin.size ≤ 4294967296) (hts : ∀ s ∈ st.opn, s.tk ≤ s.src.size ∧ s.src.size ≤ 4294967296) :
    Calls Try.prog 45 #[.agg (fcells f st), .int .u8 k, .string name, .int .i64 n] w (RdPost K w (readD st k name n).1 (readD st k name n).2.1 (readD st k name n).2.2) := by
  cases hf : findF st k name with
  | none => exact fw_read_none h k name n hf
  | some ix =>
    have hxl : ix < st.opn.length := (List.findIdx?_eq_some_iff_getElem.1 hf).1
    have hm : st.opn.getD ix smZ ∈ st.opn := by simp [List.getD_eq_getElem?_getD, List.getElem?_eq_getElem hxl]
    obtain ⟨ht1, ht2⟩ := hts _ hm
    by_cases hk : k ≠ 1 ∧ k ≠ 2
    · exact fw_read_kind h k name n ix hf hk
    have hk' : k = 1 ∨ k = 2 := by omega
    rcases hk' with rfl | rfl
    · by_cases h1 : n < 1
      · exact fw_read_arg1 h name n ix hf h1
      obtain ⟨q, rfl⟩ := Int.eq_ofNat_of_zero_le (show 0 ≤ n by omega)
      by_cases hmi : name = minus
      · exact fw_read_in1 h name q ix hf (by omega) (by omega) hmi htk hsz
      · exact fw_read_st1 h name q ix hf (by omega) (by omega) hmi hop hxl ht1 ht2
    · by_cases h1 : n < 1
      · exact fw_read_arg2 h name n ix hf h1
      obtain ⟨q, rfl⟩ := Int.eq_ofNat_of_zero_le (show 0 ≤ n by omega)
      exact fw_read_st2 h name q ix hf (by omega) (by omega) hop hxl ht1 ht2
end
end Go.Proofs.Ytodjjnklelfgfaa
namespace Go.Proofs.Ytodjjnklelfgfaa
open Go.RowKit Wd
namespace Wd
def shF (b : Nat) (p : ByteArray × ByteArray) : Bool := decide (p.1.size ≤ b) && decide (p.2.size ≤ b)
def shR (b : Nat) (p : Rp) : Bool := decide (p.cmd.size ≤ b) && decide (p.out.size ≤ b)
def shL (b : Nat) (p : Fl) : Bool := decide (p.name.size ≤ b)
def shortB (files : List (ByteArray × ByteArray)) (reps : List Rp) (fls : List Fl) (stdin : ByteArray) (c b : Nat) : Bool :=
  decide (files.length ≤ c ∧ reps.length ≤ c ∧ fls.length ≤ c ∧ stdin.size ≤ b) && files.all (shF b) && reps.all (shR b) && fls.all (shL b)
theorem all_take_succ {α : Type} (p : α → Bool) (l : List α) (k : Nat) (h : k < l.length) : (l.take (k + 1)).all p = ((l.take k).all p && p l[k]) := by
  rw [List.take_succ_eq_append_getElem h, List.all_append]; simp
theorem all_no {α : Type} {p : α → Bool} {l : List α} {k : Nat} (h : k < l.length) (hp : p l[k] = false) : l.all p = false := by
  rw [List.all_eq_false]
  exact ⟨l[k], List.getElem_mem h, by rw [hp]; decide⟩
end Wd
set_option maxRecDepth 100000 in
set_option maxHeartbeats 8000000 in
theorem w_short {K : Nat → Prop} {w : World} {vF vR vL : Value} (files : List (ByteArray × ByteArray)) (reps : List Rp) (fls : List Fl) (stdin : ByteArray) (lim clock ch : Int) (c b : Nat) (hF : Row K w vF files.length 2 (fvals2 files)) (hR : Row K w vR reps.length 3 (rvals reps)) (hL : Row K w vL fls.length 2 (fvals fls)) (hst : stdin.size ≤ maxLen)
    (hfz : ∀ p ∈ files, p.1.size ≤ maxLen ∧ p.2.size ≤ maxLen) (hrz : ∀ p ∈ reps, p.cmd.size ≤ maxLen ∧ p.out.size ≤ maxLen) (hlz : ∀ p ∈ fls, p.name.size ≤ maxLen) (hc : c ≤ 1000) (hb : b ≤ 100000) :
    Calls Try.prog 25 #[.agg #[vF, .string stdin, vR, vL, .int .i64 lim, .int .i64 clock, .int .u64 ch], .int .i64 c, .int .i64 b] w fun e w' => e = .returned (.bool (shortB files reps fls stdin c b)) ∧ Below w.heap.size w w' := by
  obtain ⟨-, hn1, A1, cap1, rfl, hc1, hd1, hcell1⟩ := hF
  obtain ⟨-, hn2, A2, cap2, rfl, hc2, hd2, hcell2⟩ := hR
  obtain ⟨-, hn3, A3, cap3, rfl, hc3, hd3, hcell3⟩ := hL
  have HB := Lib.hid ((Below.refl w.heap.size w).alloc (Nat.le_refl _) (.cells #[.slice A1 files.length cap1, .string stdin, .slice A2 reps.length cap2, .slice A3 fls.length cap3, .int .i64 lim, .int .i64 clock, .int .u64 ch] 53))
  have HN := Lib.hid (Blk.new w 53 #[.slice A1 files.length cap1, .string stdin, .slice A2 reps.length cap2, .slice A3 fls.length cap3, .int .i64 lim, .int .i64 clock, .int .u64 ch])
  obtain ⟨n1, e1⟩ : ∃ n, n = files.length := ⟨_, rfl⟩
  obtain ⟨n2, e2⟩ : ∃ n, n = reps.length := ⟨_, rfl⟩
  obtain ⟨n3, e3⟩ : ∃ n, n = fls.length := ⟨_, rfl⟩
  rw [← e1] at hn1 hc1 hcell1
  rw [← e2] at hn2 hc2 hcell2
  rw [← e3] at hn3 hc3 hcell3
  rw [← e1, ← e2, ← e3] at HB HN
  obtain ⟨o, ho⟩ : ∃ o, o = shortB files reps fls stdin c b := ⟨_, rfl⟩
  rw [← ho, ← e1, ← e2, ← e3]
  have HO : Hid (o = (decide (n1 ≤ c ∧ n2 ≤ c ∧ n3 ≤ c ∧ stdin.size ≤ b) && files.all (shF b) && reps.all (shR b) && fls.all (shL b))) := by unfold Hid; rw [ho, e1, e2, e3]; rfl
  have HE1 := Lib.hid e1
  have HE2 := Lib.hid e2
  have HE3 := Lib.hid e3
  have HC1 := Lib.hid hcell1
  have HC2 := Lib.hid hcell2
  have HC3 := Lib.hid hcell3
  have HFZ := Lib.hid hfz
  have HRZ := Lib.hid hrz
  have HLZ := Lib.hid hlz
  have k1 : cap1 < 9223372036854775808 := by unfold maxLen at hd1; omega
  have k2 : cap2 < 9223372036854775808 := by unfold maxLen at hd2; omega
  have k3 : cap3 < 9223372036854775808 := by unfold maxLen at hd3; omega
  have hst2 : stdin.size < 9223372036854775808 := by unfold maxLen at hst; omega
  clear hcell1 hcell2 hcell3 e1 e2 e3 ho hfz hrz hlz
  have hways : (c < n1) ∨ (¬ c < n1 ∧ c < n2) ∨ (¬ c < n1 ∧ ¬ c < n2 ∧ c < n3) ∨ (¬ c < n1 ∧ ¬ c < n2 ∧ ¬ c < n3 ∧ b < stdin.size) ∨ (¬ c < n1 ∧ ¬ c < n2 ∧ ¬ c < n3 ∧ ¬ b < stdin.size) := by omega
  obtain ⟨B, hB⟩ : ∃ B, B = w.heap.size := ⟨_, rfl⟩
  have HBE := Lib.hid hB
  rw [← hB] at HN HB
  have HBW : Hid (Below w.heap.size w (w.alloc (.cells #[.slice A1 n1 cap1, .string stdin, .slice A2 n2 cap2, .slice A3 n3 cap3, .int .i64 lim, .int .i64 clock, .int .u64 ch] 53))) := by have := HB.out; rw [hB] at this; exact this
  clear hB
  rcases hways with h1 | ⟨h1, h2⟩ | ⟨h1, h2, h3⟩ | ⟨h1, h2, h3, h4⟩ | ⟨h1, h2, h3, h4⟩
  · have HE : Hid (o = false) := by unfold Hid; rw [HO.out, decide_eq_false (by omega)]; rfl
    go_enter Try.func25, Try.ntmps25
    go_wp2_with fail
    go_ret
    exact ⟨ret_bool HE.out.symm, HBW.out⟩
  · have HE : Hid (o = false) := by unfold Hid; rw [HO.out, decide_eq_false (by omega)]; rfl
    go_enter Try.func25, Try.ntmps25
    go_wp2_with fail
    go_ret
    exact ⟨ret_bool HE.out.symm, HBW.out⟩
  · have HE : Hid (o = false) := by unfold Hid; rw [HO.out, decide_eq_false (by omega)]; rfl
    go_enter Try.func25, Try.ntmps25
    go_wp2_with fail
    go_ret
    exact ⟨ret_bool HE.out.symm, HBW.out⟩
  · have HE : Hid (o = false) := by unfold Hid; rw [HO.out, decide_eq_false (by omega)]; rfl
    go_enter Try.func25, Try.ntmps25
    go_wp2_with fail
    go_ret
    exact ⟨ret_bool HE.out.symm, HBW.out⟩
  · have HW : Hid (decide (n1 ≤ c ∧ n2 ≤ c ∧ n3 ≤ c ∧ stdin.size ≤ b) = true) := by unfold Hid; exact decide_eq_true (by omega)
    go_enter Try.func25, Try.ntmps25
    go_upto_region 3 with (fail)
    have hbr := HBE.out
    rw [← hbr]
    clear hbr
    generalize w.alloc (.cells #[.slice A1 n1 cap1, .string stdin, .slice A2 n2 cap2, .slice A3 n3 cap3, .int .i64 lim, .int .i64 clock, .int .u64 ch] 53) = w1 at *
    have c0 : w1.cell? ⟨B, 0, none⟩ = some (.slice A1 n1 cap1) := HN.out.cell 0
    have c2 : w1.cell? ⟨B, 2, none⟩ = some (.slice A2 n2 cap2) := HN.out.cell 2
    have c3 : w1.cell? ⟨B, 3, none⟩ = some (.slice A3 n3 cap3) := HN.out.cell 3
    go_wp2_with fail
    go_loop [7] (fun i => ∃ k : Nat, k ≤ n1 ∧ i = .int .i64 k ∧ (files.take k).all (shF b) = true) (fun i => n1 - (intOf i).toNat)
    case atStart => exact ⟨0, Nat.zero_le _, rfl, rfl⟩
    case round =>
      obtain ⟨k, hk, rfl, hall⟩ := hrel
      have HALL := Lib.hid hall
      clear hall
      by_cases hlt : k < n1
      · have hkl : k < files.length := by have := HE1.out; omega
        obtain ⟨bb, oo, rfl, hbl, -, hcell⟩ := HC1.out (by omega)
        have hat : ∀ j, j < 2 → w1.cell? ⟨bb, oo + (k * 2 + j), none⟩ = (fl2 files[k])[j]? := by
          intro j hj
          rw [HB.out.cell (p := ⟨bb, oo + (k * 2 + j), none⟩) (by have := HBE.out; show bb < B; omega), hcell (k * 2 + j) (by omega), fvals2_get files k j hkl hj]
        have hz := HFZ.out _ (List.getElem_mem hkl)
        have HS := Lib.hid (all_take_succ (shF b) files k hkl)
        rw [HALL.out, Bool.true_and] at HS
        have HNO := Lib.hid (fun h => all_no (p := shF b) hkl h)
        have HP : Hid (shF b files[k] = (decide (files[k].1.size ≤ b) && decide (files[k].2.size ≤ b))) := rfl
        have d0 : w1.cell? ⟨bb, oo + k * 2, none⟩ = some (.string files[k].1) := hat 0 (by omega)
        have d1 : w1.cell? ⟨bb, oo + k * 2 + 1, none⟩ = some (.string files[k].2) := by rw [Nat.add_assoc]; exact hat 1 (by omega)
        unfold maxLen at hz
        generalize files[k].1 = x0 at *
        generalize files[k].2 = x1 at *
        clear hat hcell
        obtain ⟨hz1, hz2⟩ := hz
        have hw2 : (b < x0.size) ∨ (¬ b < x0.size ∧ b < x1.size) ∨ (¬ b < x0.size ∧ ¬ b < x1.size) := by omega
        rcases hw2 with g1 | ⟨g1, g2⟩ | ⟨g1, g2⟩
        · have hall0 := HNO.out (by rw [HP.out, decide_eq_false (by omega), Bool.false_and])
          have HE : Hid (o = false) := by unfold Hid; rw [HO.out, hall0]; simp
          clear hall0
          go_wp2_with fail
          go_ret
          exact ⟨ret_bool HE.out.symm, HBW.out⟩
        · have hall0 := HNO.out (by rw [HP.out, decide_eq_false (show ¬ x1.size ≤ b by omega), Bool.and_false])
          have HE : Hid (o = false) := by unfold Hid; rw [HO.out, hall0]; simp
          clear hall0
          go_wp2_with fail
          go_ret
          exact ⟨ret_bool HE.out.symm, HBW.out⟩
        · have HS2 := Lib.hid (HS.out.trans (HP.out.trans (by rw [decide_eq_true (show x0.size ≤ b by omega) , decide_eq_true (show x1.size ≤ b by omega)])))
          go_wp2_with fail
          go_round
          case rel => exact ⟨k + 1, by omega, by go_num, HS2.out⟩
          case measure => simp [intOf]; omega
      · have HALL7 : Hid (files.all (shF b) = true) := by
          have h := HALL.out
          rw [List.take_of_length_le (by have := HE1.out; omega)] at h
          exact h
        go_wp2_with fail
        go_loop [8] (fun i => ∃ k : Nat, k ≤ n2 ∧ i = .int .i64 k ∧ (reps.take k).all (shR b) = true) (fun i => n2 - (intOf i).toNat)
        case atStart => exact ⟨0, Nat.zero_le _, rfl, rfl⟩
        case round =>
          obtain ⟨k, hk, rfl, hall⟩ := hrel
          have HALL := Lib.hid hall
          clear hall
          by_cases hlt : k < n2
          · have hkl : k < reps.length := by have := HE2.out; omega
            obtain ⟨bb, oo, rfl, hbl, -, hcell⟩ := HC2.out (by omega)
            have hat : ∀ j, j < 3 → w1.cell? ⟨bb, oo + (k * 3 + j), none⟩ = (reps[k].vals)[j]? := by
              intro j hj
              rw [HB.out.cell (p := ⟨bb, oo + (k * 3 + j), none⟩) (by have := HBE.out; show bb < B; omega), hcell (k * 3 + j) (by omega), rvals_get reps k j hkl hj]
            have hz := HRZ.out _ (List.getElem_mem hkl)
            have HS := Lib.hid (all_take_succ (shR b) reps k hkl)
            rw [HALL.out, Bool.true_and] at HS
            have HNO := Lib.hid (fun h => all_no (p := shR b) hkl h)
            have HP : Hid (shR b reps[k] = (decide (reps[k].cmd.size ≤ b) && decide (reps[k].out.size ≤ b))) := rfl
            have d0 : w1.cell? ⟨bb, oo + k * 3, none⟩ = some (.string reps[k].cmd) := hat 0 (by omega)
            have d1 : w1.cell? ⟨bb, oo + k * 3 + 1, none⟩ = some (.string reps[k].out) := by rw [Nat.add_assoc]; exact hat 1 (by omega)
            unfold maxLen at hz
            generalize reps[k].cmd = x0 at *
            generalize reps[k].out = x1 at *
            clear hat hcell
            obtain ⟨hz1, hz2⟩ := hz
            have hw2 : (b < x0.size) ∨ (¬ b < x0.size ∧ b < x1.size) ∨ (¬ b < x0.size ∧ ¬ b < x1.size) := by omega
            rcases hw2 with g1 | ⟨g1, g2⟩ | ⟨g1, g2⟩
            · have hall0 := HNO.out (by rw [HP.out, decide_eq_false (by omega), Bool.false_and])
              have HE : Hid (o = false) := by unfold Hid; rw [HO.out, hall0]; simp
              clear hall0
              go_wp2_with fail
              go_ret
              exact ⟨ret_bool HE.out.symm, HBW.out⟩
            · have hall0 := HNO.out (by rw [HP.out, decide_eq_false (show ¬ x1.size ≤ b by omega), Bool.and_false])
              have HE : Hid (o = false) := by unfold Hid; rw [HO.out, hall0]; simp
              clear hall0
              go_wp2_with fail
              go_ret
              exact ⟨ret_bool HE.out.symm, HBW.out⟩
            · have HS2 := Lib.hid (HS.out.trans (HP.out.trans (by rw [decide_eq_true (show x0.size ≤ b by omega) , decide_eq_true (show x1.size ≤ b by omega)])))
              go_wp2_with fail
              go_round
              case rel => exact ⟨k + 1, by omega, by go_num, HS2.out⟩
              case measure => simp [intOf]; omega
          · have HALL8 : Hid (reps.all (shR b) = true) := by
              have h := HALL.out
              rw [List.take_of_length_le (by have := HE2.out; omega)] at h
              exact h
            go_wp2_with fail
            go_loop [9] (fun i => ∃ k : Nat, k ≤ n3 ∧ i = .int .i64 k ∧ (fls.take k).all (shL b) = true) (fun i => n3 - (intOf i).toNat)
            case atStart => exact ⟨0, Nat.zero_le _, rfl, rfl⟩
            case round =>
              obtain ⟨k, hk, rfl, hall⟩ := hrel
              have HALL := Lib.hid hall
              clear hall
              by_cases hlt : k < n3
              · have hkl : k < fls.length := by have := HE3.out; omega
                obtain ⟨bb, oo, rfl, hbl, -, hcell⟩ := HC3.out (by omega)
                have hat : ∀ j, j < 2 → w1.cell? ⟨bb, oo + (k * 2 + j), none⟩ = (fls[k].vals)[j]? := by
                  intro j hj
                  rw [HB.out.cell (p := ⟨bb, oo + (k * 2 + j), none⟩) (by have := HBE.out; show bb < B; omega), hcell (k * 2 + j) (by omega), fvals_get fls k j hkl hj]
                have hz := HLZ.out _ (List.getElem_mem hkl)
                have HS := Lib.hid (all_take_succ (shL b) fls k hkl)
                rw [HALL.out, Bool.true_and] at HS
                have HNO := Lib.hid (fun h => all_no (p := shL b) hkl h)
                have HP : Hid (shL b fls[k] = (decide (fls[k].name.size ≤ b))) := rfl
                have d1 : w1.cell? ⟨bb, oo + k * 2 + 1, none⟩ = some (.string fls[k].name) := by rw [Nat.add_assoc]; exact hat 1 (by omega)
                unfold maxLen at hz
                generalize fls[k].name = x1 at *
                clear hat hcell
                have hw2 : (b < x1.size) ∨ (¬ b < x1.size) := by omega
                rcases hw2 with g1 | g1
                · have hall0 := HNO.out (by rw [HP.out, decide_eq_false (by omega)])
                  have HE : Hid (o = false) := by unfold Hid; rw [HO.out, hall0]; simp
                  clear hall0
                  go_wp2_with fail
                  go_ret
                  exact ⟨ret_bool HE.out.symm, HBW.out⟩
                · have HS2 := Lib.hid (HS.out.trans (HP.out.trans (by rw [decide_eq_true (show x1.size ≤ b by omega)])))
                  go_wp2_with fail
                  go_round
                  case rel => exact ⟨k + 1, by omega, by go_num, HS2.out⟩
                  case measure => simp [intOf]; omega
              · have HALL9 : Hid (fls.all (shL b) = true) := by
                  have h := HALL.out
                  rw [List.take_of_length_le (by have := HE3.out; omega)] at h
                  exact h
                have HE : Hid (o = true) := by unfold Hid; rw [HO.out, HW.out, HALL7.out, HALL8.out, HALL9.out]; rfl
                go_wp2_with fail
                go_ret
                exact ⟨ret_bool HE.out.symm, HBW.out⟩
end Go.Proofs.Ytodjjnklelfgfaa
namespace Go.Proofs.Ytodjjnklelfgfaa
open Go.RowKit Go.ChangeShapes Go.WideShapes Go.Deep Wd
set_option maxRecDepth 100000
/-- A row that came in: what is known of it, however long. -/
def RowL (w : World) (A : Option Addr) (n cap sz : Nat) (cs : List Value) : Prop :=
  cs.length = n * sz ∧ n ≤ cap ∧ cap ≤ maxLen ∧ (A = none → n = 0 ∧ cap = 0) ∧ (0 < n → ∃ b o, A = some ⟨b, o, none⟩ ∧ b < w.heap.size ∧ ∀ i, i < n * sz → w.cell? ⟨b, o + i, none⟩ = cs[i]?)
theorem RowL.row {w : World} {A : Option Addr} {n cap sz : Nat} {cs : List Value} (h : RowL w A n cap sz cs) (hn : n ≤ 1000000) : Row (fun b => b < w.heap.size) w (.slice A n cap) n sz cs :=
  ⟨h.1, hn, A, cap, rfl, h.2.1, h.2.2.1, fun h0 => by
    obtain ⟨b, o, e1, e2, e3⟩ := h.2.2.2.2 h0
    exact ⟨b, o, e1, e2, e2, e3⟩⟩
section
variable {H : Type} {enc : TypeId × Value → H} {w : World} {spare : Nat → Bool} {held : Bool} {fuel : Nat} {cs : List Value} {x : DataW H × List MemPlace}
theorem lt_of_cellX {b o : Nat} {v : Value} (h : w.cell? ⟨b, o, none⟩ = some v) : b < w.heap.size := by
  by_cases hb : b < w.heap.size
  · exact hb
  · simp [World.cell?, Array.getElem?_eq_none (Nat.le_of_not_lt hb)] at h
theorem t_row {R : Type} (vals : R → List Value) (ok : R → Prop) (t e sz : Nat) (hz : 0 < sz) (hvl : ∀ r, (vals r).length = sz) (hu : Try.prog.underlying t = some (.slice e)) (hc : Try.prog.cellsOf e = sz)
    (each0 : ∀ {n : Nat} {cs : List Value} {x : DataW H × List MemPlace}, DataW.trod enc Try.prog w 0 spare held n e cs = some x → ∃ r, ok r ∧ cs = vals r)
    (h : DataW.trod enc Try.prog w 0 spare held fuel t cs = some x) : ∃ A n cap, ∃ rs : List R, cs = [.slice A n cap] ∧ rs.length = n ∧ (∀ r ∈ rs, ok r) ∧ RowL w A n cap sz (rs.flatMap vals) := by
  rcases open_slice hu h with ⟨hcs, _⟩ | ⟨a, len, cap, m, n, D, Pl, hcs, hb, hl, hm, hmm, hx, hi⟩
  · exact ⟨_, _, _, [], hcs, rfl, by simp, by simp, Nat.le_refl _, Nat.zero_le _, fun _ => ⟨rfl, rfl⟩, fun h => absurd h (Nat.lt_irrefl 0)⟩
  · have hlen : len ≤ m := by rw [hmm]; split <;> omega
    rw [hc] at hi
    have each : ∀ i, i < len → ∃ r : R, ok r ∧ w.cells? 0 (a.add (i * sz)) sz = some (vals r) := fun i h => by
      obtain ⟨cs', h1, h2⟩ := hi i (by omega)
      obtain ⟨r, h3, rfl⟩ := each0 h2
      exact ⟨r, h3, h1⟩
    refine ⟨_, _, _, (List.range len).attach.map (fun i => (each i.1 (List.mem_range.1 i.2)).choose), hcs, by simp, fun r hr => ?_, ?_, hl, hm, fun e => (by cases e), fun hn => ?_⟩
    · simp only [List.mem_map] at hr
      obtain ⟨i, -, rfl⟩ := hr
      exact (each i.1 (List.mem_range.1 i.2)).choose_spec.1
    · have : ∀ l : List R, (l.flatMap vals).length = l.length * sz := fun l => by
        induction l with
        | nil => simp
        | cons a l ih => rw [List.flatMap_cons, List.length_append, ih, hvl, List.length_cons, Nat.add_mul, Nat.one_mul, Nat.add_comm]
      rw [this]; simp
    obtain ⟨b, o, s⟩ := a
    obtain ⟨op0, -, h0⟩ := each 0 hn
    have h0' := (World.cells?_some h0).2.2 0 (by omega)
    have hv0 : ∃ v, (vals op0)[0]? = some v := ⟨_, List.getElem?_eq_getElem (by rw [hvl]; exact hz)⟩
    obtain ⟨v0, hv0⟩ := hv0
    rw [hv0] at h0'
    have hs : s = none := by simpa [Addr.add] using World.cell?_spot h0'
    subst hs
    have hlt : b < w.heap.size := by
      simp only [Nat.zero_mul, add_offX, Nat.add_zero] at h0'
      exact lt_of_cellX h0'
    refine ⟨b, o, rfl, hlt, fun i hi' => ?_⟩
    have hq : i / sz < len := Nat.div_lt_of_lt_mul (by rw [Nat.mul_comm]; exact hi')
    have hr : i % sz < sz := Nat.mod_lt _ hz
    have hiq : i = i / sz * sz + i % sz := by rw [Nat.mul_comm]; exact (Nat.div_add_mod i sz).symm
    have hg := flat_get vals sz hvl ((List.range len).attach.map (fun i => (each i.1 (List.mem_range.1 i.2)).choose)) (i / sz) (i % sz) (by simpa using hq) hr
    have h1 := (each (i / sz) hq).choose_spec.2
    have hg2 : ((List.range len).attach.map (fun i => (each i.1 (List.mem_range.1 i.2)).choose))[i / sz]'(by simpa using hq) = (each (i / sz) hq).choose := by simp
    rw [hg2] at hg
    generalize (each (i / sz) hq).choose = op at h1 hg
    have h2 := (World.cells?_some h1).2.2 (i % sz) hr
    rw [add_offX, add_offX, Nat.add_assoc, ← hiq] at h2
    rw [h2]
    rw [← hiq] at hg
    exact hg.symm
theorem con_open (h : DataW.trod enc Try.prog w 0 spare held fuel 47 cs = some x) : ∃ p : ByteArray × ByteArray, (p.1.size ≤ maxLen ∧ p.2.size ≤ maxLen) ∧ cs = fl2 p := by
  obtain ⟨ys, n, hn, hy, hlen, hyl, hf⟩ := DataW.trod_struct Try.underlying47 h
  have hc5 : Try.prog.cellsOf 47 = 2 := by kernel_rfl
  rw [hc5] at hlen
  have k1 : Try.prog.cellsOf 9 = 1 := by kernel_rfl
  match cs, hlen, ys, hyl with
  | [v0, v1], _, [y0, y1], _ =>
    have e0 : DataW.trod enc Try.prog w 0 spare held n 9 (([v0, v1].drop 0).take (Try.prog.cellsOf 9)) = some y0 := hf 0 _ rfl
    have e1 : DataW.trod enc Try.prog w 0 spare held n 9 (([v0, v1].drop 1).take (Try.prog.cellsOf 9)) = some y1 := hf 1 _ rfl
    rw [k1] at e0 e1
    obtain ⟨m0, a0, -, h0⟩ := DataW.trod_string Try.underlying9 e0
    obtain ⟨m1, a1, -, h1⟩ := DataW.trod_string Try.underlying9 e1
    simp at a0 a1
    subst a0 a1
    exact ⟨(m0, m1), ⟨h0, h1⟩, rfl⟩
theorem rep_open (h : DataW.trod enc Try.prog w 0 spare held fuel 63 cs = some x) : ∃ p : Rp, (p.cmd.size ≤ maxLen ∧ p.out.size ≤ maxLen) ∧ cs = p.vals := by
  obtain ⟨ys, n, hn, hy, hlen, hyl, hf⟩ := DataW.trod_struct Try.underlying63 h
  have hc5 : Try.prog.cellsOf 63 = 3 := by kernel_rfl
  rw [hc5] at hlen
  have k0 : Try.prog.cellsOf 3 = 1 := by kernel_rfl
  have k1 : Try.prog.cellsOf 9 = 1 := by kernel_rfl
  match cs, hlen, ys, hyl with
  | [v0, v1, v2], _, [y0, y1, y2], _ =>
    have e0 : DataW.trod enc Try.prog w 0 spare held n 9 (([v0, v1, v2].drop 0).take (Try.prog.cellsOf 9)) = some y0 := hf 0 _ rfl
    have e1 : DataW.trod enc Try.prog w 0 spare held n 9 (([v0, v1, v2].drop 1).take (Try.prog.cellsOf 9)) = some y1 := hf 1 _ rfl
    have e2 : DataW.trod enc Try.prog w 0 spare held n 3 (([v0, v1, v2].drop 2).take (Try.prog.cellsOf 3)) = some y2 := hf 2 _ rfl
    rw [k1] at e0 e1
    rw [k0] at e2
    obtain ⟨m0, a0, -, h0⟩ := DataW.trod_string Try.underlying9 e0
    obtain ⟨m1, a1, -, h1⟩ := DataW.trod_string Try.underlying9 e1
    obtain ⟨m2, a2, -, h2⟩ := DataW.trod_int Try.underlying3 e2
    simp at a0 a1 a2
    subst a0 a1 a2
    exact ⟨⟨m0, m1, m2⟩, ⟨h0, h1⟩, rfl⟩
theorem fl_open (h : DataW.trod enc Try.prog w 0 spare held fuel 65 cs = some x) : ∃ p : Fl, p.name.size ≤ maxLen ∧ cs = p.vals := by
  obtain ⟨ys, n, hn, hy, hlen, hyl, hf⟩ := DataW.trod_struct Try.underlying65 h
  have hc5 : Try.prog.cellsOf 65 = 2 := by kernel_rfl
  rw [hc5] at hlen
  have k0 : Try.prog.cellsOf 5 = 1 := by kernel_rfl
  have k1 : Try.prog.cellsOf 9 = 1 := by kernel_rfl
  match cs, hlen, ys, hyl with
  | [v0, v1], _, [y0, y1], _ =>
    have e0 : DataW.trod enc Try.prog w 0 spare held n 5 (([v0, v1].drop 0).take (Try.prog.cellsOf 5)) = some y0 := hf 0 _ rfl
    have e1 : DataW.trod enc Try.prog w 0 spare held n 9 (([v0, v1].drop 1).take (Try.prog.cellsOf 9)) = some y1 := hf 1 _ rfl
    rw [k0] at e0
    rw [k1] at e1
    obtain ⟨m0, a0, -, h0⟩ := DataW.trod_int Try.underlying5 e0
    obtain ⟨m1, a1, -, h1⟩ := DataW.trod_string Try.underlying9 e1
    simp at a0 a1
    subst a0 a1
    exact ⟨⟨m0, m1⟩, h1, rfl⟩
end
structure ScrV where
  A1 : Option Addr
  n1 : Nat
  c1 : Nat
  A2 : Option Addr
  n2 : Nat
  c2 : Nat
  A3 : Option Addr
  n3 : Nat
  c3 : Nat
  files : List (ByteArray × ByteArray)
  reps : List Rp
  fls : List Fl
  stdin : ByteArray
  lim : Int
  clock : Int
  ch : Int
def ScrV.val (s : ScrV) : Value := .agg #[.slice s.A1 s.n1 s.c1, .string s.stdin, .slice s.A2 s.n2 s.c2, .slice s.A3 s.n3 s.c3, .int .i64 s.lim, .int .i64 s.clock, .int .u64 s.ch]
structure ScrAt (w : World) (s : ScrV) : Prop where
  l1 : s.files.length = s.n1
  l2 : s.reps.length = s.n2
  l3 : s.fls.length = s.n3
  r1 : RowL w s.A1 s.n1 s.c1 2 (fvals2 s.files)
  r2 : RowL w s.A2 s.n2 s.c2 3 (rvals s.reps)
  r3 : RowL w s.A3 s.n3 s.c3 2 (fvals s.fls)
  z1 : ∀ p ∈ s.files, p.1.size ≤ maxLen ∧ p.2.size ≤ maxLen
  z2 : ∀ p ∈ s.reps, p.cmd.size ≤ maxLen ∧ p.out.size ≤ maxLen
  z3 : ∀ p ∈ s.fls, p.name.size ≤ maxLen
  zs : s.stdin.size ≤ maxLen
  i1 : (Lit.int .i64 s.lim).wf = true
  i2 : (Lit.int .i64 s.clock).wf = true
  i3 : (Lit.int .u64 s.ch).wf = true
theorem scr_open {H : Type} {enc : TypeId × Value → H} {w : World} {base : Nat} {v : Value} {d : DataW H} {p : List MemPlace} {spare : Nat → Bool} {held : Bool} {r}
    (hval : Value.okWide Try.prog w r base 53 v) (k : DataW.Trod enc Try.prog w 0 spare held 53 v d p) : ∃ s : ScrV, v = s.val ∧ ScrAt w s := by
  have hu := Try.underlying53
  unfold Value.okWide at hval
  rw [hu] at hval
  obtain ⟨vs, rfl, -⟩ := hval
  obtain ⟨fuel, hf0⟩ := k
  have h : DataW.trod enc Try.prog w 0 spare held fuel 53 vs.toList = some (d, p) := by simpa [Value.cells] using hf0
  obtain ⟨cs⟩ := vs
  obtain ⟨ys, n, hn, hy, hlen, hyl, hf⟩ := DataW.trod_struct Try.underlying53 h
  have hc5 : Try.prog.cellsOf 53 = 7 := by kernel_rfl
  rw [hc5] at hlen
  have k0 : Try.prog.cellsOf 48 = 1 := by kernel_rfl
  have k1 : Try.prog.cellsOf 9 = 1 := by kernel_rfl
  have k2 : Try.prog.cellsOf 49 = 1 := by kernel_rfl
  have k3 : Try.prog.cellsOf 50 = 1 := by kernel_rfl
  have k4 : Try.prog.cellsOf 3 = 1 := by kernel_rfl
  have k6 : Try.prog.cellsOf 51 = 1 := by kernel_rfl
  match cs, hlen, ys, hyl with
  | [v0, v1, v2, v3, v4, v5, v6], _, [y0, y1, y2, y3, y4, y5, y6], _ =>
    have e0 : DataW.trod enc Try.prog w 0 spare held n 48 (([v0, v1, v2, v3, v4, v5, v6].drop 0).take (Try.prog.cellsOf 48)) = some y0 := hf 0 _ rfl
    have e1 : DataW.trod enc Try.prog w 0 spare held n 9 (([v0, v1, v2, v3, v4, v5, v6].drop 1).take (Try.prog.cellsOf 9)) = some y1 := hf 1 _ rfl
    have e2 : DataW.trod enc Try.prog w 0 spare held n 49 (([v0, v1, v2, v3, v4, v5, v6].drop 2).take (Try.prog.cellsOf 49)) = some y2 := hf 2 _ rfl
    have e3 : DataW.trod enc Try.prog w 0 spare held n 50 (([v0, v1, v2, v3, v4, v5, v6].drop 3).take (Try.prog.cellsOf 50)) = some y3 := hf 3 _ rfl
    have e4 : DataW.trod enc Try.prog w 0 spare held n 3 (([v0, v1, v2, v3, v4, v5, v6].drop 4).take (Try.prog.cellsOf 3)) = some y4 := hf 4 _ rfl
    have e5 : DataW.trod enc Try.prog w 0 spare held n 3 (([v0, v1, v2, v3, v4, v5, v6].drop 5).take (Try.prog.cellsOf 3)) = some y5 := hf 5 _ rfl
    have e6 : DataW.trod enc Try.prog w 0 spare held n 51 (([v0, v1, v2, v3, v4, v5, v6].drop 6).take (Try.prog.cellsOf 51)) = some y6 := hf 6 _ rfl
    rw [k0] at e0
    rw [k1] at e1
    rw [k2] at e2
    rw [k3] at e3
    rw [k4] at e4
    rw [k4] at e5
    rw [k6] at e6
    obtain ⟨A1, n1, c1, fs, a0, l1, z1, r1⟩ := t_row fl2 (fun p => p.1.size ≤ maxLen ∧ p.2.size ≤ maxLen) _ 47 2 (by decide) (fun _ => rfl) Try.underlying48 (by kernel_rfl) con_open e0
    obtain ⟨m1, a1, -, h1⟩ := DataW.trod_string Try.underlying9 e1
    obtain ⟨A2, n2, c2, rs, a2, l2, z2, r2⟩ := t_row Rp.vals (fun p => p.cmd.size ≤ maxLen ∧ p.out.size ≤ maxLen) _ 63 3 (by decide) (fun _ => rfl) Try.underlying49 (by kernel_rfl) rep_open e2
    obtain ⟨A3, n3, c3, ls, a3, l3, z3, r3⟩ := t_row Fl.vals (fun p => p.name.size ≤ maxLen) _ 65 2 (by decide) (fun _ => rfl) Try.underlying50 (by kernel_rfl) fl_open e3
    obtain ⟨m4, a4, -, h4⟩ := DataW.trod_int Try.underlying3 e4
    obtain ⟨m5, a5, -, h5⟩ := DataW.trod_int Try.underlying3 e5
    obtain ⟨m6, a6, -, h6⟩ := DataW.trod_int Try.underlying51 e6
    simp at a0 a1 a2 a3 a4 a5 a6
    subst a0 a1 a2 a3 a4 a5 a6
    exact ⟨⟨A1, n1, c1, A2, n2, c2, A3, n3, c3, fs, rs, ls, m1, m4, m5, m6⟩, rfl, ⟨l1, l2, l3, r1, r2, r3, z1, z2, z3, h1, h4, h5, h6⟩⟩
end Go.Proofs.Ytodjjnklelfgfaa
namespace Go.Proofs.Ytodjjnklelfgfaa
open Go.RowKit Wd
namespace Wd
structure Bd (t m : Nat) (rs : RSt) : Prop where
  t50 : t ≤ 50
  opn : rs.opn.length ≤ t
  ev : rs.events.length ≤ 300 * t
  fl : rs.files.length ≤ 8 + t
  fs : ∀ p ∈ rs.files, p.2.size ≤ 200 + 100 * t
  st : rs.stdin.size ≤ 200
  src : ∀ s ∈ rs.opn, s.src.size ≤ 200 + 100 * t
  rep : rs.replies.length ≤ 8
  outs : ∀ r ∈ rs.replies, r.out.size ≤ 200
  fails : rs.fails.length ≤ 8
  m : m ≤ 8 + t
variable {t m m' : Nat} {rs rs' : RSt}
/-- What stays. -/
structure Kept (rs rs' : RSt) : Prop where
  st : rs'.stdin = rs.stdin
  rep : rs'.replies = rs.replies
  fails : rs'.fails = rs.fails
theorem Bd.next (h : Bd t m rs) (ht : t < 50) (k : Kept rs rs') (h1 : rs'.opn.length ≤ t + 1) (h2 : rs'.events.length ≤ rs.events.length + 300) (h3 : rs'.files.length ≤ rs.files.length + 1) (h4 : ∀ p ∈ rs'.files, p.2.size ≤ 300 + 100 * t) (h5 : ∀ s ∈ rs'.opn, s.src.size ≤ 200 + 100 * t) (hm : m' ≤ m + 1) : Bd (t + 1) m' rs' where
  t50 := ht
  opn := h1
  ev := by have := h.ev; omega
  fl := by have := h.fl; omega
  fs := fun p hp => by have := h4 p hp; omega
  st := by rw [k.st]; exact h.st
  src := fun p hp => by have := h5 p hp; omega
  rep := by rw [k.rep]; exact h.rep
  outs := by rw [k.rep]; exact h.outs
  fails := by rw [k.fails]; exact h.fails
  m := by have := h.m; omega
theorem with_len (l : List (ByteArray × ByteArray)) (name data : ByteArray) : (withL l name data).length ≤ l.length + 1 := by
  unfold withL
  rw [List.length_append, List.length_map]
  split <;> simp
theorem with_mem {l : List (ByteArray × ByteArray)} {name data : ByteArray} {p : ByteArray × ByteArray} (h : p ∈ withL l name data) : p ∈ l ∨ p.2 = data := by
  unfold withL at h
  rcases List.mem_append.1 h with h | h
  · obtain ⟨q, hq, rfl⟩ := List.mem_map.1 h
    unfold withP
    split
    · exact .inr rfl
    · exact .inl hq
  · split at h
    · cases h
    · simp at h; subst h; exact .inr rfl
theorem Bd.file (h : Bd t m rs) (name : ByteArray) : ((fileF rs name).getD (⟨#[]⟩, ⟨#[]⟩)).2.size ≤ 200 + 100 * t := by
  unfold fileF
  cases hf : rs.files.find? (isFile name) with
  | none => exact Nat.zero_le _
  | some p => exact h.fs p (List.mem_of_find?_eq_some hf)
theorem Bd.out (h : Bd t m rs) (name : ByteArray) : ((replyF rs name).getD rpZero).out.size ≤ 200 := by
  unfold replyF
  cases hf : rs.replies.find? (isRp name) with
  | none => exact Nat.zero_le _
  | some p => exact h.outs p (List.mem_of_find?_eq_some hf)
theorem Bd.same (h : Bd t m rs) (ht : t < 50) (hm : m' ≤ m + 1) : Bd (t + 1) m' rs :=
  h.next ht ⟨rfl, rfl, rfl⟩ (by have := h.opn; omega) (by omega) (by omega) (fun p hp => by have := h.fs p hp; omega) (fun s hs => h.src s hs) hm
theorem Bd.open (h : Bd t m rs) (ht : t < 50) (k : Int) (name : ByteArray) (hm : m' ≤ m + 1) : Bd (t + 1) m' (openD rs k name).1 := by
  unfold openD
  split
  · exact h.same ht hm
  split
  · exact h.same ht hm
  split
  · exact h.same ht hm
  split
  · exact h.same ht hm
  refine h.next ht ⟨rfl, rfl, rfl⟩ ?_ ?_ ?_ ?_ ?_ hm
  · show (rs.opn ++ [_]).length ≤ _
    have := h.opn
    rw [List.length_append]; simp; omega
  · show (rs.events ++ [_]).length ≤ _
    rw [List.length_append]; simp
  · show (openF rs k name).length ≤ _
    unfold openF
    split
    · exact with_len _ _ _
    split
    · exact with_len _ _ _
    · omega
  · intro p hp
    have hp : p ∈ openF rs k name := hp
    unfold openF at hp
    have hf := h.file name
    split at hp
    · rcases with_mem hp with h1 | h1
      · have := h.fs p h1; omega
      · rw [h1]; exact Nat.zero_le _
    split at hp
    · rcases with_mem hp with h1 | h1
      · have := h.fs p h1; omega
      · rw [h1]; omega
    · have := h.fs p hp; omega
  · intro s hs
    have hs : s ∈ rs.opn ++ [_] := hs
    rcases List.mem_append.1 hs with h1 | h1
    · exact h.src s h1
    · simp at h1
      subst h1
      show (openS rs k name).size ≤ _
      unfold openS
      split
      · exact h.file name
      split
      · have := h.out name; omega
      · exact Nat.zero_le _
theorem Bd.write (h : Bd t m rs) (ht : t < 50) (k : Int) (name data : ByteArray) (hd : data.size ≤ 100) (hm : m' ≤ m + 1) : Bd (t + 1) m' (writeD rs k name data).1 := by
  unfold writeD
  generalize (if k = 6 then (⟨#[]⟩ : ByteArray) else name) = nm
  split
  · exact h.same ht hm
  split
  · exact h.same ht hm
  split
  · exact h.same ht hm
  by_cases hk : k = 3 ∨ k = 4
  · rw [if_pos hk]
    refine h.next ht ⟨rfl, rfl, rfl⟩ (by have := h.opn; show rs.opn.length ≤ _; omega) ?_ (with_len _ _ _) ?_ (fun s hs => h.src s hs) hm
    · show (rs.events ++ [_]).length ≤ _
      rw [List.length_append]; simp
    · intro p hp
      have hf := h.file name
      rcases with_mem hp with h1 | h1
      · have := h.fs p h1; omega
      · rw [h1, ByteArray.size_append]; omega
  · rw [if_neg hk]
    refine h.next ht ⟨rfl, rfl, rfl⟩ (by have := h.opn; show rs.opn.length ≤ _; omega) ?_ (by show rs.files.length ≤ _; omega) (fun p hp => by have := h.fs p hp; omega) (fun s hs => h.src s hs) hm
    show (rs.events ++ [_]).length ≤ _
    rw [List.length_append]; simp
theorem Bd.read (h : Bd t m rs) (ht : t < 50) (k : Int) (name : ByteArray) (n : Int) (hm : m' ≤ m + 1) : Bd (t + 1) m' (readD rs k name n).1 := by
  unfold readD
  cases hf : findF rs k name with
  | none => exact h.same ht hm
  | some i =>
    have hil : i < rs.opn.length := (List.findIdx?_eq_some_iff_getElem.1 hf).1
    have hmm : rs.opn.getD i smZ ∈ rs.opn := by simp [List.getD_eq_getElem?_getD, List.getElem?_eq_getElem hil]
    simp only
    split
    · exact h.same ht hm
    split
    · exact h.same ht hm
    split
    · exact h.same ht hm
    split
    · exact h.next ht ⟨rfl, rfl, rfl⟩ (by have := h.opn; show rs.opn.length ≤ _; omega) (by show rs.events.length ≤ _; omega) (by show rs.files.length ≤ _; omega) (fun p hp => by have := h.fs p hp; omega) (fun s hs => h.src s hs) hm
    · refine h.next ht ⟨rfl, rfl, rfl⟩ ?_ (by show rs.events.length ≤ _; omega) (by show rs.files.length ≤ _; omega) (fun p hp => by have := h.fs p hp; omega) ?_ hm
      · show (rs.opn.set i _).length ≤ _
        rw [List.length_set]; have := h.opn; omega
      · intro s hs
        rcases List.mem_or_eq_of_mem_set hs with h1 | h1
        · exact h.src s h1
        · subst h1
          show (rs.opn.getD i smZ).src.size ≤ _
          exact h.src _ hmm
theorem closeD_kept (rs : RSt) (name : ByteArray) : Kept rs (closeD rs name).1 ∧ (closeD rs name).1.files = rs.files ∧ (closeD rs name).1.opn = rs.opn.filter (keptR name) := by
  have h := (closeRK_same rs name 5).1
  refine ⟨⟨?_, ?_, ?_⟩, ?_, rfl⟩
  · show (closeRK rs name 5).1.stdin = _; rw [h]
  · show (closeRK rs name 5).1.replies = _; rw [h]
  · show (closeRK rs name 5).1.fails = _; rw [h]
  · show (closeRK rs name 5).1.files = _; rw [h]
theorem Bd.close (h : Bd t m rs) (ht : t < 50) (name : ByteArray) (hm : m' ≤ m + 1) : Bd (t + 1) m' (closeD rs name).1 := by
  obtain ⟨h1, h2, h3⟩ := closeD_kept rs name
  refine h.next ht h1 ?_ ?_ (by rw [h2]; omega) (by rw [h2]; exact fun p hp => by have := h.fs p hp; omega) ?_ hm
  · rw [h3]; have := List.length_filter_le (keptR name) rs.opn; have := h.opn; omega
  · have := (closeRK_same rs name 5).2
    show (closeRK rs name 5).1.events.length ≤ _
    omega
  · rw [h3]; exact fun s hs => h.src s (List.mem_filter.1 hs).1
theorem closedR_kept (h : ClosedR rs rs') : Kept rs rs' ∧ rs'.files = rs.files ∧ rs'.events.length + 5 * rs'.opn.length ≤ rs.events.length + 5 * rs.opn.length := by
  induction h with
  | refl => exact ⟨⟨rfl, rfl, rfl⟩, rfl, Nat.le_refl _⟩
  | @step b mm r hc ho ih =>
    obtain ⟨h1, h2, h3⟩ := ih
    obtain ⟨k1, k2, -⟩ := closeD_kept b mm.name
    obtain ⟨l1, l2⟩ := closeD_less ho
    exact ⟨⟨k1.st.trans h1.st, k1.rep.trans h1.rep, k1.fails.trans h1.fails⟩, k2.trans h2, by omega⟩
theorem Bd.closeAll (h : Bd t m rs) (ht : t < 50) (hc : ClosedR rs rs') (ho : rs'.opn = []) (hm : m' ≤ m + 1) : Bd (t + 1) m' rs' := by
  obtain ⟨h1, h2, h3⟩ := closedR_kept hc
  refine h.next ht h1 (by rw [ho]; simp) ?_ (by rw [h2]; omega) (by rw [h2]; exact fun p hp => by have := h.fs p hp; omega) (by rw [ho]; simp) hm
  have := h.opn
  omega
theorem Bd.system (h : Bd t m rs) (ht : t < 50) (cmd : ByteArray) (hm : m' ≤ m + 1) : Bd (t + 1) m' (systemD rs cmd).1 := by
  unfold systemD
  split
  · exact h.same ht hm
  · refine h.next ht ⟨rfl, rfl, rfl⟩ (by have := h.opn; show rs.opn.length ≤ _; omega) ?_ (by show rs.files.length ≤ _; omega) (fun p hp => by have := h.fs p hp; omega) (fun s hs => h.src s hs) hm
    show (rs.events ++ [_]).length ≤ _
    rw [List.length_append]; simp
theorem Bd.chanced (h : Bd t m rs) (ht : t < 50) (hm : m' ≤ m + 1) : Bd (t + 1) m' { rs with num := chanceW rs.num } :=
  h.next ht ⟨rfl, rfl, rfl⟩ (by have := h.opn; show rs.opn.length ≤ _; omega) (by show rs.events.length ≤ _; omega) (by show rs.files.length ≤ _; omega) (fun p hp => by have := h.fs p hp; omega) (fun s hs => h.src s hs) hm
end Wd
structure Both (w : World) (F : Nat → Prop) (pb : Nat) (M : Mem) (st : St) (K : Nat → Prop) (f : Fm) (rs : RSt) : Prop where
  wat : WAt w F pb M st
  rf : RF K w f rs
  apart : ∀ b, b < w.heap.size → K b → F b → False
  corr : Corr st rs
section
variable {w w' : World} {F F' K : Nat → Prop} {pb : Nat} {M M' : Mem} {st st' : St} {f f' : Fm} {rs rs' : RSt}
/-- The program's call. -/
theorem Both.mine (h : Both w F pb M st K f rs) (hw : WAt w' F' pb M' st') (ht : Tur F w w') (hF : ∀ g, F' g → F g ∨ w.heap.size ≤ g) : WAt w' F' pb M' st' ∧ RF (fun b => K b ∧ b < w.heap.size) w' f rs ∧ (∀ b, b < w'.heap.size → (K b ∧ b < w.heap.size) → F' b → False) := by
  refine ⟨hw, ?_, ?_⟩
  · have h0 : RF (fun b => K b ∧ b < w.heap.size) w f rs := RAt.mono h.rf (fun b hb hK => ⟨hK, hb⟩)
    exact RAt.keep h0 ht.size (fun b hb hK => ht.block b hb (fun hf => h.apart b hb hK.1 hf))
  · intro b hb ⟨h1, h2⟩ h3
    rcases hF b h3 with h4 | h4
    · exact h.apart b h2 h1 h4
    · omega
/-- .. and then the document's. -/
theorem Both.done {wx : World} {K' : Nat → Prop} (hw : WAt w F pb M st) (hb : Below w.heap.size w wx) (hr : RF (Nw K' w) wx f rs) (ha : ∀ b, b < w.heap.size → K' b → F b → False) (hc : Corr st rs) : Both wx F pb M st (Nw K' w) f rs :=
  ⟨hw.pure hb, hr, fun b _ hK hF => by
    rcases hK with hK | hK
    · exact ha b (hw.flt b hF) hK hF
    · have := hw.flt b hF; omega, hc⟩
theorem Both.pure (h : Both w F pb M st K f rs) (hb : Below w.heap.size w w') : Both w' F pb M st (fun b => K b ∧ b < w.heap.size) f rs :=
  ⟨h.wat.pure hb, RAt.pure (RAt.mono h.rf (fun b hb hK => ⟨hK, hb⟩)) hb, fun b _ hK hF => h.apart b hK.2 hK.1 hF, h.corr⟩
end
end Go.Proofs.Ytodjjnklelfgfaa
