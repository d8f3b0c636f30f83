/- A world: the walks of reply. -/
import Derived.Test.YtodjjnklelfgfaaWld3
namespace Go.Proofs.Ytodjjnklelfgfaa
open Go.RowKit Wd
open Go.WideMaps Go.WideElems Go.WideAt

namespace Wd
def isRp (cmd : ByteArray) (r : Rp) : Bool := decide (r.cmd = cmd)
def rpZero : Rp := ⟨⟨#[]⟩, ⟨#[]⟩, 0⟩
def replyIx (st : St) (cmd : ByteArray) : Option Nat := st.replies.findIdx? (isRp cmd)
def replyR (st : St) (cmd : ByteArray) : Rp := match replyIx st cmd with
  | some i => st.replies.getD i rpZero
  | none => rpZero
def replyB (st : St) (cmd : ByteArray) : Bool := (replyIx st cmd).isSome
def Rp.val (r : Rp) : Value := .agg #[.string r.cmd, .string r.out, .int .i64 r.status]
end Wd
theorem enters_reply : ∀ (args : Array Value) (w : World), (callFunc 55 args).run Try.prog w = .ok (.enter 55 args) w := fun _ _ => rfl
theorem wo_reply1 {w : World} {a : Nat} (r : Rp) {cmd : ByteArray} (ha : w.cell? ⟨a, 0, none⟩ = some (.string cmd)) (hal : a < w.heap.size) :
    Calls Try.prog 55 #[r.val, .pointer (some ⟨a, 0, none⟩)] w fun e w' => e = .returned (.bool (isRp cmd r)) ∧ Below w.heap.size w w' := by
  obtain ⟨rc, ro, rs⟩ := r
  have HB0 := Lib.hid ((Below.refl w.heap.size w).alloc (Nat.le_refl _) (.cells #[.string rc, .string ro, .int .i64 rs] 63))
  have ca := (HB0.out.cell (p := ⟨a, 0, none⟩) hal).trans ha
  have HH : Hid (isRp cmd ⟨rc, ro, rs⟩ = (rc.toList == cmd.toList)) := by unfold Hid; rw [str_eq]; rfl
  rw [HH.out]
  clear ha
  show Calls Try.prog 55 #[.agg #[.string rc, .string ro, .int .i64 rs], .pointer (some ⟨a, 0, none⟩)] w _
  go_enter Try.func55, Try.ntmps55
  go_wp2_with fail
  go_ret
  exact ⟨rfl, HB0.out⟩
/-- slices.IndexFunc over replies. -/
theorem wo_indexR {w : World} {v : Value} {n : Nat} (l : List Rp) (f : Nat) (caps : Array Value) (q : Rp → Bool) (hrow : w.ownsRow 0 63 3 v n (rvals l)) (hln : n = l.length) (hc : ∀ (args : Array Value) (w : World), (callFunc f args).run Try.prog w = .ok (.enter f args) w)
    (hg : ∀ r, ∀ wr, Below w.heap.size w wr → Calls Try.prog f (#[r.val] ++ caps) wr fun e w' => e = .returned (.bool (q r)) ∧ Below wr.heap.size wr w') (hn : n ≤ 1000000000) :
    Calls Try.prog 54 #[v, .func (.func f) #[] caps] w fun e w' => e = .returned (.int .i64 (ixV (l.findIdx? q))) ∧ Below w.heap.size w w' := by
  obtain ⟨A, cap, rfl, hc1, hc2⟩ := own_form hrow
  have hr : First (fun i => q (l.getD i rpZero)) l.length (l.findIdx? q) := first_find l q _ (fun i h => by simp [List.getD, h])
  have HROW := Lib.hid hrow
  have HG := Lib.hid hg
  have HGN := Lib.hid hln
  have HR := Lib.hid hr
  clear hrow hg hln hr
  go_enter Try.func54, Try.ntmps54
  go_wp2_with fail
  go_loopw [8] (fun i wr => ∃ k : Nat, k ≤ n ∧ i = .int .i64 k ∧ (∀ j, j < k → q (l.getD j rpZero) = false) ∧ Below w.heap.size w wr) (fun i _ => n - (intOf i).toNat)
  case atStart => exact ⟨0, Nat.zero_le _, rfl, fun j h => by omega, Below.refl _ _⟩
  case round =>
    obtain ⟨k, hk, rfl, hno, hbr⟩ := hrel
    have HNO := Lib.hid hno
    have HBR := Lib.hid hbr
    clear hno
    by_cases hlt : k < n
    · have hkg : k < l.length := by have := HGN.out; omega
      obtain ⟨g, cap', hv, -, -⟩ := ownBlock_form HROW.out (by omega)
      obtain ⟨rfl, -, -⟩ := Value.slice.inj hv
      obtain ⟨cur, -, hgl'⟩ := own_lt HROW.out rfl
      have hgl : g < w.heap.size := hgl'
      have hcell : ∀ j, j < 3 → wr.cell? ⟨g, k * 3 + j, none⟩ = (l[k].vals)[j]? := by
        intro j hj
        have := HROW.out.cellAt (k * 3 + j) (by omega)
        rw [hbr.cell (p := ⟨g, k * 3 + j, none⟩) (by show g < _; omega), this, rvals_get l k j hkg hj]
      have d0 : wr.cell? ⟨g, k * 3, none⟩ = some (.string l[k].cmd) := hcell 0 (by omega)
      have d1 : wr.cell? ⟨g, k * 3 + 1, none⟩ = some (.string l[k].out) := hcell 1 (by omega)
      have d2 : wr.cell? ⟨g, k * 3 + 2, none⟩ = some (.int .i64 l[k].status) := hcell 2 (by omega)
      have HGK := Lib.hid (HG.out l[k] wr hbr)
      have HFS := Lib.hid (fun h => First.some_of (p := fun i => q (l.getD i rpZero)) HR.out hkg h HNO.out)
      have HQ := Lib.hid (show q (l.getD k rpZero) = q l[k] by simp [List.getD, hkg])
      clear hv hbr hcell hgl'
      generalize l[k] = r at *
      obtain ⟨rc, ro, rs⟩ := r
      go_wp2_with fail
      refine (HGK.out).mono ?_
      rintro e w2 ⟨rfl, hb2⟩
      have HB2 := Lib.hid (HBR.out.trans (hb2.mono HBR.out.size))
      clear hb2 HGK d0 d1 d2
      cases hp : q ⟨rc, ro, rs⟩
      · have HP := Lib.hid (HQ.out.trans hp)
        clear hp
        go_wp2_with fail
        go_roundw
        case rel => exact ⟨k + 1, by omega, by go_num, (fun j hj => by
          rcases Nat.lt_or_ge j k with h | h
          · exact HNO.out j h
          · obtain rfl : j = k := by omega
            exact HP.out), HB2.out⟩
        case measure => simp [intOf]; omega
      · have HK := Lib.hid (HFS.out (HQ.out.trans hp))
        clear hp
        go_wp2_with fail
        go_ret
        exact ⟨ret_int (by rw [HK.out]; rfl), HB2.out⟩
    · have hkn : k = n := by omega
      have HK := Lib.hid (First.none_of (p := fun i => q (l.getD i rpZero)) HR.out (fun j hj => HNO.out j (by have := HGN.out; omega)))
      clear hkn hbr
      go_wp2_with fail
      go_ret
      exact ⟨ret_int (by rw [HK.out]; rfl), HBR.out⟩
theorem rp3 (w : World) (a b c : Value) : Blk (w.alloc (.cells #[a, b, c] 63)) w.heap.size 63 #[a, b, c] ∧ Below w.heap.size w (w.alloc (.cells #[a, b, c] 63)) :=
  ⟨Blk.new w _ _, (Below.refl _ _).alloc (Nat.le_refl _) _⟩
theorem Blk.three {w : World} {R : Nat} {t : TypeId} {a b c : Value} (h : Blk w R t #[a, b, c]) : (w.cell? ⟨R, 0, none⟩ = some a ∧ w.cell? ⟨R, 1, none⟩ = some b ∧ w.cell? ⟨R, 2, none⟩ = some c) ∧ (w.frozen? ⟨R, 0, none⟩ = false ∧ w.frozen? ⟨R, 1, none⟩ = false ∧ w.frozen? ⟨R, 2, none⟩ = false) :=
  ⟨⟨h.cell 0, h.cell 1, h.cell 2⟩, h.free 0, h.free 1, h.free 2⟩
theorem below_set3 {w : World} {g B : Nat} (hB : B ≤ g) (hg : B ≤ w.heap.size) (v x y : Value) : Below B w (((w.setCell ⟨g, 0, none⟩ v).setCell ⟨g, 1, none⟩ x).setCell ⟨g, 2, none⟩ y) :=
  (Tur.set3 v x y).below B hg (fun k hk e => by omega)
set_option maxHeartbeats 2000000 in
theorem wo_reply {w : World} {F : Nat → Prop} {pb : Nat} {M : Mem} {st : St} (h : WAt w F pb M st) (cmd : ByteArray) (hn : st.replies.length ≤ 1000000000) :
    Calls Try.prog 41 #[.pointer (some ⟨pb, 0, none⟩), .string cmd] w fun e w' => e = .returned (.tuple #[(replyR st cmd).val, .bool (replyB st cmd)]) ∧ Below w.heap.size w w' := by
  have hlt := h.head.lt
  have HB0 := Lib.hid ((((Below.refl w.heap.size w).alloc (Nat.le_refl _) (.cells #[.string cmd] 9))).alloc (by simp) (.cells #[.string ⟨#[]⟩, .string ⟨#[]⟩, .int .i64 0] 63))
  have HH := Lib.hid (h.pure HB0.out)
  have ca : ((w.alloc (.cells #[.string cmd] 9)).alloc (.cells #[.string ⟨#[]⟩, .string ⟨#[]⟩, .int .i64 0] 63)).cell? ⟨w.heap.size, 0, none⟩ = some (.string cmd) := (below_blk (Blk.new w 9 #[.string cmd]) ((Below.refl _ _).alloc (Nat.le_refl _) _) (by simp)).cell 0
  have hr : Blk ((w.alloc (.cells #[.string cmd] 9)).alloc (.cells #[.string ⟨#[]⟩, .string ⟨#[]⟩, .int .i64 0] 63)) (w.heap.size + 1) 63 #[.string ⟨#[]⟩, .string ⟨#[]⟩, .int .i64 0] := by
    have := Blk.new (w.alloc (.cells #[.string cmd] 9)) 63 #[.string ⟨#[]⟩, .string ⟨#[]⟩, .int .i64 0]
    rw [show (w.alloc (.cells #[.string cmd] 9)).heap.size = w.heap.size + 1 by simp] at this
    exact this
  have CA := Lib.hid ca
  have HRB := Lib.hid hr
  have HSZ := Lib.hid (show ((w.alloc (.cells #[.string cmd] 9)).alloc (.cells #[.string ⟨#[]⟩, .string ⟨#[]⟩, .int .i64 0] 63)).heap.size = w.heap.size + 2 by simp)
  have c13 := HH.out.cell 13
  rw [show (wcells M st)[13]? = some M.vr from rfl] at c13
  obtain ⟨rr, hrr⟩ : ∃ rr, rr = replyR st cmd := ⟨_, rfl⟩
  obtain ⟨rb, hrb⟩ : ∃ rb, rb = replyB st cmd := ⟨_, rfl⟩
  rw [← hrr, ← hrb]
  have HRR := Lib.hid hrr
  have HRBB := Lib.hid hrb
  clear h ca hr hrr hrb
  go_enter Try.func41, Try.ntmps41
  go_wp2_with fail
  generalize (w.alloc (.cells #[.string cmd] 9)).alloc (.cells #[.string ⟨#[]⟩, .string ⟨#[]⟩, .int .i64 0] 63) = w1 at *
  refine (wo_indexR st.replies 55 _ (isRp cmd) HH.out.rowR rfl enters_reply (fun r wr hb => ?_) hn).mono ?_
  · exact wo_reply1 r ((hb.cell (p := ⟨_, 0, none⟩) (by have := HSZ.out; show w.heap.size < _; omega)).trans CA.out) (by have := HSZ.out; have := hb.size; omega)
  rintro e w2 ⟨rfl, hb2⟩
  have HH2 := Lib.hid (HH.out.pure hb2)
  have HB2 := Lib.hid (HB0.out.trans (hb2.mono HB0.out.size))
  have HRB2 := Lib.hid (below_blk HRB.out hb2 HRB.out.lt)
  have c11 := HH2.out.cell 13
  rw [show (wcells M st)[13]? = some M.vr from rfl] at c11
  obtain ⟨⟨x0, x1, x2⟩, f0, f1, f2⟩ := HRB2.out.three
  clear c13 hb2
  cases hfi : st.replies.findIdx? (isRp cmd) with
  | none =>
    have HV : Hid (rr = rpZero ∧ rb = false) := by
      unfold Hid; rw [HRR.out, HRBB.out]; unfold replyR replyB replyIx; rw [hfi]; exact ⟨rfl, rfl⟩
    clear hfi
    rw [show ixV none = -1 from rfl]
    go_wp2_with fail
    have hR9 := HRB2.out.set3 (.string ⟨#[]⟩) (.string ⟨#[]⟩) (.int .i64 0)
    have hB9 := HB2.out.trans (below_set3 (g := w.heap.size + 1) (by omega) HB2.out.size (.string ⟨#[]⟩) (.string ⟨#[]⟩) (.int .i64 0))
    obtain ⟨⟨s0, s1, s2⟩, -⟩ := hR9.three
    clear x0 x1 x2 f0 f1 f2 hR9
    refine bodyPost_ret (v := .tuple #[rpZero.val, .bool false]) (by simp [results, Try.results41, go_sem, s0, s1, s2, rpZero, Rp.val]) rfl ⟨by rw [HV.out.1, HV.out.2], hB9⟩
  | some i =>
    have hi : i < st.replies.length := (List.findIdx?_eq_some_iff_getElem.1 hfi).1
    have HV : Hid (rr = st.replies[i] ∧ rb = true) := by
      unfold Hid; rw [HRR.out, HRBB.out]; unfold replyR replyB replyIx; rw [hfi]; exact ⟨by simp [List.getD, hi], rfl⟩
    clear hfi
    rw [show ixV (some i) = (i : Int) from rfl]
    obtain ⟨g, cap, hv, hc1, hc2⟩ := ownBlock_form HH2.out.rowR (by omega)
    rw [hv] at c11
    have hcell : ∀ j, j < 3 → w2.cell? ⟨g, i * 3 + j, none⟩ = (st.replies[i].vals)[j]? := by
      intro j hj
      have h := HH2.out.rowR
      rw [hv] at h
      rw [h.cellAt (i * 3 + j) (by omega), rvals_get st.replies i j hi hj]
    have d0 : w2.cell? ⟨g, i * 3, none⟩ = some (.string st.replies[i].cmd) := hcell 0 (by omega)
    have d1 : w2.cell? ⟨g, i * 3 + 1, none⟩ = some (.string st.replies[i].out) := hcell 1 (by omega)
    have d2 : w2.cell? ⟨g, i * 3 + 2, none⟩ = some (.int .i64 st.replies[i].status) := hcell 2 (by omega)
    generalize st.replies[i] = r at *
    obtain ⟨rc, ro, rs⟩ := r
    obtain ⟨N, hN⟩ : ∃ N, N = st.replies.length := ⟨_, rfl⟩
    rw [← hN] at c11 hi hn hc1
    clear hv hN hcell
    go_wp2_with fail
    have hR9 := HRB2.out.set3 (.string rc) (.string ro) (.int .i64 rs)
    have hB9 := HB2.out.trans (below_set3 (g := w.heap.size + 1) (by omega) HB2.out.size (.string rc) (.string ro) (.int .i64 rs))
    obtain ⟨⟨s0, s1, s2⟩, -⟩ := hR9.three
    clear x0 x1 x2 f0 f1 f2 hR9
    refine bodyPost_ret (v := .tuple #[Rp.val ⟨rc, ro, rs⟩, .bool true]) (by simp [results, Try.results41, go_sem, s0, s1, s2, Rp.val]) rfl ⟨by rw [HV.out.1, HV.out.2], hB9⟩
end Go.Proofs.Ytodjjnklelfgfaa
