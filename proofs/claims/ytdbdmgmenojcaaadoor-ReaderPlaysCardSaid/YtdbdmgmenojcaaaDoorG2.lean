/- A world: the walks of fail and reply. -/
import Derived.Test.YtdbdmgmenojcaaaDoorG1
import Derived.Deep.AppendLies
import Derived.Deep.RegionLaw
import Derived.Deep.DrawnRows
import Derived.Lib.SliceRun
set_option linter.unusedVariables false
set_option linter.unusedSimpArgs false
namespace Go.Proofs.YtdbdmgmenojcaaaDoor
open Go.RowKit Wd
open Go.WideMaps Go.WideElems Go.WideAt

namespace Wd
def isFl (op : Int) (name : ByteArray) (f : Fl) : Bool := decide (f.op = op) && decide (f.name = name)
def failIx (st : St) (op : Int) (name : ByteArray) : Option Nat := st.fails.findIdx? (isFl op name)
def failB (st : St) (op : Int) (name : ByteArray) : Bool := (failIx st op name).isSome
theorem fvals_get (l : List Fl) (i j : Nat) (h : i < l.length) (hj : j < 2) : (fvals l)[i * 2 + j]? = (l[i].vals)[j]? := flat_get Fl.vals 2 (fun _ => rfl) l i j h hj
theorem rvals_get (l : List Rp) (i j : Nat) (h : i < l.length) (hj : j < 3) : (rvals l)[i * 3 + j]? = (l[i].vals)[j]? := flat_get Rp.vals 3 (fun _ => rfl) l i j h hj
theorem evals_get (l : List Ev) (i j : Nat) (h : i < l.length) (hj : j < 5) : (evals l)[i * 5 + j]? = (l[i].vals)[j]? := flat_get Ev.vals 5 (fun _ => rfl) l i j h hj
end Wd
set_option maxHeartbeats 1000000 in
theorem wo_indexF {w : World} {v : Value} (l : List Fl) (op : Int) (name : ByteArray) (hrow : w.ownsRow 0 85 2 v l.length (fvals l)) (hn : l.length ≤ 1000000000) :
    Calls Tryd.prog 88 #[v, .agg #[.int .u8 op, .string name]] w fun e w' => e = .returned (.int .i64 (ixV (l.findIdx? (isFl op name)))) ∧ Below w.heap.size w w' := by
  obtain ⟨A, cap, rfl, hc1, hc2⟩ := own_form hrow
  have hr : First (fun i => isFl op name (l.getD i ⟨0, ⟨#[]⟩⟩)) l.length (l.findIdx? (isFl op name)) := first_find l (isFl op name) _ (fun i h => by simp [List.getD, h])
  have HROW := Lib.hid hrow
  have HR := Lib.hid hr
  obtain ⟨n, hnn⟩ : ∃ n, n = l.length := ⟨_, rfl⟩
  rw [← hnn] at hc1 hn ⊢
  have HNN := Lib.hid hnn
  have HB0 := Lib.hid ((Below.refl w.heap.size w).alloc (Nat.le_refl _) (.cells #[.int .u8 op, .string name] 85))
  have HF0 := Lib.hid (Blk.new w 85 #[.int .u8 op, .string name])
  clear hrow hr hnn
  go_enter Tryd.func88, Tryd.ntmps88
  go_wp2_with fail
  generalize w.alloc (.cells #[.int .u8 op, .string name] 85) = w1 at *
  obtain ⟨b0, hb0⟩ : ∃ b0, b0 = w.heap.size := ⟨_, rfl⟩
  rw [← hb0] at HF0 HB0 ⊢
  have HB00 := Lib.hid hb0
  clear hb0
  go_loopw [8] (fun i wr => ∃ k : Nat, k ≤ n ∧ i = .int .i64 k ∧ (∀ j, j < k → isFl op name (l.getD j ⟨0, ⟨#[]⟩⟩) = false) ∧ Below w1.heap.size w1 wr) (fun i _ => n - (intOf i).toNat)
  case atStart => exact ⟨0, Nat.zero_le _, rfl, fun j h => by omega, Below.refl _ _⟩
  case round =>
    obtain ⟨k, hk, rfl, hno, hbr⟩ := hrel
    have HNO := Lib.hid hno
    have HBR := Lib.hid hbr
    have hF := below_blk HF0.out hbr HF0.out.lt
    obtain ⟨⟨c0, c1⟩, -⟩ := hF.two
    clear hno hF
    by_cases hlt : k < n
    · have hkl : k < l.length := by have := HNN.out; omega
      obtain ⟨g, cap', hv, -, -⟩ := ownBlock_form HROW.out (by omega)
      obtain ⟨rfl, -, -⟩ := Value.slice.inj hv
      obtain ⟨cur, hcur, hgl'⟩ := own_lt HROW.out rfl
      have hgl : g < w.heap.size := hgl'
      clear hgl'
      have hcell : ∀ j, j < 2 → wr.cell? ⟨g, k * 2 + j, none⟩ = (l[k].vals)[j]? := by
        intro j hj
        have := HROW.out.cellAt (k * 2 + j) (by omega)
        rw [hbr.cell (p := ⟨g, k * 2 + j, none⟩) (by have := HB0.out.size; have := HB00.out; show g < _; omega), HB0.out.cell (p := ⟨g, k * 2 + j, none⟩) (by have := HB00.out; show g < _; omega), this, fvals_get l k j hkl hj]
      have d0 : wr.cell? ⟨g, k * 2, none⟩ = some (.int .u8 l[k].op) := hcell 0 (by omega)
      have d1 : wr.cell? ⟨g, k * 2 + 1, none⟩ = some (.string l[k].name) := hcell 1 (by omega)
      have hq : isFl op name (l.getD k ⟨0, ⟨#[]⟩⟩) = (decide (op = l[k].op) && decide (name = l[k].name)) := by
        simp only [isFl, List.getD, List.getElem?_eq_getElem hkl, Option.getD_some]
        rw [Bool.eq_iff_iff]; simp only [Bool.and_eq_true, decide_eq_true_eq]; exact ⟨fun ⟨a, b⟩ => ⟨a.symm, b.symm⟩, fun ⟨a, b⟩ => ⟨a.symm, b.symm⟩⟩
      have HQ := Lib.hid hq
      have HFS := Lib.hid (fun h => First.some_of (p := fun i => isFl op name (l.getD i ⟨0, ⟨#[]⟩⟩)) HR.out hkl h HNO.out)
      generalize l[k].op = lo at *
      generalize l[k].name = ln at *
      clear hv hbr hcell hcur hq
      have hsplit : (op = lo ∧ name = ln) ∨ (op = lo ∧ ¬ name = ln) ∨ ¬ op = lo := by
        by_cases h1 : op = lo
        · by_cases h2 : name = ln
          · exact .inl ⟨h1, h2⟩
          · exact .inr (.inl ⟨h1, h2⟩)
        · exact .inr (.inr h1)
      rcases hsplit with ⟨h1, h2⟩ | ⟨h1, h2⟩ | h1
      · have HK := Lib.hid (HFS.out (by rw [HQ.out]; simp [h1, h2]))
        subst h1 h2
        go_wp2_with fail
        go_quiet (fail)
        go_wp2_with fail
        go_ret
        exact ⟨ret_int (by rw [HK.out]; rfl), by rw [HB00.out] at HB0; exact HB0.out.trans ((HBR.out.mono HB0.out.size).trans ((below_drew _ _).mono (by have := HB0.out.size; have := HBR.out.size; omega)))⟩
      · have e1 : (op == lo) = true := by simp [h1]
        have e2 : (name.toList == ln.toList) = false := by rw [str_eq]; exact decide_eq_false h2
        have HP := Lib.hid (show isFl op name (l.getD k ⟨0, ⟨#[]⟩⟩) = false by rw [HQ.out]; simp [h2])
        clear h1 h2 HFS
        go_wp2_with fail
        go_quiet (fail)
        go_wp2_with fail
        go_roundw
        case rel => exact ⟨k + 1, by omega, by go_num, (fun j hj => by
          rcases Nat.lt_or_ge j k with h | h
          · exact HNO.out j h
          · obtain rfl : j = k := by omega
            exact HP.out), HBR.out.trans ((below_drew _ _).mono HBR.out.size)⟩
        case measure => simp [intOf]; omega
      · have e1 : (op == lo) = false := by simp [h1]
        have HP := Lib.hid (show isFl op name (l.getD k ⟨0, ⟨#[]⟩⟩) = false by rw [HQ.out]; simp [h1])
        clear h1 HFS
        go_wp2_with fail
        go_quiet (fail)
        go_wp2_with fail
        go_roundw
        case rel => exact ⟨k + 1, by omega, by go_num, (fun j hj => by
          rcases Nat.lt_or_ge j k with h | h
          · exact HNO.out j h
          · obtain rfl : j = k := by omega
            exact HP.out), HBR.out.trans ((below_drew _ _).mono HBR.out.size)⟩
        case measure => simp [intOf]; omega
    · have hkn : k = n := by omega
      have HK := Lib.hid (First.none_of (p := fun i => isFl op name (l.getD i ⟨0, ⟨#[]⟩⟩)) HR.out (fun j hj => HNO.out j (by have := HNN.out; omega)))
      clear hkn hbr
      go_wp2_with fail
      go_ret
      exact ⟨ret_int (by rw [HK.out]; rfl), by rw [HB00.out] at HB0; exact HB0.out.trans (HBR.out.mono HB0.out.size)⟩
theorem wo_containsF {w : World} {v : Value} (l : List Fl) (op : Int) (name : ByteArray) (hrow : w.ownsRow 0 85 2 v l.length (fvals l)) (hn : l.length ≤ 1000000000) :
    Calls Tryd.prog 71 #[v, .agg #[.int .u8 op, .string name]] w fun e w' => e = .returned (.bool (l.findIdx? (isFl op name)).isSome) ∧ Below w.heap.size w w' := by
  have HB0 := Lib.hid ((Below.refl w.heap.size w).alloc (Nat.le_refl _) (.cells #[.int .u8 op, .string name] 85))
  have HROW := Lib.hid (own_of_block hrow (fun g hg => HB0.out.block g (own_lt hrow hg).choose_spec.2))
  clear hrow
  go_enter Tryd.func71, Tryd.ntmps71
  go_wp2_with fail
  refine (wo_indexF l op name HROW.out hn).mono ?_
  rintro e w2 ⟨rfl, hb2⟩
  have HB2 := Lib.hid (HB0.out.trans (hb2.mono HB0.out.size))
  clear hb2
  cases hr : l.findIdx? (isFl op name) with
  | none =>
    have HS : Hid ((l.findIdx? (isFl op name)).isSome = false) := by unfold Hid; rw [hr]; rfl
    clear hr
    rw [show ixV none = -1 from rfl]
    go_wp2_with fail
    go_ret
    exact ⟨by rw [HS.out]; rfl, HB2.out⟩
  | some i =>
    have HS : Hid ((l.findIdx? (isFl op name)).isSome = true) := by unfold Hid; rw [hr]; rfl
    clear hr
    rw [show ixV (some i) = (i : Int) from rfl]
    have hi0 : (0 : Int) ≤ (i : Int) := Int.natCast_nonneg _
    go_wp2_with fail
    go_ret
    exact ⟨by rw [HS.out]; rfl, HB2.out⟩
theorem wo_fail {w : World} {F : Nat → Prop} {pb : Nat} {M : Mem} {st : St} (h : WAt w F pb M st) (op : Int) (name : ByteArray) (hn : st.fails.length ≤ 1000000000) :
    Calls Tryd.prog 46 #[.pointer (some ⟨pb, 0, none⟩), .int .u8 op, .string name] w fun e w' => e = .returned (.bool (failB st op name)) ∧ Below w.heap.size w w' := by
  have c14 := h.cell 14
  rw [show (wcells M st)[14]? = some M.vf from rfl] at c14
  have HROW := Lib.hid h.rowF
  have HFB : Hid (failB st op name = (st.fails.findIdx? (isFl op name)).isSome) := rfl
  clear h
  go_enter Tryd.func46, Tryd.ntmps46
  go_wp2_with fail
  refine (wo_containsF st.fails op name HROW.out hn).mono ?_
  rintro e w2 ⟨rfl, hb2⟩
  rw [← HFB.out]
  go_wp2_with fail
  go_ret
  exact ⟨rfl, hb2⟩
end Go.Proofs.YtdbdmgmenojcaaaDoor
namespace Go.Proofs.YtdbdmgmenojcaaaDoor
open Go.RowKit Wd
open Go.WideMaps Go.WideElems Go.WideAt

namespace Wd
def isRp (cmd : ByteArray) (r : Rp) : Bool := decide (r.cmd = cmd)
def rpZero : Rp := ⟨⟨#[]⟩, ⟨#[]⟩, 0⟩
def replyIx (st : St) (cmd : ByteArray) : Option Nat := st.replies.findIdx? (isRp cmd)
def replyR (st : St) (cmd : ByteArray) : Rp := match replyIx st cmd with
  | some i => st.replies.getD i rpZero
  | none => rpZero
def replyB (st : St) (cmd : ByteArray) : Bool := (replyIx st cmd).isSome
def Rp.val (r : Rp) : Value := .agg #[.string r.cmd, .string r.out, .int .i64 r.status]
end Wd
set_option maxRecDepth 100000 in
theorem enters_reply : ∀ (args : Array Value) (w : World), (callFunc 70 args).run Tryd.prog w = .ok (.enter 70 args) w := fun _ _ => rfl
theorem wo_reply1 {w : World} {a : Nat} (r : Rp) {cmd : ByteArray} (ha : w.cell? ⟨a, 0, none⟩ = some (.string cmd)) (hal : a < w.heap.size) :
    Calls Tryd.prog 70 #[r.val, .pointer (some ⟨a, 0, none⟩)] w fun e w' => e = .returned (.bool (isRp cmd r)) ∧ Below w.heap.size w w' := by
  obtain ⟨rc, ro, rs⟩ := r
  have HB0 := Lib.hid ((Below.refl w.heap.size w).alloc (Nat.le_refl _) (.cells #[.string rc, .string ro, .int .i64 rs] 87))
  have ca := (HB0.out.cell (p := ⟨a, 0, none⟩) hal).trans ha
  have HH : Hid (isRp cmd ⟨rc, ro, rs⟩ = (rc.toList == cmd.toList)) := by unfold Hid; rw [str_eq]; rfl
  rw [HH.out]
  clear ha
  show Calls Tryd.prog 70 #[.agg #[.string rc, .string ro, .int .i64 rs], .pointer (some ⟨a, 0, none⟩)] w _
  go_enter Tryd.func70, Tryd.ntmps70
  go_wp2_with fail
  go_ret
  exact ⟨rfl, HB0.out⟩
/-- slices.IndexFunc over replies. -/
theorem wo_indexR {w : World} {v : Value} {n : Nat} (l : List Rp) (f : Nat) (caps : Array Value) (q : Rp → Bool) (hrow : w.ownsRow 0 87 3 v n (rvals l)) (hln : n = l.length) (hc : ∀ (args : Array Value) (w : World), (callFunc f args).run Tryd.prog w = .ok (.enter f args) w)
    (hg : ∀ r, ∀ wr, Below w.heap.size w wr → Calls Tryd.prog f (#[r.val] ++ caps) wr fun e w' => e = .returned (.bool (q r)) ∧ Below wr.heap.size wr w') (hn : n ≤ 1000000000) :
    Calls Tryd.prog 65 #[v, .func (.func f) #[] caps] w fun e w' => e = .returned (.int .i64 (ixV (l.findIdx? q))) ∧ Below w.heap.size w w' := by
  obtain ⟨A, cap, rfl, hc1, hc2⟩ := own_form hrow
  have hr : First (fun i => q (l.getD i rpZero)) l.length (l.findIdx? q) := first_find l q _ (fun i h => by simp [List.getD, h])
  have HROW := Lib.hid hrow
  have HG := Lib.hid hg
  have HGN := Lib.hid hln
  have HR := Lib.hid hr
  clear hrow hg hln hr
  go_enter Tryd.func65, Tryd.ntmps65
  go_wp2_with fail
  go_loopw [8] (fun i wr => ∃ k : Nat, k ≤ n ∧ i = .int .i64 k ∧ (∀ j, j < k → q (l.getD j rpZero) = false) ∧ Below w.heap.size w wr) (fun i _ => n - (intOf i).toNat)
  case atStart => exact ⟨0, Nat.zero_le _, rfl, fun j h => by omega, Below.refl _ _⟩
  case round =>
    obtain ⟨k, hk, rfl, hno, hbr⟩ := hrel
    have HNO := Lib.hid hno
    have HBR := Lib.hid hbr
    clear hno
    by_cases hlt : k < n
    · have hkg : k < l.length := by have := HGN.out; omega
      obtain ⟨g, cap', hv, -, -⟩ := ownBlock_form HROW.out (by omega)
      obtain ⟨rfl, -, -⟩ := Value.slice.inj hv
      obtain ⟨cur, -, hgl'⟩ := own_lt HROW.out rfl
      have hgl : g < w.heap.size := hgl'
      have hcell : ∀ j, j < 3 → wr.cell? ⟨g, k * 3 + j, none⟩ = (l[k].vals)[j]? := by
        intro j hj
        have := HROW.out.cellAt (k * 3 + j) (by omega)
        rw [hbr.cell (p := ⟨g, k * 3 + j, none⟩) (by show g < _; omega), this, rvals_get l k j hkg hj]
      have d0 : wr.cell? ⟨g, k * 3, none⟩ = some (.string l[k].cmd) := hcell 0 (by omega)
      have d1 : wr.cell? ⟨g, k * 3 + 1, none⟩ = some (.string l[k].out) := hcell 1 (by omega)
      have d2 : wr.cell? ⟨g, k * 3 + 2, none⟩ = some (.int .i64 l[k].status) := hcell 2 (by omega)
      have HGK := Lib.hid (HG.out l[k] wr hbr)
      have HFS := Lib.hid (fun h => First.some_of (p := fun i => q (l.getD i rpZero)) HR.out hkg h HNO.out)
      have HQ := Lib.hid (show q (l.getD k rpZero) = q l[k] by simp [List.getD, hkg])
      clear hv hbr hcell hgl'
      generalize l[k] = r at *
      obtain ⟨rc, ro, rs⟩ := r
      go_wp2_with fail
      refine (HGK.out).mono ?_
      rintro e w2 ⟨rfl, hb2⟩
      have HB2 := Lib.hid (HBR.out.trans (hb2.mono HBR.out.size))
      clear hb2 HGK d0 d1 d2
      cases hp : q ⟨rc, ro, rs⟩
      · have HP := Lib.hid (HQ.out.trans hp)
        clear hp
        go_wp2_with fail
        go_roundw
        case rel => exact ⟨k + 1, by omega, by go_num, (fun j hj => by
          rcases Nat.lt_or_ge j k with h | h
          · exact HNO.out j h
          · obtain rfl : j = k := by omega
            exact HP.out), HB2.out⟩
        case measure => simp [intOf]; omega
      · have HK := Lib.hid (HFS.out (HQ.out.trans hp))
        clear hp
        go_wp2_with fail
        go_ret
        exact ⟨ret_int (by rw [HK.out]; rfl), HB2.out⟩
    · have hkn : k = n := by omega
      have HK := Lib.hid (First.none_of (p := fun i => q (l.getD i rpZero)) HR.out (fun j hj => HNO.out j (by have := HGN.out; omega)))
      clear hkn hbr
      go_wp2_with fail
      go_ret
      exact ⟨ret_int (by rw [HK.out]; rfl), HBR.out⟩
theorem rp3 (w : World) (a b c : Value) : Blk (w.alloc (.cells #[a, b, c] 87)) w.heap.size 87 #[a, b, c] ∧ Below w.heap.size w (w.alloc (.cells #[a, b, c] 87)) :=
  ⟨Blk.new w _ _, (Below.refl _ _).alloc (Nat.le_refl _) _⟩
theorem Blk.three {w : World} {R : Nat} {t : TypeId} {a b c : Value} (h : Blk w R t #[a, b, c]) : (w.cell? ⟨R, 0, none⟩ = some a ∧ w.cell? ⟨R, 1, none⟩ = some b ∧ w.cell? ⟨R, 2, none⟩ = some c) ∧ (w.frozen? ⟨R, 0, none⟩ = false ∧ w.frozen? ⟨R, 1, none⟩ = false ∧ w.frozen? ⟨R, 2, none⟩ = false) :=
  ⟨⟨h.cell 0, h.cell 1, h.cell 2⟩, h.free 0, h.free 1, h.free 2⟩
theorem below_set3 {w : World} {g B : Nat} (hB : B ≤ g) (hg : B ≤ w.heap.size) (v x y : Value) : Below B w (((w.setCell ⟨g, 0, none⟩ v).setCell ⟨g, 1, none⟩ x).setCell ⟨g, 2, none⟩ y) :=
  (Tur.set3 v x y).below B hg (fun k hk e => by omega)
set_option maxHeartbeats 2000000 in
theorem wo_reply {w : World} {F : Nat → Prop} {pb : Nat} {M : Mem} {st : St} (h : WAt w F pb M st) (cmd : ByteArray) (hn : st.replies.length ≤ 1000000000) :
    Calls Tryd.prog 39 #[.pointer (some ⟨pb, 0, none⟩), .string cmd] w fun e w' => e = .returned (.tuple #[(replyR st cmd).val, .bool (replyB st cmd)]) ∧ Below w.heap.size w w' := by
  have hlt := h.head.lt
  have HB0 := Lib.hid ((((Below.refl w.heap.size w).alloc (Nat.le_refl _) (.cells #[.string cmd] 9))).alloc (by simp) (.cells #[.string ⟨#[]⟩, .string ⟨#[]⟩, .int .i64 0] 87))
  have HH := Lib.hid (h.pure HB0.out)
  have ca : ((w.alloc (.cells #[.string cmd] 9)).alloc (.cells #[.string ⟨#[]⟩, .string ⟨#[]⟩, .int .i64 0] 87)).cell? ⟨w.heap.size, 0, none⟩ = some (.string cmd) := (below_blk (Blk.new w 9 #[.string cmd]) ((Below.refl _ _).alloc (Nat.le_refl _) _) (by simp)).cell 0
  have hr : Blk ((w.alloc (.cells #[.string cmd] 9)).alloc (.cells #[.string ⟨#[]⟩, .string ⟨#[]⟩, .int .i64 0] 87)) (w.heap.size + 1) 87 #[.string ⟨#[]⟩, .string ⟨#[]⟩, .int .i64 0] := by
    have := Blk.new (w.alloc (.cells #[.string cmd] 9)) 87 #[.string ⟨#[]⟩, .string ⟨#[]⟩, .int .i64 0]
    rw [show (w.alloc (.cells #[.string cmd] 9)).heap.size = w.heap.size + 1 by simp] at this
    exact this
  have CA := Lib.hid ca
  have HRB := Lib.hid hr
  have HSZ := Lib.hid (show ((w.alloc (.cells #[.string cmd] 9)).alloc (.cells #[.string ⟨#[]⟩, .string ⟨#[]⟩, .int .i64 0] 87)).heap.size = w.heap.size + 2 by simp)
  have c13 := HH.out.cell 13
  rw [show (wcells M st)[13]? = some M.vr from rfl] at c13
  obtain ⟨rr, hrr⟩ : ∃ rr, rr = replyR st cmd := ⟨_, rfl⟩
  obtain ⟨rb, hrb⟩ : ∃ rb, rb = replyB st cmd := ⟨_, rfl⟩
  rw [← hrr, ← hrb]
  have HRR := Lib.hid hrr
  have HRBB := Lib.hid hrb
  clear h ca hr hrr hrb
  go_enter Tryd.func39, Tryd.ntmps39
  go_wp2_with fail
  generalize (w.alloc (.cells #[.string cmd] 9)).alloc (.cells #[.string ⟨#[]⟩, .string ⟨#[]⟩, .int .i64 0] 87) = w1 at *
  refine (wo_indexR st.replies 70 _ (isRp cmd) HH.out.rowR rfl enters_reply (fun r wr hb => ?_) hn).mono ?_
  · exact wo_reply1 r ((hb.cell (p := ⟨_, 0, none⟩) (by have := HSZ.out; show w.heap.size < _; omega)).trans CA.out) (by have := HSZ.out; have := hb.size; omega)
  rintro e w2 ⟨rfl, hb2⟩
  have HH2 := Lib.hid (HH.out.pure hb2)
  have HB2 := Lib.hid (HB0.out.trans (hb2.mono HB0.out.size))
  have HRB2 := Lib.hid (below_blk HRB.out hb2 HRB.out.lt)
  have c11 := HH2.out.cell 13
  rw [show (wcells M st)[13]? = some M.vr from rfl] at c11
  obtain ⟨⟨x0, x1, x2⟩, f0, f1, f2⟩ := HRB2.out.three
  clear c13 hb2
  cases hfi : st.replies.findIdx? (isRp cmd) with
  | none =>
    have HV : Hid (rr = rpZero ∧ rb = false) := by
      unfold Hid; rw [HRR.out, HRBB.out]; unfold replyR replyB replyIx; rw [hfi]; exact ⟨rfl, rfl⟩
    clear hfi
    rw [show ixV none = -1 from rfl]
    go_wp2_with fail
    have hR9 := HRB2.out.set3 (.string ⟨#[]⟩) (.string ⟨#[]⟩) (.int .i64 0)
    have hB9 := HB2.out.trans (below_set3 (g := w.heap.size + 1) (by omega) HB2.out.size (.string ⟨#[]⟩) (.string ⟨#[]⟩) (.int .i64 0))
    obtain ⟨⟨s0, s1, s2⟩, -⟩ := hR9.three
    clear x0 x1 x2 f0 f1 f2 hR9
    refine bodyPost_ret (v := .tuple #[rpZero.val, .bool false]) (by simp [results, Tryd.results39, go_sem, s0, s1, s2, rpZero, Rp.val]) rfl ⟨by rw [HV.out.1, HV.out.2], hB9⟩
  | some i =>
    have hi : i < st.replies.length := (List.findIdx?_eq_some_iff_getElem.1 hfi).1
    have HV : Hid (rr = st.replies[i] ∧ rb = true) := by
      unfold Hid; rw [HRR.out, HRBB.out]; unfold replyR replyB replyIx; rw [hfi]; exact ⟨by simp [List.getD, hi], rfl⟩
    clear hfi
    rw [show ixV (some i) = (i : Int) from rfl]
    obtain ⟨g, cap, hv, hc1, hc2⟩ := ownBlock_form HH2.out.rowR (by omega)
    rw [hv] at c11
    have hcell : ∀ j, j < 3 → w2.cell? ⟨g, i * 3 + j, none⟩ = (st.replies[i].vals)[j]? := by
      intro j hj
      have h := HH2.out.rowR
      rw [hv] at h
      rw [h.cellAt (i * 3 + j) (by omega), rvals_get st.replies i j hi hj]
    have d0 : w2.cell? ⟨g, i * 3, none⟩ = some (.string st.replies[i].cmd) := hcell 0 (by omega)
    have d1 : w2.cell? ⟨g, i * 3 + 1, none⟩ = some (.string st.replies[i].out) := hcell 1 (by omega)
    have d2 : w2.cell? ⟨g, i * 3 + 2, none⟩ = some (.int .i64 st.replies[i].status) := hcell 2 (by omega)
    generalize st.replies[i] = r at *
    obtain ⟨rc, ro, rs⟩ := r
    obtain ⟨N, hN⟩ : ∃ N, N = st.replies.length := ⟨_, rfl⟩
    rw [← hN] at c11 hi hn hc1
    clear hv hN hcell
    go_wp2_with fail
    have hR9 := HRB2.out.set3 (.string rc) (.string ro) (.int .i64 rs)
    have hB9 := HB2.out.trans (below_set3 (g := w.heap.size + 1) (by omega) HB2.out.size (.string rc) (.string ro) (.int .i64 rs))
    obtain ⟨⟨s0, s1, s2⟩, -⟩ := hR9.three
    clear x0 x1 x2 f0 f1 f2 hR9
    refine bodyPost_ret (v := .tuple #[Rp.val ⟨rc, ro, rs⟩, .bool true]) (by simp [results, Tryd.results39, go_sem, s0, s1, s2, Rp.val]) rfl ⟨by rw [HV.out.1, HV.out.2], hB9⟩
end Go.Proofs.YtdbdmgmenojcaaaDoor
namespace Go.Proofs.YtdbdmgmenojcaaaDoor
open Go.RowKit Wd
open Go.WideMaps Go.WideElems Go.WideAt

theorem cells_ne {w : World} {a b : Nat} {t u : TypeId} {cs cu : Array Value} (h : w.heap[a]? = some (.cells cs t (0, 0))) (k : w.heap[b]? = some (.cells cu u (0, 0))) (hne : t ≠ u) : a ≠ b := by
  rintro rfl; rw [h] at k; injection k with k; injection k with _ h2; exact hne h2
theorem map_ne {w : World} {a b : Nat} {t : TypeId} {cs : Array Value} {P : Program} {k e : TypeId} {m : Nat} {f : List UInt8 → Option Value} (h : w.heap[a]? = some (.cells cs t (0, 0))) (hm : MapS P k e w b m f) : a ≠ b := by
  rintro rfl
  obtain ⟨D, ⟨es, c, hb, _⟩, _⟩ := hm
  rw [hb] at h; cases h
section
variable {w w' : World} {F G : Nat → Prop} {pb : Nat} {M : Mem} {st : St}
theorem WAt.lt (h : WAt w F pb M st) : pb < w.heap.size := h.flt pb h.fp
theorem WAt.head' (h : WAt w F pb M st) (ht : Tur G w w') (hn : ¬ G pb) : Blk w' pb 93 (wcells M st) := h.head.keep ht hn
theorem WAt.map' (h : WAt w F pb M st) (ht : Tur G w w') (hn : ¬ G M.bm) : MapS Tryd.prog 9 9 w' M.bm M.m (fun l => (st.files l).map Value.string) := h.map.of_block (ht.block _ h.map.lt hn)
theorem WAt.rowO' (h : WAt w F pb M st) (ht : Tur G w w') (hn : ∀ g, M.vo.ownBlock = some g → ¬ G g) : w'.ownsRow 0 99 1 M.vo st.opn.length (ptrs M.gs) := own_of_block h.rowO fun g hg => ht.block g (h.flt g (h.fo g hg)) (hn g hg)
theorem WAt.strm' (h : WAt w F pb M st) (ht : Tur G w w') (hn : ∀ g ∈ M.gs, ¬ G g) : ∀ i, (hi : i < st.opn.length) → ∃ g, M.gs[i]? = some g ∧ Blk w' g 109 st.opn[i].cells := fun i hi => by
  obtain ⟨g, hg, hB⟩ := h.strm i hi
  exact ⟨g, hg, hB.keep ht (hn g (List.mem_of_getElem? hg))⟩
theorem WAt.rowT' (h : WAt w F pb M st) (ht : Tur G w w') (hn : ∀ g, M.vt.ownBlock = some g → ¬ G g) : w'.ownsRow 0 106 5 M.vt st.trace.length (evals st.trace) := own_of_block h.rowT fun g hg => ht.block g (h.flt g (h.ft g hg)) (hn g hg)
theorem WAt.rowR' (h : WAt w F pb M st) (ht : Tur G w w') (hn : ∀ g, M.vr.ownBlock = some g → ¬ G g) : w'.ownsRow 0 87 3 M.vr st.replies.length (rvals st.replies) := own_of_block h.rowR fun g hg => ht.block g (h.flt g (h.fr g hg)) (hn g hg)
theorem WAt.rowF' (h : WAt w F pb M st) (ht : Tur G w w') (hn : ∀ g, M.vf.ownBlock = some g → ¬ G g) : w'.ownsRow 0 85 2 M.vf st.fails.length (fvals st.fails) := own_of_block h.rowF fun g hg => ht.block g (h.flt g (h.ff g hg)) (hn g hg)
/-- What a block of its is. -/
theorem WAt.gsAt (h : WAt w F pb M st) {g : Nat} (hg : g ∈ M.gs) : ∃ cs, w.heap[g]? = some (.cells cs 109 (0, 0)) := by
  obtain ⟨i, hi, rfl⟩ := List.mem_iff_getElem.1 hg
  obtain ⟨g', hg', hB⟩ := h.strm i (by rw [← h.gl]; exact hi)
  rw [List.getElem?_eq_getElem hi] at hg'
  injection hg' with hg'
  exact ⟨_, by rw [hg']; exact hB⟩
end
theorem one_ev {e : Ev} : ∀ u ∈ e.vals, u.oneCell' = true := by
  intro u hu; simp [Ev.vals] at hu; rcases hu with rfl | rfl | rfl | rfl | rfl <;> rfl
theorem info_ev : (Tryd.prog.info? 106).map (fun i => (i.zero, i.size, i.bytes)) = some (some (.agg #[.int .u8 0, .int .u8 0, .string ⟨#[]⟩, .string ⟨#[]⟩, .int .i64 0]), 5, 48) := by kernel_rfl
def Wd.St.traced (st : St) (e : Ev) : St := { st with trace := st.trace ++ [e] }
def Wd.Ev.val (e : Ev) : Value := .agg #[.int .u8 e.k, .int .u8 e.st, .string e.name, .string e.data, .int .i64 e.status]
theorem WAt.traced {w w3 : World} {F : Nat → Prop} {pb : Nat} {M : Mem} {st : St} (h : WAt w F pb M st) {g n' cap : Nat} (ev : Ev) (hg : w.grownBy w3 M.vt.ownBlock)
    (ho : w3.ownsRow 0 106 5 (.slice (some ⟨g, 0, none⟩) n' cap) n' (evals st.trace ++ ev.vals)) (hn : n' = st.trace.length + 1) (hat : M.vt.ownBlock = some g ∨ w.heap.size ≤ g) :
    WAt (w3.setCell ⟨pb, 12, none⟩ (.slice (some ⟨g, 0, none⟩) n' cap)) (fun k => F k ∨ k = g) pb { M with vt := .slice (some ⟨g, 0, none⟩) n' cap } (st.traced ev) ∧ Tur F w (w3.setCell ⟨pb, 12, none⟩ (.slice (some ⟨g, 0, none⟩) n' cap)) := by
  have h1 : Tur (fun k => some k = M.vt.ownBlock) w w3 := Tur.of_grown hg
  have h2 : Tur (fun k => some k = M.vt.ownBlock ∨ k = pb) w (w3.setCell ⟨pb, 12, none⟩ (.slice (some ⟨g, 0, none⟩) n' cap)) := (h1.mono (fun _ _ e => .inl e)).trans (Tur.of_set ⟨pb, 12, none⟩ _) (fun _ _ e => .inr e)
  obtain ⟨cur, hcur, hgl'⟩ := own_lt ho rfl
  have hgl : g < w3.heap.size := hgl'
  have hvt : ∀ k cs t, w.heap[k]? = some (.cells cs t (0, 0)) → t ≠ 106 → ¬ some k = M.vt.ownBlock := by
    intro k cs t hk ht e
    obtain ⟨cur, hc, -⟩ := own_lt h.rowT e.symm
    exact cells_ne hk hc ht rfl
  have hpbg : pb ≠ g := by
    rcases hat with e | e
    · exact fun e' => hvt pb _ _ h.head (by decide) (by rw [e, e'])
    · have := h.lt; omega
  have hsz : w.heap.size ≤ w3.heap.size := hg.size
  have hrow : ∀ (v : Value) (t : TypeId) (sz n : Nat) (cs : List Value), w.ownsRow 0 t sz v n cs → t ≠ 106 → t ≠ 93 → ∀ k, v.ownBlock = some k → ¬ (some k = M.vt.ownBlock ∨ k = pb) := by
    intro v t sz n cs hr ht1 ht2 k hk
    obtain ⟨cur, hc, -⟩ := own_lt hr hk
    rintro (e | e)
    · exact hvt k _ _ hc ht1 e
    · exact cells_ne hc h.head ht2 e
  refine ⟨?_, h2.mono (fun k _ e => by rcases e with e | e; exact h.ft k e.symm; rw [e]; exact h.fp)⟩
  exact {
    flt := fun k hk => by
      show k < (w3.setCell _ _).heap.size
      rw [show (w3.setCell ⟨pb, 12, none⟩ (.slice (some ⟨g, 0, none⟩) n' cap)).heap.size = w3.heap.size by simp [World.setCell]]
      rcases hk with hk | rfl
      · have := h.flt k hk; omega
      · exact hgl
    fp := .inl h.fp
    fm := .inl h.fm
    fo := fun g hg => .inl (h.fo g hg)
    ft := fun k hk => .inr (by injection hk with hk; exact hk.symm)
    fr := fun g hg => .inl (h.fr g hg)
    ff := fun g hg => .inl (h.ff g hg)
    fg := fun g hg => .inl (h.fg g hg)
    head := by
      have hB : Blk w3 pb 93 (wcells M st) := h.head.keep h1 (hvt pb _ _ h.head (by decide))
      exact hB.set 12 (.slice (some ⟨g, 0, none⟩) n' cap)
    map := h.map' h2 (by
      rintro (e | e)
      · obtain ⟨cur, hc, -⟩ := own_lt h.rowT e.symm
        exact map_ne hc h.map rfl
      · exact map_ne h.head h.map e.symm)
    rowO := h.rowO' h2 (hrow _ _ _ _ _ h.rowO (by decide) (by decide))
    strm := h.strm' h2 (fun k hk => by
      obtain ⟨cs, hc⟩ := h.gsAt hk
      rintro (e | e)
      · exact hvt k _ _ hc (by decide) e
      · exact cells_ne hc h.head (by decide) e)
    nd := h.nd
    rowT := by
      have : (evals (st.traced ev).trace) = evals st.trace ++ ev.vals := by simp [evals, St.traced]
      rw [this, show (st.traced ev).trace.length = n' by simp [St.traced, hn]]
      exact own_of_block ho (fun k hk => (Tur.of_set (w := w3) ⟨pb, 12, none⟩ _).block k (own_lt ho hk).choose_spec.2 (fun e => by injection hk with hk; change g = k at hk; subst hk; exact hpbg e.symm))
    rowR := h.rowR' h2 (hrow _ _ _ _ _ h.rowR (by decide) (by decide))
    rowF := h.rowF' h2 (hrow _ _ _ _ _ h.rowF (by decide) (by decide)) }
/-- What a cell holds: a name for it that a store may turn. -/
def valAt (w : World) (b i : Nat) : Value := (w.cell? ⟨b, i, none⟩).getD undef
theorem valAt_of {w : World} {b i : Nat} {v : Value} (h : w.cell? ⟨b, i, none⟩ = some v) : valAt w b i = v := by unfold valAt; rw [h]; rfl
theorem valAt_is {w : World} {b i : Nat} {v : Value} (h : w.cell? ⟨b, i, none⟩ = some v) : w.cell? ⟨b, i, none⟩ = some (valAt w b i) := by rw [valAt_of h, h]
attribute [irreducible] valAt
theorem hg_of {wa wb X : World} {v : Value} {b i : Nat} (h : valAt X b i = v) (hg : wa.grownBy wb (valAt X b i).ownBlock) : wa.grownBy wb v.ownBlock := h ▸ hg
theorem own_val {w X : World} {v : Value} {b i base e size n : Nat} {xs : List Value} (h : valAt X b i = v) (ho : w.ownsRow base e size v n xs) : w.ownsRow base e size (valAt X b i) n xs := h.symm ▸ ho
theorem at_of {X : World} {v : Value} {b i g N : Nat} (h : valAt X b i = v) (hg : (valAt X b i).ownBlock = some g ∨ g = N) : v.ownBlock = some g ∨ g = N := h ▸ hg
attribute [local go_sem ↓] Go.wp_at_zero Go.wp_at_succ
set_option maxRecDepth 20000 in
set_option maxHeartbeats 4000000 in
theorem wo_event {w : World} {F : Nat → Prop} {pb : Nat} {M : Mem} {st : St} (h : WAt w F pb M st) (ev : Ev) (hn : st.trace.length ≤ 1000000000) :
    Calls Tryd.prog 40 #[.pointer (some ⟨pb, 0, none⟩), ev.val] w fun e w' => ∃ M' F', e = .returned (.tuple #[]) ∧ WAt w' F' pb M' (st.traced ev) ∧ Tur F w w' ∧ (∀ g, F' g → F g ∨ w.heap.size ≤ g) ∧ M'.m = M.m ∧ M'.gs = M.gs := by
  obtain ⟨ek, es, en, ed, et⟩ := ev
  show Calls Tryd.prog 40 #[.pointer (some ⟨pb, 0, none⟩), .agg #[.int .u8 ek, .int .u8 es, .string en, .string ed, .int .i64 et]] w _
  have hB0 := (Below.refl w.heap.size w).alloc (Nat.le_refl _) (.cells #[.int .u8 ek, .int .u8 es, .string en, .string ed, .int .i64 et] 106)
  have HB0 := Lib.hid hB0
  have HH := Lib.hid (h.pure hB0)
  have HE := Lib.hid (Blk.new w 106 #[.int .u8 ek, .int .u8 es, .string en, .string ed, .int .i64 et])
  have HF := Lib.hid h.flt
  have hlt := h.lt
  have hz1 : st.trace.length + 1 ≤ maxLen := by unfold maxLen; omega
  have hz2 : (st.trace.length + 1) * 48 ≤ 140737488355328 := by omega
  clear h hB0
  go_enter Tryd.func40, Tryd.ntmps40
  go_wp2_with fail
  generalize w.alloc (.cells #[.int .u8 ek, .int .u8 es, .string en, .string ed, .int .i64 et] 106) = w1 at *
  obtain ⟨E, hE⟩ : ∃ E, E = w.heap.size := ⟨_, rfl⟩
  rw [← hE] at HE HB0 HF ⊢
  have hE1 : E < w1.heap.size := HE.out.lt
  have HE0 := Lib.hid hE
  clear hE
  have HFF : Hid (∀ k, F k → k < E) := HF.out
  have hpbE : pb < E := HFF.out _ HH.out.fp
  have hpb1 : pb < w1.heap.size := HH.out.lt
  obtain ⟨iv, hi, hzz, hz3, hz4⟩ := info_parts info_ev
  have HNP := Lib.hid (show some pb ≠ M.vt.ownBlock from fun e => by
    obtain ⟨cur, hc, -⟩ := own_lt HH.out.rowT e.symm
    exact cells_ne HH.out.head hc (by decide) rfl)
  have HEP := Lib.hid (show ¬ E = pb by omega)
  have HNE := Lib.hid (show some E ≠ M.vt.ownBlock from fun e => by
    have := HFF.out _ (HH.out.ft _ e.symm); omega)
  have c12 : w1.cell? ⟨pb, 12, none⟩ = some M.vt := HH.out.cell 12
  obtain ⟨⟨e0, e1, e2, e3, e4⟩, -⟩ := HE.out.five
  go_region_law ((refine step_append_lies _ (by rfl) _ _ _ (by rfl) 0 106 iv _ 5 48 Tryd.underlying44 hi hzz hz3 hz4 rfl (by decide) M.vt st.trace.length _ (by rfl) (own_of_block (HH.out.rowT.alloc (.cells #[.int .u8 ek, .int .u8 es, .string en, .string ed, .int .i64 et] 106)) (fun _ _ => rfl)) ⟨w1.heap.size, 0, none⟩ 1 1 (Ev.vals ⟨ek, es, en, ed, et⟩) (by rfl) rfl (World.news_of_block (heap_alloc_new w1 (.cells #[.int .u8 ek, .int .u8 es, .string en, .string ed, .int .i64 et] 106))) one_ev (by decide) hz1 hz2 (Nat.zero_le _) (w1.heap.size + 1) (by simp) ?_; intro g2 cap2 w3 hown2 hgrow2 hat2 hlt2; have hd9 : Blk w3 pb 93 (wcells M st) := (hgrow2.block pb (by simp; omega) HNP.out).trans (below_blk HH.out.head ((((Below.refl _ _).alloc (Nat.le_refl _) (.cells #[.int .u8 ek, .int .u8 es, .string en, .string ed, .int .i64 et] 106))).drew) hpb1); have c13 : w3.cell? ⟨pb, 12, none⟩ = some M.vt := hd9.cell 12; have f13 : w3.frozen? ⟨pb, 12, none⟩ = false := hd9.free 12))
  all_goals
    have hw1 : WAt (w1.alloc (.cells #[.int .u8 ek, .int .u8 es, .string en, .string ed, .int .i64 et] 106)).drew F pb M st := HH.out.pure (((Below.refl _ _).alloc (Nat.le_refl _) _).drew)
    have hB1 := HB0.out.trans ((((Below.refl w1.heap.size w1).alloc (Nat.le_refl _) (.cells #[.int .u8 ek, .int .u8 es, .string en, .string ed, .int .i64 et] 106)).drew).mono (Nat.le_of_lt hE1))
    obtain ⟨hA, hT⟩ := hw1.traced ⟨ek, es, en, ed, et⟩ hgrow2 hown2 rfl (hat2.imp id (fun e => by simp [e]))
    show bodyPost _ _ _ _ _ _
    refine bodyPost_end (v := .tuple #[]) (by simp [results, Tryd.results40, go_sem]) rfl ⟨_, _, rfl, hA, ?_, ?_, rfl, rfl⟩
    · exact ((Tur.of_below hB1).mono (fun k hk hF => by have := HE0.out; have : E ≤ k := hF; omega)).trans hT (fun k hk hF => hF)
    · rintro k (hk | rfl)
      · exact .inl hk
      · rcases hat2 with e | e
        · exact .inl (HH.out.ft _ e)
        · right; have := HE0.out; omega
end Go.Proofs.YtdbdmgmenojcaaaDoor
namespace Go.Proofs.YtdbdmgmenojcaaaDoor
open Go.RowKit Wd
open Go.WideMaps Go.WideElems Go.WideAt
open Go.Maps (Keyed string_keyed)

def Wd.setF (f : List UInt8 → Option ByteArray) (l : List UInt8) (d : ByteArray) : List UInt8 → Option ByteArray := fun x => if x = l then some d else f x
theorem klaw : Keyed Tryd.prog 9 := string_keyed Tryd.underlying9
theorem zero_string (w : World) : (zeroValue 9).run Tryd.prog w = .ok (.string ⟨#[]⟩) w := by kernel_rfl
theorem plain_zero_string : ∃ d, plainElem (H := Unit) Tryd.prog 9 (.string ⟨#[]⟩) = some (d, []) := ⟨_, plainElem_string Tryd.underlying9 (by decide)⟩
theorem WAt.put {w w' : World} {F : Nat → Prop} {pb m' : Nat} {M : Mem} {st : St} (h : WAt w F pb M st) (l : List UInt8) (d : ByteArray)
    (hm : MapS Tryd.prog 9 9 w' M.bm m' (setAt (fun l => (st.files l).map Value.string) l (some (.string d)))) (ht : w.mapTurned w' M.bm) :
    WAt w' F pb { M with m := m' } { st with files := setF st.files l d } ∧ Tur F w w' := by
  have h1 : Tur (· = M.bm) w w' := (Tur.of_grown ht.grown).mono (fun k _ hk => by injection hk)
  have hne : ∀ (k : Nat) cs t, w.heap[k]? = some (.cells cs t (0, 0)) → ¬ k = M.bm := fun k cs t hk e => map_ne hk h.map e
  have hrow : ∀ (v : Value) (t : TypeId) (sz n : Nat) (cs : List Value), w.ownsRow 0 t sz v n cs → ∀ k, v.ownBlock = some k → ¬ k = M.bm := fun v t sz n cs hr k hk => by
    obtain ⟨cur, hc, -⟩ := own_lt hr hk
    exact hne k _ _ hc
  refine ⟨?_, h1.mono (fun k _ e => by rw [e]; exact h.fm)⟩
  exact {
    flt := fun k hk => Nat.lt_of_lt_of_le (h.flt k hk) h1.size
    fp := h.fp
    fm := h.fm
    fo := h.fo
    ft := h.ft
    fr := h.fr
    ff := h.ff
    fg := h.fg
    head := h.head' h1 (hne pb _ _ h.head)
    map := by
      have e : (fun x => (setF st.files l d x).map Value.string) = setAt (fun l => (st.files l).map Value.string) l (some (.string d)) := by
        funext x
        unfold setF setAt
        split <;> rfl
      show MapS _ _ _ w' M.bm m' (fun x => (setF st.files l d x).map Value.string)
      rw [e]
      exact hm
    rowO := h.rowO' h1 (hrow _ _ _ _ _ h.rowO)
    strm := h.strm' h1 (fun g hg => by obtain ⟨cs, hc⟩ := h.gsAt hg; exact hne g _ _ hc)
    nd := h.nd
    rowT := h.rowT' h1 (hrow _ _ _ _ _ h.rowT)
    rowR := h.rowR' h1 (hrow _ _ _ _ _ h.rowR)
    rowF := h.rowF' h1 (hrow _ _ _ _ _ h.rowF) }
theorem WAt.opened {w w3 : World} {F : Nat → Prop} {pb : Nat} {M : Mem} {st : St} (h : WAt w F pb M st) {g n' cap gx : Nat} (sm : Sm) (hx : Blk w gx 109 sm.cells) (hxF : ¬ F gx) (hg : w.grownBy w3 M.vo.ownBlock)
    (ho : w3.ownsRow 0 99 1 (.slice (some ⟨g, 0, none⟩) n' cap) n' (ptrs M.gs ++ [.pointer (some ⟨gx, 0, none⟩)])) (hn : n' = st.opn.length + 1) (hat : M.vo.ownBlock = some g ∨ w.heap.size ≤ g) :
    WAt (w3.setCell ⟨pb, 10, none⟩ (.slice (some ⟨g, 0, none⟩) n' cap)) (fun k => F k ∨ k = g ∨ k = gx) pb { M with vo := .slice (some ⟨g, 0, none⟩) n' cap, gs := M.gs ++ [gx] } { st with opn := st.opn ++ [sm] } ∧ Tur F w (w3.setCell ⟨pb, 10, none⟩ (.slice (some ⟨g, 0, none⟩) n' cap)) := by
  have h1 : Tur (fun k => some k = M.vo.ownBlock) w w3 := Tur.of_grown hg
  have h2 : Tur (fun k => some k = M.vo.ownBlock ∨ k = pb) w (w3.setCell ⟨pb, 10, none⟩ (.slice (some ⟨g, 0, none⟩) n' cap)) := (h1.mono (fun _ _ e => .inl e)).trans (Tur.of_set ⟨pb, 10, none⟩ _) (fun _ _ e => .inr e)
  obtain ⟨cur, hcur, hgl'⟩ := own_lt ho rfl
  have hgl : g < w3.heap.size := hgl'
  have hvo : ∀ k cs t, w.heap[k]? = some (.cells cs t (0, 0)) → t ≠ 99 → ¬ some k = M.vo.ownBlock := by
    intro k cs t hk ht e
    obtain ⟨cur, hc, -⟩ := own_lt h.rowO e.symm
    exact cells_ne hk hc ht rfl
  have hpbg : pb ≠ g := by
    rcases hat with e | e
    · exact fun e' => hvo pb _ _ h.head (by decide) (by rw [e, e'])
    · have := h.lt; omega
  have hsz : w.heap.size ≤ w3.heap.size := hg.size
  have hrow : ∀ (v : Value) (t : TypeId) (sz n : Nat) (cs : List Value), w.ownsRow 0 t sz v n cs → t ≠ 99 → t ≠ 93 → ∀ k, v.ownBlock = some k → ¬ (some k = M.vo.ownBlock ∨ k = pb) := by
    intro v t sz n cs hr ht1 ht2 k hk
    obtain ⟨cur, hc, -⟩ := own_lt hr hk
    rintro (e | e)
    · exact hvo k _ _ hc ht1 e
    · exact cells_ne hc h.head ht2 e
  have hst : ∀ k cs, w.heap[k]? = some (.cells cs 109 (0, 0)) → ¬ (some k = M.vo.ownBlock ∨ k = pb) := by
    intro k cs hc
    rintro (e | e)
    · exact hvo k _ _ hc (by decide) e
    · exact cells_ne hc h.head (by decide) e
  have hgl0 := h.gl
  refine ⟨?_, h2.mono (fun k _ e => by rcases e with e | e; exact h.fo k e.symm; rw [e]; exact h.fp)⟩
  exact {
    flt := fun k hk => by
      show k < (w3.setCell _ _).heap.size
      rw [show (w3.setCell ⟨pb, 10, none⟩ (.slice (some ⟨g, 0, none⟩) n' cap)).heap.size = w3.heap.size by simp [World.setCell]]
      rcases hk with hk | rfl | rfl
      · have := h.flt k hk; omega
      · exact hgl
      · have := hx.lt; omega
    fp := .inl h.fp
    fm := .inl h.fm
    fo := fun k hk => .inr (.inl (by injection hk with hk; exact hk.symm))
    ft := fun g hg => .inl (h.ft g hg)
    fr := fun g hg => .inl (h.fr g hg)
    ff := fun g hg => .inl (h.ff g hg)
    fg := fun k hk => by
      rcases List.mem_append.1 hk with hk | hk
      · exact .inl (h.fg k hk)
      · exact .inr (.inr (List.mem_singleton.1 hk))
    head := by
      have hB : Blk w3 pb 93 (wcells M st) := h.head.keep h1 (hvo pb _ _ h.head (by decide))
      exact hB.set 10 (.slice (some ⟨g, 0, none⟩) n' cap)
    map := h.map' h2 (by
      rintro (e | e)
      · obtain ⟨cur, hc, -⟩ := own_lt h.rowO e.symm
        exact map_ne hc h.map rfl
      · exact map_ne h.head h.map e.symm)
    rowO := by
      have : ptrs (M.gs ++ [gx]) = ptrs M.gs ++ [.pointer (some ⟨gx, 0, none⟩)] := by simp [ptrs]
      show World.ownsRow _ 0 99 1 _ (st.opn ++ [sm]).length (ptrs (M.gs ++ [gx]))
      rw [this, show (st.opn ++ [sm]).length = n' by simp [hn]]
      exact own_of_block ho (fun k hk => (Tur.of_set (w := w3) ⟨pb, 10, none⟩ _).block k (own_lt ho hk).choose_spec.2 (fun e => by injection hk with hk; change g = k at hk; subst hk; exact hpbg e.symm))
    strm := fun i hi => by
      show ∃ g, (M.gs ++ [gx])[i]? = some g ∧ Blk _ g _ ((st.opn ++ [sm])[i]'hi).cells
      rw [List.length_append] at hi
      by_cases hlt : i < st.opn.length
      · obtain ⟨g', hg', hB⟩ := h.strm' h2 (fun k hk => by obtain ⟨cs, hc⟩ := h.gsAt hk; exact hst k _ hc) i hlt
        refine ⟨g', ?_, ?_⟩
        · rw [List.getElem?_append_left (by omega)]; exact hg'
        · rw [List.getElem_append_left hlt]; exact hB
      · have hi' : i = st.opn.length := by simp at hi; omega
        subst hi'
        refine ⟨gx, ?_, ?_⟩
        · rw [List.getElem?_append_right (by omega), hgl0, Nat.sub_self]; rfl
        · rw [List.getElem_append_right (by omega)]
          simp only [Nat.sub_self, List.getElem_cons_zero]
          exact hx.keep h2 (hst gx _ hx)
    nd := by
      show (M.gs ++ [gx]).Nodup
      rw [List.nodup_append]
      exact ⟨h.nd, by simp, fun a ha b hb e => by rw [List.mem_singleton.1 hb] at e; subst e; exact hxF (h.fg _ ha)⟩
    rowT := h.rowT' h2 (hrow _ _ _ _ _ h.rowT (by decide) (by decide))
    rowR := h.rowR' h2 (hrow _ _ _ _ _ h.rowR (by decide) (by decide))
    rowF := h.rowF' h2 (hrow _ _ _ _ _ h.rowF (by decide) (by decide)) }


end Go.Proofs.YtdbdmgmenojcaaaDoor
namespace Go.Proofs.YtdbdmgmenojcaaaDoor
open Go.RowKit Wd
open Go.WideMaps Go.WideElems Go.WideAt

def Wd.keepI (p : Nat → Bool) (k : Nat) : List Nat := (List.range k).filter (fun i => !p i)
def Wd.keepR (p : Nat → Bool) (gs : List Nat) (k : Nat) : List Nat := (keepI p k).map (fun i => gs.getD i 0)
theorem keepI_succ (p : Nat → Bool) (k : Nat) : keepI p (k + 1) = keepI p k ++ if p k then [] else [k] := by
  unfold keepI
  rw [List.range_succ, List.filter_append]
  cases hp : p k <;> simp [hp]
theorem keepR_yes {p : Nat → Bool} {gs : List Nat} {k : Nat} (h : p k = true) : keepR p gs (k + 1) = keepR p gs k := by unfold keepR; rw [keepI_succ, if_pos h, List.append_nil]
theorem keepR_no {p : Nat → Bool} {gs : List Nat} {k : Nat} (h : p k = false) : keepR p gs (k + 1) = keepR p gs k ++ [gs.getD k 0] := by unfold keepR; rw [keepI_succ, h, if_neg (by decide), List.map_append]; rfl
theorem keepR_le (p : Nat → Bool) (gs : List Nat) (k : Nat) : (keepR p gs k).length ≤ k := by
  unfold keepR keepI
  rw [List.length_map]
  exact Nat.le_trans (List.length_filter_le _ _) (by simp)
theorem keepR_all {p : Nat → Bool} {gs : List Nat} {k : Nat} (hk : k ≤ gs.length) (h : ∀ j, j < k → p j = false) : keepR p gs k = gs.take k := by
  induction k with
  | zero => rfl
  | succ k ih =>
    rw [keepR_no (h k (by omega)), ih (by omega) (fun j hj => h j (by omega)), List.take_succ_eq_append_getElem (by omega)]
    simp [List.getD, show k < gs.length by omega]
theorem keepR_lt {p : Nat → Bool} {gs : List Nat} {i0 k : Nat} (h : p i0 = true) (hk : i0 < k) : (keepR p gs k).length < k := by
  induction k with
  | zero => omega
  | succ k ih =>
    by_cases e : i0 = k
    · subst e
      rw [keepR_yes h]
      have := keepR_le p gs i0
      omega
    · have h1 := ih (by omega)
      cases hp : p k
      · rw [keepR_no hp, List.length_append]; show _ + 1 < _; omega
      · rw [keepR_yes hp]; omega
theorem zero_ptr (w : World) : (zeroValue 99).run Tryd.prog w = .ok (.pointer none) w := by kernel_rfl
theorem setCells_step (w : World) (b o : Nat) : ∀ (vs : List Value), ∃ w', w.setCells b o vs = w' ∧ Tur (· = b) w w' := by
  intro vs
  induction vs generalizing w o with
  | nil => exact ⟨w, rfl, Tur.refl _ _⟩
  | cons v vs ih =>
    obtain ⟨w', h1, h2⟩ := ih (w.setCell ⟨b, o, none⟩ v) (o + 1)
    exact ⟨w', h1, (Tur.of_set ⟨b, o, none⟩ v).trans h2 (fun _ _ h => h)⟩
theorem turned_setCells (w : World) (b o : Nat) (vs : List Value) : Tur (· = b) w (w.setCells b o vs) := by
  obtain ⟨w', h1, h2⟩ := setCells_step w b o vs
  rw [h1]; exact h2
theorem own_cleared {w : World} {base e g j cap i : Nat} {xs : List Value} {z : Value} (h : w.ownsRow base e 1 (.slice (some ⟨g, 0, none⟩) j cap) j xs) (hi : i < j) : (w.setCells g i (List.replicate (j - i) z)).ownsRow base e 1 (.slice (some ⟨g, 0, none⟩) i cap) i (xs.take i) := by
  have key : ∀ (vs : List Value) (o : Nat) (w : World) (xs : List Value), w.ownsRow base e 1 (.slice (some ⟨g, 0, none⟩) j cap) j xs → i ≤ o → ∃ ys, (w.setCells g o vs).ownsRow base e 1 (.slice (some ⟨g, 0, none⟩) j cap) j ys ∧ ys.take i = xs.take i := by
    intro vs
    induction vs with
    | nil => intro o w xs h _; exact ⟨xs, h, rfl⟩
    | cons v vs ih =>
      intro o w xs h ho
      obtain ⟨ys, h1, h2⟩ := ih (o + 1) (w.setCell ⟨g, o, none⟩ v) _ (h.stored o v).1 (by omega)
      exact ⟨ys, h1, by rw [h2, List.take_set_of_le ho]⟩
  obtain ⟨ys, h1, h2⟩ := key _ i w xs h (Nat.le_refl _)
  rw [← h2]
  have hl := h1.1
  refine ⟨by rw [List.length_take]; omega, ?_⟩
  rcases h1.2 with ⟨h3, -⟩ | ⟨g', cap', cur, h3, h4, h5, h6, h7, h8, h9⟩
  · cases h3
  · injection h3 with h3 h10 h11
    injection h3 with h3
    cases h3
    subst h11
    exact .inr ⟨g, cap, cur, rfl, h4, h5, by omega, h7, h8, by rw [← h9, List.take_take, Nat.min_eq_left (by omega), Nat.mul_one]⟩
set_option maxRecDepth 20000 in
set_option maxHeartbeats 2000000 in
theorem wo_deleteS {w : World} {v : Value} {n : Nat} {gs : List Nat} (f : Nat) (caps : Array Value) (p : Nat → Bool) (r : Option Nat) (hrow : w.ownsRow 0 99 1 v n (ptrs gs)) (hc : ∀ (args : Array Value) (w : World), (callFunc f args).run Tryd.prog w = .ok (.enter f args) w)
    (hg : ∀ i, (h : i < gs.length) → ∀ wr, Tur (fun k => some k = v.ownBlock) w wr → Calls Tryd.prog f (#[.pointer (some ⟨gs[i], 0, none⟩)] ++ caps) wr fun e w' => e = .returned (.bool (p i)) ∧ ∃ n, w' = wr.drewN n) (hr : First p gs.length r) (hn : n ≤ 1000000000) :
    Calls Tryd.prog 41 #[v, .func (.func f) #[] caps] w fun e w' => ∃ v', e = .returned v' ∧ w'.ownsRow 0 99 1 v' (keepR p gs n).length (ptrs (keepR p gs n)) ∧ Tur (fun k => some k = v.ownBlock) w w' ∧ v'.ownBlock = v.ownBlock := by
  have hgn : gs.length = n := by have := hrow.1; simpa [ptrs] using this
  have hgb : ∀ i, (h : i < gs.length) → ∀ wr, Below w.heap.size w wr → Calls Tryd.prog f (#[.pointer (some ⟨gs[i], 0, none⟩)] ++ caps) wr fun e w' => e = .returned (.bool (p i)) ∧ Below wr.heap.size wr w' :=
    fun i h wr hb => (hg i h wr (Tur.of_gr hb)).mono fun e w' ⟨he, m, hw⟩ => ⟨he, by rw [hw]; exact below_drew _ _⟩
  have HIX := Lib.hid (wo_indexS f caps p r hrow hc hgb hr hn)
  have HROW0 := Lib.hid hrow
  have HG := Lib.hid hg
  have HGN := Lib.hid hgn
  have HR := Lib.hid hr
  cases r with
  | none =>
    have HK : Hid (keepR p gs n = gs) := by
      unfold Hid
      rw [keepR_all (by omega) (fun j hj => hr j (by omega)), ← hgn, List.take_length]
    have HKL : Hid ((keepR p gs n).length = n) := by unfold Hid; rw [HK.out, hgn]
    clear hrow hg hgn hr hgb
    go_enter Tryd.func41, Tryd.ntmps41
    go_wp2_with fail
    refine (HIX.out).mono ?_
    rintro e w2 ⟨rfl, hb2⟩
    rw [show ixV none = -1 from rfl]
    go_wp2_with fail
    go_ret
    exact ⟨v, rfl, by rw [HKL.out, HK.out]; exact own_of_block HROW0.out (fun g hg => hb2.block g (own_lt HROW0.out hg).choose_spec.2), Tur.of_gr hb2, rfl⟩
  | some i0 =>
    obtain ⟨hi0, hp0, hno⟩ := hr
    have hi0n : i0 < n := by omega
    obtain ⟨g, cap, rfl, hc1, hc2⟩ := ownBlock_form hrow (by omega)
    have HK0 : Hid (keepR p gs (i0 + 1) = gs.take i0) := by
      unfold Hid
      rw [keepR_yes hp0, keepR_all (by omega) hno]
    have HP0 := Lib.hid hp0
    have hcl : cap < 9223372036854775808 := by unfold maxLen at hc2; omega
    clear hrow hg hgn hgb hno hp0
    go_enter Tryd.func41, Tryd.ntmps41
    go_wp2_with fail
    refine (HIX.out).mono ?_
    rintro e w2 ⟨rfl, hb2⟩
    rw [show ixV (some i0) = (i0 : Int) from rfl]
    have hi00 : (0 : Int) ≤ (i0 : Int) := Int.natCast_nonneg _
    have hi01 : ((i0 : Int) == -1) = false := beq_eq_false_iff_ne.2 (by omega)
    have HROW2 := Lib.hid (own_of_block HROW0.out (fun k hk => hb2.block k (own_lt HROW0.out hk).choose_spec.2))
    have HT2 := Lib.hid (Tur.of_gr (F := fun k => some k = (.slice (some ⟨g, 0, none⟩) n cap : Value).ownBlock) hb2)
    clear hb2
    go_wp2_with fail
    go_loopw [5, 6] (fun iv jv wr => ∃ (j i : Nat) (xs : List Value), j ≤ n ∧ i0 < j ∧ i = (keepR p gs j).length ∧ iv = .int .i64 i ∧ jv = .int .i64 j ∧ wr.ownsRow 0 99 1 (.slice (some ⟨g, 0, none⟩) n cap) n xs ∧ xs.take i = ptrs (keepR p gs j) ∧ (∀ m, j ≤ m → m < n → xs[m]? = some (.pointer (some ⟨gs.getD m 0, 0, none⟩))) ∧ Tur (fun k => some k = (.slice (some ⟨g, 0, none⟩) n cap : Value).ownBlock) w wr) (fun _ jv _ => n - (intOf jv).toNat)
    case atStart => exact ⟨i0 + 1, i0, ptrs gs, Nat.succ_le_of_lt hi0n, Nat.lt_succ_self i0, (by rw [HK0.out, List.length_take, Nat.min_eq_left (Nat.le_of_lt hi0)]), rfl, (by first | rfl | go_num), HROW2.out, by rw [HK0.out]; simp [ptrs, List.map_take], fun m hm1 hm2 => by
        have : m < gs.length := by rw [HGN.out]; exact hm2
        simp [ptrs, this, List.getD], HT2.out⟩
    case round =>
      obtain ⟨j, i, xs, hj, hij, hi, rfl, rfl, hown, htk, hrest, htur⟩ := hrel
      have HI := Lib.hid hi
      have HTK := Lib.hid htk
      have HREST := Lib.hid hrest
      have HTUR := Lib.hid htur
      have HOWN := Lib.hid hown
      have hilt : i < j := by rw [hi]; exact keepR_lt HP0.out hij
      clear hi htk hrest
      by_cases hlt : j < n
      · have hjg : j < gs.length := by have := HGN.out; omega
        have hcell : wr.cell? ⟨g, j, none⟩ = some (.pointer (some ⟨gs[j], 0, none⟩)) := by
          rw [hown.cellAt j (by omega), HREST.out j (Nat.le_refl _) hlt]
          simp [List.getD, hjg]
        have hfi := hown.frozenAt (i : Nat)
        have hcli : ∃ u, wr.cell? ⟨g, i, none⟩ = some u := by
          rw [hown.cellAt i (by omega)]
          have hxl := hown.1
          exact ⟨xs[i]'(by omega), List.getElem?_eq_getElem _⟩
        obtain ⟨u0, hu0⟩ := hcli
        have HGK := Lib.hid (HG.out j hjg wr htur)
        have hiN : (i : Int) < (n : Int) := by omega
        have hjN : (j : Int) < (n : Int) := by omega
        have hxl : xs.length = n * 1 := hown.1
        have HXL := Lib.hid hxl
        have HGJ := Lib.hid (show gs.getD j 0 = gs[j] by simp [List.getD, hjg])
        clear htur hown hxl
        generalize gs[j] = gj at *
        go_wp2_with fail
        refine (HGK.out).mono ?_
        rintro e w3 ⟨rfl, m, rfl⟩
        have hcell3 : (wr.drewN m).cell? ⟨g, i, none⟩ = some u0 := hu0
        have hfi3 : (wr.drewN m).frozen? ⟨g, i, none⟩ = false := hfi
        have HOWN3 : Hid ((wr.drewN m).ownsRow 0 99 1 (.slice (some ⟨g, 0, none⟩) n cap) n xs) := own_of_block HOWN.out (fun _ _ => rfl)
        have HTUR3 := Lib.hid (HTUR.out.trans (Tur.of_drewN (F := fun k => some k = (.slice (some ⟨g, 0, none⟩) n cap : Value).ownBlock) wr m) (fun _ _ e => e))
        clear HGK hcell hfi hu0
        generalize wr.drewN m = w4 at *
        cases hp : p j
        · have HP := Lib.hid hp
          clear hp
          go_wp2_with fail
          have hst := (HOWN3.out.stored i (.pointer (some ⟨gj, 0, none⟩)))
          go_roundw
          case rel => exact ⟨j + 1, i + 1, xs.set i (.pointer (some ⟨gj, 0, none⟩)), by omega, by omega, by rw [keepR_no HP.out, List.length_append, ← HI.out]; rfl, by go_num, by go_num, hst.1, by
              rw [keepR_no HP.out, HGJ.out]
              have hx1 := HXL.out
              rw [List.take_succ_eq_append_getElem (by rw [List.length_set]; omega), List.take_set_of_le (Nat.le_refl _), HTK.out]
              simp [ptrs], fun q hq1 hq2 => by rw [List.getElem?_set_ne (by omega)]; exact HREST.out q (by omega) hq2, HTUR3.out.trans (Tur.of_set ⟨g, i, none⟩ _) (fun k _ e => (by rw [show k = g from e]; rfl))⟩
          case measure => simp [intOf]; omega
        · have HP := Lib.hid hp
          clear hp
          go_wp2_with fail
          go_roundw
          case rel => exact ⟨j + 1, i, xs, by omega, by omega, by rw [keepR_yes HP.out]; exact HI.out, rfl, by go_num, HOWN3.out, by rw [keepR_yes HP.out]; exact HTK.out, fun q hq1 hq2 => HREST.out q (by omega) hq2, HTUR3.out⟩
          case measure => simp [intOf]; omega
      · obtain rfl : j = n := by omega
        have hiN : (i : Int) ≤ (j : Int) := by omega
        have hiC : (i : Int) ≤ (cap : Int) := by omega
        have hjC : (j : Int) ≤ (cap : Int) := by omega
        have hi9 : (0 : Int) ≤ (i : Int) := Int.natCast_nonneg _
        have hiC2 : ¬ i = cap := by omega
        have hxl : xs.length = j * 1 := hown.1
        have hrun := Lib.run_clear_slice (P := Tryd.prog) wr 91 99 0 (.pointer none) Tryd.underlying91 zero_ptr rfl rfl g i (j - i) (cap - i) (by omega) (fun q hq => by rw [hown.cellAt (i + q) (by omega), List.getElem?_eq_getElem (by omega)]; rfl) (fun q _ => hown.frozenAt (i + q))
        have HTC := Lib.hid (turned_setCells wr g i (List.replicate (j - i) (.pointer none)))
        have HOWN9 := Lib.hid (own_cleared hown (i := i) (z := .pointer none) hilt)
        clear htur hown hxl
        generalize wr.setCells g i (List.replicate (j - i) (.pointer none)) = w9 at *
        go_wp2_with fail
        go_ret
        exact ⟨_, rfl, by rw [← HI.out]; exact HTK.out ▸ HOWN9.out, HTUR.out.trans HTC.out (fun k _ e => (by rw [show k = g from e]; rfl)), rfl⟩
end Go.Proofs.YtdbdmgmenojcaaaDoor
