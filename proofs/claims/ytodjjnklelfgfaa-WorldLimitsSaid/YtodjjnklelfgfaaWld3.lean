/- A world: the walks of fail and reply. -/
import Derived.Test.YtodjjnklelfgfaaWld2
namespace Go.Proofs.Ytodjjnklelfgfaa
open Go.RowKit Wd
open Go.WideMaps Go.WideElems Go.WideAt

namespace Wd
def isFl (op : Int) (name : ByteArray) (f : Fl) : Bool := decide (f.op = op) && decide (f.name = name)
def failIx (st : St) (op : Int) (name : ByteArray) : Option Nat := st.fails.findIdx? (isFl op name)
def failB (st : St) (op : Int) (name : ByteArray) : Bool := (failIx st op name).isSome
theorem fvals_get (l : List Fl) (i j : Nat) (h : i < l.length) (hj : j < 2) : (fvals l)[i * 2 + j]? = (l[i].vals)[j]? := flat_get Fl.vals 2 (fun _ => rfl) l i j h hj
theorem rvals_get (l : List Rp) (i j : Nat) (h : i < l.length) (hj : j < 3) : (rvals l)[i * 3 + j]? = (l[i].vals)[j]? := flat_get Rp.vals 3 (fun _ => rfl) l i j h hj
theorem evals_get (l : List Ev) (i j : Nat) (h : i < l.length) (hj : j < 5) : (evals l)[i * 5 + j]? = (l[i].vals)[j]? := flat_get Ev.vals 5 (fun _ => rfl) l i j h hj
end Wd
set_option maxHeartbeats 1000000 in
theorem wo_indexF {w : World} {v : Value} (l : List Fl) (op : Int) (name : ByteArray) (hrow : w.ownsRow 0 65 2 v l.length (fvals l)) (hn : l.length ≤ 1000000000) :
    Calls Try.prog 60 #[v, .agg #[.int .u8 op, .string name]] w fun e w' => e = .returned (.int .i64 (ixV (l.findIdx? (isFl op name)))) ∧ Below w.heap.size w w' := by
  obtain ⟨A, cap, rfl, hc1, hc2⟩ := own_form hrow
  have hr : First (fun i => isFl op name (l.getD i ⟨0, ⟨#[]⟩⟩)) l.length (l.findIdx? (isFl op name)) := first_find l (isFl op name) _ (fun i h => by simp [List.getD, h])
  have HROW := Lib.hid hrow
  have HR := Lib.hid hr
  obtain ⟨n, hnn⟩ : ∃ n, n = l.length := ⟨_, rfl⟩
  rw [← hnn] at hc1 hn ⊢
  have HNN := Lib.hid hnn
  have HB0 := Lib.hid ((Below.refl w.heap.size w).alloc (Nat.le_refl _) (.cells #[.int .u8 op, .string name] 65))
  have HF0 := Lib.hid (Blk.new w 65 #[.int .u8 op, .string name])
  clear hrow hr hnn
  go_enter Try.func60, Try.ntmps60
  go_wp2_with fail
  generalize w.alloc (.cells #[.int .u8 op, .string name] 65) = w1 at *
  obtain ⟨b0, hb0⟩ : ∃ b0, b0 = w.heap.size := ⟨_, rfl⟩
  rw [← hb0] at HF0 HB0 ⊢
  have HB00 := Lib.hid hb0
  clear hb0
  go_loopw [8] (fun i wr => ∃ k : Nat, k ≤ n ∧ i = .int .i64 k ∧ (∀ j, j < k → isFl op name (l.getD j ⟨0, ⟨#[]⟩⟩) = false) ∧ Below w1.heap.size w1 wr) (fun i _ => n - (intOf i).toNat)
  case atStart => exact ⟨0, Nat.zero_le _, rfl, fun j h => by omega, Below.refl _ _⟩
  case round =>
    obtain ⟨k, hk, rfl, hno, hbr⟩ := hrel
    have HNO := Lib.hid hno
    have HBR := Lib.hid hbr
    have hF := below_blk HF0.out hbr HF0.out.lt
    obtain ⟨⟨c0, c1⟩, -⟩ := hF.two
    clear hno hF
    by_cases hlt : k < n
    · have hkl : k < l.length := by have := HNN.out; omega
      obtain ⟨g, cap', hv, -, -⟩ := ownBlock_form HROW.out (by omega)
      obtain ⟨rfl, -, -⟩ := Value.slice.inj hv
      obtain ⟨cur, hcur, hgl'⟩ := own_lt HROW.out rfl
      have hgl : g < w.heap.size := hgl'
      clear hgl'
      have hcell : ∀ j, j < 2 → wr.cell? ⟨g, k * 2 + j, none⟩ = (l[k].vals)[j]? := by
        intro j hj
        have := HROW.out.cellAt (k * 2 + j) (by omega)
        rw [hbr.cell (p := ⟨g, k * 2 + j, none⟩) (by have := HB0.out.size; have := HB00.out; show g < _; omega), HB0.out.cell (p := ⟨g, k * 2 + j, none⟩) (by have := HB00.out; show g < _; omega), this, fvals_get l k j hkl hj]
      have d0 : wr.cell? ⟨g, k * 2, none⟩ = some (.int .u8 l[k].op) := hcell 0 (by omega)
      have d1 : wr.cell? ⟨g, k * 2 + 1, none⟩ = some (.string l[k].name) := hcell 1 (by omega)
      have hq : isFl op name (l.getD k ⟨0, ⟨#[]⟩⟩) = (decide (op = l[k].op) && decide (name = l[k].name)) := by
        simp only [isFl, List.getD, List.getElem?_eq_getElem hkl, Option.getD_some]
        rw [Bool.eq_iff_iff]; simp only [Bool.and_eq_true, decide_eq_true_eq]; exact ⟨fun ⟨a, b⟩ => ⟨a.symm, b.symm⟩, fun ⟨a, b⟩ => ⟨a.symm, b.symm⟩⟩
      have HQ := Lib.hid hq
      have HFS := Lib.hid (fun h => First.some_of (p := fun i => isFl op name (l.getD i ⟨0, ⟨#[]⟩⟩)) HR.out hkl h HNO.out)
      generalize l[k].op = lo at *
      generalize l[k].name = ln at *
      clear hv hbr hcell hcur hq
      have hsplit : (op = lo ∧ name = ln) ∨ (op = lo ∧ ¬ name = ln) ∨ ¬ op = lo := by
        by_cases h1 : op = lo
        · by_cases h2 : name = ln
          · exact .inl ⟨h1, h2⟩
          · exact .inr (.inl ⟨h1, h2⟩)
        · exact .inr (.inr h1)
      rcases hsplit with ⟨h1, h2⟩ | ⟨h1, h2⟩ | h1
      · have HK := Lib.hid (HFS.out (by rw [HQ.out]; simp [h1, h2]))
        subst h1 h2
        go_wp2_with fail
        go_quiet (fail)
        go_wp2_with fail
        go_ret
        exact ⟨ret_int (by rw [HK.out]; rfl), by rw [HB00.out] at HB0; exact HB0.out.trans ((HBR.out.mono HB0.out.size).trans ((below_drew _ _).mono (by have := HB0.out.size; have := HBR.out.size; omega)))⟩
      · have e1 : (op == lo) = true := by simp [h1]
        have e2 : (name.toList == ln.toList) = false := by rw [str_eq]; exact decide_eq_false h2
        have HP := Lib.hid (show isFl op name (l.getD k ⟨0, ⟨#[]⟩⟩) = false by rw [HQ.out]; simp [h2])
        clear h1 h2 HFS
        go_wp2_with fail
        go_quiet (fail)
        go_wp2_with fail
        go_roundw
        case rel => exact ⟨k + 1, by omega, by go_num, (fun j hj => by
          rcases Nat.lt_or_ge j k with h | h
          · exact HNO.out j h
          · obtain rfl : j = k := by omega
            exact HP.out), HBR.out.trans ((below_drew _ _).mono HBR.out.size)⟩
        case measure => simp [intOf]; omega
      · have e1 : (op == lo) = false := by simp [h1]
        have HP := Lib.hid (show isFl op name (l.getD k ⟨0, ⟨#[]⟩⟩) = false by rw [HQ.out]; simp [h1])
        clear h1 HFS
        go_wp2_with fail
        go_quiet (fail)
        go_wp2_with fail
        go_roundw
        case rel => exact ⟨k + 1, by omega, by go_num, (fun j hj => by
          rcases Nat.lt_or_ge j k with h | h
          · exact HNO.out j h
          · obtain rfl : j = k := by omega
            exact HP.out), HBR.out.trans ((below_drew _ _).mono HBR.out.size)⟩
        case measure => simp [intOf]; omega
    · have hkn : k = n := by omega
      have HK := Lib.hid (First.none_of (p := fun i => isFl op name (l.getD i ⟨0, ⟨#[]⟩⟩)) HR.out (fun j hj => HNO.out j (by have := HNN.out; omega)))
      clear hkn hbr
      go_wp2_with fail
      go_ret
      exact ⟨ret_int (by rw [HK.out]; rfl), by rw [HB00.out] at HB0; exact HB0.out.trans (HBR.out.mono HB0.out.size)⟩
theorem wo_containsF {w : World} {v : Value} (l : List Fl) (op : Int) (name : ByteArray) (hrow : w.ownsRow 0 65 2 v l.length (fvals l)) (hn : l.length ≤ 1000000000) :
    Calls Try.prog 53 #[v, .agg #[.int .u8 op, .string name]] w fun e w' => e = .returned (.bool (l.findIdx? (isFl op name)).isSome) ∧ Below w.heap.size w w' := by
  have HB0 := Lib.hid ((Below.refl w.heap.size w).alloc (Nat.le_refl _) (.cells #[.int .u8 op, .string name] 65))
  have HROW := Lib.hid (own_of_block hrow (fun g hg => HB0.out.block g (own_lt hrow hg).choose_spec.2))
  clear hrow
  go_enter Try.func53, Try.ntmps53
  go_wp2_with fail
  refine (wo_indexF l op name HROW.out hn).mono ?_
  rintro e w2 ⟨rfl, hb2⟩
  have HB2 := Lib.hid (HB0.out.trans (hb2.mono HB0.out.size))
  clear hb2
  cases hr : l.findIdx? (isFl op name) with
  | none =>
    have HS : Hid ((l.findIdx? (isFl op name)).isSome = false) := by unfold Hid; rw [hr]; rfl
    clear hr
    rw [show ixV none = -1 from rfl]
    go_wp2_with fail
    go_ret
    exact ⟨by rw [HS.out]; rfl, HB2.out⟩
  | some i =>
    have HS : Hid ((l.findIdx? (isFl op name)).isSome = true) := by unfold Hid; rw [hr]; rfl
    clear hr
    rw [show ixV (some i) = (i : Int) from rfl]
    have hi0 : (0 : Int) ≤ (i : Int) := Int.natCast_nonneg _
    go_wp2_with fail
    go_ret
    exact ⟨by rw [HS.out]; rfl, HB2.out⟩
theorem wo_fail {w : World} {F : Nat → Prop} {pb : Nat} {M : Mem} {st : St} (h : WAt w F pb M st) (op : Int) (name : ByteArray) (hn : st.fails.length ≤ 1000000000) :
    Calls Try.prog 34 #[.pointer (some ⟨pb, 0, none⟩), .int .u8 op, .string name] w fun e w' => e = .returned (.bool (failB st op name)) ∧ Below w.heap.size w w' := by
  have c14 := h.cell 14
  rw [show (wcells M st)[14]? = some M.vf from rfl] at c14
  have HROW := Lib.hid h.rowF
  have HFB : Hid (failB st op name = (st.fails.findIdx? (isFl op name)).isSome) := rfl
  clear h
  go_enter Try.func34, Try.ntmps34
  go_wp2_with fail
  refine (wo_containsF st.fails op name HROW.out hn).mono ?_
  rintro e w2 ⟨rfl, hb2⟩
  rw [← HFB.out]
  go_wp2_with fail
  go_ret
  exact ⟨rfl, hb2⟩
end Go.Proofs.Ytodjjnklelfgfaa
