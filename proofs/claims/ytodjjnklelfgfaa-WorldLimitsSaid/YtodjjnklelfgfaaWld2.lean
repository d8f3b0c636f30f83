/- A world: the walks of find, fail, reply. -/
import Derived.Test.YtodjjnklelfgfaaWld1
namespace Go.Proofs.Ytodjjnklelfgfaa
open Go.RowKit Wd
open Go.WideMaps Go.WideElems Go.WideAt

theorem enters_find : ∀ (args : Array Value) (w : World), (callFunc 52 args).run Try.prog w = .ok (.enter 52 args) w := fun _ _ => rfl
theorem str_eq {a b : ByteArray} : (a.toList == b.toList) = decide (a = b) := by
  rw [tolist_beq, Bool.eq_iff_iff, decide_eq_true_eq, decide_eq_true_eq]
  exact ⟨bytes_ext, fun e => by rw [e]⟩
theorem ownBlock_form {w : World} {base e size n : Nat} {v : Value} {xs : List Value} (h : w.ownsRow base e size v n xs) (hn : 0 < n) : ∃ g cap, v = .slice (some ⟨g, 0, none⟩) n cap ∧ n ≤ cap ∧ cap ≤ maxLen := by
  rcases h.2 with ⟨_, h0⟩ | ⟨g, cap, cur, h1, _, _, h4, h5, _⟩
  · omega
  · exact ⟨g, cap, h1, h4, h5⟩
/-- The look of find at one stream. -/
theorem wo_find1 {w : World} {g a b : Nat} {s : Sm} {k : Int} {name : ByteArray} (hs : Blk w g 93 s.cells) (ha : w.cell? ⟨a, 0, none⟩ = some (.int .u8 k)) (hb : w.cell? ⟨b, 0, none⟩ = some (.string name)) :
    Calls Try.prog 52 #[.pointer (some ⟨g, 0, none⟩), .pointer (some ⟨a, 0, none⟩), .pointer (some ⟨b, 0, none⟩)] w fun e w' => e = .returned (.bool (hit k name s)) ∧ ∃ n, w' = w.drewN n := by
  have c0 : w.cell? ⟨g, 0, none⟩ = some (.int .u8 s.k) := hs.cell 0
  have c1 : w.cell? ⟨g, 1, none⟩ = some (.string s.name) := hs.cell 1
  obtain ⟨sk, hk⟩ : ∃ x, x = s.k := ⟨_, rfl⟩
  obtain ⟨sn, hn⟩ : ∃ x, x = s.name := ⟨_, rfl⟩
  rw [← hk] at c0
  rw [← hn] at c1
  have HH : Hid (hit k name s = (decide (sk = k) && decide (sn = name))) := by unfold Hid hit; rw [hk, hn]
  rw [HH.out]
  clear hk hn hs HH
  by_cases h1 : sk = k
  · by_cases h2 : sn = name
    · have e2 : (sn.toList == name.toList) = true := by rw [str_eq]; exact decide_eq_true h2
      have e1 : (sk == k) = true := by simp [h1]
      have HR : Hid ((decide (sk = k) && decide (sn = name)) = true) := by unfold Hid; simp [h1, h2]
      rw [HR.out]
      clear h1 h2 HR
      go_enter Try.func52, Try.ntmps52
      go_wp2_with fail
      go_quiet (fail)
      go_wp2_with fail
      go_ret
      exact ⟨rfl, nq, rfl⟩
    · have e2 : (sn.toList == name.toList) = false := by rw [str_eq]; exact decide_eq_false h2
      have e1 : (sk == k) = true := by simp [h1]
      have HR : Hid ((decide (sk = k) && decide (sn = name)) = false) := by unfold Hid; simp [h2]
      rw [HR.out]
      clear h1 h2 HR
      go_enter Try.func52, Try.ntmps52
      go_wp2_with fail
      go_quiet (fail)
      go_wp2_with fail
      go_ret
      exact ⟨rfl, nq, rfl⟩
  · have e1 : (sk == k) = false := by simp [h1]
    have HR : Hid ((decide (sk = k) && decide (sn = name)) = false) := by unfold Hid; simp [h1]
    rw [HR.out]
    clear h1 HR
    go_enter Try.func52, Try.ntmps52
    go_wp2_with fail
    go_quiet (fail)
    go_wp2_with fail
    go_ret
    exact ⟨rfl, nq, rfl⟩
theorem below_drew (w : World) (n : Nat) : Below w.heap.size w (w.drewN n) := ⟨rfl, rfl, rfl, Nat.le_refl _, fun _ _ => rfl⟩
theorem First.some_of {p : Nat → Bool} {n k : Nat} {r : Option Nat} (h : First p n r) (hk : k < n) (hp : p k = true) (hno : ∀ j, j < k → p j = false) : r = some k := by
  cases r with
  | none => have := h k hk; rw [hp] at this; cases this
  | some i =>
    obtain ⟨h1, h2, h3⟩ := h
    rcases Nat.lt_trichotomy i k with hlt | rfl | hgt
    · rw [hno i hlt] at h2; cases h2
    · rfl
    · rw [h3 k hgt] at hp; cases hp
theorem First.none_of {p : Nat → Bool} {n : Nat} {r : Option Nat} (h : First p n r) (hno : ∀ j, j < n → p j = false) : r = none := by
  cases r with
  | none => rfl
  | some i => obtain ⟨h1, h2, -⟩ := h; rw [hno i h1] at h2; cases h2
/-- slices.IndexFunc over streams. -/
theorem wo_indexS {w : World} {v : Value} {n : Nat} {gs : List Nat} (f : Nat) (caps : Array Value) (p : Nat → Bool) (r : Option Nat) (hrow : w.ownsRow 0 88 1 v n (ptrs gs)) (hc : ∀ (args : Array Value) (w : World), (callFunc f args).run Try.prog w = .ok (.enter f args) w)
    (hg : ∀ i, (h : i < gs.length) → ∀ wr, Below w.heap.size w wr → Calls Try.prog f (#[.pointer (some ⟨gs[i], 0, none⟩)] ++ caps) wr fun e w' => e = .returned (.bool (p i)) ∧ Below wr.heap.size wr w') (hr : First p gs.length r) (hn : n ≤ 1000000000) :
    Calls Try.prog 51 #[v, .func (.func f) #[] caps] w fun e w' => e = .returned (.int .i64 (ixV r)) ∧ Below w.heap.size w w' := by
  have hgn : gs.length = n := by have := hrow.1; simpa [ptrs] using this
  obtain ⟨A, cap, rfl, hc1, hc2⟩ := own_form hrow
  have HROW := Lib.hid hrow
  have HG := Lib.hid hg
  have HGN := Lib.hid hgn
  have HR := Lib.hid hr
  clear hrow hg hgn hr
  go_enter Try.func51, Try.ntmps51
  go_wp2_with fail
  go_loopw [8] (fun i wr => ∃ k : Nat, k ≤ n ∧ i = .int .i64 k ∧ (∀ j, j < k → p j = false) ∧ Below w.heap.size w wr) (fun i _ => n - (intOf i).toNat)
  case atStart => exact ⟨0, Nat.zero_le _, rfl, fun j h => by omega, Below.refl _ _⟩
  case round =>
    obtain ⟨k, hk, rfl, hno, hbr⟩ := hrel
    have HNO := Lib.hid hno
    have HBR := Lib.hid hbr
    clear hno
    by_cases hlt : k < n
    · have hkg : k < gs.length := by have := HGN.out; omega
      obtain ⟨g, cap', hv, -, -⟩ := ownBlock_form HROW.out (by omega)
      obtain ⟨rfl, -, -⟩ := Value.slice.inj hv
      have hcell : wr.cell? ⟨g, k, none⟩ = some (.pointer (some ⟨gs[k], 0, none⟩)) := by
        have := HROW.out.cellAt k (by omega)
        rw [hbr.cell (p := ⟨g, k, none⟩) (own_lt HROW.out rfl).choose_spec.2, this]
        simp [ptrs, hkg]
      have HGK := Lib.hid (HG.out k hkg wr hbr)
      have HFS := Lib.hid (fun h => First.some_of (p := p) HR.out hkg h HNO.out)
      clear hv hbr
      go_wp2_with fail
      refine (HGK.out).mono ?_
      rintro e w2 ⟨rfl, hb2⟩
      have HB2 := Lib.hid (HBR.out.trans (hb2.mono HBR.out.size))
      clear hb2 HGK hcell
      cases hp : p k
      · have HP := Lib.hid hp
        clear hp
        go_wp2_with fail
        go_roundw
        case rel => exact ⟨k + 1, by omega, by go_num, (fun j hj => by
          rcases Nat.lt_or_ge j k with h | h
          · exact HNO.out j h
          · obtain rfl : j = k := by omega
            exact HP.out), HB2.out⟩
        case measure => simp [intOf]; omega
      · have HK := Lib.hid (HFS.out hp)
        clear hp
        go_wp2_with fail
        go_ret
        exact ⟨ret_int (by rw [HK.out]; rfl), HB2.out⟩
    · have hkn : k = n := by omega
      have HK := Lib.hid (First.none_of (p := p) HR.out (fun j hj => HNO.out j (by have := HGN.out; omega)))
      clear hkn hbr
      go_wp2_with fail
      go_ret
      exact ⟨ret_int (by rw [HK.out]; rfl), HBR.out⟩
def findV (M : Mem) (st : St) (k : Int) (name : ByteArray) : Value := match find st k name with
  | some i => .pointer (some ⟨M.gs.getD i 0, 0, none⟩)
  | none => .pointer none
theorem wo_find {w : World} {F : Nat → Prop} {pb : Nat} {M : Mem} {st : St} (h : WAt w F pb M st) (k : Int) (name : ByteArray) (hn : st.opn.length ≤ 1000000000) :
    Calls Try.prog 33 #[.pointer (some ⟨pb, 0, none⟩), .int .u8 k, .string name] w fun e w' => e = .returned (findV M st k name) ∧ Below w.heap.size w w' := by
  have hF : First (fun i => hit k name (st.opn.getD i ⟨0, ⟨#[]⟩, ⟨#[]⟩⟩)) st.opn.length (find st k name) := first_find st.opn (hit k name) _ (fun i h => by simp [List.getD, h])
  have hlt := h.head.lt
  have H := Lib.hid h
  have HF := Lib.hid hF
  have HGL := Lib.hid h.gl
  have HB0 := Lib.hid ((((Below.refl w.heap.size w).alloc (Nat.le_refl _) (.cells #[.int .u8 k] 28))).alloc (by simp) (.cells #[.string name] 9))
  have HH := Lib.hid (h.pure HB0.out)
  have ca : ((w.alloc (.cells #[.int .u8 k] 28)).alloc (.cells #[.string name] 9)).cell? ⟨w.heap.size, 0, none⟩ = some (.int .u8 k) := (below_blk (Blk.new w 28 #[.int .u8 k]) ((Below.refl _ _).alloc (Nat.le_refl _) _) (by simp)).cell 0
  have cb : ((w.alloc (.cells #[.int .u8 k] 28)).alloc (.cells #[.string name] 9)).cell? ⟨w.heap.size + 1, 0, none⟩ = some (.string name) := by
    have := (Blk.new (w.alloc (.cells #[.int .u8 k] 28)) 9 #[.string name]).cell 0
    rw [show (w.alloc (.cells #[.int .u8 k] 28)).heap.size = w.heap.size + 1 by simp] at this
    exact this
  have CAB := Lib.hid (And.intro ca cb)
  have hsz : ((w.alloc (.cells #[.int .u8 k] 28)).alloc (.cells #[.string name] 9)).heap.size = w.heap.size + 2 := by simp
  have HSZ := Lib.hid hsz
  have c10 := HH.out.cell 10
  rw [show (wcells M st)[10]? = some M.vo from rfl] at c10
  clear h hF ca cb hsz
  go_enter Try.func33, Try.ntmps33
  go_wp2_with fail
  generalize (w.alloc (.cells #[.int .u8 k] 28)).alloc (.cells #[.string name] 9) = w1 at *
  refine (wo_indexS 52 _ (fun i => hit k name (st.opn.getD i ⟨0, ⟨#[]⟩, ⟨#[]⟩⟩)) (find st k name) HH.out.rowO enters_find (fun i hi wr hb => ?_) (by rw [HGL.out]; exact HF.out) hn).mono ?_
  · obtain ⟨g, hg, hB⟩ := HH.out.strm i (by rw [← HGL.out]; exact hi)
    obtain rfl : M.gs[i] = g := by rw [List.getElem?_eq_getElem hi] at hg; injection hg
    have hF := HH.out.flt _ (HH.out.fg _ (List.getElem_mem hi))
    have hi' : i < st.opn.length := by rw [← HGL.out]; exact hi
    refine (wo_find1 (s := st.opn[i]) (below_blk hB hb hF) ((hb.cell (p := ⟨_, 0, none⟩) (by have := HSZ.out; show w.heap.size < _; omega)).trans CAB.out.1) ((hb.cell (p := ⟨_, 0, none⟩) (by have := HSZ.out; show w.heap.size + 1 < _; omega)).trans CAB.out.2)).mono ?_
    rintro e w' ⟨rfl, n, rfl⟩
    exact ⟨by simp [List.getD, hi'], below_drew _ _⟩
  rintro e w2 ⟨rfl, hb2⟩
  have HH2 := Lib.hid (HH.out.pure hb2)
  have HB2 := Lib.hid (HB0.out.trans (hb2.mono HB0.out.size))
  have c11 := HH2.out.cell 10
  rw [show (wcells M st)[10]? = some M.vo from rfl] at c11
  clear c10 hb2
  cases hfi : find st k name with
  | none =>
    have HV : Hid (findV M st k name = .pointer none) := by unfold Hid findV; rw [hfi]
    clear hfi
    rw [show ixV none = -1 from rfl]
    go_wp2_with fail
    go_ret
    exact ⟨by rw [HV.out]; rfl, HB2.out⟩
  | some i =>
    have HV : Hid (findV M st k name = .pointer (some ⟨M.gs.getD i 0, 0, none⟩)) := by unfold Hid findV; rw [hfi]
    have hF := HF.out
    rw [hfi] at hF
    have hi : i < st.opn.length := hF.1
    clear hfi hF
    rw [show ixV (some i) = (i : Int) from rfl]
    obtain ⟨g, cap, hv, hc1, hc2⟩ := ownBlock_form HH2.out.rowO (by omega)
    rw [hv] at c11
    have hig : i < M.gs.length := by rw [HGL.out]; exact hi
    have hcell : w2.cell? ⟨g, i, none⟩ = some (.pointer (some ⟨M.gs.getD i 0, 0, none⟩)) := by
      have h := HH2.out.rowO
      rw [hv] at h
      rw [h.cellAt i (by omega)]
      simp [ptrs, hig, List.getD]
    have HIL := Lib.hid hi
    obtain ⟨N, hN⟩ : ∃ N, N = st.opn.length := ⟨_, rfl⟩
    rw [← hN] at c11 hi hn hc1
    clear hv hig hN
    go_wp2_with fail
    go_ret
    exact ⟨by rw [HV.out]; rfl, HB2.out⟩
end Go.Proofs.Ytodjjnklelfgfaa
