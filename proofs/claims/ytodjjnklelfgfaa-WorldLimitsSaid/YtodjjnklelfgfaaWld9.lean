/- A world: slices.DeleteFunc over its streams. -/
import Derived.Test.YtodjjnklelfgfaaWld6
import Derived.Lib.SliceRun
namespace Go.Proofs.Ytodjjnklelfgfaa
open Go.RowKit Wd
open Go.WideMaps Go.WideElems Go.WideAt

def Wd.keepI (p : Nat → Bool) (k : Nat) : List Nat := (List.range k).filter (fun i => !p i)
def Wd.keepR (p : Nat → Bool) (gs : List Nat) (k : Nat) : List Nat := (keepI p k).map (fun i => gs.getD i 0)
theorem keepI_succ (p : Nat → Bool) (k : Nat) : keepI p (k + 1) = keepI p k ++ if p k then [] else [k] := by
  unfold keepI
  rw [List.range_succ, List.filter_append]
  cases hp : p k <;> simp [hp]
theorem keepR_yes {p : Nat → Bool} {gs : List Nat} {k : Nat} (h : p k = true) : keepR p gs (k + 1) = keepR p gs k := by unfold keepR; rw [keepI_succ, if_pos h, List.append_nil]
theorem keepR_no {p : Nat → Bool} {gs : List Nat} {k : Nat} (h : p k = false) : keepR p gs (k + 1) = keepR p gs k ++ [gs.getD k 0] := by unfold keepR; rw [keepI_succ, h, if_neg (by decide), List.map_append]; rfl
theorem keepR_le (p : Nat → Bool) (gs : List Nat) (k : Nat) : (keepR p gs k).length ≤ k := by
  unfold keepR keepI
  rw [List.length_map]
  exact Nat.le_trans (List.length_filter_le _ _) (by simp)
theorem keepR_all {p : Nat → Bool} {gs : List Nat} {k : Nat} (hk : k ≤ gs.length) (h : ∀ j, j < k → p j = false) : keepR p gs k = gs.take k := by
  induction k with
  | zero => rfl
  | succ k ih =>
    rw [keepR_no (h k (by omega)), ih (by omega) (fun j hj => h j (by omega)), List.take_succ_eq_append_getElem (by omega)]
    simp [List.getD, show k < gs.length by omega]
theorem keepR_lt {p : Nat → Bool} {gs : List Nat} {i0 k : Nat} (h : p i0 = true) (hk : i0 < k) : (keepR p gs k).length < k := by
  induction k with
  | zero => omega
  | succ k ih =>
    by_cases e : i0 = k
    · subst e
      rw [keepR_yes h]
      have := keepR_le p gs i0
      omega
    · have h1 := ih (by omega)
      cases hp : p k
      · rw [keepR_no hp, List.length_append]; show _ + 1 < _; omega
      · rw [keepR_yes hp]; omega
theorem zero_ptr (w : World) : (zeroValue 88).run Try.prog w = .ok (.pointer none) w := by kernel_rfl
theorem setCells_step (w : World) (b o : Nat) : ∀ (vs : List Value), ∃ w', w.setCells b o vs = w' ∧ Tur (· = b) w w' := by
  intro vs
  induction vs generalizing w o with
  | nil => exact ⟨w, rfl, Tur.refl _ _⟩
  | cons v vs ih =>
    obtain ⟨w', h1, h2⟩ := ih (w.setCell ⟨b, o, none⟩ v) (o + 1)
    exact ⟨w', h1, (Tur.of_set ⟨b, o, none⟩ v).trans h2 (fun _ _ h => h)⟩
theorem turned_setCells (w : World) (b o : Nat) (vs : List Value) : Tur (· = b) w (w.setCells b o vs) := by
  obtain ⟨w', h1, h2⟩ := setCells_step w b o vs
  rw [h1]; exact h2
theorem own_cleared {w : World} {base e g j cap i : Nat} {xs : List Value} {z : Value} (h : w.ownsRow base e 1 (.slice (some ⟨g, 0, none⟩) j cap) j xs) (hi : i < j) : (w.setCells g i (List.replicate (j - i) z)).ownsRow base e 1 (.slice (some ⟨g, 0, none⟩) i cap) i (xs.take i) := by
  have key : ∀ (vs : List Value) (o : Nat) (w : World) (xs : List Value), w.ownsRow base e 1 (.slice (some ⟨g, 0, none⟩) j cap) j xs → i ≤ o → ∃ ys, (w.setCells g o vs).ownsRow base e 1 (.slice (some ⟨g, 0, none⟩) j cap) j ys ∧ ys.take i = xs.take i := by
    intro vs
    induction vs with
    | nil => intro o w xs h _; exact ⟨xs, h, rfl⟩
    | cons v vs ih =>
      intro o w xs h ho
      obtain ⟨ys, h1, h2⟩ := ih (o + 1) (w.setCell ⟨g, o, none⟩ v) _ (h.stored o v).1 (by omega)
      exact ⟨ys, h1, by rw [h2, List.take_set_of_le ho]⟩
  obtain ⟨ys, h1, h2⟩ := key _ i w xs h (Nat.le_refl _)
  rw [← h2]
  have hl := h1.1
  refine ⟨by rw [List.length_take]; omega, ?_⟩
  rcases h1.2 with ⟨h3, -⟩ | ⟨g', cap', cur, h3, h4, h5, h6, h7, h8, h9⟩
  · cases h3
  · injection h3 with h3 h10 h11
    injection h3 with h3
    cases h3
    subst h11
    exact .inr ⟨g, cap, cur, rfl, h4, h5, by omega, h7, h8, by rw [← h9, List.take_take, Nat.min_eq_left (by omega), Nat.mul_one]⟩
set_option maxRecDepth 20000 in
set_option maxHeartbeats 2000000 in
theorem wo_deleteS {w : World} {v : Value} {n : Nat} {gs : List Nat} (f : Nat) (caps : Array Value) (p : Nat → Bool) (r : Option Nat) (hrow : w.ownsRow 0 88 1 v n (ptrs gs)) (hc : ∀ (args : Array Value) (w : World), (callFunc f args).run Try.prog w = .ok (.enter f args) w)
    (hg : ∀ i, (h : i < gs.length) → ∀ wr, Tur (fun k => some k = v.ownBlock) w wr → Calls Try.prog f (#[.pointer (some ⟨gs[i], 0, none⟩)] ++ caps) wr fun e w' => e = .returned (.bool (p i)) ∧ ∃ n, w' = wr.drewN n) (hr : First p gs.length r) (hn : n ≤ 1000000000) :
    Calls Try.prog 42 #[v, .func (.func f) #[] caps] w fun e w' => ∃ v', e = .returned v' ∧ w'.ownsRow 0 88 1 v' (keepR p gs n).length (ptrs (keepR p gs n)) ∧ Tur (fun k => some k = v.ownBlock) w w' ∧ v'.ownBlock = v.ownBlock := by
  have hgn : gs.length = n := by have := hrow.1; simpa [ptrs] using this
  have hgb : ∀ i, (h : i < gs.length) → ∀ wr, Below w.heap.size w wr → Calls Try.prog f (#[.pointer (some ⟨gs[i], 0, none⟩)] ++ caps) wr fun e w' => e = .returned (.bool (p i)) ∧ Below wr.heap.size wr w' :=
    fun i h wr hb => (hg i h wr (Tur.of_gr hb)).mono fun e w' ⟨he, m, hw⟩ => ⟨he, by rw [hw]; exact below_drew _ _⟩
  have HIX := Lib.hid (wo_indexS f caps p r hrow hc hgb hr hn)
  have HROW0 := Lib.hid hrow
  have HG := Lib.hid hg
  have HGN := Lib.hid hgn
  have HR := Lib.hid hr
  cases r with
  | none =>
    have HK : Hid (keepR p gs n = gs) := by
      unfold Hid
      rw [keepR_all (by omega) (fun j hj => hr j (by omega)), ← hgn, List.take_length]
    have HKL : Hid ((keepR p gs n).length = n) := by unfold Hid; rw [HK.out, hgn]
    clear hrow hg hgn hr hgb
    go_enter Try.func42, Try.ntmps42
    go_wp2_with fail
    refine (HIX.out).mono ?_
    rintro e w2 ⟨rfl, hb2⟩
    rw [show ixV none = -1 from rfl]
    go_wp2_with fail
    go_ret
    exact ⟨v, rfl, by rw [HKL.out, HK.out]; exact own_of_block HROW0.out (fun g hg => hb2.block g (own_lt HROW0.out hg).choose_spec.2), Tur.of_gr hb2, rfl⟩
  | some i0 =>
    obtain ⟨hi0, hp0, hno⟩ := hr
    have hi0n : i0 < n := by omega
    obtain ⟨g, cap, rfl, hc1, hc2⟩ := ownBlock_form hrow (by omega)
    have HK0 : Hid (keepR p gs (i0 + 1) = gs.take i0) := by
      unfold Hid
      rw [keepR_yes hp0, keepR_all (by omega) hno]
    have HP0 := Lib.hid hp0
    have hcl : cap < 9223372036854775808 := by unfold maxLen at hc2; omega
    clear hrow hg hgn hgb hno hp0
    go_enter Try.func42, Try.ntmps42
    go_wp2_with fail
    refine (HIX.out).mono ?_
    rintro e w2 ⟨rfl, hb2⟩
    rw [show ixV (some i0) = (i0 : Int) from rfl]
    have hi00 : (0 : Int) ≤ (i0 : Int) := Int.natCast_nonneg _
    have hi01 : ((i0 : Int) == -1) = false := beq_eq_false_iff_ne.2 (by omega)
    have HROW2 := Lib.hid (own_of_block HROW0.out (fun k hk => hb2.block k (own_lt HROW0.out hk).choose_spec.2))
    have HT2 := Lib.hid (Tur.of_gr (F := fun k => some k = (.slice (some ⟨g, 0, none⟩) n cap : Value).ownBlock) hb2)
    clear hb2
    go_wp2_with fail
    go_loopw [5, 6] (fun iv jv wr => ∃ (j i : Nat) (xs : List Value), j ≤ n ∧ i0 < j ∧ i = (keepR p gs j).length ∧ iv = .int .i64 i ∧ jv = .int .i64 j ∧ wr.ownsRow 0 88 1 (.slice (some ⟨g, 0, none⟩) n cap) n xs ∧ xs.take i = ptrs (keepR p gs j) ∧ (∀ m, j ≤ m → m < n → xs[m]? = some (.pointer (some ⟨gs.getD m 0, 0, none⟩))) ∧ Tur (fun k => some k = (.slice (some ⟨g, 0, none⟩) n cap : Value).ownBlock) w wr) (fun _ jv _ => n - (intOf jv).toNat)
    case atStart => exact ⟨i0 + 1, i0, ptrs gs, Nat.succ_le_of_lt hi0n, Nat.lt_succ_self i0, (by rw [HK0.out, List.length_take, Nat.min_eq_left (Nat.le_of_lt hi0)]), rfl, (by first | rfl | go_num), HROW2.out, by rw [HK0.out]; simp [ptrs, List.map_take], fun m hm1 hm2 => by
        have : m < gs.length := by rw [HGN.out]; exact hm2
        simp [ptrs, this, List.getD], HT2.out⟩
    case round =>
      obtain ⟨j, i, xs, hj, hij, hi, rfl, rfl, hown, htk, hrest, htur⟩ := hrel
      have HI := Lib.hid hi
      have HTK := Lib.hid htk
      have HREST := Lib.hid hrest
      have HTUR := Lib.hid htur
      have HOWN := Lib.hid hown
      have hilt : i < j := by rw [hi]; exact keepR_lt HP0.out hij
      clear hi htk hrest
      by_cases hlt : j < n
      · have hjg : j < gs.length := by have := HGN.out; omega
        have hcell : wr.cell? ⟨g, j, none⟩ = some (.pointer (some ⟨gs[j], 0, none⟩)) := by
          rw [hown.cellAt j (by omega), HREST.out j (Nat.le_refl _) hlt]
          simp [List.getD, hjg]
        have hfi := hown.frozenAt (i : Nat)
        have hcli : ∃ u, wr.cell? ⟨g, i, none⟩ = some u := by
          rw [hown.cellAt i (by omega)]
          have hxl := hown.1
          exact ⟨xs[i]'(by omega), List.getElem?_eq_getElem _⟩
        obtain ⟨u0, hu0⟩ := hcli
        have HGK := Lib.hid (HG.out j hjg wr htur)
        have hiN : (i : Int) < (n : Int) := by omega
        have hjN : (j : Int) < (n : Int) := by omega
        have hxl : xs.length = n * 1 := hown.1
        have HXL := Lib.hid hxl
        have HGJ := Lib.hid (show gs.getD j 0 = gs[j] by simp [List.getD, hjg])
        clear htur hown hxl
        generalize gs[j] = gj at *
        go_wp2_with fail
        refine (HGK.out).mono ?_
        rintro e w3 ⟨rfl, m, rfl⟩
        have hcell3 : (wr.drewN m).cell? ⟨g, i, none⟩ = some u0 := hu0
        have hfi3 : (wr.drewN m).frozen? ⟨g, i, none⟩ = false := hfi
        have HOWN3 : Hid ((wr.drewN m).ownsRow 0 88 1 (.slice (some ⟨g, 0, none⟩) n cap) n xs) := own_of_block HOWN.out (fun _ _ => rfl)
        have HTUR3 := Lib.hid (HTUR.out.trans (Tur.of_drewN (F := fun k => some k = (.slice (some ⟨g, 0, none⟩) n cap : Value).ownBlock) wr m) (fun _ _ e => e))
        clear HGK hcell hfi hu0
        generalize wr.drewN m = w4 at *
        cases hp : p j
        · have HP := Lib.hid hp
          clear hp
          go_wp2_with fail
          have hst := (HOWN3.out.stored i (.pointer (some ⟨gj, 0, none⟩)))
          go_roundw
          case rel => exact ⟨j + 1, i + 1, xs.set i (.pointer (some ⟨gj, 0, none⟩)), by omega, by omega, by rw [keepR_no HP.out, List.length_append, ← HI.out]; rfl, by go_num, by go_num, hst.1, by
              rw [keepR_no HP.out, HGJ.out]
              have hx1 := HXL.out
              rw [List.take_succ_eq_append_getElem (by rw [List.length_set]; omega), List.take_set_of_le (Nat.le_refl _), HTK.out]
              simp [ptrs], fun q hq1 hq2 => by rw [List.getElem?_set_ne (by omega)]; exact HREST.out q (by omega) hq2, HTUR3.out.trans (Tur.of_set ⟨g, i, none⟩ _) (fun k _ e => (by rw [show k = g from e]; rfl))⟩
          case measure => simp [intOf]; omega
        · have HP := Lib.hid hp
          clear hp
          go_wp2_with fail
          go_roundw
          case rel => exact ⟨j + 1, i, xs, by omega, by omega, by rw [keepR_yes HP.out]; exact HI.out, rfl, by go_num, HOWN3.out, by rw [keepR_yes HP.out]; exact HTK.out, fun q hq1 hq2 => HREST.out q (by omega) hq2, HTUR3.out⟩
          case measure => simp [intOf]; omega
      · obtain rfl : j = n := by omega
        have hiN : (i : Int) ≤ (j : Int) := by omega
        have hiC : (i : Int) ≤ (cap : Int) := by omega
        have hjC : (j : Int) ≤ (cap : Int) := by omega
        have hi9 : (0 : Int) ≤ (i : Int) := Int.natCast_nonneg _
        have hiC2 : ¬ i = cap := by omega
        have hxl : xs.length = j * 1 := hown.1
        have hrun := Lib.run_clear_slice (P := Try.prog) wr 82 88 0 (.pointer none) Try.underlying82 zero_ptr rfl rfl g i (j - i) (cap - i) (by omega) (fun q hq => by rw [hown.cellAt (i + q) (by omega), List.getElem?_eq_getElem (by omega)]; rfl) (fun q _ => hown.frozenAt (i + q))
        have HTC := Lib.hid (turned_setCells wr g i (List.replicate (j - i) (.pointer none)))
        have HOWN9 := Lib.hid (own_cleared hown (i := i) (z := .pointer none) hilt)
        clear htur hown hxl
        generalize wr.setCells g i (List.replicate (j - i) (.pointer none)) = w9 at *
        go_wp2_with fail
        go_ret
        exact ⟨_, rfl, by rw [← HI.out]; exact HTK.out ▸ HOWN9.out, HTUR.out.trans HTC.out (fun k _ e => (by rw [show k = g from e]; rfl)), rfl⟩
end Go.Proofs.Ytodjjnklelfgfaa
