/- Arrays: the walks of the reference's Delete and Key, of Key and of num. -/
import Derived.Test.YtjgfhdabcahokaaArrRef
import Derived.Test.YtjgfhdabcahokaaLow
import Derived.Test.YtjgfhdabcahokaaShelf
import Derived.Laws.Concat
namespace Go.Proofs.Ytjgfhdabcahokaa
open Go.RowKit
open Go.WideMaps Go.WideElems Go.WideAt

namespace Arr
theorem delI_take (l : List Item) (x : List UInt8) (k : Nat) (h : k < l.length) : delI (l.take (k + 1)) x = delI (l.take k) x ++ (if l[k].1.data.toList = x then [] else [l[k]]) := by
  rw [List.take_succ_eq_append_getElem h, delI, List.filter_append]
  by_cases hx : l[k].1.data.toList = x
  · simp [delI, hasKey, hx]
  · have : hasKey x l[k] = false := by simp [hasKey, hx]
    simp [delI, this, hx]
theorem delI_len (l : List Item) (x : List UInt8) : (delI l x).length ≤ l.length := List.length_filter_le _ _
theorem delI_lt (l : List Item) (x : List UInt8) : decide ((delI l x).length < l.length) = (findI l x).isSome := by
  cases h : findI l x with
  | none => rw [delI_none h]; simp
  | some i => have := delI_some h; simp; omega
def datas (xs : List ByteArray) : List (List UInt8) := xs.map (·.data.toList)
def joinD (xs : List ByteArray) (sep : ByteArray) : List UInt8 := Lib.join (datas xs) sep.data.toList
theorem joinD_nil (sep : ByteArray) : joinD [] sep = [] := rfl
theorem joinD_snoc (xs : List ByteArray) (y sep : ByteArray) (h : xs ≠ []) : joinD (xs ++ [y]) sep = joinD xs sep ++ sep.data.toList ++ y.data.toList := by
  cases xs with
  | nil => exact absurd rfl h
  | cons x r =>
    simp only [joinD, datas, List.map_append, List.map_cons, List.cons_append, List.map_nil]
    rw [Lib.join_cons, Lib.join_cons]
    simp [Lib.joinTail, List.append_assoc]
theorem joinD_one (y sep : ByteArray) : joinD ([] ++ [y]) sep = y.data.toList := Lib.join_one _ _
theorem joinD_len (xs : List ByteArray) (sep : ByteArray) (m : Nat) (h : ∀ x ∈ xs, x.size ≤ m) : (joinD xs sep).length ≤ xs.length * (m + sep.size) := by
  cases xs with
  | nil => simp [joinD_nil]
  | cons x r =>
    have e : (joinD (x :: r) sep).length = sep.data.toList.length * (datas r).length + Lib.lens (datas (x :: r)) := Lib.join_length _ _ _
    have hl : ∀ l : List ByteArray, (∀ x ∈ l, x.size ≤ m) → Lib.lens (datas l) ≤ l.length * m := by
      intro l
      induction l with
      | nil => intro _; simp [Lib.lens, datas]
      | cons y l ih =>
        intro h
        have h1 := h y (by simp)
        have h2 := ih (fun x hx => h x (by simp [hx]))
        have e : Lib.lens (datas (y :: l)) = y.size + Lib.lens (datas l) := by simp [Lib.lens, datas]
        rw [e, List.length_cons, Nat.add_mul]; omega
    have h1 := hl (x :: r) h
    have h2 : (datas r).length = r.length := by simp [datas]
    have h3 : sep.data.toList.length = sep.size := rfl
    rw [e, h2, h3]
    simp only [List.length_cons] at h1 ⊢
    rw [Nat.mul_add]
    have : sep.size * r.length ≤ (r.length + 1) * sep.size := by rw [Nat.mul_comm]; exact Nat.mul_le_mul_right _ (by omega)
    omega
end Arr
set_option maxHeartbeats 1000000 in
theorem rf_delete (w : World) (base : Nat) (v : Value) (l : List Arr.Item) (key : ByteArray) (h : w.ownsRow base 72 4 v l.length (Arr.ivals l)) (hl : l.length ≤ 1000000) :
    Calls Try.prog 26 #[v, .string key] w fun e w' => ∃ u, e = .returned (.tuple #[u, .bool (Arr.findI l key.data.toList).isSome]) ∧ w'.ownsRow w.heap.size 72 4 u (Arr.delI l key.data.toList).length (Arr.ivals (Arr.delI l key.data.toList)) ∧ Below w.heap.size w w' := by
  obtain ⟨A, cap, hv⟩ := len_of_row h
  subst hv
  have H := Lib.hid h
  clear h
  obtain ⟨B, hB⟩ : ∃ B, B = w.heap.size := ⟨_, rfl⟩
  have HB := Lib.hid hB
  clear hB
  obtain ⟨x, hx⟩ : ∃ x, x = key.data.toList := ⟨_, rfl⟩
  have HX := Lib.hid hx
  rw [← hx]
  clear hx
  go_enter Try.func26, Try.ntmps26
  go_wp2_with fail
  go_loopw [6, 7] (fun u i wr => ∃ k : Nat, k ≤ l.length ∧ i = .int .i64 k ∧ (∃ A' cap', u = .slice A' (Arr.delI (l.take k) x).length cap') ∧ wr.ownsRow B 72 4 u (Arr.delI (l.take k) x).length (Arr.ivals (Arr.delI (l.take k) x)) ∧ Below B w wr) (fun _ i _ => l.length - (intOf i).toNat)
  case atStart => exact ⟨0, Nat.zero_le _, rfl, ⟨none, 0, rfl⟩, World.ownsRow_nil w B 72 4, Below.refl _ _⟩
  case round =>
    obtain ⟨k, hk, rfl, ⟨A', cap', hu⟩, hown, hbl⟩ := hrel
    have hbs := hbl.size
    rw [← HB.out] at hbs
    by_cases hlt : k < l.length
    · obtain ⟨g, cap2, hv, hlc, hcm⟩ := ownBlock_form H.out (by omega)
      injection hv with e1 e2 e3
      subst e1
      subst e3
      have hgB : g < B := by rw [HB.out]; exact (H.out.lt g rfl).2
      obtain ⟨c0, c1, c2, c3⟩ := item_cells H.out k hlt
      have cc : ∀ o, wr.cell? ⟨g, o, none⟩ = w.cell? ⟨g, o, none⟩ := fun o => hbl.cell (p := ⟨g, o, none⟩) hgB
      rw [← cc] at c0 c1 c2 c3
      have hle : (Arr.delI (l.take k) x).length ≤ k := Nat.le_trans (Arr.delI_len _ _) (List.length_take_le _ _)
      have hz1 : (Arr.delI (l.take k) x).length + 1 ≤ maxLen := by unfold maxLen; omega
      have hz2 : ((Arr.delI (l.take k) x).length + 1) * 48 ≤ 140737488355328 := by omega
      have HT := Lib.hid (tolist_beq l[k].1 key)
      have HS := Lib.hid (Arr.delI_take l x k hlt)
      clear cc
      unfold maxLen at hcm
      by_cases heq : l[k].1.data.toList = x
      · have hb : (l[k].1.toList == key.toList) = true := by rw [HT.out]; have := HX.out; simpa [← this] using heq
        have HN : Hid (Arr.delI (l.take (k + 1)) x = Arr.delI (l.take k) x) := by unfold Hid; rw [HS.out, if_pos heq, List.append_nil]
        have K1 : Hid (wr.ownsRow B 72 4 u6 (Arr.delI (l.take (k + 1)) x).length (Arr.ivals (Arr.delI (l.take (k + 1)) x))) := by rw [HN.out]; exact hown
        have K2 : Hid (u6 = .slice A' (Arr.delI (l.take (k + 1)) x).length cap') := by rw [HN.out]; exact hu
        clear heq hown hu HS HT
        generalize l[k] = s at *
        go_wp2_with fail
        go_roundw
        case rel => exact ⟨k + 1, by omega, by go_num, ⟨_, _, K2.out⟩, K1.out, hbl⟩
        case measure => simp [intOf]; omega
      · have hb : (l[k].1.toList == key.toList) = false := by rw [HT.out]; have := HX.out; simpa [← this] using heq
        have HN : Hid (Arr.delI (l.take (k + 1)) x = Arr.delI (l.take k) x ++ [l[k]]) := by unfold Hid; rw [HS.out, if_neg heq]
        clear heq HS HT hu
        generalize l[k] = s at *
        go_wp2_with (at_builtin; refine wp_app1_at rfl _ _ _ rfl 72 4 48 _ Try.underlying48 info_item rfl (by decide) B u6 _ _ rfl hown (Arr.ivals1 s) _ rfl rfl rfl one_item hz1 hz2 hbs ?_; intro g2 cap2 w2 hlc2 hcm2 hown2 hgrow2 _)
        have hbl2 : Below B w w2 := hbl.trans (below_grown hown hgrow2 hbs)
        have hown3 : w2.ownsRow B 72 4 (.slice (some ⟨g2, 0, none⟩) ((Arr.delI (l.take k) x).length + 1) cap2) (Arr.delI (l.take (k + 1)) x).length (Arr.ivals (Arr.delI (l.take (k + 1)) x)) := by
          rw [HN.out, Arr.ivals_append, List.length_append]; simpa [Arr.ivals] using hown2
        have hln : (Arr.delI (l.take (k + 1)) x).length = (Arr.delI (l.take k) x).length + 1 := by rw [HN.out]; simp
        have HL := Lib.hid hln
        clear hown hown2 hbl hgrow2 hln
        go_roundw
        case rel => first | exact ⟨k + 1, by omega, by go_num, ⟨_, _, by rw [HL.out]⟩, hown3, hbl2⟩ | ((repeat apply Exists.intro); exact ⟨⟨k + 1, by omega, by go_num, ⟨_, _, by rw [HL.out]⟩, hown3, hbl2⟩, rfl, rfl⟩)
        case measure => simp [intOf]; omega
    · obtain rfl : k = l.length := by omega
      have HTT : Hid (l.take l.length = l) := List.take_length
      rw [HTT.out] at hown hu
      have HD := Lib.hid (Arr.delI_lt l x)
      have hle := Arr.delI_len l x
      subst hu
      go_wp2_with fail
      go_ret2
      exact ⟨.slice A' (Arr.delI l x).length cap', by rw [← HD.out]; rfl, by rw [← HB.out]; exact hown, by rw [← HB.out]; exact hbl⟩

def mkS (l : List UInt8) : ByteArray := ⟨l.toArray⟩
theorem mkS_append (a : List UInt8) (b : ByteArray) : mkS a ++ b = mkS (a ++ b.data.toList) := by
  apply bytes_ext; simp [mkS, ByteArray.data_append]
theorem mkS_size (a : List UInt8) : (mkS a).size = a.length := rfl
theorem mkS_data (b : ByteArray) : mkS b.data.toList = b := by apply bytes_ext; rfl
set_option maxHeartbeats 400000 in
theorem rf_key (w : World) (B cap n : Nat) (A : Option Addr) (xs : List ByteArray) (sep : ByteArray) (h : Strs w B A n xs) (hc : n ≤ cap) (hn : n ≤ 1000) (hs : sep.size ≤ 1000) (hx : ∀ x ∈ xs, x.size ≤ 1000) :
    Calls Try.prog 28 #[.slice A n cap, .string sep] w fun e w' => e = .returned (.string (mkS (Arr.joinD xs sep))) ∧ w = w' := by
  have H := Lib.hid h
  have HX := Lib.hid hx
  clear h hx
  go_enter Try.func28, Try.ntmps28
  go_wp2_with fail
  go_loop [5, 6] (fun s i => ∃ k : Nat, k ≤ n ∧ i = .int .i64 k ∧ s = .string (mkS (Arr.joinD (xs.take k) sep))) (fun _ i => n - (intOf i).toNat)
  case atStart => exact ⟨0, Nat.zero_le _, rfl, rfl⟩
  case round =>
    obtain ⟨k, hk, rfl, rfl⟩ := hrel
    by_cases hlt : k < n
    · obtain ⟨b, o, rfl, _, hcx⟩ := H.out.2 (by omega)
      have hx1 : k < xs.length := by rw [H.out.1]; exact hlt
      have c1 := hcx k hx1
      have hsz := HX.out xs[k] (List.getElem_mem hx1)
      have hlen : (mkS (Arr.joinD (xs.take k) sep)).size ≤ 1000 * 2000 := by
        rw [mkS_size]
        have := Arr.joinD_len (xs.take k) sep 1000 (fun x hx => HX.out x (List.mem_of_mem_take hx))
        have h2 : (xs.take k).length ≤ 1000 := by rw [List.length_take]; omega
        exact Nat.le_trans this (Nat.mul_le_mul h2 (by omega))
      have HT : Hid (xs.take (k + 1) = xs.take k ++ [xs[k]]) := List.take_succ_eq_append_getElem hx1
      have hne : 0 < k → xs.take k ≠ [] := fun h e => by
        have := congrArg List.length e
        rw [List.length_take, List.length_nil] at this; omega
      clear hcx
      generalize xs[k] = y at *
      by_cases h0 : 0 < k
      · have HS : Hid (mkS (Arr.joinD (xs.take k) sep) ++ sep ++ y = mkS (Arr.joinD (xs.take (k + 1)) sep)) := by
          unfold Hid; rw [HT.out, Arr.joinD_snoc _ _ _ (hne h0), mkS_append, mkS_append]
        have hlen2 : (mkS (Arr.joinD (xs.take k) sep) ++ sep).size ≤ 3000000 := by rw [ByteArray.size_append]; omega
        clear hne HT
        go_wp2_with fail
        go_round
        case rel => exact ⟨k + 1, by omega, by go_num, by rw [HS.out]⟩
        case measure => simp [intOf]; omega
      · have hk0 : k = 0 := by omega
        have HS : Hid (mkS (Arr.joinD (xs.take k) sep) ++ y = mkS (Arr.joinD (xs.take (k + 1)) sep)) := by
          unfold Hid; rw [HT.out]; subst hk0
          rw [List.take_zero, Arr.joinD_one, Arr.joinD_nil, mkS_append]; rfl
        clear hne HT hk0
        go_wp2_with fail
        go_round
        case rel => exact ⟨k + 1, by omega, by go_num, by rw [HS.out]⟩
        case measure => simp [intOf]; omega
    · obtain rfl : k = n := by omega
      have HE : Hid (xs.take k = xs) := by unfold Hid; rw [← H.out.1, List.take_length]
      rw [HE.out]
      go_wp2_with fail
      go_ret
      exact ⟨rfl, rfl⟩
theorem arr_key (w : World) (B cap n : Nat) (A : Option Addr) (xs : List ByteArray) (sep : ByteArray) (h : Strs w B A n xs) (hB : B ≤ w.heap.size) (hc : n ≤ cap) (hn : n ≤ 1000) (hs : sep.size ≤ 1000) (hx : ∀ x ∈ xs, x.size ≤ 1000) :
    Calls Try.prog 23 #[.slice A n cap, .string sep] w fun e w' => e = .returned (.string (mkS (Arr.joinD xs sep))) ∧ Below w.heap.size w w' := by
  have H := Lib.hid h
  have HX := Lib.hid hx
  clear h hx
  by_cases h0 : n = 0
  · have e0 : xs = [] := List.eq_nil_of_length_eq_zero (by rw [H.out.1]; exact h0)
    subst h0
    have HE := Lib.hid e0
    clear e0
    go_enter Try.func23, Try.ntmps23
    go_wp2_with fail
    refine (Try.strings_Join_none _ _ _ _).mono ?_
    rintro e w' ⟨rfl, rfl⟩
    go_wp2_with fail
    go_ret
    refine ⟨?_, Below.refl _ _⟩
    rw [HE.out]; rfl
  · obtain ⟨b, o, rfl, hb, hcx⟩ := H.out.2 (by omega)
    have hln := H.out.1
    have hlen := Arr.joinD_len xs sep 1000 HX.out
    have hlen2 : (Arr.joinD xs sep).length ≤ 140737488355328 := by
      refine Nat.le_trans hlen (Nat.le_trans (Nat.mul_le_mul (show xs.length ≤ 1000 by omega) (show 1000 + sep.size ≤ 2000 by omega)) (by decide))
    have HC := Lib.hid (Try.strings_Join b o cap xs sep w (fun j x hj => by
      obtain ⟨hj1, rfl⟩ := List.getElem?_eq_some_iff.1 hj
      exact hcx j hj1) (by omega) (by omega) (by omega) hlen2)
    rw [hln] at HC
    clear hcx hln hlen hlen2
    go_enter Try.func23, Try.ntmps23
    go_wp2_with fail
    refine HC.out.mono ?_
    rintro e w' ⟨rfl, hbl⟩
    go_wp2_with fail
    go_ret
    exact ⟨rfl, hbl⟩
theorem w_num (n : Int) (w : World) (h0 : 0 ≤ n) (h1 : n ≤ 1000000) :
    Calls Try.prog 14 #[.int .i64 n] w fun e w' => e = .returned (.agg #[.int .u8 1, .int .u64 n, .string ⟨#[]⟩]) ∧ Below w.heap.size w w' := by
  go_enter Try.func14, Try.ntmps14
  go_wp2_with fail
  exact bodyPost_ret (v := .agg #[.int .u8 1, .int .u64 n, .string ⟨#[]⟩]) (by simp [results, Try.results14, go_sem]) rfl ⟨rfl, (Below.refl _ _).alloc (Nat.le_refl _) _⟩
end Go.Proofs.Ytjgfhdabcahokaa
