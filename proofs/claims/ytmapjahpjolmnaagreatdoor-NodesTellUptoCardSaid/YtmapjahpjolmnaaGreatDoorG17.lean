/- nodes.lvalue, pattern, getline. -/
import Derived.Test.YtmapjahpjolmnaaGreatDoorG16
import Derived.Test.YtmapjahpjolmnaaGreatDoorG1
import Derived.Maps.OwnSet
set_option linter.unusedVariables false
set_option linter.unusedSimpArgs false
namespace Go.Proofs.YtmapjahpjolmnaaGreatDoor
open Go.RowKit Tr
set_option maxRecDepth 20000
theorem w_lvalue (k : Int) (s : ByteArray) (n : Int) (A : Option Addr) (m c : Nat) (w : World) : Calls Tryz.prog 42 #[.agg #[.int .u8 k, .string s, .int .u64 n, .slice A m c]] w fun e w' => e = .returned (.bool (decide (k = 4) || (decide (k = 5) || decide (k = 6)))) ∧ Below w.heap.size w w' := by
  have HB := Lib.hid ((Below.refl w.heap.size w).alloc (Nat.le_refl _) (.cells #[.int .u8 k, .string s, .int .u64 n, .slice A m c] 29))
  go_enter Tryz.func42, Tryz.ntmps42
  go_wp2_with fail
  all_goals
    go_ret
    refine ⟨?_, by have := HB.out; simp_all⟩
    (by_cases h4 : k = 4 <;> by_cases h5 : k = 5 <;> by_cases h6 : k = 6 <;> simp_all)
def slen : Value → Nat
  | .string t => t.size
  | _ => 0
theorem bs_cons {t : ByteArray} (h : 0 < t.size) : t.data.toList = t[0] :: t.data.toList.drop 1 := by
  have h1 : 0 < t.data.toList.length := h
  have h2 := List.drop_eq_getElem_cons h1
  rw [List.drop_zero] at h2
  exact h2
theorem bs_cons2 {t : ByteArray} (h : 1 < t.size) : t.data.toList.drop 1 = t[1] :: t.data.toList.drop 2 := by
  have h1 : 1 < t.data.toList.length := h
  exact List.drop_eq_getElem_cons h1
theorem pat_cons (c : UInt8) (r : List UInt8) : patB (c :: r) = if c = 10 then false else if c = 92 then (match r with
      | [] => false
      | d :: r2 => if d = 47 ∨ d = 10 then false else patB r2) else patB r := by
  rw [patB.eq_def]
  rfl
theorem u8_ne {c : UInt8} {k : Nat} (hk : k < 256) (h : c.toNat ≠ k) : c ≠ UInt8.ofNat k := by
  rintro rfl
  apply h
  simp
  omega
theorem u8_is {c : UInt8} {k : Nat} (h : c.toNat = k) : c = UInt8.ofNat k := by
  subst h
  simp
set_option maxHeartbeats 1000000 in
theorem w_pattern (s : ByteArray) (w : World) (hs : s.size ≤ maxLen) : Calls Tryz.prog 40 #[.string s] w fun e w' => e = .returned (.bool (patB s.data.toList)) ∧ w' = w := by
  have hsz : s.size < 9223372036854775808 := by unfold maxLen at hs; omega
  go_enter Tryz.func40, Tryz.ntmps40
  go_wp2_with fail
  go_loopw [0] (fun v wr => ∃ t : ByteArray, v = .string t ∧ t.size ≤ s.size ∧ patB t.data.toList = patB s.data.toList ∧ wr = w) (fun v _ => slen v)
  case atStart => exact ⟨s, rfl, Nat.le_refl _, rfl, rfl⟩
  case round =>
    obtain ⟨t, rfl, ht, hp, hw⟩ := hrel
    have HW := Lib.hid hw
    have HP := Lib.hid hp
    clear hp hw
    by_cases h0 : 0 < t.size
    · have HC := Lib.hid (bs_cons h0)
      by_cases hn : t[0].toNat = 10
      · have c1 : ((t[0].toNat : Int) == 10) = true := by simp; omega
        have HF : Hid (patB s.data.toList = false) := by
          unfold Hid
          have h := HP.out
          rw [HC.out, pat_cons, if_pos (show t[0] = 10 from u8_is hn)] at h
          exact h.symm
        go_wp2_with fail
        go_ret
        exact ⟨by rw [HF.out]; rfl, HW.out⟩
      · have c1 : ((t[0].toNat : Int) == 10) = false := by simp; omega
        by_cases hb : t[0].toNat = 92
        · have c2 : ((t[0].toNat : Int) == 92) = true := by simp; omega
          by_cases h1 : 1 < t.size
          · have HC2 := Lib.hid (bs_cons2 h1)
            have HE : Hid (patB s.data.toList = if t[1] = 47 ∨ t[1] = 10 then false else patB (t.data.toList.drop 2)) := by
              unfold Hid
              have h := HP.out
              rw [HC.out, HC2.out, pat_cons, if_neg (show ¬ t[0] = 10 from u8_ne (by decide) hn), if_pos (show t[0] = 92 from u8_is hb)] at h
              exact h.symm
            by_cases hd : t[1].toNat = 47 ∨ t[1].toNat = 10
            · have HF : Hid (patB s.data.toList = false) := by
                unfold Hid
                rw [HE.out, if_pos]
                rcases hd with hd | hd
                · exact .inl (u8_is hd)
                · exact .inr (u8_is hd)
              by_cases hd1 : t[1].toNat = 47
              · have c3 : ((t[1].toNat : Int) == 47) = true := by simp; omega
                go_wp2_with fail
                go_ret
                exact ⟨by rw [HF.out]; rfl, HW.out⟩
              · have c3 : ((t[1].toNat : Int) == 47) = false := by simp; omega
                have c4 : ((t[1].toNat : Int) == 10) = true := by simp; omega
                go_wp2_with fail
                go_ret
                exact ⟨by rw [HF.out]; rfl, HW.out⟩
            · have c3 : ((t[1].toNat : Int) == 47) = false := by simp; omega
              have c4 : ((t[1].toNat : Int) == 10) = false := by simp; omega
              have HN : Hid (patB (t.extract 2 t.size).data.toList = patB s.data.toList) := by
                unfold Hid
                rw [HE.out, if_neg, ext_drop]
                rintro (e | e)
                · exact hd (.inl (by rw [e]; rfl))
                · exact hd (.inr (by rw [e]; rfl))
              go_wp2_with fail
              go_roundw
              case rel => exact ⟨t.extract 2 t.size, rfl, by rw [ByteArray.size_extract]; omega, HN.out, HW.out⟩
              case measure => simp [slen]; omega
          · have HF : Hid (patB s.data.toList = false) := by
              unfold Hid
              have h := HP.out
              rw [HC.out, List.drop_of_length_le (by show t.size ≤ 1; omega), pat_cons, if_neg (show ¬ t[0] = 10 from u8_ne (by decide) hn), if_pos (show t[0] = 92 from u8_is hb)] at h
              exact h.symm
            go_wp2_with fail
            go_ret
            exact ⟨by rw [HF.out]; rfl, HW.out⟩
        · have c2 : ((t[0].toNat : Int) == 92) = false := by simp; omega
          have HN : Hid (patB (t.extract 1 t.size).data.toList = patB s.data.toList) := by
            unfold Hid
            have h := HP.out
            rw [HC.out, pat_cons, if_neg (show ¬ t[0] = 10 from u8_ne (by decide) hn), if_neg (show ¬ t[0] = 92 from u8_ne (by decide) hb)] at h
            rw [ext_drop]
            exact h
          go_wp2_with fail
          go_roundw
          case rel => exact ⟨t.extract 1 t.size, rfl, by rw [ByteArray.size_extract]; omega, HN.out, HW.out⟩
          case measure => simp [slen]; omega
    · have HF : Hid (patB s.data.toList = true) := by
        unfold Hid
        have h := HP.out
        have e : t.data.toList = [] := List.length_eq_zero_iff.1 (show t.size = 0 by omega)
        rw [e] at h
        rw [← h]
        rfl
      go_wp2_with fail
      go_ret
      exact ⟨by rw [HF.out]; rfl, HW.out⟩
end Go.Proofs.YtmapjahpjolmnaaGreatDoor
namespace Go.Proofs.YtmapjahpjolmnaaGreatDoor
open Go.RowKit Tr
set_option maxRecDepth 20000
/-- Is a getline right, but for its kids? -/
def getN (n : Int) : Nat := (if 8 ≤ n then 1 else 0) + (if 1 < n % 8 then 1 else 0)
def getB (e : XE) : Bool := decide (e.s.size = 0) && (decide (e.n < 12) && (decide (1 ≤ e.n % 8 ∧ e.n % 8 ≤ 3) && (decide (e.kids.length = getN e.n) && (decide (e.n < 8) || kidLB e))))
def evE (e : XE) (A : Option Addr) (c : Nat) : Value := .agg #[.int .u8 e.k, .string e.s, .int .u64 e.n, .slice A e.kids.length c]
theorem EsAt.head {w : World} {Bd : Nat} {l : List XE} {A : Option Addr} {c : Nat} (h : EsAt w Bd l (.slice A l.length c)) (h0 : 0 < l.length) : ∃ b o kv, A = some ⟨b, o, none⟩ ∧ b < Bd ∧ ecells w b o l[0] kv ∧ EsAt w Bd l[0].kids kv := by
  generalize hv : (.slice A l.length c : Value) = v at h
  cases h with
  | mk kv hc hm hat hok hk =>
    injection hv with h1 h2 h3
    obtain ⟨b, o, e, hb, hx⟩ := hat h0
    refine ⟨b, o, kv 0, by rw [h1]; exact e, hb, ?_, hk 0 h0⟩
    have h4 := hx 0 h0
    rwa [Nat.zero_mul, Nat.add_zero] at h4
theorem kidL_is {e : XE} (h0 : 0 < e.kids.length) : kidLB e = lvalB e.kids[0] := by
  cases e with
  | mk k s n l =>
    cases l with
    | nil => cases h0
    | cons x r => rfl
theorem and8 (n : Int) (h0 : 0 ≤ n) (h : n < 12) : (bits .and .u64 n 8 ≠ 0 ↔ 8 ≤ n) ∧ bits .and .u64 n 7 = n % 8 := by
  have h : n = 0 ∨ n = 1 ∨ n = 2 ∨ n = 3 ∨ n = 4 ∨ n = 5 ∨ n = 6 ∨ n = 7 ∨ n = 8 ∨ n = 9 ∨ n = 10 ∨ n = 11 := by omega
  rcases h with rfl | rfl | rfl | rfl | rfl | rfl | rfl | rfl | rfl | rfl | rfl | rfl <;> decide
set_option maxHeartbeats 4000000 in
theorem w_getline {Bd : Nat} {w : World} (e : XE) (A : Option Addr) (c : Nat) (h : EsAt w Bd e.kids (.slice A e.kids.length c)) (hB : Bd ≤ w.heap.size) (hok : e.Ok) : Calls Tryz.prog 41 #[evE e A c] w fun en w' => en = .returned (.bool (getB e)) ∧ Below w.heap.size w w' := by
  have HE := Lib.hid h
  have hs := hok.2.1
  have hn : 0 ≤ e.n ∧ e.n < 18446744073709551616 := by have := hok.2.2; simp [Lit.wf, IntKind.min, IntKind.max, IntKind.bits, IntKind.signed] at this; omega
  have hsz : e.s.size < 9223372036854775808 := by unfold maxLen at hs; omega
  obtain ⟨hc1, hc2⟩ : e.kids.length ≤ c ∧ c ≤ maxLen := by
    obtain ⟨_, _, hv, h1, h2⟩ := h.form
    injection hv with _ _ hcc
    rw [hcc]
    exact ⟨h1, h2⟩
  have hkl : e.kids.length < 9223372036854775808 := by unfold maxLen at hc2; omega
  have HB := Lib.hid ((Below.refl w.heap.size w).alloc (Nat.le_refl _) (.cells #[.int .u8 e.k, .string e.s, .int .u64 e.n, .slice A e.kids.length c] 29))
  have HCC : Hid (c < 9223372036854775808) := by unfold maxLen at hc2; unfold Hid; omega
  clear h hok hs hc1 hc2
  unfold evE
  obtain ⟨k, hk⟩ : ∃ k, k = e.k := ⟨_, rfl⟩
  obtain ⟨s, hs2⟩ : ∃ s, s = e.s := ⟨_, rfl⟩
  obtain ⟨n, hn2⟩ : ∃ n, n = e.n := ⟨_, rfl⟩
  obtain ⟨m, hm2⟩ : ∃ m, m = e.kids.length := ⟨_, rfl⟩
  obtain ⟨z, hz⟩ : ∃ z, z = decide (s.size = 0) := ⟨_, rfl⟩
  have hzz : s.toList = [] ↔ z = true := by
    rw [hz, decide_eq_true_eq, ByteArray.toList_eq]
    simp only [Array.toList_eq_nil_iff]
    show s.data = #[] ↔ s.data.size = 0
    exact Array.size_eq_zero_iff.symm
  have HG : Hid (getB e = (z && (decide (n < 12) && (decide (1 ≤ n % 8 ∧ n % 8 ≤ 3) && (decide (m = getN n) && (decide (n < 8) || kidLB e)))))) := by
    unfold Hid
    rw [hz, hs2, hn2, hm2]
    rfl
  rw [HG.out]
  have HM := Lib.hid hm2
  rw [← hk, ← hs2, ← hn2, ← hm2] at HB ⊢
  rw [← hn2] at hn
  rw [← hs2] at hsz
  rw [← hm2] at hkl
  clear hk hs2 hn2 hm2 HG hz
  have HAB := Lib.hid (fun h => and8 n hn.1 h)
  obtain ⟨t, htt⟩ : ∃ t, t = getN n := ⟨_, rfl⟩
  have HT : Hid ((8 ≤ n ∧ 1 < n % 8 ∧ t = 2) ∨ (8 ≤ n ∧ n % 8 ≤ 1 ∧ t = 1) ∨ (n < 8 ∧ 1 < n % 8 ∧ t = 1) ∨ (n < 8 ∧ n % 8 ≤ 1 ∧ t = 0)) := by
    unfold Hid
    rw [htt]
    unfold getN
    split <;> split <;> omega
  rw [← htt]
  clear htt
  obtain ⟨a, ha⟩ : ∃ a, bits .and .u64 n 8 = a := ⟨_, rfl⟩
  obtain ⟨b, hb⟩ : ∃ b, bits .and .u64 n 7 = b := ⟨_, rfl⟩
  rw [ha, hb] at HAB
  go_enter Tryz.func41, Tryz.ntmps41
  go_wp2_with fail
  obtain ⟨X, hX⟩ : ∃ X, X = w.heap.size := ⟨_, rfl⟩
  have HN := Lib.hid (Blk.new w 29 #[.int .u8 k, .string s, .int .u64 n, .slice A m c])
  rw [← hX] at HN ⊢
  clear hX
  generalize w.alloc (.cells #[.int .u8 k, .string s, .int .u64 n, .slice A m c] 29) = w1 at *
  have HND : Hid (Blk w1.drew X 29 #[.int .u8 k, .string s, .int .u64 n, .slice A m c]) := HN.out
  have HBD := Lib.hid HB.out.drew
  refine wp_region_noPanic ?_
  refine wp_region_ord (fun wd => wd.cell? ⟨X, 2, none⟩ = some (.int .u64 n)) (.read 0 (.read 1 (.read 2 (.read 3 (.read 4 (.read 5 .done)))))) (by kernel_rfl) (by kernel_rfl) (fun _ _ _ _ _ h => h) (HND.out.cell 2) ?_
  simp only [Ord.ops, List.getElem?_toArray, List.getElem?_cons_zero, List.getElem?_cons_succ]
  generalize w1.drew = w2 at *
  iterate 6 (
    refine ord_read ?_ (fun wd hS M hM => ?_) ?_ ?_
    rotate_left
    · have HM := Lib.hid hM
      clear hM
      repeat (first | go_values | go_skip | go_guarded | go_step | go_upon)
      exact HM.out
    · rfl)
  refine NoPanic.normal (?_ : _)
  have c1 : w2.cell? ⟨X, 1, none⟩ = some (.string s) := HND.out.cell 1
  have c2 : w2.cell? ⟨X, 2, none⟩ = some (.int .u64 n) := HND.out.cell 2
  have c3 : w2.cell? ⟨X, 3, none⟩ = some (.slice A m c) := HND.out.cell 3
  by_cases hm0 : 0 < m
  · obtain ⟨kb, ko, kv, rfl, hkb, ⟨y0, y1, y2, y3⟩, hkk⟩ := HE.out.head (by rw [← HM.out]; exact hm0)
    obtain ⟨B1, n1, e1, -, -⟩ := hkk.form
    subst e1
    have hkx : kidLB e = lvalB (e.kids[0]'(by rw [← HM.out]; exact hm0)) := kidL_is _
    generalize (e.kids[0]'(by rw [← HM.out]; exact hm0)) = x at *
    have HKX := Lib.hid hkx
    rw [← cell_keep HBD.out (by omega : kb < w.heap.size)] at y0 y1 y2 y3
    clear hkk hkx
    have hcl : c < 9223372036854775808 := HCC.out
    go_wp2_with fail
    all_goals first
      | (go_ret
         refine ⟨congrArg (fun b => Ending.returned (.bool b)) ?_, HBD.out⟩
         generalize kidLB e = lv at *
         clear HKX HE HM y0 y1 y2 y3
         (by_cases h12 : n < 12; (case pos => (have hab := HAB.out h12; have ht := HT.out; clear HAB HT HCC ha hb HB HN HND HBD c1 c2 c3; simp_all <;> omega)); (case neg => (clear HAB HT HCC ha hb HB HN HND HBD c1 c2 c3; simp_all <;> omega))))
      | skip
    all_goals
      refine (w_lvalue _ _ _ _ _ _ _).mono ?_
      rintro en w3 ⟨rfl, hb3⟩
      have HB3 := Lib.hid (HBD.out.trans (hb3.mono HBD.out.size))
      obtain ⟨lv, hlv⟩ : ∃ lv, lv = (decide (x.k = 4) || (decide (x.k = 5) || decide (x.k = 6))) := ⟨_, rfl⟩
      have HLV : Hid (kidLB e = lv) := by
        unfold Hid
        rw [HKX.out, hlv]
        rfl
      rw [← hlv]
      clear hlv hb3 y0 y1 y2 y3
      go_wp2_with fail
      all_goals
        go_ret
        refine ⟨congrArg (fun b => Ending.returned (.bool b)) ?_, HB3.out⟩
        rw [HLV.out]
        clear HB3 HLV HKX HE HM
        cases lv <;> (by_cases h12 : n < 12; (case pos => (have hab := HAB.out h12; have ht := HT.out; clear HAB HT HCC ha hb HB HN HND HBD c1 c2 c3; simp_all <;> omega)); (case neg => (clear HAB HT HCC ha hb HB HN HND HBD c1 c2 c3; simp_all <;> omega)))
  · have hkl0 : Hid (kidLB e = false) := by
      unfold Hid kidLB
      cases hk : e.kids with
      | nil => rfl
      | cons x r => exfalso; have h := HM.out; rw [hk] at h; simp at h; omega
    go_wp2_with fail
    all_goals
      go_ret
      refine ⟨congrArg (fun b => Ending.returned (.bool b)) ?_, HBD.out⟩
      rw [hkl0.out]
      (by_cases h12 : n < 12; (case pos => (have hab := HAB.out h12; have ht := HT.out; clear HAB HT HCC ha hb HB HN HND HBD c1 c2 c3; simp_all <;> omega)); (case neg => (clear HAB HT HCC ha hb HB HN HND HBD c1 c2 c3; simp_all <;> omega)))
end Go.Proofs.YtmapjahpjolmnaaGreatDoor
namespace Go.Proofs.YtmapjahpjolmnaaGreatDoor
open Go.RowKit Tr
set_option maxRecDepth 20000
/-- A row of statements, opened: its cells, all values slices. -/
theorem SsAt.rows {w : World} {Bd : Nat} {l : List XS} {A : Option Addr} {c : Nat} (h : SsAt w Bd l (.slice A l.length c)) (h0 : 0 < l.length) : ∃ b o, A = some ⟨b, o, none⟩ ∧ b < Bd ∧ ∀ i (h : i < l.length), ∃ A1 c1 A2 c2 A3 c3, scellsT w b (o + i * 7) l[i] (.slice A1 l[i].exprs.length c1) (.slice A2 l[i].body.length c2) (.slice A3 l[i].els.length c3) ∧
    EsAt w Bd l[i].exprs (.slice A1 l[i].exprs.length c1) ∧ SsAt w Bd l[i].body (.slice A2 l[i].body.length c2) ∧ SsAt w Bd l[i].els (.slice A3 l[i].els.length c3) ∧ l[i].Ok := by
  generalize hv : (.slice A l.length c : Value) = v at h
  cases h with
  | mk ev bv lv hc hm hat hok he hb hl =>
    injection hv with h1 h2 h3
    obtain ⟨b, o, e, hlt, hx⟩ := hat h0
    refine ⟨b, o, by rw [h1]; exact e, hlt, fun i h => ?_⟩
    obtain ⟨A1, c1, e1, -, -⟩ := (he i h).form
    obtain ⟨A2, c2, e2, -, -⟩ := (hb i h).form
    obtain ⟨A3, c3, e3, -, -⟩ := (hl i h).form
    have k1 := he i h
    have k2 := hb i h
    have k3 := hl i h
    have k4 := hx i h
    rw [e1] at k1 k4
    rw [e2] at k2 k4
    rw [e3] at k3 k4
    exact ⟨A1, c1, A2, c2, A3, c3, k4, k1, k2, k3, hok i h⟩
theorem sEmpty (s : ByteArray) : s.toList.isEmpty = decide (s.size = 0) := by
  rw [ByteArray.toList_eq]
  have h : s.size = s.data.toList.length := rfl
  rw [h]
  cases s.data.toList with
  | nil => rfl
  | cons a l => simp
theorem SsAt.cap {w : World} {Bd : Nat} {l : List XS} {A : Option Addr} {c : Nat} (h : SsAt w Bd l (.slice A l.length c)) : l.length ≤ c ∧ c < 9223372036854775808 := by
  obtain ⟨_, _, hv, h1, h2⟩ := h.form
  injection hv with _ _ hcc
  unfold maxLen at h2
  omega
theorem EsAt.cap {w : World} {Bd : Nat} {l : List XE} {A : Option Addr} {c : Nat} (h : EsAt w Bd l (.slice A l.length c)) : l.length ≤ c ∧ c < 9223372036854775808 := by
  obtain ⟨_, _, hv, h1, h2⟩ := h.form
  injection hv with _ _ hcc
  unfold maxLen at h2
  omega
set_option maxHeartbeats 4000000 in
theorem w_loop {w : World} {b o : Nat} (e : XS) {A1 A2 A3 : Option Addr} {c1 c2 c3 : Nat} (hc : scellsT w b o e (.slice A1 e.exprs.length c1) (.slice A2 e.body.length c2) (.slice A3 e.els.length c3)) (hl : SsAt w w.heap.size e.els (.slice A3 e.els.length c3)) (he : EsAt w w.heap.size e.exprs (.slice A1 e.exprs.length c1)) (hbw : b < w.heap.size) (hok : e.Ok) :
    Calls Tryz.prog 46 #[.pointer (some ⟨b, o, none⟩)] w fun en w' => en = .returned (.bool (loopB e)) ∧ Below w.heap.size w w' := by
  have HC := Lib.hid hc
  obtain ⟨x0, x1, x2, x3, x4, x5, x6⟩ := hc
  have hcl := hl.cap
  have hce := he.cap
  have HROW := Lib.hid (fun h0 => hl.rows h0)
  clear hl he
  go_enter Tryz.func46, Tryz.ntmps46
  go_wp2_with fail
  clear x0 x1 x2 x3 x4 x5 x6
  go_loopw [4, 10] (fun _ v wr => ∃ i : Nat, v = .int .i64 i ∧ i ≤ e.els.length ∧ Below w.heap.size w wr ∧ ∀ j, j < i → (h2 : j < e.els.length) → e.els[j].k = 1) (fun _ v _ => e.els.length - (intOf v).toNat)
  case atStart => exact ⟨0, rfl, Nat.zero_le _, Below.refl _ _, fun j h => by cases h⟩
  case round =>
    obtain ⟨i, rfl, hi, hbr, hall⟩ := hrel
    have HBR := Lib.hid hbr
    have HALL := Lib.hid hall
    clear hbr hall
    by_cases hlt : i < e.els.length
    · obtain ⟨rb, ro, rfl, hrb, hrow⟩ := HROW.out (by omega)
      obtain ⟨B1, n1, B2, n2, B3, n3, hce1, -, -, -, -⟩ := hrow i hlt
      obtain ⟨y0, y1, y2, y3, y4, y5, y6⟩ := hce1.keep HBR.out hrb
      have HX := Lib.hid (Blk.new wr 50 #[.int .u8 e.els[i].k, .string e.els[i].s, .int .i64 e.els[i].n, .slice B1 e.els[i].exprs.length n1, .slice B2 e.els[i].body.length n2, .slice B3 e.els[i].els.length n3, .int .i64 e.els[i].line])
      have HBX := Lib.hid (HBR.out.alloc HBR.out.size (.cells #[.int .u8 e.els[i].k, .string e.els[i].s, .int .i64 e.els[i].n, .slice B1 e.els[i].exprs.length n1, .slice B2 e.els[i].body.length n2, .slice B3 e.els[i].els.length n3, .int .i64 e.els[i].line] 50))
      clear hrow hce1
      go_upto_region 4 with (fail)
      clear y0 y1 y2 y3 y4 y5 y6
      obtain ⟨xb, hxb⟩ : ∃ x, x = wr.heap.size := ⟨_, rfl⟩
      rw [← hxb] at HX ⊢
      clear hxb
      generalize wr.alloc (.cells #[.int .u8 e.els[i].k, .string e.els[i].s, .int .i64 e.els[i].n, .slice B1 e.els[i].exprs.length n1, .slice B2 e.els[i].body.length n2, .slice B3 e.els[i].els.length n3, .int .i64 e.els[i].line] 50) = wa at *
      have z0 : wa.cell? ⟨xb, 0, none⟩ = some (.int .u8 e.els[i].k) := HX.out.cell 0
      by_cases hk : e.els[i].k = 1
      · have hkb : (e.els[i].k == 1) = true := beq_iff_eq.2 hk
        have HN : Hid (∀ j, j < i + 1 → (h2 : j < e.els.length) → e.els[j].k = 1) := fun j hj h2 => by
          rcases Nat.lt_succ_iff_lt_or_eq.1 hj with h | rfl
          · exact HALL.out j h h2
          · exact hk
        go_wp2_with fail
        go_roundw
        case rel => exact ⟨i + 1, by go_num, by omega, HBX.out, HN.out⟩
        case measure => simp [intOf]; omega
      · have hkb : (e.els[i].k == 1) = false := beq_eq_false_iff_ne.2 hk
        have HF : Hid (loopB e = false) := by
          unfold Hid loopB
          have : e.els.all (fun x => decide (x.k = 1)) = false := by
            rw [List.all_eq_false]
            exact ⟨e.els[i], List.getElem_mem _, by simpa using hk⟩
          rw [this]
          simp
        go_wp2_with fail
        go_ret
        exact ⟨by rw [HF.out]; rfl, HBX.out⟩
    · go_upto_region 7 with (fail)
      have HCR := Lib.hid (HC.out.keep HBR.out hbw)
      have HBD := Lib.hid HBR.out.drew
      have hS0 : wr.drew.cell? ⟨b, o + 1, none⟩ = some (.string e.s) ∧ wr.drew.cell? ⟨b, o + 2, none⟩ = some (.int .i64 e.n) ∧ wr.drew.cell? ⟨b, o + 3, none⟩ = some (.slice A1 e.exprs.length c1) ∧ wr.drew.cell? ⟨b, o + 5, none⟩ = some (.slice A3 e.els.length c3) := ⟨HCR.out.2.1, HCR.out.2.2.1, HCR.out.2.2.2.1, HCR.out.2.2.2.2.2.1⟩
      refine wp_region_noPanic ?_
      refine wp_region_ord (fun wd => wd.cell? ⟨b, o + 1, none⟩ = some (.string e.s) ∧ wd.cell? ⟨b, o + 2, none⟩ = some (.int .i64 e.n) ∧ wd.cell? ⟨b, o + 3, none⟩ = some (.slice A1 e.exprs.length c1) ∧ wd.cell? ⟨b, o + 5, none⟩ = some (.slice A3 e.els.length c3)) (.read 0 (.read 1 (.read 2 (.read 3 (.read 4 (.read 5 (.read 6 (.read 7 (.read 8 (.read 9 (.read 10 (.read 11 (.read 12 (.read 13 (.read 14 (.read 15 (.read 16 (.read 17 (.read 18 (.read 19 (.read 20 (.read 21 (.read 22 (.read 23 (.read 24 (.read 25 (.read 26 (.read 27 (.read 28 (.read 29 (.read 30 (.read 31 (.read 32 (.read 33 (.read 34 (.read 35 (.read 36 (.read 37 (.read 38 (.read 39 (.read 40 (.read 41 (.read 42 (.read 43 (.read 44 (.read 45 (.read 46 (.read 47 (.read 48 (.read 49 (.read 50 (.read 51 (.read 52 .done))))))))))))))))))))))))))))))))))))))))))))))))))))) (by kernel_rfl) (by kernel_rfl) (fun _ _ _ _ _ h => h) hS0 ?_
      simp only [Ord.ops, List.getElem?_toArray, List.getElem?_cons_zero, List.getElem?_cons_succ]
      clear hS0
      generalize wr.drew = wq at *
      have hse := sEmpty e.s
      cases hz : e.s.toList.isEmpty
      · have HF : Hid (loopB e = false) := by
          unfold Hid loopB
          rw [← hse, hz, Bool.false_and]
        clear hse
        (iterate 53 (refine ord_read ?_ (fun wd hS M hM => ?_) ?_ ?_; rotate_left; (have HM := Lib.hid hM; obtain ⟨z1, z2, z3, z5⟩ := hS; clear hM; (repeat (first | go_values | go_skip | go_guarded | go_step | go_upon)); exact HM.out); rfl))
        refine NoPanic.normal (?_ : _)
        go_wp2_with fail
        go_ret
        exact ⟨by rw [HF.out]; rfl, HBD.out⟩
      · have hall : e.els.all (fun x => decide (x.k = 1)) = true := by
          rw [List.all_eq_true]
          intro x hx
          obtain ⟨j, hj, rfl⟩ := List.getElem_of_mem hx
          simpa using HALL.out j (by omega) hj
        have hlb : loopB e = (decide (0 ≤ e.n ∧ e.n ≤ 7) && (decide ((e.exprs.length : Int) = e.n / 2 % 2) && decide ((e.els.length : Int) = e.n % 2 + e.n / 4))) := by
          unfold loopB
          rw [← hse, hz, hall, Bool.true_and, Bool.and_true]
        have HLB := Lib.hid hlb
        clear hlb hall hse
        have hways : e.n < 0 ∨ 7 < e.n ∨ e.n = 0 ∨ e.n = 1 ∨ e.n = 2 ∨ e.n = 3 ∨ e.n = 4 ∨ e.n = 5 ∨ e.n = 6 ∨ e.n = 7 := by omega
        rcases hways with hn | hn | hn | hn | hn | hn | hn | hn | hn | hn
        · have HF : Hid (loopB e = false) := by
            unfold Hid
            rw [HLB.out, decide_eq_false (by omega), Bool.false_and]
          have hd0 : decide (0 ≤ e.n) = false := decide_eq_false (by omega)
          have hd1 : ¬ 0 ≤ e.n := by omega
          (iterate 53 (refine ord_read ?_ (fun wd hS M hM => ?_) ?_ ?_; rotate_left; (have HM := Lib.hid hM; obtain ⟨z1, z2, z3, z5⟩ := hS; clear hM; (repeat (first | go_values | go_skip | go_guarded | go_step | go_upon)); exact HM.out); rfl))
          refine NoPanic.normal (?_ : _)
          go_wp2_with fail
          go_ret
          exact ⟨by rw [HF.out]; rfl, HBD.out⟩
        · have HF : Hid (loopB e = false) := by
            unfold Hid
            rw [HLB.out, decide_eq_false (by omega), Bool.false_and]
          have hd0 : decide (0 ≤ e.n) = true := decide_eq_true (by omega)
          have hd1 : decide (e.n ≤ 7) = false := decide_eq_false (by omega)
          have hd2 : ¬ e.n ≤ 7 := by omega
          (iterate 53 (refine ord_read ?_ (fun wd hS M hM => ?_) ?_ ?_; rotate_left; (have HM := Lib.hid hM; obtain ⟨z1, z2, z3, z5⟩ := hS; clear hM; (repeat (first | go_values | go_skip | go_guarded | go_step | go_upon)); exact HM.out); rfl))
          refine NoPanic.normal (?_ : _)
          go_wp2_with fail
          go_ret
          exact ⟨by rw [HF.out]; rfl, HBD.out⟩
        · have hbA : bits .and .i64 0 1 = 0 := by decide
          by_cases hE : e.exprs.length = 0
          · by_cases hX : e.els.length = 0
            · have HF : Hid (loopB e = true) := by
                unfold Hid
                rw [HLB.out, hn, hE, hX]
                rfl
              have hE1 : ((e.exprs.length : Int) == 0) = true := beq_iff_eq.2 (by omega)
              have hX1 : ((e.els.length : Int) == 0) = true := beq_iff_eq.2 (by omega)
              clear hE hX
              rw [hn]
              (iterate 53 (refine ord_read ?_ (fun wd hS M hM => ?_) ?_ ?_; rotate_left; (have HM := Lib.hid hM; obtain ⟨z1, z2, z3, z5⟩ := hS; clear hM; (repeat (first | go_values | go_skip | go_guarded | go_step | go_upon)); exact HM.out); rfl))
              refine NoPanic.normal (?_ : _)
              go_wp2_with fail
              go_ret
              exact ⟨by rw [HF.out]; rfl, HBD.out⟩
            · have HF : Hid (loopB e = false) := by
                unfold Hid
                rw [HLB.out, hn, decide_eq_false (show ¬ (e.els.length : Int) = 0 % 2 + 0 / 4 by omega), Bool.and_false, Bool.and_false]
              have hX2 : ((e.els.length : Int) == 0) = false := beq_eq_false_iff_ne.2 (by omega)
              have hE1 : ((e.exprs.length : Int) == 0) = true := beq_iff_eq.2 (by omega)
              clear hE hX
              rw [hn]
              (iterate 53 (refine ord_read ?_ (fun wd hS M hM => ?_) ?_ ?_; rotate_left; (have HM := Lib.hid hM; obtain ⟨z1, z2, z3, z5⟩ := hS; clear hM; (repeat (first | go_values | go_skip | go_guarded | go_step | go_upon)); exact HM.out); rfl))
              refine NoPanic.normal (?_ : _)
              go_wp2_with fail
              go_ret
              exact ⟨by rw [HF.out]; rfl, HBD.out⟩
          · have HF : Hid (loopB e = false) := by
              unfold Hid
              rw [HLB.out, hn, decide_eq_false (show ¬ (e.exprs.length : Int) = 0 / 2 % 2 by omega), Bool.false_and, Bool.and_false]
            have hE2 : ((e.exprs.length : Int) == 0) = false := beq_eq_false_iff_ne.2 (by omega)
            clear hE
            rw [hn]
            (iterate 53 (refine ord_read ?_ (fun wd hS M hM => ?_) ?_ ?_; rotate_left; (have HM := Lib.hid hM; obtain ⟨z1, z2, z3, z5⟩ := hS; clear hM; (repeat (first | go_values | go_skip | go_guarded | go_step | go_upon)); exact HM.out); rfl))
            refine NoPanic.normal (?_ : _)
            go_wp2_with fail
            go_ret
            exact ⟨by rw [HF.out]; rfl, HBD.out⟩
        · have hbA : bits .and .i64 0 1 = 0 := by decide
          have hbB : bits .and .i64 1 1 = 1 := by decide
          by_cases hE : e.exprs.length = 0
          · by_cases hX : e.els.length = 1
            · have HF : Hid (loopB e = true) := by
                unfold Hid
                rw [HLB.out, hn, hE, hX]
                rfl
              have hE1 : ((e.exprs.length : Int) == 0) = true := beq_iff_eq.2 (by omega)
              have hX1 : ((e.els.length : Int) == 1) = true := beq_iff_eq.2 (by omega)
              clear hE hX
              rw [hn]
              (iterate 53 (refine ord_read ?_ (fun wd hS M hM => ?_) ?_ ?_; rotate_left; (have HM := Lib.hid hM; obtain ⟨z1, z2, z3, z5⟩ := hS; clear hM; (repeat (first | go_values | go_skip | go_guarded | go_step | go_upon)); exact HM.out); rfl))
              refine NoPanic.normal (?_ : _)
              go_wp2_with fail
              go_ret
              exact ⟨by rw [HF.out]; rfl, HBD.out⟩
            · have HF : Hid (loopB e = false) := by
                unfold Hid
                rw [HLB.out, hn, decide_eq_false (show ¬ (e.els.length : Int) = 1 % 2 + 1 / 4 by omega), Bool.and_false, Bool.and_false]
              have hX2 : ((e.els.length : Int) == 1) = false := beq_eq_false_iff_ne.2 (by omega)
              have hE1 : ((e.exprs.length : Int) == 0) = true := beq_iff_eq.2 (by omega)
              clear hE hX
              rw [hn]
              (iterate 53 (refine ord_read ?_ (fun wd hS M hM => ?_) ?_ ?_; rotate_left; (have HM := Lib.hid hM; obtain ⟨z1, z2, z3, z5⟩ := hS; clear hM; (repeat (first | go_values | go_skip | go_guarded | go_step | go_upon)); exact HM.out); rfl))
              refine NoPanic.normal (?_ : _)
              go_wp2_with fail
              go_ret
              exact ⟨by rw [HF.out]; rfl, HBD.out⟩
          · have HF : Hid (loopB e = false) := by
              unfold Hid
              rw [HLB.out, hn, decide_eq_false (show ¬ (e.exprs.length : Int) = 1 / 2 % 2 by omega), Bool.false_and, Bool.and_false]
            have hE2 : ((e.exprs.length : Int) == 0) = false := beq_eq_false_iff_ne.2 (by omega)
            clear hE
            rw [hn]
            (iterate 53 (refine ord_read ?_ (fun wd hS M hM => ?_) ?_ ?_; rotate_left; (have HM := Lib.hid hM; obtain ⟨z1, z2, z3, z5⟩ := hS; clear hM; (repeat (first | go_values | go_skip | go_guarded | go_step | go_upon)); exact HM.out); rfl))
            refine NoPanic.normal (?_ : _)
            go_wp2_with fail
            go_ret
            exact ⟨by rw [HF.out]; rfl, HBD.out⟩
        · have hbA : bits .and .i64 1 1 = 1 := by decide
          have hbB : bits .and .i64 2 1 = 0 := by decide
          by_cases hE : e.exprs.length = 1
          · by_cases hX : e.els.length = 0
            · have HF : Hid (loopB e = true) := by
                unfold Hid
                rw [HLB.out, hn, hE, hX]
                rfl
              have hE1 : ((e.exprs.length : Int) == 1) = true := beq_iff_eq.2 (by omega)
              have hX1 : ((e.els.length : Int) == 0) = true := beq_iff_eq.2 (by omega)
              clear hE hX
              rw [hn]
              (iterate 53 (refine ord_read ?_ (fun wd hS M hM => ?_) ?_ ?_; rotate_left; (have HM := Lib.hid hM; obtain ⟨z1, z2, z3, z5⟩ := hS; clear hM; (repeat (first | go_values | go_skip | go_guarded | go_step | go_upon)); exact HM.out); rfl))
              refine NoPanic.normal (?_ : _)
              go_wp2_with fail
              go_ret
              exact ⟨by rw [HF.out]; rfl, HBD.out⟩
            · have HF : Hid (loopB e = false) := by
                unfold Hid
                rw [HLB.out, hn, decide_eq_false (show ¬ (e.els.length : Int) = 2 % 2 + 2 / 4 by omega), Bool.and_false, Bool.and_false]
              have hX2 : ((e.els.length : Int) == 0) = false := beq_eq_false_iff_ne.2 (by omega)
              have hE1 : ((e.exprs.length : Int) == 1) = true := beq_iff_eq.2 (by omega)
              clear hE hX
              rw [hn]
              (iterate 53 (refine ord_read ?_ (fun wd hS M hM => ?_) ?_ ?_; rotate_left; (have HM := Lib.hid hM; obtain ⟨z1, z2, z3, z5⟩ := hS; clear hM; (repeat (first | go_values | go_skip | go_guarded | go_step | go_upon)); exact HM.out); rfl))
              refine NoPanic.normal (?_ : _)
              go_wp2_with fail
              go_ret
              exact ⟨by rw [HF.out]; rfl, HBD.out⟩
          · have HF : Hid (loopB e = false) := by
              unfold Hid
              rw [HLB.out, hn, decide_eq_false (show ¬ (e.exprs.length : Int) = 2 / 2 % 2 by omega), Bool.false_and, Bool.and_false]
            have hE2 : ((e.exprs.length : Int) == 1) = false := beq_eq_false_iff_ne.2 (by omega)
            clear hE
            rw [hn]
            (iterate 53 (refine ord_read ?_ (fun wd hS M hM => ?_) ?_ ?_; rotate_left; (have HM := Lib.hid hM; obtain ⟨z1, z2, z3, z5⟩ := hS; clear hM; (repeat (first | go_values | go_skip | go_guarded | go_step | go_upon)); exact HM.out); rfl))
            refine NoPanic.normal (?_ : _)
            go_wp2_with fail
            go_ret
            exact ⟨by rw [HF.out]; rfl, HBD.out⟩
        · have hbA : bits .and .i64 1 1 = 1 := by decide
          have hbB : bits .and .i64 3 1 = 1 := by decide
          by_cases hE : e.exprs.length = 1
          · by_cases hX : e.els.length = 1
            · have HF : Hid (loopB e = true) := by
                unfold Hid
                rw [HLB.out, hn, hE, hX]
                rfl
              have hE1 : ((e.exprs.length : Int) == 1) = true := beq_iff_eq.2 (by omega)
              have hX1 : ((e.els.length : Int) == 1) = true := beq_iff_eq.2 (by omega)
              clear hE hX
              rw [hn]
              (iterate 53 (refine ord_read ?_ (fun wd hS M hM => ?_) ?_ ?_; rotate_left; (have HM := Lib.hid hM; obtain ⟨z1, z2, z3, z5⟩ := hS; clear hM; (repeat (first | go_values | go_skip | go_guarded | go_step | go_upon)); exact HM.out); rfl))
              refine NoPanic.normal (?_ : _)
              go_wp2_with fail
              go_ret
              exact ⟨by rw [HF.out]; rfl, HBD.out⟩
            · have HF : Hid (loopB e = false) := by
                unfold Hid
                rw [HLB.out, hn, decide_eq_false (show ¬ (e.els.length : Int) = 3 % 2 + 3 / 4 by omega), Bool.and_false, Bool.and_false]
              have hX2 : ((e.els.length : Int) == 1) = false := beq_eq_false_iff_ne.2 (by omega)
              have hE1 : ((e.exprs.length : Int) == 1) = true := beq_iff_eq.2 (by omega)
              clear hE hX
              rw [hn]
              (iterate 53 (refine ord_read ?_ (fun wd hS M hM => ?_) ?_ ?_; rotate_left; (have HM := Lib.hid hM; obtain ⟨z1, z2, z3, z5⟩ := hS; clear hM; (repeat (first | go_values | go_skip | go_guarded | go_step | go_upon)); exact HM.out); rfl))
              refine NoPanic.normal (?_ : _)
              go_wp2_with fail
              go_ret
              exact ⟨by rw [HF.out]; rfl, HBD.out⟩
          · have HF : Hid (loopB e = false) := by
              unfold Hid
              rw [HLB.out, hn, decide_eq_false (show ¬ (e.exprs.length : Int) = 3 / 2 % 2 by omega), Bool.false_and, Bool.and_false]
            have hE2 : ((e.exprs.length : Int) == 1) = false := beq_eq_false_iff_ne.2 (by omega)
            clear hE
            rw [hn]
            (iterate 53 (refine ord_read ?_ (fun wd hS M hM => ?_) ?_ ?_; rotate_left; (have HM := Lib.hid hM; obtain ⟨z1, z2, z3, z5⟩ := hS; clear hM; (repeat (first | go_values | go_skip | go_guarded | go_step | go_upon)); exact HM.out); rfl))
            refine NoPanic.normal (?_ : _)
            go_wp2_with fail
            go_ret
            exact ⟨by rw [HF.out]; rfl, HBD.out⟩
        · have hbA : bits .and .i64 2 1 = 0 := by decide
          have hbB : bits .and .i64 4 1 = 0 := by decide
          by_cases hE : e.exprs.length = 0
          · by_cases hX : e.els.length = 1
            · have HF : Hid (loopB e = true) := by
                unfold Hid
                rw [HLB.out, hn, hE, hX]
                rfl
              have hE1 : ((e.exprs.length : Int) == 0) = true := beq_iff_eq.2 (by omega)
              have hX1 : ((e.els.length : Int) == 1) = true := beq_iff_eq.2 (by omega)
              clear hE hX
              rw [hn]
              (iterate 53 (refine ord_read ?_ (fun wd hS M hM => ?_) ?_ ?_; rotate_left; (have HM := Lib.hid hM; obtain ⟨z1, z2, z3, z5⟩ := hS; clear hM; (repeat (first | go_values | go_skip | go_guarded | go_step | go_upon)); exact HM.out); rfl))
              refine NoPanic.normal (?_ : _)
              go_wp2_with fail
              go_ret
              exact ⟨by rw [HF.out]; rfl, HBD.out⟩
            · have HF : Hid (loopB e = false) := by
                unfold Hid
                rw [HLB.out, hn, decide_eq_false (show ¬ (e.els.length : Int) = 4 % 2 + 4 / 4 by omega), Bool.and_false, Bool.and_false]
              have hX2 : ((e.els.length : Int) == 1) = false := beq_eq_false_iff_ne.2 (by omega)
              have hE1 : ((e.exprs.length : Int) == 0) = true := beq_iff_eq.2 (by omega)
              clear hE hX
              rw [hn]
              (iterate 53 (refine ord_read ?_ (fun wd hS M hM => ?_) ?_ ?_; rotate_left; (have HM := Lib.hid hM; obtain ⟨z1, z2, z3, z5⟩ := hS; clear hM; (repeat (first | go_values | go_skip | go_guarded | go_step | go_upon)); exact HM.out); rfl))
              refine NoPanic.normal (?_ : _)
              go_wp2_with fail
              go_ret
              exact ⟨by rw [HF.out]; rfl, HBD.out⟩
          · have HF : Hid (loopB e = false) := by
              unfold Hid
              rw [HLB.out, hn, decide_eq_false (show ¬ (e.exprs.length : Int) = 4 / 2 % 2 by omega), Bool.false_and, Bool.and_false]
            have hE2 : ((e.exprs.length : Int) == 0) = false := beq_eq_false_iff_ne.2 (by omega)
            clear hE
            rw [hn]
            (iterate 53 (refine ord_read ?_ (fun wd hS M hM => ?_) ?_ ?_; rotate_left; (have HM := Lib.hid hM; obtain ⟨z1, z2, z3, z5⟩ := hS; clear hM; (repeat (first | go_values | go_skip | go_guarded | go_step | go_upon)); exact HM.out); rfl))
            refine NoPanic.normal (?_ : _)
            go_wp2_with fail
            go_ret
            exact ⟨by rw [HF.out]; rfl, HBD.out⟩
        · have hbA : bits .and .i64 2 1 = 0 := by decide
          have hbB : bits .and .i64 5 1 = 1 := by decide
          by_cases hE : e.exprs.length = 0
          · by_cases hX : e.els.length = 2
            · have HF : Hid (loopB e = true) := by
                unfold Hid
                rw [HLB.out, hn, hE, hX]
                rfl
              have hE1 : ((e.exprs.length : Int) == 0) = true := beq_iff_eq.2 (by omega)
              have hX1 : ((e.els.length : Int) == 2) = true := beq_iff_eq.2 (by omega)
              clear hE hX
              rw [hn]
              (iterate 53 (refine ord_read ?_ (fun wd hS M hM => ?_) ?_ ?_; rotate_left; (have HM := Lib.hid hM; obtain ⟨z1, z2, z3, z5⟩ := hS; clear hM; (repeat (first | go_values | go_skip | go_guarded | go_step | go_upon)); exact HM.out); rfl))
              refine NoPanic.normal (?_ : _)
              go_wp2_with fail
              go_ret
              exact ⟨by rw [HF.out]; rfl, HBD.out⟩
            · have HF : Hid (loopB e = false) := by
                unfold Hid
                rw [HLB.out, hn, decide_eq_false (show ¬ (e.els.length : Int) = 5 % 2 + 5 / 4 by omega), Bool.and_false, Bool.and_false]
              have hX2 : ((e.els.length : Int) == 2) = false := beq_eq_false_iff_ne.2 (by omega)
              have hE1 : ((e.exprs.length : Int) == 0) = true := beq_iff_eq.2 (by omega)
              clear hE hX
              rw [hn]
              (iterate 53 (refine ord_read ?_ (fun wd hS M hM => ?_) ?_ ?_; rotate_left; (have HM := Lib.hid hM; obtain ⟨z1, z2, z3, z5⟩ := hS; clear hM; (repeat (first | go_values | go_skip | go_guarded | go_step | go_upon)); exact HM.out); rfl))
              refine NoPanic.normal (?_ : _)
              go_wp2_with fail
              go_ret
              exact ⟨by rw [HF.out]; rfl, HBD.out⟩
          · have HF : Hid (loopB e = false) := by
              unfold Hid
              rw [HLB.out, hn, decide_eq_false (show ¬ (e.exprs.length : Int) = 5 / 2 % 2 by omega), Bool.false_and, Bool.and_false]
            have hE2 : ((e.exprs.length : Int) == 0) = false := beq_eq_false_iff_ne.2 (by omega)
            clear hE
            rw [hn]
            (iterate 53 (refine ord_read ?_ (fun wd hS M hM => ?_) ?_ ?_; rotate_left; (have HM := Lib.hid hM; obtain ⟨z1, z2, z3, z5⟩ := hS; clear hM; (repeat (first | go_values | go_skip | go_guarded | go_step | go_upon)); exact HM.out); rfl))
            refine NoPanic.normal (?_ : _)
            go_wp2_with fail
            go_ret
            exact ⟨by rw [HF.out]; rfl, HBD.out⟩
        · have hbA : bits .and .i64 3 1 = 1 := by decide
          have hbB : bits .and .i64 6 1 = 0 := by decide
          by_cases hE : e.exprs.length = 1
          · by_cases hX : e.els.length = 1
            · have HF : Hid (loopB e = true) := by
                unfold Hid
                rw [HLB.out, hn, hE, hX]
                rfl
              have hE1 : ((e.exprs.length : Int) == 1) = true := beq_iff_eq.2 (by omega)
              have hX1 : ((e.els.length : Int) == 1) = true := beq_iff_eq.2 (by omega)
              clear hE hX
              rw [hn]
              (iterate 53 (refine ord_read ?_ (fun wd hS M hM => ?_) ?_ ?_; rotate_left; (have HM := Lib.hid hM; obtain ⟨z1, z2, z3, z5⟩ := hS; clear hM; (repeat (first | go_values | go_skip | go_guarded | go_step | go_upon)); exact HM.out); rfl))
              refine NoPanic.normal (?_ : _)
              go_wp2_with fail
              go_ret
              exact ⟨by rw [HF.out]; rfl, HBD.out⟩
            · have HF : Hid (loopB e = false) := by
                unfold Hid
                rw [HLB.out, hn, decide_eq_false (show ¬ (e.els.length : Int) = 6 % 2 + 6 / 4 by omega), Bool.and_false, Bool.and_false]
              have hX2 : ((e.els.length : Int) == 1) = false := beq_eq_false_iff_ne.2 (by omega)
              have hE1 : ((e.exprs.length : Int) == 1) = true := beq_iff_eq.2 (by omega)
              clear hE hX
              rw [hn]
              (iterate 53 (refine ord_read ?_ (fun wd hS M hM => ?_) ?_ ?_; rotate_left; (have HM := Lib.hid hM; obtain ⟨z1, z2, z3, z5⟩ := hS; clear hM; (repeat (first | go_values | go_skip | go_guarded | go_step | go_upon)); exact HM.out); rfl))
              refine NoPanic.normal (?_ : _)
              go_wp2_with fail
              go_ret
              exact ⟨by rw [HF.out]; rfl, HBD.out⟩
          · have HF : Hid (loopB e = false) := by
              unfold Hid
              rw [HLB.out, hn, decide_eq_false (show ¬ (e.exprs.length : Int) = 6 / 2 % 2 by omega), Bool.false_and, Bool.and_false]
            have hE2 : ((e.exprs.length : Int) == 1) = false := beq_eq_false_iff_ne.2 (by omega)
            clear hE
            rw [hn]
            (iterate 53 (refine ord_read ?_ (fun wd hS M hM => ?_) ?_ ?_; rotate_left; (have HM := Lib.hid hM; obtain ⟨z1, z2, z3, z5⟩ := hS; clear hM; (repeat (first | go_values | go_skip | go_guarded | go_step | go_upon)); exact HM.out); rfl))
            refine NoPanic.normal (?_ : _)
            go_wp2_with fail
            go_ret
            exact ⟨by rw [HF.out]; rfl, HBD.out⟩
        · have hbA : bits .and .i64 3 1 = 1 := by decide
          have hbB : bits .and .i64 7 1 = 1 := by decide
          by_cases hE : e.exprs.length = 1
          · by_cases hX : e.els.length = 2
            · have HF : Hid (loopB e = true) := by
                unfold Hid
                rw [HLB.out, hn, hE, hX]
                rfl
              have hE1 : ((e.exprs.length : Int) == 1) = true := beq_iff_eq.2 (by omega)
              have hX1 : ((e.els.length : Int) == 2) = true := beq_iff_eq.2 (by omega)
              clear hE hX
              rw [hn]
              (iterate 53 (refine ord_read ?_ (fun wd hS M hM => ?_) ?_ ?_; rotate_left; (have HM := Lib.hid hM; obtain ⟨z1, z2, z3, z5⟩ := hS; clear hM; (repeat (first | go_values | go_skip | go_guarded | go_step | go_upon)); exact HM.out); rfl))
              refine NoPanic.normal (?_ : _)
              go_wp2_with fail
              go_ret
              exact ⟨by rw [HF.out]; rfl, HBD.out⟩
            · have HF : Hid (loopB e = false) := by
                unfold Hid
                rw [HLB.out, hn, decide_eq_false (show ¬ (e.els.length : Int) = 7 % 2 + 7 / 4 by omega), Bool.and_false, Bool.and_false]
              have hX2 : ((e.els.length : Int) == 2) = false := beq_eq_false_iff_ne.2 (by omega)
              have hE1 : ((e.exprs.length : Int) == 1) = true := beq_iff_eq.2 (by omega)
              clear hE hX
              rw [hn]
              (iterate 53 (refine ord_read ?_ (fun wd hS M hM => ?_) ?_ ?_; rotate_left; (have HM := Lib.hid hM; obtain ⟨z1, z2, z3, z5⟩ := hS; clear hM; (repeat (first | go_values | go_skip | go_guarded | go_step | go_upon)); exact HM.out); rfl))
              refine NoPanic.normal (?_ : _)
              go_wp2_with fail
              go_ret
              exact ⟨by rw [HF.out]; rfl, HBD.out⟩
          · have HF : Hid (loopB e = false) := by
              unfold Hid
              rw [HLB.out, hn, decide_eq_false (show ¬ (e.exprs.length : Int) = 7 / 2 % 2 by omega), Bool.false_and, Bool.and_false]
            have hE2 : ((e.exprs.length : Int) == 1) = false := beq_eq_false_iff_ne.2 (by omega)
            clear hE
            rw [hn]
            (iterate 53 (refine ord_read ?_ (fun wd hS M hM => ?_) ?_ ?_; rotate_left; (have HM := Lib.hid hM; obtain ⟨z1, z2, z3, z5⟩ := hS; clear hM; (repeat (first | go_values | go_skip | go_guarded | go_step | go_upon)); exact HM.out); rfl))
            refine NoPanic.normal (?_ : _)
            go_wp2_with fail
            go_ret
            exact ⟨by rw [HF.out]; rfl, HBD.out⟩
end Go.Proofs.YtmapjahpjolmnaaGreatDoor
namespace Go.Proofs.YtmapjahpjolmnaaGreatDoor
open Go.RowKit
open Go.ChangeMaps (setBlock heap_setBlock_same heap_setBlock_other)

/-- Block b is a map whose entries are these. -/
def MapLit (w : World) (b : Nat) (T : List (Value × Value)) : Prop := ∃ es c, w.heap[b]? = some (.map es c) ∧ es.toList.map (fun e => (e.key, e.val)) = T
/-- What stands at a key. -/
def litAt (d : TypeDesc) (k : Value) : List (Value × Value) → Option (Option Value)
  | [] => some none
  | (k', v) :: r => match Instr.sameNow d k k' with
    | some true => some (some v)
    | some false => litAt d k r
    | none => none
theorem litAt_find {d : TypeDesc} {k : Value} : ∀ (es : List MapEntry) (i : Nat) (q : Option Value), litAt d k (es.map (fun e => (e.key, e.val))) = some q → ∃ q', Instr.findNow d k es i = some q' ∧ q'.map (·.2) = q
  | [], i, q, h => ⟨none, rfl, by simpa [litAt] using h⟩
  | e :: es, i, q, h => by
    simp only [List.map_cons, litAt] at h
    unfold Instr.findNow
    split at h
    · rename_i hs
      rw [hs]
      exact ⟨some (i, e.val), rfl, by simpa using h⟩
    · rename_i hs
      rw [hs]
      exact litAt_find es (i + 1) q h
    · cases h
section
variable {P : Program} {w : World} {b : Nat} {T : List (Value × Value)} {t kt e : TypeId} {d : TypeDesc}
theorem MapLit.lt (h : MapLit w b T) : b < w.heap.size := by
  obtain ⟨es, c, h, _⟩ := h
  exact (Array.getElem?_eq_some_iff.1 h).1
theorem MapLit.made (w : World) : MapLit (w.alloc (.map #[] 0)) w.heap.size [] := ⟨#[], 0, (MapKept.heap_alloc w _).1, rfl⟩
theorem MapLit.keep {w' : World} (h : MapLit w b T) (hb : w'.heap[b]? = w.heap[b]?) : MapLit w' b T := by
  obtain ⟨es, c, h1, h2⟩ := h
  exact ⟨es, c, hb.trans h1, h2⟩
theorem run_ckey {key : Value} (hk : P.underlying kt = some d) (hd : (∃ i n, d = .int i ∧ key = .int i n) ∨ (∃ s, d = .string ∧ key = .string s)) (x : Bool) : (Instr.checkKey x 10000 kt key).run P w = .ok () w := by
  show (Instr.checkKey x (9999 + 1) kt key).run P w = _
  unfold Instr.checkKey
  rcases hd with ⟨i, n, rfl, rfl⟩ | ⟨s, rfl, rfl⟩ <;> simp [run_underlying hk, Result.andThen]
theorem run_fkey {key : Value} {es : List MapEntry} {q : Option (Nat × Value)} (hk : P.underlying kt = some d) (hf : Instr.findNow d key es 0 = some q) : (Instr.findKey kt key es).run P w = .ok q w := by
  unfold Instr.findKey
  simp [run_underlying hk, Result.andThen, hf]
theorem MapLit.run_look (h : MapLit w b T) {key z : Value} {q : Option Value} (ht : P.underlying t = some (.map kt e)) (hk : P.underlying kt = some d) (hd : (∃ i n, d = .int i ∧ key = .int i n) ∨ (∃ s, d = .string ∧ key = .string s))
    (hz : (zeroValue e).run P w = .ok z w) (hq : litAt d key T = some q) : (Instr.lookup t (.map (some b)) key true).run P w = .ok (.tuple #[q.getD z, .bool q.isSome]) w := by
  obtain ⟨es, c, h1, rfl⟩ := h
  obtain ⟨q', hf, rfl⟩ := litAt_find es.toList 0 q hq
  unfold Instr.lookup
  cases q' <;> simp [run_underlying ht, MapKept.run_getObj_map h1, Result.andThen, run_ckey (w := w) hk hd, run_fkey (w := w) hk hf, hz]
theorem MapLit.run_put (h : MapLit w b T) {key v : Value} (ht : P.underlying t = some (.map kt e)) (hk : P.underlying kt = some d) (hd : (∃ i n, d = .int i ∧ key = .int i n) ∨ (∃ s, d = .string ∧ key = .string s))
    (hq : litAt d key T = some none) : ∃ w', (Instr.mapUpdate t (.map (some b)) key v).run P w = .ok () w' ∧ MapLit w' b (T ++ [(key, v)]) ∧ w'.heap.size = w.heap.size ∧ Tur (· = b) w w' := by
  obtain ⟨es, c, h1, rfl⟩ := h
  obtain ⟨q', hf, hq'⟩ := litAt_find es.toList 0 none hq
  obtain rfl : q' = none := by cases q' <;> simp_all
  refine ⟨setBlock w b (.map (es.push ⟨key, v, c⟩) (c + 1)), ?_, ⟨_, _, heap_setBlock_same h1 _, by simp⟩, by simp [setBlock], ⟨rfl, rfl, rfl, by simp [setBlock], fun k _ hk => heap_setBlock_other h1 _ hk⟩⟩
  have hs : ∀ o, (setObj b o).run P w = .ok () (setBlock w b o) := fun o => by simp [setObj, Sem.run, h1, setBlock]
  unfold Instr.mapUpdate
  simp [run_underlying ht, MapKept.run_getObj_map h1, Result.andThen, run_ckey (w := w) hk hd, run_fkey (w := w) hk hf, hs]
variable {ops : Array Oper} {rest : List Oper} {o : Oper} {a : Act} {Q : Exit → Act → World → Prop}
theorem wp_lit_put (hg : o.guard = none) (m x v : Operand) (t kt e : TypeId) (hop : o.op = Op.insert t m x v) (d : TypeDesc) (ht : P.underlying t = some (.map kt e)) (hk : P.underlying kt = some d) (key : Value) (hd : (∃ i n, d = .int i ∧ key = .int i n) ∨ (∃ s, d = .string ∧ key = .string s))
    (hm : a.eval m = .map (some b)) (hx : a.eval x = key) (h : MapLit w b T) (hq : litAt d key T = some none)
    (hK : ∀ w', MapLit w' b (T ++ [(key, a.eval v)]) → w'.heap.size = w.heap.size → Tur (· = b) w w' → wpList P ops Q rest (a.put o.dst undef) w') : wpList P ops Q (o :: rest) a w := by
  refine wpList_plain hg fun K' hK' => ?_
  obtain ⟨w', h1, h2, h3, h4⟩ := h.run_put (v := a.eval v) ht hk hd hq
  unfold Oper.wp
  simp [execOp, hop, hm, hx, h1, Result.andThen]
  exact hK' _ _ (hK w' h2 h3 h4)
/-- No key of the list stands ahead of itself. -/
def freshB (d : TypeDesc) (L : List (Value × Value)) : Bool := (List.range L.length).all fun k => match L[k]? with
  | some (key, _) => (match litAt d key (L.take k) with | some none => true | _ => false)
  | none => false
theorem fresh_at {d : TypeDesc} {L : List (Value × Value)} (h : freshB d L = true) {k : Nat} {key v : Value} (hk : L[k]? = some (key, v)) : litAt d key (L.take k) = some none := by
  have hlt := (List.getElem?_eq_some_iff.1 hk).1
  have h1 := List.all_eq_true.1 h k (List.mem_range.2 hlt)
  simp only [hk] at h1
  split at h1 <;> simp_all
theorem take_snoc' {α : Type} {L : List α} {k : Nat} {x : α} (hk : L[k]? = some x) : L.take (k + 1) = L.take k ++ [x] := by
  rw [List.take_add_one, hk]; rfl
theorem wp_lit_put_at (hg : o.guard = none) (m x v : Operand) (t kt e : TypeId) (hop : o.op = Op.insert t m x v) (d : TypeDesc) (ht : P.underlying t = some (.map kt e)) (hk : P.underlying kt = some d) (L : List (Value × Value)) (hD : freshB d L = true) (k : Nat) (h : MapLit w b (L.take k)) (key : Value) (hd : (∃ i n, d = .int i ∧ key = .int i n) ∨ (∃ s, d = .string ∧ key = .string s))
    (hm : a.eval m = .map (some b)) (hx : a.eval x = key) (hL : L[k]? = some (key, a.eval v))
    (hK : ∀ w', MapLit w' b (L.take (k + 1)) → w'.heap.size = w.heap.size → Tur (· = b) w w' → wpList P ops Q rest (a.put o.dst undef) w') : wpList P ops Q (o :: rest) a w :=
  wp_lit_put hg m x v t kt e hop d ht hk key hd hm hx h (fresh_at hD hL) (fun w' h1 h2 h3 => hK w' (by rw [take_snoc' hL]; exact h1) h2 h3)
theorem litAt_ints {α : Type} (i : IntKind) (n : Int) (f : α → Int) (v : α → Value) : ∀ M : List α, litAt (.int i) (.int i n) (M.map fun r => (.int i (f r), v r)) = some ((M.find? fun r => n == f r).map v)
  | [] => rfl
  | r :: M => by
    have hs : Instr.sameNow (.int i) (.int i n) (.int i (f r)) = some (n == f r) := by simp [Instr.sameNow]
    simp only [List.map_cons, litAt, hs, List.find?_cons]
    cases n == f r
    · exact litAt_ints i n f v M
    · rfl
end
end Go.Proofs.YtmapjahpjolmnaaGreatDoor
namespace Go.Proofs.YtmapjahpjolmnaaGreatDoor
open Go.RowKit Tr
set_option maxRecDepth 20000
structure Tr.KRow where
  k : Int
  lo : Int
  hi : Int
  says : ByteArray
  first : Bool
abbrev Tr.kNo : ByteArray := ⟨#[]⟩
abbrev Tr.kName : ByteArray := ⟨#[110, 97, 109, 101]⟩
def Tr.kindsM : List KRow := [⟨4, 0, 0, kName, false⟩, ⟨5, 1, -1, kName, false⟩, ⟨12, 1, -1, kName, false⟩, ⟨6, 1, 1, kNo, false⟩, ⟨11, 1, 1, kNo, false⟩, ⟨17, 1, 1, kNo, false⟩, ⟨18, 1, 1, kNo, false⟩, ⟨7, 2, 2, ⟨#[61, 32, 43, 61, 32, 45, 61, 32, 42, 61, 32, 47, 61, 32, 37, 61, 32, 94, 61]⟩, true⟩, ⟨8, 3, 3, kNo, false⟩, ⟨9, 2, 2, kNo, false⟩, ⟨10, 2, 2, kNo, false⟩, ⟨15, 2, 2, kNo, false⟩, ⟨13, 2, 2, ⟨#[126, 32, 33, 126]⟩, false⟩, ⟨14, 2, 2, ⟨#[60, 32, 60, 61, 32, 61, 61, 32, 33, 61, 32, 62, 32, 62, 61]⟩, false⟩, ⟨16, 2, 2, ⟨#[43, 32, 45, 32, 42, 32, 47, 32, 37, 32, 94]⟩, false⟩, ⟨19, 1, 1, ⟨#[43, 43, 32, 45, 45]⟩, true⟩, ⟨20, 1, 1, ⟨#[43, 43, 32, 45, 45]⟩, true⟩, ⟨21, 0, -1, kName, false⟩, ⟨22, 0, -1, ⟨#[108, 101, 110, 103, 116, 104, 32, 115, 117, 98, 115, 116, 114, 32, 105, 110, 100, 101, 120, 32, 115, 112, 108, 105, 116, 32, 115, 117, 98, 32, 103, 115, 117, 98, 32, 109, 97, 116, 99, 104, 32, 115, 112, 114, 105, 110, 116, 102, 32, 116, 111, 108, 111, 119, 101, 114, 32, 116, 111, 117, 112, 112, 101, 114, 32, 105, 110, 116, 32, 115, 114, 97, 110, 100, 32, 114, 97, 110, 100, 32, 99, 108, 111, 115, 101, 32, 115, 121, 115, 116, 101, 109]⟩, false⟩]
def Tr.kRowV (r : KRow) : Value := .agg #[.int .i64 r.lo, .int .i64 r.hi, .string r.says, .bool r.first]
def Tr.kindsL : List (Value × Value) := kindsM.map fun r => (.int .u8 r.k, kRowV r)
def Tr.kindOf (k : Int) : Option KRow := kindsM.find? fun r => k == r.k
theorem kinds_fresh : freshB (.int .u8) kindsL = true := by kernel_rfl
structure KInv (w0 w : World) (k : Nat) : Prop where
  map : MapLit w w0.heap.size (kindsL.take k)
  below : Below w0.heap.size w0 w
theorem KInv.made (w0 : World) : KInv w0 (w0.alloc (.map #[] 0)) 0 := ⟨MapLit.made w0, (Below.refl _ _).alloc (Nat.le_refl _) _⟩
section
variable {ops : Array Oper} {rest : List Oper} {o : Oper} {a : Act} {Q : Exit → Act → World → Prop}
theorem wp_kinds_put {w0 w : World} {k : Nat} (h : KInv w0 w k) (hg : o.guard = none) (m x v : Operand) (hop : o.op = Op.insert 67 m x v) (n : Int)
    (hm : a.eval m = .map (some w0.heap.size)) (hx : a.eval x = .int .u8 n) (hL : kindsL[k]? = some (.int .u8 n, a.eval v))
    (hK : ∀ w', KInv w0 w' (k + 1) → wpList Tryz.prog ops Q rest (a.put o.dst undef) w') : wpList Tryz.prog ops Q (o :: rest) a w := by
  refine wp_lit_put_at hg m x v 67 25 79 hop (.int .u8) Tryz.underlying67 Tryz.underlying25 _ kinds_fresh k h.map _ (.inl ⟨_, _, rfl, rfl⟩) hm hx hL (fun w' h1 h2 h3 => hK w' ?_)
  have hlt := h.map.lt
  exact ⟨h1, h.below.trans (h3.below _ (by omega) (fun k hk e => by omega))⟩
end
set_option maxHeartbeats 4000000 in
theorem w_kinds (w : World) : Calls Tryz.prog 28 #[] w fun e w' => e = .returned (.map (some w.heap.size)) ∧ KInv w w' 19 := by
  have h0 := KInv.made w
  have HMK := @run_makeMap Tryz.prog
  go_enter Tryz.func28, Tryz.ntmps28
  go_wp2_with (first | (with_reducible refine wp_kinds_put (by assumption) rfl _ _ _ rfl _ rfl rfl rfl ?_; intro w' hinv; clear h0; have h0 := hinv; clear hinv))
  go_ret
  exact ⟨rfl, h0⟩
theorem zero_khas (w : World) : (zeroValue 79).run Tryz.prog w = .ok (.agg #[.int .i64 0, .int .i64 0, .string ⟨#[]⟩, .bool false]) w := by kernel_rfl
theorem kinds_at (k : Int) : litAt (.int .u8) (.int .u8 k) kindsL = some ((kindOf k).map kRowV) := litAt_ints .u8 k (fun r : KRow => r.k) _ kindsM
theorem kinds_look {w : World} {g : Nat} (h : MapLit w g kindsL) (k : Int) (q : Option KRow) (hq : kindOf k = q) :
    (Instr.lookup 67 (.map (some g)) (.int .u8 k) true).run Tryz.prog w = .ok (.tuple #[(q.map kRowV).getD (.agg #[.int .i64 0, .int .i64 0, .string ⟨#[]⟩, .bool false]), .bool q.isSome]) w := by
  have := h.run_look Tryz.underlying67 Tryz.underlying25 (key := .int .u8 k) (.inl ⟨_, _, rfl, rfl⟩) (zero_khas w) (kinds_at k)
  rw [hq] at this
  cases q <;> exact this
end Go.Proofs.YtmapjahpjolmnaaGreatDoor
