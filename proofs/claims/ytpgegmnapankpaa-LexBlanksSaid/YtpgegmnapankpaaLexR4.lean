/- What a mark says; the walk of the reference's mark. -/
import Derived.Test.YtpgegmnapankpaaLexR2
namespace Go.Proofs.Ytpgegmnapankpaa
open Go.RowKit

namespace Lex
def plainB : ByteArray := ⟨#[34, 92, 47, 97, 98, 102, 110, 114, 116, 118]⟩
def saysB : ByteArray := ⟨#[34, 92, 47, 7, 8, 12, 10, 13, 9, 11]⟩
def escI (c : Int) : Option Nat := plainB.data.toList.findIdx? (fun b => (b.toNat : Int) == c)
def oct (b : Int) : Bool := decide (48 ≤ b) && decide (b ≤ 55)
def octV (l : List UInt8) : Nat → Nat
  | 0 => 0
  | k + 1 => octV l k * 8 + ((byteN l (k + 1)).toNat - 48)
def octN (l : List UInt8) : Nat := min 3 (runL oct (l.drop 1))
/-- What a mark says, and how long it is. -/
def markL (l : List UInt8) : ByteArray × Nat := match escI (byteN l 1) with
  | some k => (saysB.extract k (k + 1), 2)
  | none => if octN l = 0 then (⟨(l.take 2).toArray⟩, 2) else (⟨#[UInt8.ofNat (octV l (octN l) % 256)]⟩, octN l + 1)
theorem byteN_drop (l : List UInt8) (n k : Nat) : byteN (l.drop n) k = byteN l (n + k) := by simp [byteN, List.getD]
theorem escI_some {c : Int} {k : Nat} (hk : k < 10) (h1 : ((plainB[k]'hk).toNat : Int) = c) (h2 : ∀ j, (hj : j < 10) → j < k → ¬ ((plainB[j]'hj).toNat : Int) = c) : escI c = some k := by
  unfold escI
  rw [List.findIdx?_eq_some_iff_getElem]
  refine ⟨hk, ?_, fun j hj => ?_⟩
  · have e : plainB.data.toList[k]'hk = plainB[k]'hk := rfl
    rw [e, h1]; simp
  · intro hh
    exact h2 j (by omega) hj (eq_of_beq hh)
theorem escI_none {c : Int} (h2 : ∀ j, (hj : j < 10) → ¬ ((plainB[j]'hj).toNat : Int) = c) : escI c = none := by
  unfold escI
  rw [List.findIdx?_eq_none_iff]
  intro b hb
  obtain ⟨j, hj, rfl⟩ := List.mem_iff_getElem.1 hb
  exact beq_eq_false_iff_ne.2 (h2 j hj)
theorem octN_is {l : List UInt8} {k : Nat} (hk : k ≤ 3) (h1 : ∀ j, j < k → oct (byteN l (j + 1)) = true) (h2 : k = 3 ∨ oct (byteN l (k + 1)) = false) : octN l = k := by
  have hle : ∀ m, m ≤ k → m + runL oct (l.drop (m + 1)) = runL oct (l.drop 1) := by
    intro m
    induction m with
    | zero => intro _; simp
    | succ m ih =>
      intro hm
      have := ih (by omega)
      have h3 := (run_yes (p := oct) (by decide) (h1 m (by omega))).2
      rw [h3] at this
      omega
  have hk' := hle k (Nat.le_refl _)
  unfold octN
  rcases h2 with h2 | h2
  · omega
  · have := run_not h2
    omega
theorem octV_le (l : List UInt8) : ∀ k, (∀ j, j < k → oct (byteN l (j + 1)) = true) → octV l k < 8 ^ k
  | 0, _ => by simp [octV]
  | k + 1, h => by
    have := octV_le l k (fun j hj => h j (by omega))
    have h1 := h k (by omega)
    simp [oct] at h1
    unfold octV
    rw [Nat.pow_succ]
    omega
end Lex
theorem ret_tup {s t : ByteArray} {a b : Int} (h1 : s = t) (h2 : a = b) : Ending.returned (.tuple #[.string s, .int .i64 a]) = .returned (.tuple #[.string t, .int .i64 b]) := by rw [h1, h2]
/-- A text of one byte. -/
theorem byte_back (w : World) (x : Nat) (hx : x < 256) : (convert 33 9 (.slice (some ⟨w.heap.size, 0, none⟩) 1 1)).run Try.prog (w.alloc (.cells #[.int .u8 (x : Int)] 5)) = .ok (.string ⟨#[UInt8.ofNat x]⟩) (w.alloc (.cells #[.int .u8 (x : Int)] 5)) := by
  refine run_convert_bytes_back _ 33 9 5 ⟨w.heap.size, 0, none⟩ 1 [UInt8.ofNat x] Try.underlying33 Try.underlying5 Try.underlying9 (fun j hj => ?_)
  obtain rfl : j = 0 := by simp at hj; exact hj
  rw [add_off, World.cell?_alloc_at _ _ _ _ rfl]
  simp
  omega
set_option maxHeartbeats 2000000 in
theorem r_mark (s : ByteArray) (n : Nat) (w : World) (hs : s.size ≤ 4294967) (hn : n + 1 < s.size) :
    Calls Try.prog 47 #[.string s, .int .i64 n] w fun e w' => e = .returned (.tuple #[.string (Lex.markL (s.data.toList.drop n)).1, .int .i64 ((n + (Lex.markL (s.data.toList.drop n)).2 : Nat) : Int)]) ∧ Below w.heap.size w w' := by
  have HLN : Hid (s.data.toList.length = s.size) := rfl
  obtain ⟨l, hL⟩ : ∃ l, l = s.data.toList := ⟨_, rfl⟩
  have HLL := Lib.hid hL
  rw [← hL] at HLN ⊢
  clear hL
  obtain ⟨L, hLd⟩ : ∃ L, L = l.drop n := ⟨_, rfl⟩
  rw [← hLd]
  have hbn : ∀ k, Lex.byteN l (n + k) = Lex.byteN L k := fun k => by rw [hLd, Lex.byteN_drop]
  have HBN := Lib.hid hbn
  have HLD := Lib.hid hLd
  clear hbn hLd
  obtain ⟨o, ho⟩ : ∃ o, o = Lex.markL L := ⟨_, rfl⟩
  rw [← ho]
  have HO := Lib.hid ho
  clear ho
  have hb0 : Below w.heap.size w w := Below.refl _ _
  go_enter Try.func47, Try.ntmps47
  go_wp2_with fail
  rw [show (n : Int) + 1 = ((n + 1 : Nat) : Int) by omega]
  refine (r_byteAt s (n + 1) _ (by omega)).mono ?_
  rintro e w2 ⟨rfl, rfl⟩
  rw [← HLL.out, HBN.out]
  have HC : Hid (o = match Lex.escI (Lex.byteN L 1) with
    | some k => (Lex.saysB.extract k (k + 1), 2)
    | none => if Lex.octN L = 0 then (⟨(L.take 2).toArray⟩, 2) else (⟨#[UInt8.ofNat (Lex.octV L (Lex.octN L) % 256)]⟩, Lex.octN L + 1)) := HO.out
  generalize Lex.byteN L 1 = c at *
  go_wp2_with fail
  go_loop [9] (fun i => ∃ k : Nat, k ≤ 10 ∧ i = .int .i64 k ∧ ∀ j, (hj : j < 10) → j < k → ¬ ((Lex.plainB[j]'hj).toNat : Int) = c) (fun i => 10 - (intOf i).toNat)
  case atStart => exact ⟨0, by omega, rfl, fun j _ h => by omega⟩
  case round =>
    obtain ⟨k, hk, rfl, hno⟩ := hrel
    have HNO := Lib.hid hno
    clear hno
    by_cases hlt : k < 10
    · obtain ⟨p, hp⟩ : ∃ p, ((Lex.plainB[k]'hlt).toNat : Int) = p := ⟨_, rfl⟩
      have hp2 : ((({ data := #[34, 92, 47, 97, 98, 102, 110, 114, 116, 118] } : ByteArray)[k]'hlt).toNat : Int) = p := hp
      have HP := Lib.hid hp
      clear hp
      by_cases hc : c = p
      · have HE : Hid (Lex.escI c = some k) := Lex.escI_some hlt (by rw [HP.out, hc]) HNO.out
        have HF := HC.out
        rw [HE.out] at HF
        have HF2 := Lib.hid HF
        clear HF HC HE HNO
        subst hc
        have hk2 : (k : Int) < 10 := by omega
        go_wp2_with fail
        refine bodyPost_ret (v := .tuple #[.string (Lex.saysB.extract k (k + 1)), .int .i64 ((n : Int) + 2)]) (by simp [results, Try.results47, go_sem]; rfl) rfl ⟨by rw [HF2.out]; rfl, hb0⟩
      · have hcb : (c == p) = false := by simp [hc]
        have HCN := Lib.hid hc
        clear hc
        go_wp2_with fail
        go_round
        case rel => exact ⟨k + 1, by omega, by go_num, fun j hj h => by
          rcases Nat.lt_or_ge j k with h | h
          · exact HNO.out j hj h
          · obtain rfl : j = k := by omega
            rw [HP.out]; exact fun e => HCN.out e.symm⟩
        case measure => simp [intOf]; omega
    · have HE : Hid (Lex.escI c = none) := Lex.escI_none fun j hj => HNO.out j hj (by omega)
      have HF := HC.out
      rw [HE.out] at HF
      have HF2 := Lib.hid HF
      clear HF HC HE HNO HO
      go_wp2_with fail
      go_loop [10, 11] (fun v i => ∃ m : Nat, m ≤ 3 ∧ i = .int .i64 ((n : Int) + ((m : Int) + 1)) ∧ v = .int .i64 (Lex.octV L m) ∧ ∀ j, j < m → Lex.oct (Lex.byteN L (j + 1)) = true) (fun _ i => n + 10 - (intOf i).toNat)
      case atStart => exact ⟨0, by omega, by simp, rfl, fun j h => by omega⟩
      case round =>
        obtain ⟨m, hm, rfl, rfl, hoc⟩ := hrel
        have hov := Lex.octV_le L m hoc
        have hov8 : Lex.octV L m < 512 := Nat.lt_of_lt_of_le hov (Nat.pow_le_pow_right (by omega) hm)
        have HOC := Lib.hid hoc
        clear hoc hov
        by_cases hm3 : m < 3
        · go_wp2_with fail
          rw [show (n : Int) + ((m : Int) + 1) = ((n + (m + 1) : Nat) : Int) by omega]
          refine (r_byteAt s (n + (m + 1)) _ (by omega)).mono ?_
          rintro e w2 ⟨rfl, rfl⟩
          rw [← HLL.out, HBN.out]
          have hr := Lex.byteN_range L (m + 1)
          have HB0 := Lib.hid (@Lex.run_yes Lex.oct (by decide) L (m + 1))
          have HBL := Lib.hid (fun h => (Lex.byteN_in (l := l) (k := n + (m + 1)) h).symm.trans (HBN.out (m + 1)))
          have HV : Hid (Lex.octV L (m + 1) = Lex.octV L m * 8 + ((Lex.byteN L (m + 1)).toNat - 48)) := rfl
          generalize hbe : Lex.byteN L (m + 1) = b at *
          cases hob : Lex.oct b
          · have HN : Hid (Lex.octN L = m) := Lex.octN_is hm HOC.out (.inr (by rw [hbe]; exact hob))
            have hbx : b < 48 ∨ 55 < b := by simp [Lex.oct] at hob; omega
            clear HOC HB0 HBL HV hob
            rcases hbx with hbx | hbx
            · rw [show ((n + (m + 1) : Nat) : Int) = (n : Int) + ((m : Int) + 1) by omega]
              by_cases hm0 : m = 0
              · have HG := HF2.out
                rw [HN.out, if_pos hm0] at HG
                have HG2 := Lib.hid HG
                subst hm0
                have hx : s.extract n (n + 2) = (⟨(L.take 2).toArray⟩ : ByteArray) := by
                  apply bytes_ext
                  rw [HLD.out, HLL.out, ByteArray.data_extract, Array.toList_extract]
                  simp [List.extract]
                have hmm : ((n : Int) + (0 + 1) : Int) ≤ (n : Int) + 1 := by omega
                have HX := Lib.hid hx
                clear HG HN HF2 hx
                have hn2 : n + 2 ≤ s.size := by omega
                go_wp2_with fail
                refine bodyPost_ret (v := .tuple #[.string (s.extract n (n + 2)), .int .i64 ((n : Int) + 2)]) (by simp [results, Try.results47, go_sem]) rfl ⟨by rw [HG2.out, HX.out]; rfl, hb0⟩
              · have HG := HF2.out
                rw [HN.out, if_neg hm0] at HG
                have HG2 := Lib.hid HG
                have hmm : (n : Int) + 1 < (n : Int) + ((m : Int) + 1) := by omega
                have hcv := byte_back w (Lex.octV L m % 256) (by omega)
                rw [show ((Lex.octV L m % 256 : Nat) : Int) = (Lex.octV L m : Int) % 256 by omega] at hcv
                have hb9 := (Below.refl w.heap.size w).alloc (Nat.le_refl _) (.cells #[.int .u8 ((Lex.octV L m : Int) % 256)] 5)
                have HB9 := Lib.hid hb9
                clear HG HN HF2 hb9
                go_wp2_with fail
                refine bodyPost_ret (v := .tuple #[.string ⟨#[UInt8.ofNat (Lex.octV L m % 256)]⟩, .int .i64 ((n : Int) + ((m : Int) + 1))]) (by simp [results, Try.results47, go_sem]) rfl ⟨by rw [HG2.out]; rfl, HB9.out⟩
            · go_wp2_with fail
              rw [show (n : Int) + ((m : Int) + 1) = ((n + (m + 1) : Nat) : Int) by omega]
              refine (r_byteAt s (n + (m + 1)) _ (by omega)).mono ?_
              rintro e w2 ⟨rfl, rfl⟩
              rw [← HLL.out, HBN.out, hbe]
              rw [show ((n + (m + 1) : Nat) : Int) = (n : Int) + ((m : Int) + 1) by omega]
              by_cases hm0 : m = 0
              · have HG := HF2.out
                rw [HN.out, if_pos hm0] at HG
                have HG2 := Lib.hid HG
                subst hm0
                have hx : s.extract n (n + 2) = (⟨(L.take 2).toArray⟩ : ByteArray) := by
                  apply bytes_ext
                  rw [HLD.out, HLL.out, ByteArray.data_extract, Array.toList_extract]
                  simp [List.extract]
                have hmm : ((n : Int) + (0 + 1) : Int) ≤ (n : Int) + 1 := by omega
                have HX := Lib.hid hx
                clear HG HN HF2 hx
                have hn2 : n + 2 ≤ s.size := by omega
                go_wp2_with fail
                refine bodyPost_ret (v := .tuple #[.string (s.extract n (n + 2)), .int .i64 ((n : Int) + 2)]) (by simp [results, Try.results47, go_sem]) rfl ⟨by rw [HG2.out, HX.out]; rfl, hb0⟩
              · have HG := HF2.out
                rw [HN.out, if_neg hm0] at HG
                have HG2 := Lib.hid HG
                have hmm : (n : Int) + 1 < (n : Int) + ((m : Int) + 1) := by omega
                have hcv := byte_back w (Lex.octV L m % 256) (by omega)
                rw [show ((Lex.octV L m % 256 : Nat) : Int) = (Lex.octV L m : Int) % 256 by omega] at hcv
                have hb9 := (Below.refl w.heap.size w).alloc (Nat.le_refl _) (.cells #[.int .u8 ((Lex.octV L m : Int) % 256)] 5)
                have HB9 := Lib.hid hb9
                clear HG HN HF2 hb9
                go_wp2_with fail
                refine bodyPost_ret (v := .tuple #[.string ⟨#[UInt8.ofNat (Lex.octV L m % 256)]⟩, .int .i64 ((n : Int) + ((m : Int) + 1))]) (by simp [results, Try.results47, go_sem]) rfl ⟨by rw [HG2.out]; rfl, HB9.out⟩
          · obtain ⟨h1, h2⟩ := HB0.out hob
            have hbr : 48 ≤ b ∧ b ≤ 55 := by simp [Lex.oct] at hob; omega
            obtain ⟨hb1, hb2⟩ := hbr
            have hLl : n + (m + 1) < l.length := by have := congrArg List.length HLD.out; rw [List.length_drop] at this; omega
            have hsx := HBL.out hLl
            rw [HLN.out] at hLl
            have hsx2 : ((s[n + (m + 1)]'hLl).toNat : Int) = b := by rw [← hsx]; have := HLL.out; subst this; rfl
            clear hsx h1 h2 HBL HB0
            go_wp2_with fail
            rw [show (n : Int) + ((m : Int) + 1) = ((n + (m + 1) : Nat) : Int) by omega]
            refine (r_byteAt s (n + (m + 1)) _ (by omega)).mono ?_
            rintro e w2 ⟨rfl, rfl⟩
            rw [← HLL.out, HBN.out, hbe]
            have hlt4 : n + (m + 1) < s.size := hLl
            have HOB := Lib.hid hob
            clear hob
            go_wp2_with fail
            go_round
            case rel => exact ⟨m + 1, by omega, by go_num, by rw [HV.out]; congr 1; omega, fun j hj => by
              rcases Nat.lt_or_ge j m with h | h
              · exact HOC.out j h
              · obtain rfl : j = m := by omega
                rw [hbe]; exact HOB.out⟩
            case measure => simp [intOf]; omega
        · have HN : Hid (Lex.octN L = m) := Lex.octN_is hm HOC.out (.inl (by omega))
          have hm4 : m = m := rfl
          clear HOC hm4
          by_cases hm0 : m = 0
          · exact absurd (by omega : m < 3) hm3
          · have HG := HF2.out
            rw [HN.out, if_neg hm0] at HG
            have HG2 := Lib.hid HG
            have hmm : (n : Int) + 1 < (n : Int) + ((m : Int) + 1) := by omega
            have hcv := byte_back w (Lex.octV L m % 256) (by omega)
            rw [show ((Lex.octV L m % 256 : Nat) : Int) = (Lex.octV L m : Int) % 256 by omega] at hcv
            have hb9 := (Below.refl w.heap.size w).alloc (Nat.le_refl _) (.cells #[.int .u8 ((Lex.octV L m : Int) % 256)] 5)
            have HB9 := Lib.hid hb9
            clear HG HN HF2 hb9
            go_wp2_with fail
            refine bodyPost_ret (v := .tuple #[.string ⟨#[UInt8.ofNat (Lex.octV L m % 256)]⟩, .int .i64 ((n : Int) + ((m : Int) + 1))]) (by simp [results, Try.results47, go_sem]) rfl ⟨by rw [HG2.out]; rfl, HB9.out⟩
end Go.Proofs.Ytpgegmnapankpaa
