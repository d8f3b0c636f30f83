/- What a mark says; the walk of the reference's mark. -/
import Derived.Test.YtmapjahpjolmnaaGreatDoorG4
import Derived.Test.YtmapjahpjolmnaaGreatDoorG3
import Derived.Test.YtmapjahpjolmnaaGreatDoorShelf
import Derived.Test.YtmapjahpjolmnaaGreatDoorG1
import Derived.Lib.Builder
import Derived.Lib.UnsafeStr
set_option linter.unusedVariables false
set_option linter.unusedSimpArgs false
namespace Go.Proofs.YtmapjahpjolmnaaGreatDoor
open Go.RowKit
set_option maxRecDepth 100000

namespace Lex
def plainB : ByteArray := ⟨#[34, 92, 47, 97, 98, 102, 110, 114, 116, 118]⟩
def saysB : ByteArray := ⟨#[34, 92, 47, 7, 8, 12, 10, 13, 9, 11]⟩
def escI (c : Int) : Option Nat := plainB.data.toList.findIdx? (fun b => (b.toNat : Int) == c)
def oct (b : Int) : Bool := decide (48 ≤ b) && decide (b ≤ 55)
def octV (l : List UInt8) : Nat → Nat
  | 0 => 0
  | k + 1 => octV l k * 8 + ((byteN l (k + 1)).toNat - 48)
def octN (l : List UInt8) : Nat := min 3 (runL oct (l.drop 1))
/-- What a mark says, and how long it is. -/
def markL (l : List UInt8) : ByteArray × Nat := match escI (byteN l 1) with
  | some k => (saysB.extract k (k + 1), 2)
  | none => if octN l = 0 then (⟨(l.take 2).toArray⟩, 2) else (⟨#[UInt8.ofNat (octV l (octN l) % 256)]⟩, octN l + 1)
theorem byteN_drop (l : List UInt8) (n k : Nat) : byteN (l.drop n) k = byteN l (n + k) := by simp [byteN, List.getD]
theorem escI_some {c : Int} {k : Nat} (hk : k < 10) (h1 : ((plainB[k]'hk).toNat : Int) = c) (h2 : ∀ j, (hj : j < 10) → j < k → ¬ ((plainB[j]'hj).toNat : Int) = c) : escI c = some k := by
  unfold escI
  rw [List.findIdx?_eq_some_iff_getElem]
  refine ⟨hk, ?_, fun j hj => ?_⟩
  · have e : plainB.data.toList[k]'hk = plainB[k]'hk := rfl
    rw [e, h1]; simp
  · intro hh
    exact h2 j (by omega) hj (eq_of_beq hh)
theorem escI_none {c : Int} (h2 : ∀ j, (hj : j < 10) → ¬ ((plainB[j]'hj).toNat : Int) = c) : escI c = none := by
  unfold escI
  rw [List.findIdx?_eq_none_iff]
  intro b hb
  obtain ⟨j, hj, rfl⟩ := List.mem_iff_getElem.1 hb
  exact beq_eq_false_iff_ne.2 (h2 j hj)
theorem octN_is {l : List UInt8} {k : Nat} (hk : k ≤ 3) (h1 : ∀ j, j < k → oct (byteN l (j + 1)) = true) (h2 : k = 3 ∨ oct (byteN l (k + 1)) = false) : octN l = k := by
  have hle : ∀ m, m ≤ k → m + runL oct (l.drop (m + 1)) = runL oct (l.drop 1) := by
    intro m
    induction m with
    | zero => intro _; simp
    | succ m ih =>
      intro hm
      have := ih (by omega)
      have h3 := (run_yes (p := oct) (by decide) (h1 m (by omega))).2
      rw [h3] at this
      omega
  have hk' := hle k (Nat.le_refl _)
  unfold octN
  rcases h2 with h2 | h2
  · omega
  · have := run_not h2
    omega
theorem octV_le (l : List UInt8) : ∀ k, (∀ j, j < k → oct (byteN l (j + 1)) = true) → octV l k < 8 ^ k
  | 0, _ => by simp [octV]
  | k + 1, h => by
    have := octV_le l k (fun j hj => h j (by omega))
    have h1 := h k (by omega)
    simp [oct] at h1
    unfold octV
    rw [Nat.pow_succ]
    omega
end Lex
/-- A text of one byte. -/
theorem byte_back (w : World) (x : Nat) (hx : x < 256) : (convert 144 9 (.slice (some ⟨w.heap.size, 0, none⟩) 1 1)).run Tryz.prog (w.alloc (.cells #[.int .u8 (x : Int)] 5)) = .ok (.string ⟨#[UInt8.ofNat x]⟩) (w.alloc (.cells #[.int .u8 (x : Int)] 5)) := by
  refine run_convert_bytes_back _ 144 9 5 ⟨w.heap.size, 0, none⟩ 1 [UInt8.ofNat x] Tryz.underlying144 Tryz.underlying5 Tryz.underlying9 (fun j hj => ?_)
  obtain rfl : j = 0 := by simp at hj; exact hj
  rw [add_off, World.cell?_alloc_at _ _ _ _ rfl]
  simp
  omega
set_option maxHeartbeats 2000000 in
theorem r_mark (s : ByteArray) (n : Nat) (w : World) (hs : s.size ≤ 4294967) (hn : n + 1 < s.size) :
    Calls Tryz.prog 107 #[.string s, .int .i64 n] w fun e w' => e = .returned (.tuple #[.string (Lex.markL (s.data.toList.drop n)).1, .int .i64 ((n + (Lex.markL (s.data.toList.drop n)).2 : Nat) : Int)]) ∧ Below w.heap.size w w' := by
  have HLN : Hid (s.data.toList.length = s.size) := rfl
  obtain ⟨l, hL⟩ : ∃ l, l = s.data.toList := ⟨_, rfl⟩
  have HLL := Lib.hid hL
  rw [← hL] at HLN ⊢
  clear hL
  obtain ⟨L, hLd⟩ : ∃ L, L = l.drop n := ⟨_, rfl⟩
  rw [← hLd]
  have hbn : ∀ k, Lex.byteN l (n + k) = Lex.byteN L k := fun k => by rw [hLd, Lex.byteN_drop]
  have HBN := Lib.hid hbn
  have HLD := Lib.hid hLd
  clear hbn hLd
  obtain ⟨o, ho⟩ : ∃ o, o = Lex.markL L := ⟨_, rfl⟩
  rw [← ho]
  have HO := Lib.hid ho
  clear ho
  have hb0 : Below w.heap.size w w := Below.refl _ _
  go_enter Tryz.func107, Tryz.ntmps107
  go_wp2_with fail
  rw [show (n : Int) + 1 = ((n + 1 : Nat) : Int) by omega]
  refine (r_byteAt s (n + 1) _ (by omega)).mono ?_
  rintro e w2 ⟨rfl, rfl⟩
  rw [← HLL.out, HBN.out]
  have HC : Hid (o = match Lex.escI (Lex.byteN L 1) with
    | some k => (Lex.saysB.extract k (k + 1), 2)
    | none => if Lex.octN L = 0 then (⟨(L.take 2).toArray⟩, 2) else (⟨#[UInt8.ofNat (Lex.octV L (Lex.octN L) % 256)]⟩, Lex.octN L + 1)) := HO.out
  generalize Lex.byteN L 1 = c at *
  go_wp2_with fail
  go_loop [9] (fun i => ∃ k : Nat, k ≤ 10 ∧ i = .int .i64 k ∧ ∀ j, (hj : j < 10) → j < k → ¬ ((Lex.plainB[j]'hj).toNat : Int) = c) (fun i => 10 - (intOf i).toNat)
  case atStart => exact ⟨0, by omega, rfl, fun j _ h => by omega⟩
  case round =>
    obtain ⟨k, hk, rfl, hno⟩ := hrel
    have HNO := Lib.hid hno
    clear hno
    by_cases hlt : k < 10
    · obtain ⟨p, hp⟩ : ∃ p, ((Lex.plainB[k]'hlt).toNat : Int) = p := ⟨_, rfl⟩
      have hp2 : ((({ data := #[34, 92, 47, 97, 98, 102, 110, 114, 116, 118] } : ByteArray)[k]'hlt).toNat : Int) = p := hp
      have HP := Lib.hid hp
      clear hp
      by_cases hc : c = p
      · have HE : Hid (Lex.escI c = some k) := Lex.escI_some hlt (by rw [HP.out, hc]) HNO.out
        have HF := HC.out
        rw [HE.out] at HF
        have HF2 := Lib.hid HF
        clear HF HC HE HNO
        subst hc
        have hk2 : (k : Int) < 10 := by omega
        go_wp2_with fail
        refine bodyPost_ret (v := .tuple #[.string (Lex.saysB.extract k (k + 1)), .int .i64 ((n : Int) + 2)]) (by simp [results, Tryz.results107, go_sem]; rfl) rfl ⟨by rw [HF2.out]; rfl, hb0⟩
      · have hcb : (c == p) = false := by simp [hc]
        have HCN := Lib.hid hc
        clear hc
        go_wp2_with fail
        go_round
        case rel => exact ⟨k + 1, by omega, by go_num, fun j hj h => by
          rcases Nat.lt_or_ge j k with h | h
          · exact HNO.out j hj h
          · obtain rfl : j = k := by omega
            rw [HP.out]; exact fun e => HCN.out e.symm⟩
        case measure => simp [intOf]; omega
    · have HE : Hid (Lex.escI c = none) := Lex.escI_none fun j hj => HNO.out j hj (by omega)
      have HF := HC.out
      rw [HE.out] at HF
      have HF2 := Lib.hid HF
      clear HF HC HE HNO HO
      go_wp2_with fail
      go_loop [10, 11] (fun v i => ∃ m : Nat, m ≤ 3 ∧ i = .int .i64 ((n : Int) + ((m : Int) + 1)) ∧ v = .int .i64 (Lex.octV L m) ∧ ∀ j, j < m → Lex.oct (Lex.byteN L (j + 1)) = true) (fun _ i => n + 10 - (intOf i).toNat)
      case atStart => exact ⟨0, by omega, by simp, rfl, fun j h => by omega⟩
      case round =>
        obtain ⟨m, hm, rfl, rfl, hoc⟩ := hrel
        have hov := Lex.octV_le L m hoc
        have hov8 : Lex.octV L m < 512 := Nat.lt_of_lt_of_le hov (Nat.pow_le_pow_right (by omega) hm)
        have HOC := Lib.hid hoc
        clear hoc hov
        by_cases hm3 : m < 3
        · go_wp2_with fail
          rw [show (n : Int) + ((m : Int) + 1) = ((n + (m + 1) : Nat) : Int) by omega]
          refine (r_byteAt s (n + (m + 1)) _ (by omega)).mono ?_
          rintro e w2 ⟨rfl, rfl⟩
          rw [← HLL.out, HBN.out]
          have hr := Lex.byteN_range L (m + 1)
          have HB0 := Lib.hid (@Lex.run_yes Lex.oct (by decide) L (m + 1))
          have HBL := Lib.hid (fun h => (Lex.byteN_in (l := l) (k := n + (m + 1)) h).symm.trans (HBN.out (m + 1)))
          have HV : Hid (Lex.octV L (m + 1) = Lex.octV L m * 8 + ((Lex.byteN L (m + 1)).toNat - 48)) := rfl
          generalize hbe : Lex.byteN L (m + 1) = b at *
          cases hob : Lex.oct b
          · have HN : Hid (Lex.octN L = m) := Lex.octN_is hm HOC.out (.inr (by rw [hbe]; exact hob))
            have hbx : b < 48 ∨ 55 < b := by simp [Lex.oct] at hob; omega
            clear HOC HB0 HBL HV hob
            rcases hbx with hbx | hbx
            · rw [show ((n + (m + 1) : Nat) : Int) = (n : Int) + ((m : Int) + 1) by omega]
              by_cases hm0 : m = 0
              · have HG := HF2.out
                rw [HN.out, if_pos hm0] at HG
                have HG2 := Lib.hid HG
                subst hm0
                have hx : s.extract n (n + 2) = (⟨(L.take 2).toArray⟩ : ByteArray) := by
                  apply bytes_ext
                  rw [HLD.out, HLL.out, ByteArray.data_extract, Array.toList_extract]
                  simp [List.extract]
                have hmm : ((n : Int) + (0 + 1) : Int) ≤ (n : Int) + 1 := by omega
                have HX := Lib.hid hx
                clear HG HN HF2 hx
                have hn2 : n + 2 ≤ s.size := by omega
                go_wp2_with fail
                refine bodyPost_ret (v := .tuple #[.string (s.extract n (n + 2)), .int .i64 ((n : Int) + 2)]) (by simp [results, Tryz.results107, go_sem]) rfl ⟨by rw [HG2.out, HX.out]; rfl, hb0⟩
              · have HG := HF2.out
                rw [HN.out, if_neg hm0] at HG
                have HG2 := Lib.hid HG
                have hmm : (n : Int) + 1 < (n : Int) + ((m : Int) + 1) := by omega
                have hcv := byte_back w (Lex.octV L m % 256) (by omega)
                rw [show ((Lex.octV L m % 256 : Nat) : Int) = (Lex.octV L m : Int) % 256 by omega] at hcv
                have hb9 := (Below.refl w.heap.size w).alloc (Nat.le_refl _) (.cells #[.int .u8 ((Lex.octV L m : Int) % 256)] 5)
                have HB9 := Lib.hid hb9
                clear HG HN HF2 hb9
                go_wp2_with fail
                refine bodyPost_ret (v := .tuple #[.string ⟨#[UInt8.ofNat (Lex.octV L m % 256)]⟩, .int .i64 ((n : Int) + ((m : Int) + 1))]) (by simp [results, Tryz.results107, go_sem]) rfl ⟨by rw [HG2.out]; rfl, HB9.out⟩
            · go_wp2_with fail
              rw [show (n : Int) + ((m : Int) + 1) = ((n + (m + 1) : Nat) : Int) by omega]
              refine (r_byteAt s (n + (m + 1)) _ (by omega)).mono ?_
              rintro e w2 ⟨rfl, rfl⟩
              rw [← HLL.out, HBN.out, hbe]
              rw [show ((n + (m + 1) : Nat) : Int) = (n : Int) + ((m : Int) + 1) by omega]
              by_cases hm0 : m = 0
              · have HG := HF2.out
                rw [HN.out, if_pos hm0] at HG
                have HG2 := Lib.hid HG
                subst hm0
                have hx : s.extract n (n + 2) = (⟨(L.take 2).toArray⟩ : ByteArray) := by
                  apply bytes_ext
                  rw [HLD.out, HLL.out, ByteArray.data_extract, Array.toList_extract]
                  simp [List.extract]
                have hmm : ((n : Int) + (0 + 1) : Int) ≤ (n : Int) + 1 := by omega
                have HX := Lib.hid hx
                clear HG HN HF2 hx
                have hn2 : n + 2 ≤ s.size := by omega
                go_wp2_with fail
                refine bodyPost_ret (v := .tuple #[.string (s.extract n (n + 2)), .int .i64 ((n : Int) + 2)]) (by simp [results, Tryz.results107, go_sem]) rfl ⟨by rw [HG2.out, HX.out]; rfl, hb0⟩
              · have HG := HF2.out
                rw [HN.out, if_neg hm0] at HG
                have HG2 := Lib.hid HG
                have hmm : (n : Int) + 1 < (n : Int) + ((m : Int) + 1) := by omega
                have hcv := byte_back w (Lex.octV L m % 256) (by omega)
                rw [show ((Lex.octV L m % 256 : Nat) : Int) = (Lex.octV L m : Int) % 256 by omega] at hcv
                have hb9 := (Below.refl w.heap.size w).alloc (Nat.le_refl _) (.cells #[.int .u8 ((Lex.octV L m : Int) % 256)] 5)
                have HB9 := Lib.hid hb9
                clear HG HN HF2 hb9
                go_wp2_with fail
                refine bodyPost_ret (v := .tuple #[.string ⟨#[UInt8.ofNat (Lex.octV L m % 256)]⟩, .int .i64 ((n : Int) + ((m : Int) + 1))]) (by simp [results, Tryz.results107, go_sem]) rfl ⟨by rw [HG2.out]; rfl, HB9.out⟩
          · obtain ⟨h1, h2⟩ := HB0.out hob
            have hbr : 48 ≤ b ∧ b ≤ 55 := by simp [Lex.oct] at hob; omega
            obtain ⟨hb1, hb2⟩ := hbr
            have hLl : n + (m + 1) < l.length := by have := congrArg List.length HLD.out; rw [List.length_drop] at this; omega
            have hsx := HBL.out hLl
            rw [HLN.out] at hLl
            have hsx2 : ((s[n + (m + 1)]'hLl).toNat : Int) = b := by rw [← hsx]; have := HLL.out; subst this; rfl
            clear hsx h1 h2 HBL HB0
            go_wp2_with fail
            rw [show (n : Int) + ((m : Int) + 1) = ((n + (m + 1) : Nat) : Int) by omega]
            refine (r_byteAt s (n + (m + 1)) _ (by omega)).mono ?_
            rintro e w2 ⟨rfl, rfl⟩
            rw [← HLL.out, HBN.out, hbe]
            have hlt4 : n + (m + 1) < s.size := hLl
            have HOB := Lib.hid hob
            clear hob
            go_wp2_with fail
            go_round
            case rel => exact ⟨m + 1, by omega, by go_num, by rw [HV.out]; congr 1; omega, fun j hj => by
              rcases Nat.lt_or_ge j m with h | h
              · exact HOC.out j h
              · obtain rfl : j = m := by omega
                rw [hbe]; exact HOB.out⟩
            case measure => simp [intOf]; omega
        · have HN : Hid (Lex.octN L = m) := Lex.octN_is hm HOC.out (.inl (by omega))
          have hm4 : m = m := rfl
          clear HOC hm4
          by_cases hm0 : m = 0
          · exact absurd (by omega : m < 3) hm3
          · have HG := HF2.out
            rw [HN.out, if_neg hm0] at HG
            have HG2 := Lib.hid HG
            have hmm : (n : Int) + 1 < (n : Int) + ((m : Int) + 1) := by omega
            have hcv := byte_back w (Lex.octV L m % 256) (by omega)
            rw [show ((Lex.octV L m % 256 : Nat) : Int) = (Lex.octV L m : Int) % 256 by omega] at hcv
            have hb9 := (Below.refl w.heap.size w).alloc (Nat.le_refl _) (.cells #[.int .u8 ((Lex.octV L m : Int) % 256)] 5)
            have HB9 := Lib.hid hb9
            clear HG HN HF2 hb9
            go_wp2_with fail
            refine bodyPost_ret (v := .tuple #[.string ⟨#[UInt8.ofNat (Lex.octV L m % 256)]⟩, .int .i64 ((n : Int) + ((m : Int) + 1))]) (by simp [results, Tryz.results107, go_sem]) rfl ⟨by rw [HG2.out]; rfl, HB9.out⟩

end Go.Proofs.YtmapjahpjolmnaaGreatDoor
namespace Go.Proofs.YtmapjahpjolmnaaGreatDoor.Lex
open Go

theorem markL_ge (l : List UInt8) : 2 ≤ (markL l).2 := by
  unfold markL
  split
  · exact Nat.le_refl _
  · split
    · exact Nat.le_refl _
    · simp; omega
theorem markL_le {l : List UInt8} (h : 2 ≤ l.length) : (markL l).2 ≤ l.length ∧ (markL l).1.size ≤ (markL l).2 := by
  unfold markL
  split
  · rename_i k hk
    refine ⟨h, ?_⟩
    show (saysB.extract k (k + 1)).size ≤ 2
    simp
    omega
  · split
    · refine ⟨h, ?_⟩
      show (l.take 2).toArray.size ≤ 2
      simp
      omega
    · have := runL_le oct (l.drop 1)
      rw [List.length_drop] at this
      refine ⟨?_, ?_⟩
      · show octN l + 1 ≤ l.length
        unfold octN; omega
      · show 1 ≤ octN l + 1
        omega
/-- What a mark says within a text (34) or a pattern. -/
def say (q : UInt8) (l : List UInt8) : List UInt8 × Nat := if q.toNat = 34 then ((markL l).1.data.toList, (markL l).2) else if byteN l 1 = 47 then ([47], 2) else (l.take 2, 2)
theorem say_ge (q : UInt8) (l : List UInt8) : 2 ≤ (say q l).2 := by
  unfold say
  split
  · exact markL_ge l
  · split <;> exact Nat.le_refl _
theorem say_le (q : UInt8) {l : List UInt8} (h : 2 ≤ l.length) : (say q l).2 ≤ l.length ∧ (say q l).1.length ≤ (say q l).2 := by
  unfold say
  split
  · exact ⟨(markL_le h).1, (markL_le h).2⟩
  · split
    · exact ⟨h, by simp⟩
    · exact ⟨h, by simp; omega⟩
/-- What stands up to the closing mark, and how many bytes that is with it. -/
def quotL (q : UInt8) (l : List UInt8) : Option (List UInt8 × Nat) := match l with
  | [] => none
  | c :: r =>
    if c.toNat = 10 then none
    else if c.toNat = q.toNat then some ([], 1)
    else if c.toNat = 92 then (if r = [] ∨ byteN r 0 = 10 then none else (quotL q ((c :: r).drop (say q (c :: r)).2)).map fun p => ((say q (c :: r)).1 ++ p.1, (say q (c :: r)).2 + p.2))
    else (quotL q r).map fun p => (c :: p.1, 1 + p.2)
termination_by l.length
decreasing_by
  · have := say_ge q (c :: r)
    simp
    omega
  · simp
theorem quot_nil (q : UInt8) : quotL q [] = none := by rw [quotL]
theorem quot_line {q c : UInt8} {r : List UInt8} (h : c.toNat = 10) : quotL q (c :: r) = none := by rw [quotL]; simp [h]
theorem quot_end {q c : UInt8} {r : List UInt8} (h : ¬ c.toNat = 10) (h2 : c.toNat = q.toNat) : quotL q (c :: r) = some ([], 1) := by rw [quotL, if_neg h, if_pos h2]
theorem quot_byte {q c : UInt8} {r : List UInt8} (h : ¬ c.toNat = 10) (h2 : ¬ c.toNat = q.toNat) (h3 : ¬ c.toNat = 92) : quotL q (c :: r) = (quotL q r).map fun p => (c :: p.1, 1 + p.2) := by rw [quotL, if_neg h, if_neg h2, if_neg h3]
theorem quot_bad {q c : UInt8} {r : List UInt8} (h : ¬ c.toNat = 10) (h2 : ¬ c.toNat = q.toNat) (h3 : c.toNat = 92) (h4 : r = [] ∨ byteN r 0 = 10) : quotL q (c :: r) = none := by rw [quotL, if_neg h, if_neg h2, if_pos h3, if_pos h4]
theorem quot_mark {q c : UInt8} {r : List UInt8} (h : ¬ c.toNat = 10) (h2 : ¬ c.toNat = q.toNat) (h3 : c.toNat = 92) (h4 : ¬ (r = [] ∨ byteN r 0 = 10)) : quotL q (c :: r) = (quotL q ((c :: r).drop (say q (c :: r)).2)).map fun p => ((say q (c :: r)).1 ++ p.1, (say q (c :: r)).2 + p.2) := by rw [quotL, if_neg h, if_neg h2, if_pos h3, if_neg h4]
/-- A whole text or pattern: what it says, and how long it is; none: it does not end. -/
def quoted (l : List UInt8) : Option (List UInt8 × Nat) := match l with
  | [] => none
  | q :: r => (quotL q r).map fun p => (p.1, 1 + p.2)
/-- Gone some way. -/
def Gone (R : Option (List UInt8 × Nat)) (q : UInt8) (l : List UInt8) (n : Nat) (acc : List UInt8) : Prop := (quotL q (l.drop n)).map (fun p => (acc ++ p.1, n + p.2)) = R
section
variable {R : Option (List UInt8 × Nat)} {q : UInt8} {l : List UInt8} {n : Nat} {acc : List UInt8}
theorem Gone.over (h : Gone R q l n acc) (hn : l.length ≤ n) : R = none := by
  unfold Gone at h
  rw [List.drop_eq_nil_of_le hn, quot_nil] at h
  exact h.symm
theorem Gone.line (h : Gone R q l n acc) (hn : n < l.length) (h1 : l[n].toNat = 10) : R = none := by
  unfold Gone at h
  rw [List.drop_eq_getElem_cons hn, quot_line h1] at h
  exact h.symm
theorem Gone.done (h : Gone R q l n acc) (hn : n < l.length) (h1 : ¬ l[n].toNat = 10) (h2 : l[n].toNat = q.toNat) : R = some (acc, n + 1) := by
  unfold Gone at h
  rw [List.drop_eq_getElem_cons hn, quot_end h1 h2] at h
  simpa using h.symm
theorem Gone.byte (h : Gone R q l n acc) (hn : n < l.length) (h1 : ¬ l[n].toNat = 10) (h2 : ¬ l[n].toNat = q.toNat) (h3 : ¬ l[n].toNat = 92) : Gone R q l (n + 1) (acc ++ [l[n]]) := by
  unfold Gone at h ⊢
  rw [List.drop_eq_getElem_cons hn, quot_byte h1 h2 h3] at h
  rw [← h, Option.map_map]
  congr 1
  funext p
  simp [Nat.add_assoc]
theorem drop_byteN (l : List UInt8) (n : Nat) (h : n + 1 < l.length) : l.drop (n + 1) ≠ [] ∧ byteN (l.drop (n + 1)) 0 = byteN l (n + 1) := by
  refine ⟨fun e => ?_, by rw [byteN_drop]⟩
  have := congrArg List.length e
  rw [List.length_drop] at this
  simp at this
  omega
theorem Gone.bad (h : Gone R q l n acc) (hn : n < l.length) (h1 : ¬ l[n].toNat = 10) (h2 : ¬ l[n].toNat = q.toNat) (h3 : l[n].toNat = 92) (h4 : l.length ≤ n + 1 ∨ byteN l (n + 1) = 10) : R = none := by
  unfold Gone at h
  rw [List.drop_eq_getElem_cons hn, quot_bad h1 h2 h3] at h
  · exact h.symm
  · rcases h4 with h4 | h4
    · exact .inl (List.drop_eq_nil_of_le h4)
    · right; rw [byteN_drop]; exact h4
theorem Gone.mark (h : Gone R q l n acc) (hn : n + 1 < l.length) (h1 : ¬ l[n].toNat = 10) (h2 : ¬ l[n].toNat = q.toNat) (h3 : l[n].toNat = 92) (h4 : ¬ byteN l (n + 1) = 10) : Gone R q l (n + (say q (l.drop n)).2) (acc ++ (say q (l.drop n)).1) := by
  unfold Gone at h ⊢
  obtain ⟨g1, g2⟩ := drop_byteN l n hn
  have hd := List.drop_eq_getElem_cons (show n < l.length by omega)
  rw [hd, quot_mark h1 h2 h3 (by rintro (h5 | h5); exact g1 h5; rw [g2] at h5; exact h4 h5), ← hd] at h
  rw [← h, Option.map_map, List.drop_drop]
  congr 1
  funext p
  simp [Nat.add_assoc]
end
end Go.Proofs.YtmapjahpjolmnaaGreatDoor.Lex
namespace Go.Proofs.YtmapjahpjolmnaaGreatDoor
set_option maxRecDepth 20000
open Go.RowKit
theorem or8 (a d : Nat) (ha : a < 64) (hd : d < 8) : bits BinOp.or IntKind.i64 ((a * 8 : Nat) : Int) (d : Int) = ((a * 8 + d : Nat) : Int) := by
  have h : ∀ a : Nat, a < 64 → ∀ d : Nat, d < 8 → bits BinOp.or IntKind.i64 ((a * 8 : Nat) : Int) (d : Int) = ((a * 8 + d : Nat) : Int) := by decide +kernel
  exact h a ha d hd
theorem plain_ascii (k : Nat) (hk : k < 10) : (Lex.plainB[k]'hk).toNat < 128 := by
  have h : ∀ k : Fin 10, (Lex.plainB[k.1]'k.2).toNat < 128 := by decide +kernel
  exact h ⟨k, hk⟩
set_option maxHeartbeats 2000000 in
theorem x_mark (s : ByteArray) (w : World) (hs : s.size ≤ 4294967) (hn : 1 < s.size) :
    Calls Tryz.prog 101 #[.string s] w fun e w' => e = .returned (.tuple #[.string (Lex.markL s.data.toList).1, .int .i64 ((Lex.markL s.data.toList).2 : Nat)]) ∧ Below w.heap.size w w' := by
  have HLN : Hid (s.data.toList.length = s.size) := rfl
  obtain ⟨l, hL⟩ : ∃ l, l = s.data.toList := ⟨_, rfl⟩
  have HLL := Lib.hid hL
  rw [← hL] at HLN ⊢
  clear hL
  obtain ⟨o, ho⟩ : ∃ o, o = Lex.markL l := ⟨_, rfl⟩
  rw [← ho]
  have HO := Lib.hid ho
  clear ho
  have HC : Hid (o = match Lex.escI (Lex.byteN l 1) with
    | some k => (Lex.saysB.extract k (k + 1), 2)
    | none => if Lex.octN l = 0 then (⟨(l.take 2).toArray⟩, 2) else (⟨#[UInt8.ofNat (Lex.octV l (Lex.octN l) % 256)]⟩, Lex.octN l + 1)) := HO.out
  have hcb : ((s[1]'hn).toNat : Int) = Lex.byteN l 1 := by rw [Lex.byteN_in (by rw [HLN.out]; exact hn)]; have := HLL.out; subst this; rfl
  have hcr := Lex.byteN_range l 1
  generalize hcc : Lex.byteN l 1 = c at *
  have HCC := Lib.hid hcc
  clear hcc
  go_enter Tryz.func101, Tryz.ntmps101
  go_wp2_with fail
  go_loopw [4] (fun _ wr => ∃ k : Nat, k ≤ 10 ∧ wr = w.iter Lex.plainB k ∧ ∀ j, (hj : j < 10) → j < k → ¬ ((Lex.plainB[j]'hj).toNat : Int) = c) (fun _ wr => 10 - wr.iterPos w.heap.size)
  case atStart => exact ⟨0, by omega, rfl, fun j _ h => by omega⟩
  case round =>
    obtain ⟨k, hk, rfl, hno⟩ := hrel
    have HNO := Lib.hid hno
    clear hno
    by_cases hlt : k < 10
    · have hnx : ∀ ty, (Instr.next (.pointer (some ⟨w.heap.size, 0, none⟩)) true ty).run Tryz.prog (w.iter Lex.plainB k) = _ := fun ty => run_next_ascii w Lex.plainB k ty hlt (plain_ascii k hlt)
      obtain ⟨p, hp⟩ : ∃ p, ((Lex.plainB[k]'hlt).toNat : Int) = p := ⟨_, rfl⟩
      have hpr : 0 ≤ p ∧ p < 128 := by have := plain_ascii k hlt; omega
      rw [show (Lex.plainB[k]'hlt).toNat = p.toNat by omega] at hnx
      rw [show ((p.toNat : Nat) : Int) = p by omega] at hnx
      have HP := Lib.hid hp
      clear hp
      by_cases hc : c = p
      · have HE : Hid (Lex.escI c = some k) := Lex.escI_some hlt (by rw [HP.out, hc]) HNO.out
        have HF := HC.out
        rw [HE.out] at HF
        have HF2 := Lib.hid HF
        clear HF HC HE HNO HO
        subst hc
        have hk2 : (k : Int) < 10 := by omega
        go_wp2_with fail
        refine bodyPost_ret (v := .tuple #[.string (Lex.saysB.extract k (k + 1)), .int .i64 2]) (by simp [results, Tryz.results101, go_sem]; rfl) rfl ⟨by rw [HF2.out]; rfl, (Below.refl _ _).alloc (Nat.le_refl _) _⟩
      · have hcb2 : (c == p) = false := by simp [hc]
        have HCN := Lib.hid hc
        clear hc
        go_wp2_with fail
        go_roundw
        case rel => exact ⟨k + 1, by omega, rfl, fun j hj h => by
          rcases Nat.lt_or_ge j k with h | h
          · exact HNO.out j hj h
          · obtain rfl : j = k := by omega
            rw [HP.out]; exact fun e => HCN.out e.symm⟩
        case measure => simp; omega
    · have hnx : ∀ ty, (Instr.next (.pointer (some ⟨w.heap.size, 0, none⟩)) true ty).run Tryz.prog (w.iter Lex.plainB k) = _ := fun ty => run_next_end w Lex.plainB k ty hlt
      have HE : Hid (Lex.escI c = none) := Lex.escI_none fun j hj => HNO.out j hj (by omega)
      have HF := HC.out
      rw [HE.out] at HF
      have HF2 := Lib.hid HF
      clear HF HC HE HNO HO
      have hbW : Below w.heap.size w (w.iter Lex.plainB k) := (Below.refl _ _).alloc (Nat.le_refl _) _
      have HBW := Lib.hid hbW
      clear hbW
      go_wp2_with fail
      generalize w.iter Lex.plainB k = W at *
      clear hnx hcb
      go_loop [6, 7] (fun v i => ∃ m : Nat, m ≤ 3 ∧ m + 1 ≤ s.size ∧ i = .int .i64 ((m : Int) + 1) ∧ v = .int .i64 (Lex.octV l m) ∧ ∀ j, j < m → Lex.oct (Lex.byteN l (j + 1)) = true) (fun _ i => 10 - (intOf i).toNat)
      case atStart => exact ⟨0, by omega, by omega, by simp, rfl, fun j h => by omega⟩
      case round =>
        obtain ⟨m, hm, hms, rfl, rfl, hoc⟩ := hrel
        have hov := Lex.octV_le l m hoc
        have hov8 : Lex.octV l m < 512 := Nat.lt_of_lt_of_le hov (Nat.pow_le_pow_right (by omega) hm)
        have hov6 : m < 3 → Lex.octV l m < 64 := fun h => Nat.lt_of_lt_of_le hov (Nat.pow_le_pow_right (n := 8) (by omega) (by omega : m ≤ 2))
        have HOC := Lib.hid hoc
        have HOV6 := Lib.hid hov6
        clear hoc hov hov6
        by_cases hm3 : m < 3
        · by_cases hsz : m + 1 < s.size
          · obtain ⟨b, hb⟩ : ∃ b, ((s[m + 1]'hsz).toNat : Int) = b := ⟨_, rfl⟩
            have hbe : Lex.byteN l (m + 1) = b := by rw [← hb, Lex.byteN_in (by rw [HLN.out]; exact hsz)]; have := HLL.out; subst this; rfl
            have HBE := Lib.hid hbe
            have hr := Lex.byteN_range l (m + 1)
            rw [hbe] at hr
            have HV : Hid (Lex.octV l (m + 1) = Lex.octV l m * 8 + ((Lex.byteN l (m + 1)).toNat - 48)) := rfl
            clear hbe
            cases hob : Lex.oct b
            · have HN : Hid (Lex.octN l = m) := Lex.octN_is hm HOC.out (.inr (by rw [HBE.out]; exact hob))
              have hbx : b < 48 ∨ 55 < b := by simp [Lex.oct] at hob; omega
              clear HOC HV hob HOV6
              rcases hbx with hbx | hbx
              · by_cases hm0 : m = 0
                · have HG := HF2.out
                  rw [HN.out, if_pos hm0] at HG
                  have hmm : ((m : Int) + 1 == 1) = true := by simp [hm0]
                  have HG2 := Lib.hid HG
                  have hx : s.extract 0 2 = (⟨(l.take 2).toArray⟩ : ByteArray) := by
                    apply bytes_ext
                    rw [HLL.out, ext_take]
                  have HX := Lib.hid hx
                  clear HG HN HF2 hx hm0
                  go_wp2_with fail
                  refine bodyPost_ret (v := .tuple #[.string (s.extract 0 2), .int .i64 2]) (by simp [results, Tryz.results101, go_sem]) rfl ⟨by rw [HG2.out, HX.out]; rfl, HBW.out⟩
                · have HG := HF2.out
                  rw [HN.out, if_neg hm0] at HG
                  have HG2 := Lib.hid HG
                  have hmm : ((m : Int) + 1 == 1) = false := by simp; omega
                  have hcv := byte_back W (Lex.octV l m % 256) (by omega)
                  rw [show ((Lex.octV l m % 256 : Nat) : Int) = (Lex.octV l m : Int) % 256 by omega] at hcv
                  have hb9 := HBW.out.alloc HBW.out.size (.cells #[.int .u8 ((Lex.octV l m : Int) % 256)] 5)
                  have HB9 := Lib.hid hb9
                  clear HG HN HF2 hb9
                  go_wp2_with fail
                  refine bodyPost_ret (v := .tuple #[.string ⟨#[UInt8.ofNat (Lex.octV l m % 256)]⟩, .int .i64 ((m : Int) + 1)]) (by simp [results, Tryz.results101, go_sem]) rfl ⟨by rw [HG2.out]; rfl, HB9.out⟩
              · by_cases hm0 : m = 0
                · have HG := HF2.out
                  rw [HN.out, if_pos hm0] at HG
                  have hmm : ((m : Int) + 1 == 1) = true := by simp [hm0]
                  have HG2 := Lib.hid HG
                  have hx : s.extract 0 2 = (⟨(l.take 2).toArray⟩ : ByteArray) := by
                    apply bytes_ext
                    rw [HLL.out, ext_take]
                  have HX := Lib.hid hx
                  clear HG HN HF2 hx hm0
                  go_wp2_with fail
                  refine bodyPost_ret (v := .tuple #[.string (s.extract 0 2), .int .i64 2]) (by simp [results, Tryz.results101, go_sem]) rfl ⟨by rw [HG2.out, HX.out]; rfl, HBW.out⟩
                · have HG := HF2.out
                  rw [HN.out, if_neg hm0] at HG
                  have HG2 := Lib.hid HG
                  have hmm : ((m : Int) + 1 == 1) = false := by simp; omega
                  have hcv := byte_back W (Lex.octV l m % 256) (by omega)
                  rw [show ((Lex.octV l m % 256 : Nat) : Int) = (Lex.octV l m : Int) % 256 by omega] at hcv
                  have hb9 := HBW.out.alloc HBW.out.size (.cells #[.int .u8 ((Lex.octV l m : Int) % 256)] 5)
                  have HB9 := Lib.hid hb9
                  clear HG HN HF2 hb9
                  go_wp2_with fail
                  refine bodyPost_ret (v := .tuple #[.string ⟨#[UInt8.ofNat (Lex.octV l m % 256)]⟩, .int .i64 ((m : Int) + 1)]) (by simp [results, Tryz.results101, go_sem]) rfl ⟨by rw [HG2.out]; rfl, HB9.out⟩
            · have hbr : 48 ≤ b ∧ b ≤ 55 := by simp [Lex.oct] at hob; omega
              obtain ⟨hb1, hb2⟩ := hbr
              have hor := or8 (Lex.octV l m) (b.toNat - 48) (HOV6.out hm3) (by omega)
              rw [show ((Lex.octV l m * 8 : Nat) : Int) = (Lex.octV l m : Int) * 8 by omega, show ((b.toNat - 48 : Nat) : Int) = b - 48 by omega] at hor
              have HOB := Lib.hid hob
              clear hob
              go_wp2_with fail
              go_round
              case rel => exact ⟨m + 1, by omega, by omega, by go_num, by rw [HV.out, HBE.out, Int.natCast_add, Int.natCast_mul]; rfl, fun j hj => by
                rcases Nat.lt_or_ge j m with h | h
                · exact HOC.out j h
                · obtain rfl : j = m := by omega
                  rw [HBE.out]; exact HOB.out⟩
              case measure => simp [intOf]; omega
          · have HN : Hid (Lex.octN l = m) := Lex.octN_is hm HOC.out (.inr (by rw [Lex.byteN_out (by rw [HLN.out]; omega)]; rfl))
            have hsz2 : s.size = m + 1 := by omega
            have hm0 : ¬ m = 0 := by omega
            have HSZ := Lib.hid hsz2
            have hsz3 : s.size ≤ m + 1 := by omega
            clear HOC HOV6 hsz hsz2
            have HG := HF2.out
            rw [HN.out, if_neg hm0] at HG
            have HG2 := Lib.hid HG
            have hmm : ((m : Int) + 1 == 1) = false := by simp; omega
            have hcv := byte_back W (Lex.octV l m % 256) (by omega)
            rw [show ((Lex.octV l m % 256 : Nat) : Int) = (Lex.octV l m : Int) % 256 by omega] at hcv
            have hb9 := HBW.out.alloc HBW.out.size (.cells #[.int .u8 ((Lex.octV l m : Int) % 256)] 5)
            have HB9 := Lib.hid hb9
            clear HG HN HF2 hb9
            go_wp2_with fail
            refine bodyPost_ret (v := .tuple #[.string ⟨#[UInt8.ofNat (Lex.octV l m % 256)]⟩, .int .i64 ((m : Int) + 1)]) (by simp [results, Tryz.results101, go_sem]) rfl ⟨by rw [HG2.out]; rfl, HB9.out⟩
        · have HN : Hid (Lex.octN l = m) := Lex.octN_is hm HOC.out (.inl (by omega))
          have hm0 : ¬ m = 0 := by omega
          clear HOC HOV6
          have HG := HF2.out
          rw [HN.out, if_neg hm0] at HG
          have HG2 := Lib.hid HG
          have hmm : ((m : Int) + 1 == 1) = false := by simp; omega
          have hcv := byte_back W (Lex.octV l m % 256) (by omega)
          rw [show ((Lex.octV l m % 256 : Nat) : Int) = (Lex.octV l m : Int) % 256 by omega] at hcv
          have hb9 := HBW.out.alloc HBW.out.size (.cells #[.int .u8 ((Lex.octV l m : Int) % 256)] 5)
          have HB9 := Lib.hid hb9
          clear HG HN HF2 hb9
          go_wp2_with fail
          refine bodyPost_ret (v := .tuple #[.string ⟨#[UInt8.ofNat (Lex.octV l m % 256)]⟩, .int .i64 ((m : Int) + 1)]) (by simp [results, Tryz.results101, go_sem]) rfl ⟨by rw [HG2.out]; rfl, HB9.out⟩
end Go.Proofs.YtmapjahpjolmnaaGreatDoor
namespace Go.Proofs.YtmapjahpjolmnaaGreatDoor
open Go.RowKit

theorem bld_info : (Tryz.prog.info? 146).map (·.size) = some 2 := by kernel_rfl
theorem bld_u8 : (Tryz.prog.info? 5).map (fun i => (i.zero, i.size, i.bytes)) = some (some (.int .u8 0), 1, 1) := by kernel_rfl
set_option maxRecDepth 100000 in
theorem b_check (B b : Nat) (bs : List Value) (w : World) (h : Lib.IsBuilder 146 5 B b bs w) :
    Calls Tryz.prog 109 #[.pointer (some ⟨b, 0, none⟩)] w fun e w' => e = .returned (.tuple #[]) ∧ Lib.BuilderAt 146 5 B b (.pointer (some ⟨b, 0, none⟩)) bs w' ∧ Below B w w' := by
  obtain ⟨i, hi, his⟩ := Option.map_eq_some_iff.1 bld_info
  rcases h with h | h
  · have c0 := h.cell0
    have f0 := h.frozen0
    have hsh := h.shape
    have H := Lib.hid h
    clear h
    go_enter Tryz.func109, Tryz.ntmps109
    go_wp2
    rw [Lib.run_to_unsafe w ⟨b, 0, none⟩ Tryz.underlying143 Tryz.underlying157 hi (by rw [his]; decide) hsh (Nat.zero_lt_succ 1)]
    simp only [Result.andThen]
    rw [Oper.upon_value]
    go_wp2
    rw [run_callFunc_extern Tryz.func114 (by kernel_rfl) (by kernel_rfl) (by kernel_rfl) (e := Extern.AbiNoEscape.same) (by kernel_rfl)]
    rw [Lib.run_noEscape]
    simp only [Result.andThen]
    rw [Oper.upon_value]
    go_wp2
    rw [Lib.run_from_unsafe w ⟨b, 0, none⟩ Tryz.underlying157 Tryz.underlying143 hi hsh (by kernel_rfl)]
    simp only [Result.andThen]
    rw [Oper.upon_value]
    go_wp2
    go_end0
    exact ⟨rfl, H.out.used _, (Below.refl B w).setCell (p := ⟨b, 0, none⟩) H.out.1 _⟩
  · have c0 := h.cell0
    have H := Lib.hid h
    clear h
    go_enter Tryz.func109, Tryz.ntmps109
    go_wp2
    rw [Lib.run_neq_ptr_same w _ Tryz.underlying143 hi]
    go_wp2
    go_end0
    exact ⟨rfl, H.out, Below.refl B _⟩
set_option maxRecDepth 100000 in
set_option maxHeartbeats 1000000 in
theorem b_byte (B b : Nat) (l : List UInt8) (c : UInt8) (w : World) (h : Lib.IsBuilder 146 5 B b (bvals l) w) (hlen : l.length + 1 ≤ 4294967296) (hBw : B ≤ w.heap.size) :
    Calls Tryz.prog 100 #[.pointer (some ⟨b, 0, none⟩), .int .u8 c.toNat] w fun e w' => e = .returned .nilIface ∧ Lib.BuilderAt 146 5 B b (.pointer (some ⟨b, 0, none⟩)) (bvals (l ++ [c])) w' ∧ Below B w w' := by
  have HB := Lib.hid h
  clear h
  go_enter Tryz.func100, Tryz.ntmps100
  go_wp2_with fail
  refine (b_check B b (bvals l) _ HB.out).mono ?_
  rintro e w1 ⟨rfl, h1, hb1⟩
  obtain ⟨hB, v, hbk, hown, hne⟩ := h1
  have c0 : w1.cell? ⟨b, 0, none⟩ = some (.pointer (some ⟨b, 0, none⟩)) := by rw [Lib.cell_of_heap hbk]; rfl
  have c1 : w1.cell? ⟨b, 1, none⟩ = some v := by rw [Lib.cell_of_heap hbk]; rfl
  have hz1 : (bvals l).length + 1 ≤ maxLen := by rw [bvals_length]; unfold maxLen; omega
  have hz2 : ((bvals l).length + 1) * 1 ≤ 140737488355328 := by rw [bvals_length]; omega
  have hs1 : B ≤ w1.heap.size := Nat.le_trans hBw hb1.size
  go_wp2_with (at_builtin; refine wp_app1 rfl _ _ _ rfl 5 1 1 (.int .u8 0) Tryz.underlying144 bld_u8 rfl (by decide) B v (bvals l).length (bvals l) rfl hown [_] rfl rfl one_int hz1 hz2 hs1 ?_)
  intro v' w2 hown' hgrow _
  have hlt : b < w1.heap.size := by
    rcases Nat.lt_or_ge b w1.heap.size with h' | h'
    · exact h'
    · simp [Array.getElem?_eq_none h'] at hbk
  have hb2 : w2.heap[b]? = some (.cells #[.pointer (some ⟨b, 0, none⟩), v] 146 (0, 0)) := by
    rw [hgrow.block b (by omega) (fun e => hne e.symm)]
    exact hbk
  have d0 : w2.cell? ⟨b, 0, none⟩ = some (.pointer (some ⟨b, 0, none⟩)) := by rw [Lib.cell_of_heap hb2]; rfl
  have d1 : w2.cell? ⟨b, 1, none⟩ = some v := by rw [Lib.cell_of_heap hb2]; rfl
  have f1 : w2.frozen? ⟨b, 1, none⟩ = false := Lib.frozen_of_heap hb2 1
  have hB2 := hb1.trans (below_grown hown hgrow hs1)
  have HOWN := Lib.hid hown'
  clear hown' hown hgrow c0 c1 hbk
  obtain ⟨g, cap, rfl⟩ : ∃ g cap, v' = .slice (some ⟨g, 0, none⟩) ((bvals l).length + 1) cap := by
    rcases HOWN.out.2 with ⟨_, h0⟩ | ⟨g, cap, cur, hv, _⟩
    · omega
    · exact ⟨g, cap, hv⟩
  go_wp2_with fail
  go_ret
  refine ⟨rfl, ?_, hB2.setCell (p := ⟨b, 1, none⟩) hB _⟩
  exact Lib.BuilderAt.put (T := 146) (e := 5) hB hb2 (bs' := bvals (l ++ [c])) (by rw [← bvals_snoc]; simpa using HOWN.out) (by decide)
set_option maxRecDepth 100000 in
set_option maxHeartbeats 1000000 in
theorem b_text (B b : Nat) (l : List UInt8) (s : ByteArray) (w : World) (h : Lib.IsBuilder 146 5 B b (bvals l) w) (hlen : l.length + s.size ≤ 4294967296) (hBw : B ≤ w.heap.size) :
    Calls Tryz.prog 102 #[.pointer (some ⟨b, 0, none⟩), .string s] w fun e w' => e = .returned (.tuple #[.int .i64 s.size, .nilIface]) ∧ Lib.BuilderAt 146 5 B b (.pointer (some ⟨b, 0, none⟩)) (bvals (l ++ s.data.toList)) w' ∧ Below B w w' := by
  obtain ⟨i0, hi, hz0, hz1, hz2⟩ := info_parts bld_u8
  have HB := Lib.hid h
  clear h
  have hsc : Lib.strCells s = bvals s.data.toList := rfl
  have HSC := Lib.hid hsc
  clear hsc
  go_enter Tryz.func102, Tryz.ntmps102
  go_wp2_with fail
  refine (b_check B b (bvals l) _ HB.out).mono ?_
  rintro e w1 ⟨rfl, h1, hb1⟩
  obtain ⟨hB, v, hbk, hown, hne⟩ := h1
  have c0 : w1.cell? ⟨b, 0, none⟩ = some (.pointer (some ⟨b, 0, none⟩)) := by rw [Lib.cell_of_heap hbk]; rfl
  have c1 : w1.cell? ⟨b, 1, none⟩ = some v := by rw [Lib.cell_of_heap hbk]; rfl
  have hs1 : B ≤ w1.heap.size := Nat.le_trans hBw hb1.size
  have hbl := bvals_length l
  go_wp2_with (at_builtin; refine Lib.wpList_append_own_string _ rfl _ _ 144 9 rfl B 5 i0 Tryz.underlying144 Tryz.underlying9 hi hz0 hz1 hz2 _ _ _ rfl hown s rfl ?c3 ?c4 ?c5 ?_)
  case c3 => rw [hbl]; unfold maxLen; omega
  case c4 => rw [hbl]; omega
  case c5 => exact hs1
  intro v' w2 hown' hgrow _
  have hlt : b < w1.heap.size := by
    rcases Nat.lt_or_ge b w1.heap.size with h' | h'
    · exact h'
    · simp [Array.getElem?_eq_none h'] at hbk
  have hb2 : w2.heap[b]? = some (.cells #[.pointer (some ⟨b, 0, none⟩), v] 146 (0, 0)) := by
    rw [hgrow.block b (by omega) (fun e => hne e.symm)]
    exact hbk
  have d0 : w2.cell? ⟨b, 0, none⟩ = some (.pointer (some ⟨b, 0, none⟩)) := by rw [Lib.cell_of_heap hb2]; rfl
  have d1 : w2.cell? ⟨b, 1, none⟩ = some v := by rw [Lib.cell_of_heap hb2]; rfl
  have f1 : w2.frozen? ⟨b, 1, none⟩ = false := Lib.frozen_of_heap hb2 1
  have hB2 := hb1.trans (below_grown hown hgrow hs1)
  have HOWN := Lib.hid hown'
  clear hown' hown hgrow c0 c1 hbk
  obtain ⟨ao, n', cap, rfl⟩ : ∃ ao n' cap, v' = .slice ao n' cap := by
    rcases HOWN.out.2 with ⟨hv, _⟩ | ⟨g, cap, cur, hv, _⟩
    · exact ⟨_, _, _, hv⟩
    · exact ⟨_, _, _, hv⟩
  go_wp2_with fail
  refine bodyPost_ret (v := .tuple #[.int .i64 s.size, .nilIface]) (by simp [results, Tryz.results102, go_sem]) rfl ⟨rfl, ?_, hB2.setCell (p := ⟨b, 1, none⟩) hB _⟩
  refine Lib.BuilderAt.put (T := 146) (e := 5) hB hb2 (bs' := bvals (l ++ s.data.toList)) ?_ (by decide)
  have e1 : bvals (l ++ s.data.toList) = bvals l ++ Lib.strCells s := by rw [HSC.out]; simp [bvals]
  rw [e1, List.length_append, Lib.strCells_length, hbl]
  exact HOWN.out
end Go.Proofs.YtmapjahpjolmnaaGreatDoor
namespace Go.Proofs.YtmapjahpjolmnaaGreatDoor
set_option maxRecDepth 20000
open Go.RowKit

def quotV : Option (List UInt8 × Nat) → ByteArray × Nat
  | some p => (⟨p.1.toArray⟩, p.2)
  | none => (⟨#[]⟩, 0)
theorem bchar {s : ByteArray} {l : List UInt8} (h : l = s.data.toList) {n : Nat} (hn : n < s.size) (hn' : n < l.length) : l[n] = s[n] := by subst h; rfl
theorem bld_at {T e : TypeId} {B b : Nat} {p : Value} {bs : List Value} {w w' : World} (h : Lib.BuilderAt T e B b p bs w) (hb : Below w.heap.size w w') : Lib.BuilderAt T e B b p bs w' := by
  have hlt := h.lt
  obtain ⟨h1, v, h2, h3, h4⟩ := h
  exact ⟨h1, v, (hb.block b hlt).trans h2, own_of_block h3 fun g hg => hb.block g (h3.lt g hg).2, h4⟩
theorem bld_keep {T e : TypeId} {B b : Nat} {bs : List Value} {w w' : World} (h : Lib.IsBuilder T e B b bs w) (hb : Below w.heap.size w w') : Lib.IsBuilder T e B b bs w' := by
  rcases h with h | h
  · exact .inl (bld_at h hb)
  · exact .inr (bld_at h hb)
set_option maxHeartbeats 4000000 in
theorem x_quoted (s : ByteArray) (q : UInt8) (w : World) (hs : s.size ≤ 4294967) (h0 : 0 < s.size) (hq : s[0] = q) (hq2 : q.toNat = 34 ∨ q.toNat = 47) :
    Calls Tryz.prog 84 #[.string s] w fun e w' => e = .returned (.tuple #[.string (quotV (Lex.quoted s.data.toList)).1, .int .i64 ((quotV (Lex.quoted s.data.toList)).2 : Nat)]) ∧ Below w.heap.size w w' := by
  have HLN : Hid (s.data.toList.length = s.size) := rfl
  obtain ⟨l, hL⟩ : ∃ l, l = s.data.toList := ⟨_, rfl⟩
  have HLL := Lib.hid hL
  rw [← hL] at HLN ⊢
  obtain ⟨R, hR⟩ : ∃ R, R = Lex.quoted l := ⟨_, rfl⟩
  have hg0 : Lex.Gone R q l 1 [] := by
    unfold Lex.Gone
    have hd : l = q :: l.drop 1 := by
      have h1 := List.drop_eq_getElem_cons (l := l) (i := 0) (by rw [HLN.out]; exact h0)
      rw [bchar hL h0, hq] at h1
      simpa using h1
    rw [hR]
    conv => rhs; rw [hd]
    simp [Lex.quoted]
  rw [← hR]
  clear hL hR
  have HG0 := Lib.hid hg0
  have HQ2 := Lib.hid hq2
  clear hg0 hq2
  have hbld := Lib.fresh_isBuilder 146 5 w
  have hb1 := (Below.refl w.heap.size w).alloc (Nat.le_refl _) (.cells #[.pointer none, .slice none 0 0] 146)
  have hsz1 : (w.alloc (.cells #[.pointer none, .slice none 0 0] 146)).heap.size = w.heap.size + 1 := by simp
  have HBLD := Lib.hid hbld
  have HB1 := Lib.hid hb1
  have HSZ := Lib.hid hsz1
  clear hbld hb1 hsz1
  go_enter Tryz.func84, Tryz.ntmps84
  go_wp2_with fail
  generalize w.alloc (.cells #[.pointer none, .slice none 0 0] 146) = w1 at *
  obtain ⟨B, hB⟩ : ∃ B, B = w.heap.size := ⟨_, rfl⟩
  have HBE := Lib.hid hB
  rw [← hB] at HBLD HB1 HSZ ⊢
  clear hB
  go_loopw [6] (fun i wr => ∃ (n : Nat) (acc : List UInt8), 1 ≤ n ∧ n ≤ s.size ∧ i = .int .i64 n ∧ acc.length ≤ n ∧ Lib.IsBuilder 146 5 B B (bvals acc) wr ∧ Below B w wr ∧ B ≤ wr.heap.size ∧ Lex.Gone R q l n acc) (fun i _ => s.size - (intOf i).toNat)
  case atStart => exact ⟨1, [], Nat.le_refl _, h0, rfl, by simp, HBLD.out, HB1.out, by have := HSZ.out; omega, HG0.out⟩
  case round =>
    obtain ⟨n, acc, hn1, hns, rfl, hal, hbl, hbe, hbs, hgo⟩ := hrel
    have HGO := Lib.hid hgo
    have HBL := Lib.hid hbl
    have HBEL := Lib.hid hbe
    clear hgo hbl hbe
    by_cases hlt : n < s.size
    · have hnl : n < l.length := by rw [HLN.out]; exact hlt
      obtain ⟨c, hc⟩ : ∃ c, s[n] = c := ⟨_, rfl⟩
      have hcl : l[n] = c := (bchar HLL.out hlt hnl).trans hc
      by_cases h10 : c.toNat = 10
      · have hr := HGO.out.line hnl (by rw [hcl]; exact h10)
        have hcb : ((c.toNat : Int) == 10) = true := by simp; omega
        have HR := Lib.hid hr
        clear hr hcl
        go_wp2_with fail
        refine bodyPost_ret (v := .tuple #[.string ⟨#[]⟩, .int .i64 0]) (by simp [results, Tryz.results84, go_sem]) rfl ⟨by rw [HR.out]; rfl, by rw [← HBE.out]; exact HBEL.out⟩
      · have hcb : ((c.toNat : Int) == 10) = false := by simp; omega
        by_cases hcq : c.toNat = q.toNat
        · have hr := HGO.out.done hnl (by rw [hcl]; exact h10) (by rw [hcl]; exact hcq)
          have hcb2 : ((c.toNat : Int) == (q.toNat : Int)) = true := by simp; omega
          have HR := Lib.hid hr
          clear hr hcl
          go_wp2_with fail
          refine (Tryz.Builder_String_any B B acc wr HBL.out hbs).mono ?_
          rintro e w3 ⟨rfl, hb3⟩
          have HB3 := Lib.hid (HBEL.out.trans hb3)
          clear hb3
          go_wp2_with fail
          refine bodyPost_ret (v := .tuple #[.string ⟨acc.toArray⟩, .int .i64 ((n : Int) + 1)]) (by simp [results, Tryz.results84, go_sem]) rfl ⟨by rw [HR.out]; rfl, by rw [← HBE.out]; exact HB3.out⟩
        · have hcb2 : ((c.toNat : Int) == (q.toNat : Int)) = false := by simp; omega
          by_cases h92 : c.toNat = 92
          · have hcb3 : ((c.toNat : Int) == 92) = true := by simp; omega
            by_cases hn2 : n + 1 < s.size
            · obtain ⟨d, hd⟩ : ∃ d, s[n + 1] = d := ⟨_, rfl⟩
              have hdl : Lex.byteN l (n + 1) = (d.toNat : Int) := by rw [Lex.byteN_in (by rw [HLN.out]; exact hn2), bchar HLL.out hn2, hd]
              have hn3 : ((n : Int) + 1 == (s.size : Int)) = false := by simp; omega
              by_cases hd10 : d.toNat = 10
              · have hr := HGO.out.bad hnl (by rw [hcl]; exact h10) (by rw [hcl]; exact hcq) (by rw [hcl]; exact h92) (.inr (by rw [hdl]; omega))
                have hdb : ((d.toNat : Int) == 10) = true := by simp; omega
                have HR := Lib.hid hr
                clear hr hcl hdl
                go_wp2_with fail
                refine bodyPost_ret (v := .tuple #[.string ⟨#[]⟩, .int .i64 0]) (by simp [results, Tryz.results84, go_sem]) rfl ⟨by rw [HR.out]; rfl, by rw [← HBE.out]; exact HBEL.out⟩
              · have hgm := HGO.out.mark (by rw [HLN.out]; exact hn2) (by rw [hcl]; exact h10) (by rw [hcl]; exact hcq) (by rw [hcl]; exact h92) (by rw [hdl]; omega)
                have hdb : ((d.toNat : Int) == 10) = false := by simp; omega
                have hsl := Lex.say_le q (l := l.drop n) (by rw [List.length_drop, HLN.out]; omega)
                rw [List.length_drop, HLN.out] at hsl
                obtain ⟨hsl1, hsl2⟩ := hsl
                have hsl3 := Lex.say_ge q (l.drop n)
                have HGM := Lib.hid hgm
                have hb1d : Lex.byteN (l.drop n) 1 = (d.toNat : Int) := by rw [Lex.byteN_drop]; exact hdl
                have HSAY : Hid (Lex.say q (l.drop n) = if q.toNat = 34 then ((Lex.markL (l.drop n)).1.data.toList, (Lex.markL (l.drop n)).2) else if (d.toNat : Int) = 47 then ([47], 2) else ((l.drop n).take 2, 2)) := by unfold Hid Lex.say; rw [hb1d]
                have HDL := Lib.hid hdl
                clear hgm hcl hdl hb1d HGO
                by_cases hq34 : q.toNat = 34
                · have hqb : ((q.toNat : Int) == 34) = true := by simp; omega
                  have hse := HSAY.out
                  rw [if_pos hq34] at hse
                  have HSE := Lib.hid hse
                  clear hse HSAY hq34
                  go_wp2_with fail
                  refine (x_mark (s.extract n s.size) _ (by simp; omega) (by simp; omega)).mono ?_
                  rintro e w3 ⟨rfl, hb3⟩
                  rw [ext_drop, ← HLL.out]
                  generalize hmk : Lex.markL (l.drop n) = mk at *
                  clear hmk
                  have HBL5 := Lib.hid (bld_keep HBL.out hb3)
                  have HBE5 := Lib.hid (HBEL.out.trans (hb3.mono hbs))
                  have hbs5 := Nat.le_trans hbs hb3.size
                  rw [HSE.out] at hsl1 hsl2 hsl3
                  have hk1 : mk.2 ≤ s.size - n := hsl1
                  have hk2 : mk.1.size ≤ mk.2 := hsl2
                  have hk3 : 2 ≤ mk.2 := hsl3
                  clear hb3 hsl1 hsl2 hsl3
                  go_wp2_with fail
                  refine (b_text B B acc mk.1 _ HBL5.out (by omega) hbs5).mono ?_
                  rintro e w6 ⟨rfl, hbl6, hb6⟩
                  have HBL6 := Lib.hid hbl6
                  have HB6 := Lib.hid (HBE5.out.trans hb6)
                  have hbs6 := Nat.le_trans hbs5 hb6.size
                  clear hbl6 hb6
                  go_wp2_with fail
                  go_roundw
                  case rel => exact ⟨n + mk.2, acc ++ mk.1.data.toList, by omega, by omega, by go_num, by rw [List.length_append]; have h9 : mk.1.data.toList.length = mk.1.size := rfl; omega, .inr HBL6.out, HB6.out, hbs6, by have := HGM.out; rw [HSE.out] at this; exact this⟩
                  case measure => simp [intOf]; omega
                · have hqb : ((q.toNat : Int) == 34) = false := by simp; omega
                  have hse := HSAY.out
                  rw [if_neg hq34] at hse
                  have HBL5 := Lib.hid HBL.out
                  have HBE5 := Lib.hid HBEL.out
                  have hbs5 := hbs
                  by_cases hd47 : d.toNat = 47
                  · rw [if_pos (by omega)] at hse
                    have hdb2 : ((d.toNat : Int) == 47) = true := by simp; omega
                    have HSE := Lib.hid hse
                    clear hse HSAY hq34 hsl1 hsl2 hsl3
                    go_wp2_with fail
                    refine (b_text B B acc ⟨#[47]⟩ _ HBL5.out (by show acc.length + 1 ≤ _; omega) hbs5).mono ?_
                    rintro e w6 ⟨rfl, hbl6, hb6⟩
                    have HBL6 := Lib.hid hbl6
                    have HB6 := Lib.hid (HBE5.out.trans hb6)
                    have hbs6 := Nat.le_trans hbs5 hb6.size
                    clear hbl6 hb6
                    go_wp2_with fail
                    go_roundw
                    case rel => exact ⟨n + 2, acc ++ [47], by omega, by omega, by go_num, by rw [List.length_append]; simp; omega, .inr HBL6.out, HB6.out, hbs6, by have := HGM.out; rw [HSE.out] at this; exact this⟩
                    case measure => simp [intOf]; omega
                  · rw [if_neg (by omega)] at hse
                    have hdb2 : ((d.toNat : Int) == 47) = false := by simp; omega
                    have hx : (s.extract n (n + 2)).data.toList = (l.drop n).take 2 := by
                      rw [HLL.out, ByteArray.data_extract, Array.toList_extract]
                      simp [List.extract]
                    have hxs : (s.extract n (n + 2)).size = 2 := by simp; omega
                    have HX := Lib.hid hx
                    have HXS := Lib.hid hxs
                    have HSE := Lib.hid hse
                    clear hse HSAY hq34 hsl1 hsl2 hsl3 hx hxs
                    go_wp2_with fail
                    refine (b_text B B acc (s.extract n (n + 2)) _ HBL5.out (by rw [HXS.out]; omega) hbs5).mono ?_
                    rintro e w6 ⟨rfl, hbl6, hb6⟩
                    have HBL6 := Lib.hid hbl6
                    have HB6 := Lib.hid (HBE5.out.trans hb6)
                    have hbs6 := Nat.le_trans hbs5 hb6.size
                    clear hbl6 hb6
                    go_wp2_with fail
                    go_roundw
                    case rel => exact ⟨n + 2, acc ++ (s.extract n (n + 2)).data.toList, by omega, by omega, by go_num, by rw [List.length_append, HX.out]; simp; omega, .inr HBL6.out, HB6.out, hbs6, by have := HGM.out; rw [HSE.out] at this; rw [HX.out]; exact this⟩
                    case measure => simp [intOf]; omega
            · have hr := HGO.out.bad hnl (by rw [hcl]; exact h10) (by rw [hcl]; exact hcq) (by rw [hcl]; exact h92) (.inl (by rw [HLN.out]; omega))
              have hn3 : ((n : Int) + 1 == (s.size : Int)) = true := by simp; omega
              have HR := Lib.hid hr
              clear hr hcl
              go_wp2_with fail
              refine bodyPost_ret (v := .tuple #[.string ⟨#[]⟩, .int .i64 0]) (by simp [results, Tryz.results84, go_sem]) rfl ⟨by rw [HR.out]; rfl, by rw [← HBE.out]; exact HBEL.out⟩
          · have hcb3 : ((c.toNat : Int) == 92) = false := by simp; omega
            have hgm := HGO.out.byte hnl (by rw [hcl]; exact h10) (by rw [hcl]; exact hcq) (by rw [hcl]; exact h92)
            rw [hcl] at hgm
            have HGM := Lib.hid hgm
            clear hgm hcl HGO
            go_wp2_with fail
            refine (b_byte B B acc c wr HBL.out (by omega) hbs).mono ?_
            rintro e w3 ⟨rfl, hbl3, hb3⟩
            have HBL3 := Lib.hid hbl3
            have HB3 := Lib.hid (HBEL.out.trans hb3)
            have hbs3 := Nat.le_trans hbs hb3.size
            clear hbl3 hb3
            go_wp2_with fail
            go_roundw
            case rel => exact ⟨n + 1, acc ++ [c], by omega, by omega, by go_num, by simp; omega, .inr HBL3.out, HB3.out, hbs3, HGM.out⟩
            case measure => simp [intOf]; omega
    · have hr := HGO.out.over (by rw [HLN.out]; omega)
      have HR := Lib.hid hr
      clear hr
      go_wp2_with fail
      refine bodyPost_ret (v := .tuple #[.string ⟨#[]⟩, .int .i64 0]) (by simp [results, Tryz.results84, go_sem]) rfl ⟨by rw [HR.out]; rfl, by rw [← HBE.out]; exact HBEL.out⟩
end Go.Proofs.YtmapjahpjolmnaaGreatDoor
