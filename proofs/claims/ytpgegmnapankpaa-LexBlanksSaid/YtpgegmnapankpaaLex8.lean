/- The walk of lex.mark. -/
import Derived.Test.YtpgegmnapankpaaLexR4
import Derived.Test.YtpgegmnapankpaaLex3
namespace Go.Proofs.Ytpgegmnapankpaa
open Go.RowKit
theorem or8 (a d : Nat) (ha : a < 64) (hd : d < 8) : bits BinOp.or IntKind.i64 ((a * 8 : Nat) : Int) (d : Int) = ((a * 8 + d : Nat) : Int) := by
  have h : ∀ a : Nat, a < 64 → ∀ d : Nat, d < 8 → bits BinOp.or IntKind.i64 ((a * 8 : Nat) : Int) (d : Int) = ((a * 8 + d : Nat) : Int) := by decide +kernel
  exact h a ha d hd
theorem plain_ascii (k : Nat) (hk : k < 10) : (Lex.plainB[k]'hk).toNat < 128 := by
  have h : ∀ k : Fin 10, (Lex.plainB[k.1]'k.2).toNat < 128 := by decide +kernel
  exact h ⟨k, hk⟩
set_option maxHeartbeats 2000000 in
theorem x_mark (s : ByteArray) (w : World) (hs : s.size ≤ 4294967) (hn : 1 < s.size) :
    Calls Try.prog 41 #[.string s] w fun e w' => e = .returned (.tuple #[.string (Lex.markL s.data.toList).1, .int .i64 ((Lex.markL s.data.toList).2 : Nat)]) ∧ Below w.heap.size w w' := by
  have HLN : Hid (s.data.toList.length = s.size) := rfl
  obtain ⟨l, hL⟩ : ∃ l, l = s.data.toList := ⟨_, rfl⟩
  have HLL := Lib.hid hL
  rw [← hL] at HLN ⊢
  clear hL
  obtain ⟨o, ho⟩ : ∃ o, o = Lex.markL l := ⟨_, rfl⟩
  rw [← ho]
  have HO := Lib.hid ho
  clear ho
  have HC : Hid (o = match Lex.escI (Lex.byteN l 1) with
    | some k => (Lex.saysB.extract k (k + 1), 2)
    | none => if Lex.octN l = 0 then (⟨(l.take 2).toArray⟩, 2) else (⟨#[UInt8.ofNat (Lex.octV l (Lex.octN l) % 256)]⟩, Lex.octN l + 1)) := HO.out
  have hcb : ((s[1]'hn).toNat : Int) = Lex.byteN l 1 := by rw [Lex.byteN_in (by rw [HLN.out]; exact hn)]; have := HLL.out; subst this; rfl
  have hcr := Lex.byteN_range l 1
  generalize hcc : Lex.byteN l 1 = c at *
  have HCC := Lib.hid hcc
  clear hcc
  go_enter Try.func41, Try.ntmps41
  go_wp2_with fail
  go_loopw [4] (fun _ wr => ∃ k : Nat, k ≤ 10 ∧ wr = w.iter Lex.plainB k ∧ ∀ j, (hj : j < 10) → j < k → ¬ ((Lex.plainB[j]'hj).toNat : Int) = c) (fun _ wr => 10 - wr.iterPos w.heap.size)
  case atStart => exact ⟨0, by omega, rfl, fun j _ h => by omega⟩
  case round =>
    obtain ⟨k, hk, rfl, hno⟩ := hrel
    have HNO := Lib.hid hno
    clear hno
    by_cases hlt : k < 10
    · have hnx : ∀ ty, (Instr.next (.pointer (some ⟨w.heap.size, 0, none⟩)) true ty).run Try.prog (w.iter Lex.plainB k) = _ := fun ty => run_next_ascii w Lex.plainB k ty hlt (plain_ascii k hlt)
      obtain ⟨p, hp⟩ : ∃ p, ((Lex.plainB[k]'hlt).toNat : Int) = p := ⟨_, rfl⟩
      have hpr : 0 ≤ p ∧ p < 128 := by have := plain_ascii k hlt; omega
      rw [show (Lex.plainB[k]'hlt).toNat = p.toNat by omega] at hnx
      rw [show ((p.toNat : Nat) : Int) = p by omega] at hnx
      have HP := Lib.hid hp
      clear hp
      by_cases hc : c = p
      · have HE : Hid (Lex.escI c = some k) := Lex.escI_some hlt (by rw [HP.out, hc]) HNO.out
        have HF := HC.out
        rw [HE.out] at HF
        have HF2 := Lib.hid HF
        clear HF HC HE HNO HO
        subst hc
        have hk2 : (k : Int) < 10 := by omega
        go_wp2_with fail
        refine bodyPost_ret (v := .tuple #[.string (Lex.saysB.extract k (k + 1)), .int .i64 2]) (by simp [results, Try.results41, go_sem]; rfl) rfl ⟨by rw [HF2.out]; rfl, (Below.refl _ _).alloc (Nat.le_refl _) _⟩
      · have hcb2 : (c == p) = false := by simp [hc]
        have HCN := Lib.hid hc
        clear hc
        go_wp2_with fail
        go_roundw
        case rel => exact ⟨k + 1, by omega, rfl, fun j hj h => by
          rcases Nat.lt_or_ge j k with h | h
          · exact HNO.out j hj h
          · obtain rfl : j = k := by omega
            rw [HP.out]; exact fun e => HCN.out e.symm⟩
        case measure => simp; omega
    · have hnx : ∀ ty, (Instr.next (.pointer (some ⟨w.heap.size, 0, none⟩)) true ty).run Try.prog (w.iter Lex.plainB k) = _ := fun ty => run_next_end w Lex.plainB k ty hlt
      have HE : Hid (Lex.escI c = none) := Lex.escI_none fun j hj => HNO.out j hj (by omega)
      have HF := HC.out
      rw [HE.out] at HF
      have HF2 := Lib.hid HF
      clear HF HC HE HNO HO
      have hbW : Below w.heap.size w (w.iter Lex.plainB k) := (Below.refl _ _).alloc (Nat.le_refl _) _
      have HBW := Lib.hid hbW
      clear hbW
      go_wp2_with fail
      generalize w.iter Lex.plainB k = W at *
      clear hnx hcb
      go_loop [6, 7] (fun v i => ∃ m : Nat, m ≤ 3 ∧ m + 1 ≤ s.size ∧ i = .int .i64 ((m : Int) + 1) ∧ v = .int .i64 (Lex.octV l m) ∧ ∀ j, j < m → Lex.oct (Lex.byteN l (j + 1)) = true) (fun _ i => 10 - (intOf i).toNat)
      case atStart => exact ⟨0, by omega, by omega, by simp, rfl, fun j h => by omega⟩
      case round =>
        obtain ⟨m, hm, hms, rfl, rfl, hoc⟩ := hrel
        have hov := Lex.octV_le l m hoc
        have hov8 : Lex.octV l m < 512 := Nat.lt_of_lt_of_le hov (Nat.pow_le_pow_right (by omega) hm)
        have hov6 : m < 3 → Lex.octV l m < 64 := fun h => Nat.lt_of_lt_of_le hov (Nat.pow_le_pow_right (n := 8) (by omega) (by omega : m ≤ 2))
        have HOC := Lib.hid hoc
        have HOV6 := Lib.hid hov6
        clear hoc hov hov6
        by_cases hm3 : m < 3
        · by_cases hsz : m + 1 < s.size
          · obtain ⟨b, hb⟩ : ∃ b, ((s[m + 1]'hsz).toNat : Int) = b := ⟨_, rfl⟩
            have hbe : Lex.byteN l (m + 1) = b := by rw [← hb, Lex.byteN_in (by rw [HLN.out]; exact hsz)]; have := HLL.out; subst this; rfl
            have HBE := Lib.hid hbe
            have hr := Lex.byteN_range l (m + 1)
            rw [hbe] at hr
            have HV : Hid (Lex.octV l (m + 1) = Lex.octV l m * 8 + ((Lex.byteN l (m + 1)).toNat - 48)) := rfl
            clear hbe
            cases hob : Lex.oct b
            · have HN : Hid (Lex.octN l = m) := Lex.octN_is hm HOC.out (.inr (by rw [HBE.out]; exact hob))
              have hbx : b < 48 ∨ 55 < b := by simp [Lex.oct] at hob; omega
              clear HOC HV hob HOV6
              rcases hbx with hbx | hbx
              · by_cases hm0 : m = 0
                · have HG := HF2.out
                  rw [HN.out, if_pos hm0] at HG
                  have hmm : ((m : Int) + 1 == 1) = true := by simp [hm0]
                  have HG2 := Lib.hid HG
                  have hx : s.extract 0 2 = (⟨(l.take 2).toArray⟩ : ByteArray) := by
                    apply bytes_ext
                    rw [HLL.out, ext_take]
                  have HX := Lib.hid hx
                  clear HG HN HF2 hx hm0
                  go_wp2_with fail
                  refine bodyPost_ret (v := .tuple #[.string (s.extract 0 2), .int .i64 2]) (by simp [results, Try.results41, go_sem]) rfl ⟨by rw [HG2.out, HX.out]; rfl, HBW.out⟩
                · have HG := HF2.out
                  rw [HN.out, if_neg hm0] at HG
                  have HG2 := Lib.hid HG
                  have hmm : ((m : Int) + 1 == 1) = false := by simp; omega
                  have hcv := byte_back W (Lex.octV l m % 256) (by omega)
                  rw [show ((Lex.octV l m % 256 : Nat) : Int) = (Lex.octV l m : Int) % 256 by omega] at hcv
                  have hb9 := HBW.out.alloc HBW.out.size (.cells #[.int .u8 ((Lex.octV l m : Int) % 256)] 5)
                  have HB9 := Lib.hid hb9
                  clear HG HN HF2 hb9
                  go_wp2_with fail
                  refine bodyPost_ret (v := .tuple #[.string ⟨#[UInt8.ofNat (Lex.octV l m % 256)]⟩, .int .i64 ((m : Int) + 1)]) (by simp [results, Try.results41, go_sem]) rfl ⟨by rw [HG2.out]; rfl, HB9.out⟩
              · by_cases hm0 : m = 0
                · have HG := HF2.out
                  rw [HN.out, if_pos hm0] at HG
                  have hmm : ((m : Int) + 1 == 1) = true := by simp [hm0]
                  have HG2 := Lib.hid HG
                  have hx : s.extract 0 2 = (⟨(l.take 2).toArray⟩ : ByteArray) := by
                    apply bytes_ext
                    rw [HLL.out, ext_take]
                  have HX := Lib.hid hx
                  clear HG HN HF2 hx hm0
                  go_wp2_with fail
                  refine bodyPost_ret (v := .tuple #[.string (s.extract 0 2), .int .i64 2]) (by simp [results, Try.results41, go_sem]) rfl ⟨by rw [HG2.out, HX.out]; rfl, HBW.out⟩
                · have HG := HF2.out
                  rw [HN.out, if_neg hm0] at HG
                  have HG2 := Lib.hid HG
                  have hmm : ((m : Int) + 1 == 1) = false := by simp; omega
                  have hcv := byte_back W (Lex.octV l m % 256) (by omega)
                  rw [show ((Lex.octV l m % 256 : Nat) : Int) = (Lex.octV l m : Int) % 256 by omega] at hcv
                  have hb9 := HBW.out.alloc HBW.out.size (.cells #[.int .u8 ((Lex.octV l m : Int) % 256)] 5)
                  have HB9 := Lib.hid hb9
                  clear HG HN HF2 hb9
                  go_wp2_with fail
                  refine bodyPost_ret (v := .tuple #[.string ⟨#[UInt8.ofNat (Lex.octV l m % 256)]⟩, .int .i64 ((m : Int) + 1)]) (by simp [results, Try.results41, go_sem]) rfl ⟨by rw [HG2.out]; rfl, HB9.out⟩
            · have hbr : 48 ≤ b ∧ b ≤ 55 := by simp [Lex.oct] at hob; omega
              obtain ⟨hb1, hb2⟩ := hbr
              have hor := or8 (Lex.octV l m) (b.toNat - 48) (HOV6.out hm3) (by omega)
              rw [show ((Lex.octV l m * 8 : Nat) : Int) = (Lex.octV l m : Int) * 8 by omega, show ((b.toNat - 48 : Nat) : Int) = b - 48 by omega] at hor
              have HOB := Lib.hid hob
              clear hob
              go_wp2_with fail
              go_round
              case rel => exact ⟨m + 1, by omega, by omega, by go_num, by rw [HV.out, HBE.out, Int.natCast_add, Int.natCast_mul]; rfl, fun j hj => by
                rcases Nat.lt_or_ge j m with h | h
                · exact HOC.out j h
                · obtain rfl : j = m := by omega
                  rw [HBE.out]; exact HOB.out⟩
              case measure => simp [intOf]; omega
          · have HN : Hid (Lex.octN l = m) := Lex.octN_is hm HOC.out (.inr (by rw [Lex.byteN_out (by rw [HLN.out]; omega)]; rfl))
            have hsz2 : s.size = m + 1 := by omega
            have hm0 : ¬ m = 0 := by omega
            have HSZ := Lib.hid hsz2
            have hsz3 : s.size ≤ m + 1 := by omega
            clear HOC HOV6 hsz hsz2
            have HG := HF2.out
            rw [HN.out, if_neg hm0] at HG
            have HG2 := Lib.hid HG
            have hmm : ((m : Int) + 1 == 1) = false := by simp; omega
            have hcv := byte_back W (Lex.octV l m % 256) (by omega)
            rw [show ((Lex.octV l m % 256 : Nat) : Int) = (Lex.octV l m : Int) % 256 by omega] at hcv
            have hb9 := HBW.out.alloc HBW.out.size (.cells #[.int .u8 ((Lex.octV l m : Int) % 256)] 5)
            have HB9 := Lib.hid hb9
            clear HG HN HF2 hb9
            go_wp2_with fail
            refine bodyPost_ret (v := .tuple #[.string ⟨#[UInt8.ofNat (Lex.octV l m % 256)]⟩, .int .i64 ((m : Int) + 1)]) (by simp [results, Try.results41, go_sem]) rfl ⟨by rw [HG2.out]; rfl, HB9.out⟩
        · have HN : Hid (Lex.octN l = m) := Lex.octN_is hm HOC.out (.inl (by omega))
          have hm0 : ¬ m = 0 := by omega
          clear HOC HOV6
          have HG := HF2.out
          rw [HN.out, if_neg hm0] at HG
          have HG2 := Lib.hid HG
          have hmm : ((m : Int) + 1 == 1) = false := by simp; omega
          have hcv := byte_back W (Lex.octV l m % 256) (by omega)
          rw [show ((Lex.octV l m % 256 : Nat) : Int) = (Lex.octV l m : Int) % 256 by omega] at hcv
          have hb9 := HBW.out.alloc HBW.out.size (.cells #[.int .u8 ((Lex.octV l m : Int) % 256)] 5)
          have HB9 := Lib.hid hb9
          clear HG HN HF2 hb9
          go_wp2_with fail
          refine bodyPost_ret (v := .tuple #[.string ⟨#[UInt8.ofNat (Lex.octV l m % 256)]⟩, .int .i64 ((m : Int) + 1)]) (by simp [results, Try.results41, go_sem]) rfl ⟨by rw [HG2.out]; rfl, HB9.out⟩
end Go.Proofs.Ytpgegmnapankpaa
