/- The document's readers: find, Spans, has, New. -/
import Derived.Test.YtdbdmgmenojcaaaDoorG18
import Derived.Test.YtdbdmgmenojcaaaDoorG19
import Derived.Test.YtdbdmgmenojcaaaDoorG9
set_option linter.unusedVariables false
set_option linter.unusedSimpArgs false
namespace Go.Proofs.YtdbdmgmenojcaaaDoor
open Go.RowKit Wd
theorem byte_at (s : ByteArray) (j : Nat) (h : j < s.size) (h2 : j < s.data.toList.length) : s.data.toList[j] = s[j] := rfl
theorem byte_eq {a b : UInt8} : ((a.toNat : Int) = (b.toNat : Int)) ↔ a = b := ⟨fun h => UInt8.toNat_inj.1 (by omega), fun h => by rw [h]⟩
theorem byte_ten {a : UInt8} : ((a.toNat : Int) = 10) ↔ a = 10 := ⟨fun h => UInt8.toNat_inj.1 (by show a.toNat = 10; omega), fun h => by rw [h]; rfl⟩
set_option maxRecDepth 20000 in
theorem q_find (s : ByteArray) (c : UInt8) (w : World) (hs : s.size ≤ 4294967296) :
    Calls Tryd.prog 49 #[.string s, .int .i64 0, .int .u8 c.toNat] w fun e w' => e = .returned (.int .i64 ((Rd.tw c s.data.toList).length : Int)) ∧ w = w' := by
  obtain ⟨r, hr⟩ : ∃ r : Nat, r = (Rd.tw c s.data.toList).length := ⟨_, rfl⟩
  rw [← hr]
  have HRR := Lib.hid hr
  clear hr
  have hc2 : (c.toNat : Int) ≤ 255 := by have := c.toNat_lt; omega
  go_enter Tryd.func49, Tryd.ntmps49
  go_wp2_with fail
  go_loop [1] (fun i => ∃ k : Nat, k ≤ s.size ∧ i = .int .i64 k ∧ ∀ j, (hj : j < s.size) → j < k → s[j] ≠ c) (fun i => s.size - (intOf i).toNat)
  case atStart => exact ⟨0, Nat.zero_le _, rfl, fun j _ h => by omega⟩
  case round =>
    obtain ⟨k, hk, rfl, hno⟩ := hrel
    have HNO := Lib.hid hno
    clear hno
    by_cases hlt : k < s.size
    · by_cases hq : s[k] = c
      · have HE : Hid (r = k) := by
          unfold Hid; rw [HRR.out]
          exact (Rd.tw_at s.data.toList c k (by exact hk) (fun j hj hb => HNO.out j hj hb) (fun _ => hq)).1
        have hq2 : ((s[k].toNat : Int) != (c.toNat : Int)) = false := by simp [byte_eq.2 hq]
        clear hq
        go_wp2_with fail
        go_ret
        exact ⟨by rw [HE.out]; rfl, rfl⟩
      · have hq2 : ((s[k].toNat : Int) != (c.toNat : Int)) = true := by rw [bne, beq_eq_false_iff_ne.2 (fun e => hq (byte_eq.1 e))]; rfl
        have HNO2 : Hid (∀ j, (hj : j < s.size) → j < k + 1 → s[j] ≠ c) := fun j hj hb => by
          by_cases e : j = k
          · subst e; exact hq
          · exact HNO.out j hj (by omega)
        clear hq
        go_wp2_with fail
        go_round
        case rel => exact ⟨k + 1, by omega, by go_num, HNO2.out⟩
        case measure => simp [intOf]; omega
    · have HE : Hid (r = k) := by
        unfold Hid; rw [HRR.out]
        exact (Rd.tw_at s.data.toList c k (by exact hk) (fun j hj hb => HNO.out j hj hb) (fun h => absurd h hlt)).1
      go_wp2_with fail
      go_ret
      exact ⟨by rw [HE.out]; rfl, rfl⟩
theorem ten_no {a : UInt8} (h : a ≠ 10) : ((a.toNat : Int) == 10) = false := beq_eq_false_iff_ne.2 (fun e => h (byte_ten.1 e))
theorem ten_ne {a : UInt8} (h : a ≠ 10) : ((a.toNat : Int) != 10) = true := by rw [bne, ten_no h]; rfl
theorem ten_yes {a : UInt8} (h : a = 10) : ((a.toNat : Int) != 10) = false := by subst h; rfl
set_option maxRecDepth 100000 in
set_option maxHeartbeats 2000000 in
theorem q_spans (s : ByteArray) (w : World) (hs : s.size ≤ 4294967296) :
    Calls Tryd.prog 50 #[.string s] w fun e w' => ∃ a b c : Nat, e = .returned (.tuple #[.int .i64 a, .int .i64 b, .int .i64 c]) ∧ Rd.Span s.data.toList a b c ∧ w = w' := by
  go_enter Tryd.func50, Tryd.ntmps50
  go_wp2_with fail
  go_loop [5] (fun i => ∃ k : Nat, k ≤ s.size ∧ i = .int .i64 k ∧ ∀ j, (hj : j < s.size) → j < k → s[j] = 10) (fun i => s.size - (intOf i).toNat)
  case atStart => exact ⟨0, Nat.zero_le _, rfl, fun j _ h => by omega⟩
  case round =>
    obtain ⟨k, hk, rfl, hpre⟩ := hrel
    have HPRE := Lib.hid hpre
    clear hpre
    have hways : (∃ h : k < s.size, s[k] = 10) ∨ ((∃ h : k < s.size, s[k] ≠ 10) ∨ ¬ k < s.size) := by
      by_cases h : k < s.size
      · by_cases h2 : s[k] = 10
        · exact .inl ⟨h, h2⟩
        · exact .inr (.inl ⟨h, h2⟩)
      · exact .inr (.inr h)
    rcases hways with ⟨hlt, hq⟩ | hend
    · have hq2 : ((s[k].toNat : Int) == 10) = true := by simp [byte_ten.2 hq]
      have HP2 : Hid (∀ j, (hj : j < s.size) → j < k + 1 → s[j] = 10) := fun j hj hb => by
        by_cases e : j = k
        · subst e; exact hq
        · exact HPRE.out j hj (by omega)
      clear hq
      go_wp2_with fail
      go_round
      case rel => exact ⟨k + 1, by omega, by go_num, HP2.out⟩
      case measure => simp [intOf]; omega
    · have HBEG : Hid (∀ hb : k < s.data.toList.length, s.data.toList[k] ≠ 10) := fun hb => by
        rcases hend with ⟨_, h2⟩ | h2
        · exact h2
        · exact absurd hb h2
      have hend2 : (∃ h : k < s.size, ((s[k].toNat : Int) == 10) = false) ∨ ¬ k < s.size := by
        rcases hend with ⟨h1, h2⟩ | h2
        · exact .inl ⟨h1, ten_no h2⟩
        · exact .inr h2
      clear hend
      rcases hend2 with ⟨hlt, hq2⟩ | hlt
      all_goals (
        go_wp2_with fail
        go_loop [6] (fun i => ∃ m : Nat, k ≤ m ∧ m ≤ s.size ∧ i = .int .i64 m ∧ ∀ j, k ≤ j → j < m → Lib.occAt s.data.toList [10, 10] j = false) (fun i => s.size - (intOf i).toNat)
        case atStart => exact ⟨k, Nat.le_refl _, hk, rfl, fun j h1 h2 => by omega⟩
        case round =>
          obtain ⟨m, hkm, hm, rfl, hno⟩ := hrel
          have HNO := Lib.hid hno
          clear hno
          have hm2 : m < 9223372036854775807 := by omega
          have hways2 : (∃ h : m + 1 < s.size, s[m] = 10 ∧ s[m + 1] = 10) ∨ ((∃ h : m + 1 < s.size, s[m] = 10 ∧ s[m + 1] ≠ 10) ∨ ((∃ h : m < s.size, s[m] = 10 ∧ ¬ m + 1 < s.size) ∨ ((∃ h : m < s.size, s[m] ≠ 10) ∨ ¬ m < s.size))) := by
            by_cases h : m < s.size
            · by_cases h2 : s[m] = 10
              · by_cases h3 : m + 1 < s.size
                · by_cases h4 : s[m + 1] = 10
                  · exact .inl ⟨h3, h2, h4⟩
                  · exact .inr (.inl ⟨h3, h2, h4⟩)
                · exact .inr (.inr (.inl ⟨h, h2, h3⟩))
              · exact .inr (.inr (.inr (.inl ⟨h, h2⟩)))
            · exact .inr (.inr (.inr (.inr h)))
          have stepno : Lib.occAt s.data.toList [10, 10] m = false → ∀ j, k ≤ j → j < m + 1 → Lib.occAt s.data.toList [10, 10] j = false := fun h j h1 h2 => by
            by_cases e : j = m
            · subst e; exact h
            · exact HNO.out j h1 (by omega)
          have nofalse : (∀ h : m + 1 < s.size, s[m] = 10 → s[m + 1] = 10 → False) → Lib.occAt s.data.toList [10, 10] m = false := fun h => by
            cases ho : Lib.occAt s.data.toList [10, 10] m with
            | false => rfl
            | true =>
              obtain ⟨h1, h2, h3⟩ := Rd.occ_two.1 ho
              exact absurd h3 (fun h3 => h h1 h2 h3)
          have HSN := Lib.hid (fun h => stepno (nofalse h))
          clear stepno nofalse
          have hrest : ((∃ h : m + 1 < s.size, s[m] = 10 ∧ s[m + 1] ≠ 10) ∨ ((∃ h : m < s.size, s[m] = 10 ∧ ¬ m + 1 < s.size) ∨ (∃ h : m < s.size, s[m] ≠ 10))) ∨ ((∃ h : m + 1 < s.size, s[m] = 10 ∧ s[m + 1] = 10) ∨ ¬ m < s.size) := by
            rcases hways2 with ⟨h, h2, h3⟩ | ⟨h, h2, h3⟩ | ⟨h, h2, h3⟩ | ⟨h, h2⟩ | h
            · exact .inr (.inl ⟨h, h2, h3⟩)
            · exact .inl (.inl ⟨h, h2, h3⟩)
            · exact .inl (.inr (.inl ⟨h, h2, h3⟩))
            · exact .inl (.inr (.inr ⟨h, h2⟩))
            · exact .inr (.inr h)
          clear hways2
          rcases hrest with hgo | hstop
          · rcases hgo with ⟨g1, g2, g3⟩ | ⟨g1, g2, g3⟩ | ⟨g1, g2⟩
            · have HS2 := Lib.hid (HSN.out (fun h h1 h2 => g3 h2))
              have g4 : m < s.size := by omega
              have e2 := ten_yes g2
              have e3 := ten_ne g3
              clear g2 g3
              first
              | (exfalso; omega)
              | (go_wp2_with fail
                 go_round
                 case rel => exact ⟨m + 1, by omega, by omega, by go_num, HS2.out⟩
                 case measure => simp [intOf]; omega)
            · have HS2 := Lib.hid (HSN.out (fun h h1 h2 => g3 h))
              have e2 := ten_yes g2
              clear g2
              first
              | (exfalso; omega)
              | (go_wp2_with fail
                 go_round
                 case rel => exact ⟨m + 1, by omega, by omega, by go_num, HS2.out⟩
                 case measure => simp [intOf]; omega)
            · have HS2 := Lib.hid (HSN.out (fun h h1 h2 => g2 h1))
              have e2 := ten_ne g2
              clear g2
              first
              | (exfalso; omega)
              | (go_wp2_with fail
                 go_round
                 case rel => exact ⟨m + 1, by omega, by omega, by go_num, HS2.out⟩
                 case measure => simp [intOf]; omega)
          · have HFIN : Hid (m < s.data.toList.length → Lib.occAt s.data.toList [10, 10] m = true) := fun hb => by
              rcases hstop with ⟨h, h2, h3⟩ | h
              · exact Rd.occ_two.2 ⟨h, h2, h3⟩
              · exact absurd hb h
            clear HSN
            have hst2 : (∃ h : m + 1 < s.size, ((s[m].toNat : Int) != 10) = false ∧ ((s[m + 1].toNat : Int) != 10) = false) ∨ ¬ m < s.size := by
              rcases hstop with ⟨h, h2, h3⟩ | h
              · exact .inl ⟨h, ten_yes h2, ten_yes h3⟩
              · exact .inr h
            clear hstop
            rcases hst2 with ⟨g1, g2, g3⟩ | g1
            all_goals (
              try have g4 : m < s.size := by omega
              first
              | (exfalso; omega)
              | (go_wp2_with fail
                 go_loop [7] (fun i => ∃ n : Nat, m ≤ n ∧ n ≤ s.size ∧ i = .int .i64 n ∧ ∀ j, (hj : j < s.size) → m ≤ j → j < n → s[j] = 10) (fun i => s.size - (intOf i).toNat)
                 case atStart => exact ⟨m, Nat.le_refl _, hm, rfl, fun j _ h1 h2 => by omega⟩
                 case round =>
                   obtain ⟨n, hmn, hn, rfl, hmid⟩ := hrel
                   have HMID := Lib.hid hmid
                   clear hmid
                   by_cases hnl : n < s.size
                   · by_cases hq3 : s[n] = 10
                     · have HM2 : Hid (∀ j, (hj : j < s.size) → m ≤ j → j < n + 1 → s[j] = 10) := fun j hj h1 hb => by
                         by_cases e : j = n
                         · subst e; exact hq3
                         · exact HMID.out j hj h1 (by omega)
                       have e3 : ((s[n].toNat : Int) == 10) = true := by rw [hq3]; rfl
                       clear hq3
                       first
                       | (exfalso; omega)
                       | (go_wp2_with fail
                          go_round
                          case rel => exact ⟨n + 1, by omega, by omega, by go_num, HM2.out⟩
                          case measure => simp [intOf]; omega)
                     · have HSP : Hid (Rd.Span s.data.toList k m n) := ⟨hkm, hmn, hn, fun j hj hb => HPRE.out j hj hb, HBEG.out, HNO.out, HFIN.out, fun j hj h1 h2 => HMID.out j hj h1 h2, fun hh e => hq3 e⟩
                       have e3 := ten_no hq3
                       clear hq3
                       first
                       | (exfalso; omega)
                       | (go_wp2_with fail
                          go_ret3
                          exact ⟨k, m, n, rfl, HSP.out, rfl⟩)
                   · have HSP : Hid (Rd.Span s.data.toList k m n) := ⟨hkm, hmn, hn, fun j hj hb => HPRE.out j hj hb, HBEG.out, HNO.out, HFIN.out, fun j hj h1 h2 => HMID.out j hj h1 h2, fun hh e => hnl hh⟩
                     go_wp2_with fail
                     go_ret3
                     exact ⟨k, m, n, rfl, HSP.out, rfl⟩)))
set_option maxRecDepth 20000 in
theorem q_has (s rs : ByteArray) (w : World) (hs : s.size ≤ 4294967296) (hr : rs.size ≤ 4294967296) :
    Calls Tryd.prog 48 #[.string s, .string rs] w fun e w' => e = .returned (.bool (soT rs.data.toList s.data.toList)) ∧ w = w' := by
  obtain ⟨o, ho⟩ : ∃ o, o = soT rs.data.toList s.data.toList := ⟨_, rfl⟩
  rw [← ho]
  have HO := Lib.hid ho
  clear ho
  by_cases h0 : 0 < rs.size
  · have HBR : Hid (rs.data.toList = rs[0] :: rs.data.toList.tail) := by
      unfold Hid
      obtain ⟨⟨l⟩⟩ := rs
      cases l with
      | nil => exact absurd h0 (by simp [ByteArray.size])
      | cons x l => rfl
    have HF := Lib.hid (q_find s rs[0] w hs)
    have HEQ : Hid (o = decide ((Rd.tw rs[0] s.data.toList).length < s.size)) := by
      unfold Hid
      rw [HO.out, HBR.out]
      show decide (rs[0] ∈ s.data.toList) = _
      by_cases hm : rs[0] ∈ s.data.toList
      · have h1 := congrArg List.length (Rd.tw_split hm)
        have h2 : s.data.toList.length = s.size := rfl
        simp only [List.length_append, List.length_cons] at h1
        rw [decide_eq_true hm, decide_eq_true (by omega)]
      · have h2 : s.data.toList.length = s.size := rfl
        rw [decide_eq_false hm, (Rd.tw_all hm).1, decide_eq_false (by omega)]
    go_enter Tryd.func48, Tryd.ntmps48
    go_wp2_with fail
    refine HF.out.mono ?_
    rintro e w2 ⟨rfl, rfl⟩
    go_wp2_with fail
    go_ret
    exact ⟨ret_bool (by rw [HEQ.out]), rfl⟩
  · have HBR : Hid (rs.data.toList = []) := by
      unfold Hid
      exact data_nil (by omega)
    have HF := Lib.hid (q_spans s w hs)
    go_enter Tryd.func48, Tryd.ntmps48
    go_wp2_with fail
    refine HF.out.mono ?_
    rintro e w2 ⟨a, b, c, rfl, hsp, rfl⟩
    have HEQ : Hid (o = (decide (a < b) && decide (b < s.size) && decide (c < s.size))) := by
      unfold Hid
      rw [HO.out, HBR.out]
      exact Rd.span_so hsp
    clear hsp
    by_cases g1 : a < b
    · by_cases g2 : b < s.size
      · by_cases g3 : c < s.size
        all_goals
          go_wp2_with fail
          go_ret
          exact ⟨ret_bool (by rw [HEQ.out]; simp [g1, g2, g3]), rfl⟩
      · go_wp2_with fail
        go_ret
        exact ⟨ret_bool (by rw [HEQ.out]; simp [g1, g2]), rfl⟩
    · go_wp2_with fail
      go_ret
      exact ⟨ret_bool (by rw [HEQ.out]; simp [g1]), rfl⟩
end Go.Proofs.YtdbdmgmenojcaaaDoor
namespace Go.Proofs.YtdbdmgmenojcaaaDoor
open Go.RowKit Wd
def Kb (K : Nat → Prop) (S L : Nat) : Nat → Prop := fun b => (K b ∧ b < S) ∨ L ≤ b
/-- Inside a function of the document's: its boxes lie below L. -/
structure QW (K : Nat → Prop) (w wi : World) (L : Nat) (f : Fm) (rs : RSt) : Prop where
  below : Below w.heap.size w wi
  big : L ≤ wi.heap.size
  rf : RF (Kb K w.heap.size L) wi f rs
section
variable {K : Nat → Prop} {w wi wj : World} {L g : Nat} {f f' : Fm} {rs rs' : RSt}
theorem QW.start (h : RF K w f rs) (hb : Below w.heap.size w wi) : QW K w wi wi.heap.size f rs :=
  ⟨hb, Nat.le_refl _, RAt.pure (RAt.mono h (fun b hb hK => .inl ⟨hK, hb⟩)) hb⟩
theorem QW.pure (h : QW K w wi L f rs) (hb : Below wi.heap.size wi wj) : QW K w wj L f rs :=
  ⟨h.below.trans (hb.mono h.below.size), Nat.le_trans h.big hb.size, RAt.pure h.rf hb⟩
theorem QW.call (h : QW K w wi L f rs) (hb : Below wi.heap.size wi wj) (hr : RF (Nw (Kb K w.heap.size L) wi) wj f' rs') : QW K w wj L f' rs' :=
  ⟨h.below.trans (hb.mono h.below.size), Nat.le_trans h.big hb.size, RAt.mono hr (fun b _ hK => by
    have := h.big
    rcases hK with hK | hK
    · exact hK
    · exact .inr (by omega))⟩
theorem QW.box (h : QW K w wi L f rs) (ht : Tur (· = g) wi wj) (h1 : w.heap.size ≤ g) (h2 : g < L) : QW K w wj L f rs :=
  ⟨h.below.trans (ht.below _ h.below.size (fun k hk e => by have e : k = g := e; omega)), Nat.le_trans h.big ht.size, RAt.keep h.rf ht.size (fun b _ hK => ht.block b ‹_› (fun e => by
    have e : b = g := e
    rcases hK with hK | hK
    · have := hK.2; omega
    · omega))⟩
/-- A box anew: an alloc behind L. -/
theorem QW.more (h : QW K w wi L f rs) : QW K w wi wi.heap.size f rs → True := fun _ => trivial
theorem QW.out (h : QW K w wi L f rs) (hL : w.heap.size ≤ L) : RF (Nw K w) wi f rs := RAt.mono h.rf (fun b _ hK => by
  rcases hK with hK | hK
  · exact .inl hK.1
  · exact .inr (by omega))
end
theorem five {w : World} {g : Nat} {t : TypeId} {a b c d e : Value} (h : Blk w g t #[a, b, c, d, e]) : (w.cell? ⟨g, 0, none⟩ = some a ∧ w.cell? ⟨g, 1, none⟩ = some b ∧ w.cell? ⟨g, 2, none⟩ = some c ∧ w.cell? ⟨g, 3, none⟩ = some d ∧ w.cell? ⟨g, 4, none⟩ = some e) ∧ w.frozen? ⟨g, 0, none⟩ = false ∧ w.frozen? ⟨g, 1, none⟩ = false ∧ w.frozen? ⟨g, 2, none⟩ = false ∧ w.frozen? ⟨g, 3, none⟩ = false ∧ w.frozen? ⟨g, 4, none⟩ = false :=
  ⟨⟨h.cell 0, h.cell 1, h.cell 2, h.cell 3, h.cell 4⟩, h.free 0, h.free 1, h.free 2, h.free 3, h.free 4⟩
def zero5 : Array Value := #[.int .u8 0, .string ⟨#[]⟩, .string ⟨#[]⟩, .bool false, .bool false]
/-- What the document's New hands back. -/
def QNew (K : Nat → Prop) (w : World) (k : Int) (name : ByteArray) (o : RSt × Int) (e : Ending) (w' : World) : Prop :=
  ∃ f' k' name', e = .returned (.tuple #[.agg (fcells f' o.1), .agg #[.int .u8 k', .string name', .string ⟨#[]⟩, .bool false, .bool false], .int .i64 o.2]) ∧ RF (Nw K w) w' f' o.1 ∧ Below w.heap.size w w' ∧ (o.2 = 0 → k' = k ∧ name' = name)
section
variable {K : Nat → Prop} {w : World} {f : Fm} {rs : RSt}
set_option maxRecDepth 100000 in
set_option maxHeartbeats 4000000 in
theorem q_new (h : RF K w f rs) (k : Int) (name : ByteArray) (hev : rs.events.length ≤ 100000) (hop : rs.opn.length ≤ 100000) (hfil : rs.files.length ≤ 100000) :
    Calls Tryd.prog 15 #[.agg (fcells f rs), .int .u8 k, .string name] w (QNew K w k name (newD rs k name)) := by
  have hB0 : Below w.heap.size w (((w.alloc (.cells #[.slice f.A0 f.n0 f.c0, .string rs.stdin, .slice f.A2 rs.replies.length f.c2, .slice f.A3 rs.fails.length f.c3, .int .i64 rs.lim, .int .i64 rs.clock, .int .u64 rs.ch, .slice f.AF rs.files.length f.cF, .int .i64 rs.taken, .slice f.AO rs.opn.length f.cO, .int .u64 rs.num, .slice f.AE rs.events.length f.cE] 46)).alloc (.cells #[.slice none 0 0, .string ⟨#[]⟩, .slice none 0 0, .slice none 0 0, .int .i64 0, .int .i64 0, .int .u64 0, .slice none 0 0, .int .i64 0, .slice none 0 0, .int .u64 0, .slice none 0 0] 46)).alloc (.cells zero5 55)) := (((Below.refl _ _).alloc (Nat.le_refl _) _).alloc (by simp) _).alloc (by simp; omega) _
  have HX1 := Lib.hid (QW.start h hB0)
  have hz : (((w.alloc (.cells #[.slice f.A0 f.n0 f.c0, .string rs.stdin, .slice f.A2 rs.replies.length f.c2, .slice f.A3 rs.fails.length f.c3, .int .i64 rs.lim, .int .i64 rs.clock, .int .u64 rs.ch, .slice f.AF rs.files.length f.cF, .int .i64 rs.taken, .slice f.AO rs.opn.length f.cO, .int .u64 rs.num, .slice f.AE rs.events.length f.cE] 46)).alloc (.cells #[.slice none 0 0, .string ⟨#[]⟩, .slice none 0 0, .slice none 0 0, .int .i64 0, .int .i64 0, .int .u64 0, .slice none 0 0, .int .i64 0, .slice none 0 0, .int .u64 0, .slice none 0 0] 46)).alloc (.cells zero5 55)).heap.size = w.heap.size + 1 + 1 + 1 := by simp
  rw [hz] at HX1
  have HBB : Hid (Blk (((w.alloc (.cells #[.slice f.A0 f.n0 f.c0, .string rs.stdin, .slice f.A2 rs.replies.length f.c2, .slice f.A3 rs.fails.length f.c3, .int .i64 rs.lim, .int .i64 rs.clock, .int .u64 rs.ch, .slice f.AF rs.files.length f.cF, .int .i64 rs.taken, .slice f.AO rs.opn.length f.cO, .int .u64 rs.num, .slice f.AE rs.events.length f.cE] 46)).alloc (.cells #[.slice none 0 0, .string ⟨#[]⟩, .slice none 0 0, .slice none 0 0, .int .i64 0, .int .i64 0, .int .u64 0, .slice none 0 0, .int .i64 0, .slice none 0 0, .int .u64 0, .slice none 0 0] 46)).alloc (.cells zero5 55)) w.heap.size 46 #[.slice f.A0 f.n0 f.c0, .string rs.stdin, .slice f.A2 rs.replies.length f.c2, .slice f.A3 rs.fails.length f.c3, .int .i64 rs.lim, .int .i64 rs.clock, .int .u64 rs.ch, .slice f.AF rs.files.length f.cF, .int .i64 rs.taken, .slice f.AO rs.opn.length f.cO, .int .u64 rs.num, .slice f.AE rs.events.length f.cE]) := ((Blk.new w _ _).keep (Tur.of_alloc (F := fun _ => False) _ _) (fun h => h)).keep (Tur.of_alloc (F := fun _ => False) _ _) (fun h => h)
  have hRR := (Blk.new (w.alloc (.cells #[.slice f.A0 f.n0 f.c0, .string rs.stdin, .slice f.A2 rs.replies.length f.c2, .slice f.A3 rs.fails.length f.c3, .int .i64 rs.lim, .int .i64 rs.clock, .int .u64 rs.ch, .slice f.AF rs.files.length f.cF, .int .i64 rs.taken, .slice f.AO rs.opn.length f.cO, .int .u64 rs.num, .slice f.AE rs.events.length f.cE] 46)) 46 #[.slice none 0 0, .string ⟨#[]⟩, .slice none 0 0, .slice none 0 0, .int .i64 0, .int .i64 0, .int .u64 0, .slice none 0 0, .int .i64 0, .slice none 0 0, .int .u64 0, .slice none 0 0]).keep (Tur.of_alloc (F := fun _ => False) _ (.cells zero5 55)) (fun h => h)
  rw [World.size_alloc] at hRR
  have HRR := Lib.hid hRR
  have hQQ := Blk.new ((w.alloc (.cells #[.slice f.A0 f.n0 f.c0, .string rs.stdin, .slice f.A2 rs.replies.length f.c2, .slice f.A3 rs.fails.length f.c3, .int .i64 rs.lim, .int .i64 rs.clock, .int .u64 rs.ch, .slice f.AF rs.files.length f.cF, .int .i64 rs.taken, .slice f.AO rs.opn.length f.cO, .int .u64 rs.num, .slice f.AE rs.events.length f.cE] 46)).alloc (.cells #[.slice none 0 0, .string ⟨#[]⟩, .slice none 0 0, .slice none 0 0, .int .i64 0, .int .i64 0, .int .u64 0, .slice none 0 0, .int .i64 0, .slice none 0 0, .int .u64 0, .slice none 0 0] 46)) 55 zero5
  rw [World.size_alloc, World.size_alloc] at hQQ
  have HQQ := Lib.hid hQQ
  have HEV := Lib.hid hev
  have HOP := Lib.hid hop
  have HFIL := Lib.hid hfil
  clear hRR hQQ hz hB0 h hev hop hfil
  by_cases hk : k ≠ 1 ∧ k ≠ 2
  · have HO : Hid (newD rs k name = (rs, 2)) := if_pos hk
    rw [HO.out]
    obtain ⟨h1, h2⟩ := hk
    have e1 : (k == 1) = false := by simp [h1]
    have e2 : (k == 2) = false := by simp [h2]
    have d1 : (k != 1) = true := by simp [h1]
    have d2 : (k != 2) = true := by simp [h2]
    clear HO
    go_enter Tryd.func15, Tryd.ntmps15
    go_upto_region 1 with (fail)
    obtain ⟨B, hB⟩ : ∃ B, B = w.heap.size := ⟨_, rfl⟩
    rw [← hB] at HX1 HBB HRR HQQ ⊢
    obtain ⟨R, hR⟩ : ∃ R, R = B + 1 := ⟨_, rfl⟩
    rw [← hR] at HX1 HRR HQQ ⊢
    obtain ⟨Q, hQ⟩ : ∃ Q, Q = R + 1 := ⟨_, rfl⟩
    rw [← hQ] at HX1 HQQ ⊢
    have HBE := Lib.hid (And.intro hB (And.intro hR hQ))
    have hRB : R ≠ B := by omega
    have hQB : Q ≠ B := by omega
    have hQR : Q ≠ R := by omega
    clear hB hR hQ
    have HG := Lib.hid (show ((w.alloc (.cells #[.slice f.A0 f.n0 f.c0, .string rs.stdin, .slice f.A2 rs.replies.length f.c2, .slice f.A3 rs.fails.length f.c3, .int .i64 rs.lim, .int .i64 rs.clock, .int .u64 rs.ch, .slice f.AF rs.files.length f.cF, .int .i64 rs.taken, .slice f.AO rs.opn.length f.cO, .int .u64 rs.num, .slice f.AE rs.events.length f.cE] 46)).alloc (.cells #[.slice none 0 0, .string ⟨#[]⟩, .slice none 0 0, .slice none 0 0, .int .i64 0, .int .i64 0, .int .u64 0, .slice none 0 0, .int .i64 0, .slice none 0 0, .int .u64 0, .slice none 0 0] 46)).alloc (.cells zero5 55) = ((w.alloc (.cells (fcells f rs) 46)).alloc (.cells #[.slice none 0 0, .string ⟨#[]⟩, .slice none 0 0, .slice none 0 0, .int .i64 0, .int .i64 0, .int .u64 0, .slice none 0 0, .int .i64 0, .slice none 0 0, .int .u64 0, .slice none 0 0] 46)).alloc (.cells #[.int .u8 0, .string ⟨#[]⟩, .string ⟨#[]⟩, .bool false, .bool false] 55) from rfl)
    rw [← HG.out]
    clear HG
    generalize ((w.alloc (.cells #[.slice f.A0 f.n0 f.c0, .string rs.stdin, .slice f.A2 rs.replies.length f.c2, .slice f.A3 rs.fails.length f.c3, .int .i64 rs.lim, .int .i64 rs.clock, .int .u64 rs.ch, .slice f.AF rs.files.length f.cF, .int .i64 rs.taken, .slice f.AO rs.opn.length f.cO, .int .u64 rs.num, .slice f.AE rs.events.length f.cE] 46)).alloc (.cells #[.slice none 0 0, .string ⟨#[]⟩, .slice none 0 0, .slice none 0 0, .int .i64 0, .int .i64 0, .int .u64 0, .slice none 0 0, .int .i64 0, .slice none 0 0, .int .u64 0, .slice none 0 0] 46)).alloc (.cells zero5 55) = w1 at *
    obtain ⟨⟨b0, b1, b2, b3, b4, b5, b6, b7, b8, b9, b10, b11⟩, p0, p1, p2, p3, p4, p5, p6, p7, p8, p9, p10, p11⟩ := HBB.out.twelve
    obtain ⟨⟨r0, r1, r2, r3, r4, r5, r6, r7, r8, r9, r10, r11⟩, q0, q1, q2, q3, q4, q5, q6, q7, q8, q9, q10, q11⟩ := HRR.out.twelve
    obtain ⟨⟨y0, y1, y2, y3, y4⟩, z0, z1, z2, z3, z4⟩ := HQQ.out.five
    go_wp2_with fail
    have HXx := HX1
    have HRx := HRR
    have HQx := HQQ
    clear b0 b1 b2 b3 b4 b5 b6 b7 b8 b9 b10 b11 r0 r1 r2 r3 r4 r5 r6 r7 r8 r9 r10 r11 p0 p1 p2 p3 p4 p5 p6 p7 p8 p9 p10 p11 q0 q1 q2 q3 q4 q5 q6 q7 q8 q9 q10 q11 y0 y1 y2 y3 y4 z0 z1 z2 z3 z4
    have HRF := Lib.hid ((HXx.out.box (g := R) (Tur.set12 (.slice f.A0 f.n0 f.c0) (.string rs.stdin) (.slice f.A2 rs.replies.length f.c2) (.slice f.A3 rs.fails.length f.c3) (.int .i64 rs.lim) (.int .i64 rs.clock) (.int .u64 rs.ch) (.slice f.AF rs.files.length f.cF) (.int .i64 rs.taken) (.slice f.AO rs.opn.length f.cO) (.int .u64 rs.num) (.slice f.AE rs.events.length f.cE)) (by have := HBE.out; omega) (by have := HBE.out; omega)).box (g := Q) (Tur.set5 (i1 := 0) (i2 := 1) (i3 := 2) (i4 := 3) (i5 := 4) (.int .u8 0) (.string ⟨#[]⟩) (.string ⟨#[]⟩) (.bool false) (.bool false)) (by have := HBE.out; omega) (by have := HBE.out; omega))
    have HR9 := Lib.hid ((HRx.out.set12 (.slice f.A0 f.n0 f.c0) (.string rs.stdin) (.slice f.A2 rs.replies.length f.c2) (.slice f.A3 rs.fails.length f.c3) (.int .i64 rs.lim) (.int .i64 rs.clock) (.int .u64 rs.ch) (.slice f.AF rs.files.length f.cF) (.int .i64 rs.taken) (.slice f.AO rs.opn.length f.cO) (.int .u64 rs.num) (.slice f.AE rs.events.length f.cE)).keep (Tur.set5 (i1 := 0) (i2 := 1) (i3 := 2) (i4 := 3) (i5 := 4) (.int .u8 0) (.string ⟨#[]⟩) (.string ⟨#[]⟩) (.bool false) (.bool false)) (fun e => hQR e.symm))
    have HQ9 := Lib.hid ((HQx.out.keep (Tur.set12 (.slice f.A0 f.n0 f.c0) (.string rs.stdin) (.slice f.A2 rs.replies.length f.c2) (.slice f.A3 rs.fails.length f.c3) (.int .i64 rs.lim) (.int .i64 rs.clock) (.int .u64 rs.ch) (.slice f.AF rs.files.length f.cF) (.int .i64 rs.taken) (.slice f.AO rs.opn.length f.cO) (.int .u64 rs.num) (.slice f.AE rs.events.length f.cE)) hQR).set5 (.int .u8 0) (.string ⟨#[]⟩) (.string ⟨#[]⟩) (.bool false) (.bool false))
    generalize (((((((((((((((((w1.setCell ⟨R, 0, none⟩ (.slice f.A0 f.n0 f.c0)).setCell ⟨R, 1, none⟩ (.string rs.stdin)).setCell ⟨R, 2, none⟩ (.slice f.A2 rs.replies.length f.c2)).setCell ⟨R, 3, none⟩ (.slice f.A3 rs.fails.length f.c3)).setCell ⟨R, 4, none⟩ (.int .i64 rs.lim)).setCell ⟨R, 5, none⟩ (.int .i64 rs.clock)).setCell ⟨R, 6, none⟩ (.int .u64 rs.ch)).setCell ⟨R, 7, none⟩ (.slice f.AF rs.files.length f.cF)).setCell ⟨R, 8, none⟩ (.int .i64 rs.taken)).setCell ⟨R, 9, none⟩ (.slice f.AO rs.opn.length f.cO)).setCell ⟨R, 10, none⟩ (.int .u64 rs.num)).setCell ⟨R, 11, none⟩ (.slice f.AE rs.events.length f.cE)).setCell ⟨Q, 0, none⟩ (.int .u8 0)).setCell ⟨Q, 1, none⟩ (.string ⟨#[]⟩)).setCell ⟨Q, 2, none⟩ (.string ⟨#[]⟩)).setCell ⟨Q, 3, none⟩ (.bool false)).setCell ⟨Q, 4, none⟩ (.bool false)) = w9 at *
    obtain ⟨⟨x0, x1, x2, x3, x4, x5, x6, x7, x8, x9, x10, x11⟩, -⟩ := HR9.out.twelve
    obtain ⟨⟨y0, y1, y2, y3, y4⟩, -⟩ := HQ9.out.five
    refine bodyPost_ret (v := .tuple #[.agg #[.slice f.A0 f.n0 f.c0, .string rs.stdin, .slice f.A2 rs.replies.length f.c2, .slice f.A3 rs.fails.length f.c3, .int .i64 rs.lim, .int .i64 rs.clock, .int .u64 rs.ch, .slice f.AF rs.files.length f.cF, .int .i64 rs.taken, .slice f.AO rs.opn.length f.cO, .int .u64 rs.num, .slice f.AE rs.events.length f.cE], .agg #[.int .u8 0, .string ⟨#[]⟩, .string ⟨#[]⟩, .bool false, .bool false], .int .i64 2]) (by simp [results, Tryd.results15, go_sem, x0, x1, x2, x3, x4, x5, x6, x7, x8, x9, x10, x11, y0, y1, y2, y3, y4]) rfl ?_
    exact ⟨f, 0, ⟨#[]⟩, rfl, HRF.out.out (by have := HBE.out; omega), HRF.out.below, fun e => absurd e (show ¬ (2 : Int) = 0 by decide)⟩
  · have HO : Hid (newD rs k name = openD rs k name) := if_neg hk
    rw [HO.out]
    obtain ⟨o, ho⟩ : ∃ o, o = openD rs k name := ⟨_, rfl⟩
    rw [← ho]
    have HOO := Lib.hid ho
    clear HO ho
    have hw : k = 1 ∨ k = 2 := by omega
    clear hk
    have HOPEN : Hid (∀ (K : Nat → Prop) (w : World) (f : Fm), RF K w f rs → Calls Tryd.prog 36 #[.agg (fcells f rs), .int .u8 k, .string name] w (WrPost K w o.1 o.2)) := by
      intro K w f h
      rw [HOO.out]
      rcases hw with rfl | rfl
      · exact fw_open_1 h name HEV.out HOP.out HFIL.out
      · exact fw_open_2 h name HEV.out HOP.out HFIL.out
    have hcase : (k != 1) = false ∨ ((k != 1) = true ∧ (k != 2) = false) := by
      rcases hw with rfl | rfl
      · exact .inl (by decide)
      · exact .inr ⟨by decide, by decide⟩
    clear hw HOO
    rcases hcase with d1 | ⟨d1, d2⟩
    all_goals (
      go_enter Tryd.func15, Tryd.ntmps15
      go_upto_region 1 with (fail)
      obtain ⟨B, hB⟩ : ∃ B, B = w.heap.size := ⟨_, rfl⟩
      rw [← hB] at HX1 HBB HRR HQQ ⊢
      obtain ⟨R, hR⟩ : ∃ R, R = B + 1 := ⟨_, rfl⟩
      rw [← hR] at HX1 HRR HQQ ⊢
      obtain ⟨Q, hQ⟩ : ∃ Q, Q = R + 1 := ⟨_, rfl⟩
      rw [← hQ] at HX1 HQQ ⊢
      have HBE := Lib.hid (And.intro hB (And.intro hR hQ))
      have hRB : R ≠ B := by omega
      have hQB : Q ≠ B := by omega
      have hQR : Q ≠ R := by omega
      clear hB hR hQ
      have HG := Lib.hid (show ((w.alloc (.cells #[.slice f.A0 f.n0 f.c0, .string rs.stdin, .slice f.A2 rs.replies.length f.c2, .slice f.A3 rs.fails.length f.c3, .int .i64 rs.lim, .int .i64 rs.clock, .int .u64 rs.ch, .slice f.AF rs.files.length f.cF, .int .i64 rs.taken, .slice f.AO rs.opn.length f.cO, .int .u64 rs.num, .slice f.AE rs.events.length f.cE] 46)).alloc (.cells #[.slice none 0 0, .string ⟨#[]⟩, .slice none 0 0, .slice none 0 0, .int .i64 0, .int .i64 0, .int .u64 0, .slice none 0 0, .int .i64 0, .slice none 0 0, .int .u64 0, .slice none 0 0] 46)).alloc (.cells zero5 55) = ((w.alloc (.cells (fcells f rs) 46)).alloc (.cells #[.slice none 0 0, .string ⟨#[]⟩, .slice none 0 0, .slice none 0 0, .int .i64 0, .int .i64 0, .int .u64 0, .slice none 0 0, .int .i64 0, .slice none 0 0, .int .u64 0, .slice none 0 0] 46)).alloc (.cells #[.int .u8 0, .string ⟨#[]⟩, .string ⟨#[]⟩, .bool false, .bool false] 55) from rfl)
      rw [← HG.out]
      clear HG
      generalize ((w.alloc (.cells #[.slice f.A0 f.n0 f.c0, .string rs.stdin, .slice f.A2 rs.replies.length f.c2, .slice f.A3 rs.fails.length f.c3, .int .i64 rs.lim, .int .i64 rs.clock, .int .u64 rs.ch, .slice f.AF rs.files.length f.cF, .int .i64 rs.taken, .slice f.AO rs.opn.length f.cO, .int .u64 rs.num, .slice f.AE rs.events.length f.cE] 46)).alloc (.cells #[.slice none 0 0, .string ⟨#[]⟩, .slice none 0 0, .slice none 0 0, .int .i64 0, .int .i64 0, .int .u64 0, .slice none 0 0, .int .i64 0, .slice none 0 0, .int .u64 0, .slice none 0 0] 46)).alloc (.cells zero5 55) = w1 at *
      obtain ⟨⟨b0, b1, b2, b3, b4, b5, b6, b7, b8, b9, b10, b11⟩, p0, p1, p2, p3, p4, p5, p6, p7, p8, p9, p10, p11⟩ := HBB.out.twelve
      obtain ⟨⟨r0, r1, r2, r3, r4, r5, r6, r7, r8, r9, r10, r11⟩, q0, q1, q2, q3, q4, q5, q6, q7, q8, q9, q10, q11⟩ := HRR.out.twelve
      obtain ⟨⟨y0, y1, y2, y3, y4⟩, z0, z1, z2, z3, z4⟩ := HQQ.out.five
      go_wp2_with fail
      refine (HOPEN.out _ _ _ HX1.out.rf).mono ?_
      rintro e w2 ⟨f2, rfl, hr2, hb2⟩
      have HXc := Lib.hid (HX1.out.call hb2 hr2)
      have HB2 := Lib.hid (below_blk HBB.out hb2 HBB.out.lt)
      have HR2 := Lib.hid (below_blk HRR.out hb2 HRR.out.lt)
      have HQ2 := Lib.hid (below_blk HQQ.out hb2 HQQ.out.lt)
      clear hb2 hr2 b0 b1 b2 b3 b4 b5 b6 b7 b8 b9 b10 b11 r0 r1 r2 r3 r4 r5 r6 r7 r8 r9 r10 r11 p0 p1 p2 p3 p4 p5 p6 p7 p8 p9 p10 p11 q0 q1 q2 q3 q4 q5 q6 q7 q8 q9 q10 q11 y0 y1 y2 y3 y4 z0 z1 z2 z3 z4
      obtain ⟨⟨b0, b1, b2, b3, b4, b5, b6, b7, b8, b9, b10, b11⟩, p0, p1, p2, p3, p4, p5, p6, p7, p8, p9, p10, p11⟩ := HB2.out.twelve
      obtain ⟨⟨r0, r1, r2, r3, r4, r5, r6, r7, r8, r9, r10, r11⟩, q0, q1, q2, q3, q4, q5, q6, q7, q8, q9, q10, q11⟩ := HR2.out.twelve
      obtain ⟨⟨y0, y1, y2, y3, y4⟩, z0, z1, z2, z3, z4⟩ := HQ2.out.five
      clear r0 r1 r2 r3 r4 r5 r6 r7 r8 r9 r10 r11 q0 q1 q2 q3 q4 q5 q6 q7 q8 q9 q10 q11 y0 y1 y2 y3 y4 z0 z1 z2 z3 z4
      rw [show fcells f2 o.1 = #[.slice f2.A0 f2.n0 f2.c0, .string o.1.stdin, .slice f2.A2 o.1.replies.length f2.c2, .slice f2.A3 o.1.fails.length f2.c3, .int .i64 o.1.lim, .int .i64 o.1.clock, .int .u64 o.1.ch, .slice f2.AF o.1.files.length f2.cF, .int .i64 o.1.taken, .slice f2.AO o.1.opn.length f2.cO, .int .u64 o.1.num, .slice f2.AE o.1.events.length f2.cE] from rfl]
      go_upto_region 4 with (fail)
      have HXx := Lib.hid (HXc.out.box (g := B) (Tur.set12 (.slice f2.A0 f2.n0 f2.c0) (.string o.1.stdin) (.slice f2.A2 o.1.replies.length f2.c2) (.slice f2.A3 o.1.fails.length f2.c3) (.int .i64 o.1.lim) (.int .i64 o.1.clock) (.int .u64 o.1.ch) (.slice f2.AF o.1.files.length f2.cF) (.int .i64 o.1.taken) (.slice f2.AO o.1.opn.length f2.cO) (.int .u64 o.1.num) (.slice f2.AE o.1.events.length f2.cE)) (by have := HBE.out; omega) (by have := HBE.out; omega))
      have HBx := Lib.hid (HB2.out.set12 (.slice f2.A0 f2.n0 f2.c0) (.string o.1.stdin) (.slice f2.A2 o.1.replies.length f2.c2) (.slice f2.A3 o.1.fails.length f2.c3) (.int .i64 o.1.lim) (.int .i64 o.1.clock) (.int .u64 o.1.ch) (.slice f2.AF o.1.files.length f2.cF) (.int .i64 o.1.taken) (.slice f2.AO o.1.opn.length f2.cO) (.int .u64 o.1.num) (.slice f2.AE o.1.events.length f2.cE))
      have HRx := Lib.hid (HR2.out.keep (Tur.set12 (g := B) (.slice f2.A0 f2.n0 f2.c0) (.string o.1.stdin) (.slice f2.A2 o.1.replies.length f2.c2) (.slice f2.A3 o.1.fails.length f2.c3) (.int .i64 o.1.lim) (.int .i64 o.1.clock) (.int .u64 o.1.ch) (.slice f2.AF o.1.files.length f2.cF) (.int .i64 o.1.taken) (.slice f2.AO o.1.opn.length f2.cO) (.int .u64 o.1.num) (.slice f2.AE o.1.events.length f2.cE)) hRB)
      have HQx := Lib.hid (HQ2.out.keep (Tur.set12 (g := B) (.slice f2.A0 f2.n0 f2.c0) (.string o.1.stdin) (.slice f2.A2 o.1.replies.length f2.c2) (.slice f2.A3 o.1.fails.length f2.c3) (.int .i64 o.1.lim) (.int .i64 o.1.clock) (.int .u64 o.1.ch) (.slice f2.AF o.1.files.length f2.cF) (.int .i64 o.1.taken) (.slice f2.AO o.1.opn.length f2.cO) (.int .u64 o.1.num) (.slice f2.AE o.1.events.length f2.cE)) hQB)
      clear b0 b1 b2 b3 b4 b5 b6 b7 b8 b9 b10 b11 p0 p1 p2 p3 p4 p5 p6 p7 p8 p9 p10 p11
      generalize ((((((((((((w2.setCell ⟨B, 0, none⟩ (.slice f2.A0 f2.n0 f2.c0)).setCell ⟨B, 1, none⟩ (.string o.1.stdin)).setCell ⟨B, 2, none⟩ (.slice f2.A2 o.1.replies.length f2.c2)).setCell ⟨B, 3, none⟩ (.slice f2.A3 o.1.fails.length f2.c3)).setCell ⟨B, 4, none⟩ (.int .i64 o.1.lim)).setCell ⟨B, 5, none⟩ (.int .i64 o.1.clock)).setCell ⟨B, 6, none⟩ (.int .u64 o.1.ch)).setCell ⟨B, 7, none⟩ (.slice f2.AF o.1.files.length f2.cF)).setCell ⟨B, 8, none⟩ (.int .i64 o.1.taken)).setCell ⟨B, 9, none⟩ (.slice f2.AO o.1.opn.length f2.cO)).setCell ⟨B, 10, none⟩ (.int .u64 o.1.num)).setCell ⟨B, 11, none⟩ (.slice f2.AE o.1.events.length f2.cE)) = w3 at *
      obtain ⟨⟨b0, b1, b2, b3, b4, b5, b6, b7, b8, b9, b10, b11⟩, p0, p1, p2, p3, p4, p5, p6, p7, p8, p9, p10, p11⟩ := HBx.out.twelve
      obtain ⟨⟨r0, r1, r2, r3, r4, r5, r6, r7, r8, r9, r10, r11⟩, q0, q1, q2, q3, q4, q5, q6, q7, q8, q9, q10, q11⟩ := HRx.out.twelve
      obtain ⟨⟨y0, y1, y2, y3, y4⟩, z0, z1, z2, z3, z4⟩ := HQx.out.five
      go_wp2_with fail
      clear b0 b1 b2 b3 b4 b5 b6 b7 b8 b9 b10 b11 r0 r1 r2 r3 r4 r5 r6 r7 r8 r9 r10 r11 p0 p1 p2 p3 p4 p5 p6 p7 p8 p9 p10 p11 q0 q1 q2 q3 q4 q5 q6 q7 q8 q9 q10 q11 y0 y1 y2 y3 y4 z0 z1 z2 z3 z4
      have HRF := Lib.hid ((HXx.out.box (g := R) (Tur.set12 (.slice f2.A0 f2.n0 f2.c0) (.string o.1.stdin) (.slice f2.A2 o.1.replies.length f2.c2) (.slice f2.A3 o.1.fails.length f2.c3) (.int .i64 o.1.lim) (.int .i64 o.1.clock) (.int .u64 o.1.ch) (.slice f2.AF o.1.files.length f2.cF) (.int .i64 o.1.taken) (.slice f2.AO o.1.opn.length f2.cO) (.int .u64 o.1.num) (.slice f2.AE o.1.events.length f2.cE)) (by have := HBE.out; omega) (by have := HBE.out; omega)).box (g := Q) (Tur.set5 (i1 := 0) (i2 := 1) (i3 := 2) (i4 := 3) (i5 := 4) (.int .u8 k) (.string name) (.string ⟨#[]⟩) (.bool false) (.bool false)) (by have := HBE.out; omega) (by have := HBE.out; omega))
      have HR9 := Lib.hid ((HRx.out.set12 (.slice f2.A0 f2.n0 f2.c0) (.string o.1.stdin) (.slice f2.A2 o.1.replies.length f2.c2) (.slice f2.A3 o.1.fails.length f2.c3) (.int .i64 o.1.lim) (.int .i64 o.1.clock) (.int .u64 o.1.ch) (.slice f2.AF o.1.files.length f2.cF) (.int .i64 o.1.taken) (.slice f2.AO o.1.opn.length f2.cO) (.int .u64 o.1.num) (.slice f2.AE o.1.events.length f2.cE)).keep (Tur.set5 (i1 := 0) (i2 := 1) (i3 := 2) (i4 := 3) (i5 := 4) (.int .u8 k) (.string name) (.string ⟨#[]⟩) (.bool false) (.bool false)) (fun e => hQR e.symm))
      have HQ9 := Lib.hid ((HQx.out.keep (Tur.set12 (.slice f2.A0 f2.n0 f2.c0) (.string o.1.stdin) (.slice f2.A2 o.1.replies.length f2.c2) (.slice f2.A3 o.1.fails.length f2.c3) (.int .i64 o.1.lim) (.int .i64 o.1.clock) (.int .u64 o.1.ch) (.slice f2.AF o.1.files.length f2.cF) (.int .i64 o.1.taken) (.slice f2.AO o.1.opn.length f2.cO) (.int .u64 o.1.num) (.slice f2.AE o.1.events.length f2.cE)) hQR).set5 (.int .u8 k) (.string name) (.string ⟨#[]⟩) (.bool false) (.bool false))
      generalize (((((((((((((((((w3.setCell ⟨R, 0, none⟩ (.slice f2.A0 f2.n0 f2.c0)).setCell ⟨R, 1, none⟩ (.string o.1.stdin)).setCell ⟨R, 2, none⟩ (.slice f2.A2 o.1.replies.length f2.c2)).setCell ⟨R, 3, none⟩ (.slice f2.A3 o.1.fails.length f2.c3)).setCell ⟨R, 4, none⟩ (.int .i64 o.1.lim)).setCell ⟨R, 5, none⟩ (.int .i64 o.1.clock)).setCell ⟨R, 6, none⟩ (.int .u64 o.1.ch)).setCell ⟨R, 7, none⟩ (.slice f2.AF o.1.files.length f2.cF)).setCell ⟨R, 8, none⟩ (.int .i64 o.1.taken)).setCell ⟨R, 9, none⟩ (.slice f2.AO o.1.opn.length f2.cO)).setCell ⟨R, 10, none⟩ (.int .u64 o.1.num)).setCell ⟨R, 11, none⟩ (.slice f2.AE o.1.events.length f2.cE)).setCell ⟨Q, 0, none⟩ (.int .u8 k)).setCell ⟨Q, 1, none⟩ (.string name)).setCell ⟨Q, 2, none⟩ (.string ⟨#[]⟩)).setCell ⟨Q, 3, none⟩ (.bool false)).setCell ⟨Q, 4, none⟩ (.bool false)) = w9 at *
      obtain ⟨⟨x0, x1, x2, x3, x4, x5, x6, x7, x8, x9, x10, x11⟩, -⟩ := HR9.out.twelve
      obtain ⟨⟨y0, y1, y2, y3, y4⟩, -⟩ := HQ9.out.five
      refine bodyPost_ret (v := .tuple #[.agg #[.slice f2.A0 f2.n0 f2.c0, .string o.1.stdin, .slice f2.A2 o.1.replies.length f2.c2, .slice f2.A3 o.1.fails.length f2.c3, .int .i64 o.1.lim, .int .i64 o.1.clock, .int .u64 o.1.ch, .slice f2.AF o.1.files.length f2.cF, .int .i64 o.1.taken, .slice f2.AO o.1.opn.length f2.cO, .int .u64 o.1.num, .slice f2.AE o.1.events.length f2.cE], .agg #[.int .u8 k, .string name, .string ⟨#[]⟩, .bool false, .bool false], .int .i64 o.2]) (by simp [results, Tryd.results15, go_sem, x0, x1, x2, x3, x4, x5, x6, x7, x8, x9, x10, x11, y0, y1, y2, y3, y4]) rfl ?_
      exact ⟨f2, k, name, rfl, HRF.out.out (by have := HBE.out; omega), HRF.out.below, fun _ => ⟨rfl, rfl⟩⟩)
end
end Go.Proofs.YtdbdmgmenojcaaaDoor
namespace Go.Proofs.YtdbdmgmenojcaaaDoor
open Go
inductive Ord where
  | done
  | read (i : Nat) (t : Ord)
  | alone (i : Nat) (t : Ord)
  | fork (i : Nat) (s : Ord) (j : Nat) (t : Ord)
  | fork3 (i : Nat) (s : Ord) (j : Nat) (t : Ord) (k : Nat) (u : Ord)
inductive OrdO where
  | done
  | read (o : Oper) (t : OrdO)
  | alone (o : Oper) (t : OrdO)
  | fork (o : Oper) (s : OrdO) (p : Oper) (t : OrdO)
  | fork3 (o : Oper) (s : OrdO) (p : Oper) (t : OrdO) (q : Oper) (u : OrdO)
def Ord.len : Ord → Nat
  | .done => 0
  | .read _ t => t.len + 1
  | .alone _ t => t.len + 1
  | .fork _ s _ _ => s.len + 1
  | .fork3 _ s _ _ _ _ => s.len + 1
def Ord.ops (ops : Array Oper) : Ord → OrdO
  | .done => .done
  | .read i t => match ops[i]? with
    | some o => .read o (t.ops ops)
    | none => .done
  | .alone i t => match ops[i]? with
    | some o => .alone o (t.ops ops)
    | none => .done
  | .fork i s j t => match ops[i]?, ops[j]? with
    | some o, some p => .fork o (s.ops ops) p (t.ops ops)
    | _, _ => .done
  | .fork3 i s j t k u => match ops[i]?, ops[j]?, ops[k]? with
    | some o, some p, some q => .fork3 o (s.ops ops) p (t.ops ops) q (u.ops ops)
    | _, _, _ => .done
def ordB (md : Region.Mode) (ops : Array Oper) : Ord → Array Bool → Bool
  | .done, l => (Region.ready md ops l).isEmpty
  | .read i t, l => (Region.ready md ops l).contains i && Region.free md ops l i && ordB md ops t (l.setIfInBounds i true)
  | .alone i t, l => decide (Region.ready md ops l = [i]) && ordB md ops t (l.setIfInBounds i true)
  | .fork i s j t, l => decide (Region.ready md ops l = [i, j]) && (decide (s.len = t.len) && (ordB md ops s (l.setIfInBounds i true) && ordB md ops t (l.setIfInBounds j true)))
  | .fork3 i s j t k u, l => decide (Region.ready md ops l = [i, j, k]) && (decide (s.len = t.len ∧ s.len = u.len) && (ordB md ops s (l.setIfInBounds i true) && (ordB md ops t (l.setIfInBounds j true) && ordB md ops u (l.setIfInBounds k true))))
def wpOrd (P : Program) (ops : Array Oper) (S : World → Prop) (Q : Exit → Act → World → Prop) : OrdO → Act → World → Prop
  | .done, a, w => Q .normal a w
  | .read o t, a, w => ∃ v, Reads P ops S o a v ∧ wpOrd P ops S Q t (a.put o.dst v) w
  | .alone o t, a, w => wpList P ops (Exit.then (fun a' w' => S w' ∧ wpOrd P ops S Q t a' w') Q) [o] a w
  | .fork o s p t, a, w => wpList P ops (Exit.then (fun a' w' => S w' ∧ wpOrd P ops S Q s a' w') Q) [o] a w ∧ wpList P ops (Exit.then (fun a' w' => S w' ∧ wpOrd P ops S Q t a' w') Q) [p] a w
  | .fork3 o s p t q u, a, w => wpList P ops (Exit.then (fun a' w' => S w' ∧ wpOrd P ops S Q s a' w') Q) [o] a w ∧ wpList P ops (Exit.then (fun a' w' => S w' ∧ wpOrd P ops S Q t a' w') Q) [p] a w ∧ wpList P ops (Exit.then (fun a' w' => S w' ∧ wpOrd P ops S Q u a' w') Q) [q] a w
section
variable {P : Program} {ops : Array Oper} {md : Region.Mode} {S : World → Prop} {Q : Exit → Act → World → Prop}
theorem ready_in {i : Nat} {r : List Nat} {l : Array Bool} (hB : Region.ready md ops l = r) (hi : i ∈ r) : ∃ o, ops[i]? = some o := ready_some (md := md) (l := l) (by rw [hB]; exact hi)
theorem any_ord (hsel : Region.noSelect ops = true) (hQ : ∀ c a d v w, Q (.panic c) (a.put d v) w → Q (.panic c) a w) : ∀ (t : Ord) (l : Array Bool) (a : Act) (w : World), ordB md ops t l = true → S w → wpOrd P ops S Q (t.ops ops) a w →
    wpAnyH P md ops Q S t.len l a w
  | .done, l, a, w, hB, _, h => ⟨by simpa [ordB] using hB, h⟩
  | .read i t, l, a, w, hB, hS, h => by
    simp only [ordB, Bool.and_eq_true] at hB
    have hr : i ∈ Region.ready md ops l := by simpa using hB.1.1
    obtain ⟨o, ho⟩ := ready_some hr
    simp only [Ord.ops, ho] at h
    obtain ⟨v, hy, h⟩ := h
    exact anyR_first ho (Region.noSelect_spec hsel) (fun c a w h => hQ c a _ _ w h) _ l a w (Region.free_spec ho hB.1.2) hr hy hS (any_ord hsel hQ t _ _ w hB.2 hS h)
  | .alone i t, l, a, w, hB, hS, h => by
    simp only [ordB, Bool.and_eq_true, decide_eq_true_eq] at hB
    obtain ⟨o, ho⟩ := ready_in hB.1 (List.mem_singleton.2 rfl)
    simp only [Ord.ops, ho] at h
    refine wpAnyH_all hB.1 (by simp) (fun j hj => ?_)
    simp only [List.mem_singleton] at hj
    subst hj
    exact wpOp_mono (fun a' w' h' => ⟨h'.1, any_ord hsel hQ t _ a' w' hB.2 h'.1 h'.2⟩) (wpOp_of_list' ho h)
  | .fork i s j t, l, a, w, hB, hS, h => by
    simp only [ordB, Bool.and_eq_true, decide_eq_true_eq] at hB
    obtain ⟨o, ho⟩ := ready_in (i := i) hB.1 (by simp)
    obtain ⟨p, hp⟩ := ready_in (i := j) hB.1 (by simp)
    simp only [Ord.ops, ho, hp] at h
    refine wpAnyH_all hB.1 (by simp) (fun x hx => ?_)
    simp only [List.mem_cons, List.not_mem_nil, or_false] at hx
    rcases hx with rfl | rfl
    · exact wpOp_mono (fun a' w' h' => ⟨h'.1, any_ord hsel hQ s _ a' w' hB.2.2.1 h'.1 h'.2⟩) (wpOp_of_list' ho h.1)
    · refine wpOp_mono (fun a' w' h' => ⟨h'.1, ?_⟩) (wpOp_of_list' hp h.2)
      show wpAnyH P md ops Q S s.len _ a' w'
      rw [hB.2.1]
      exact any_ord hsel hQ t _ a' w' hB.2.2.2 h'.1 h'.2
  | .fork3 i s j t k u, l, a, w, hB, hS, h => by
    simp only [ordB, Bool.and_eq_true, decide_eq_true_eq] at hB
    obtain ⟨o, ho⟩ := ready_in (i := i) hB.1 (by simp)
    obtain ⟨p, hp⟩ := ready_in (i := j) hB.1 (by simp)
    obtain ⟨q, hq⟩ := ready_in (i := k) hB.1 (by simp)
    simp only [Ord.ops, ho, hp, hq] at h
    refine wpAnyH_all hB.1 (by simp) (fun x hx => ?_)
    simp only [List.mem_cons, List.not_mem_nil, or_false] at hx
    rcases hx with rfl | rfl | rfl
    · exact wpOp_mono (fun a' w' h' => ⟨h'.1, any_ord hsel hQ s _ a' w' hB.2.2.1 h'.1 h'.2⟩) (wpOp_of_list' ho h.1)
    · refine wpOp_mono (fun a' w' h' => ⟨h'.1, ?_⟩) (wpOp_of_list' hp h.2.1)
      show wpAnyH P md ops Q S s.len _ a' w'
      rw [hB.2.1.1]
      exact any_ord hsel hQ t _ a' w' hB.2.2.2.1 h'.1 h'.2
    · refine wpOp_mono (fun a' w' h' => ⟨h'.1, ?_⟩) (wpOp_of_list' hq h.2.2)
      show wpAnyH P md ops Q S s.len _ a' w'
      rw [hB.2.1.2]
      exact any_ord hsel hQ u _ a' w' hB.2.2.2.2 h'.1 h'.2
/-- THE LAW. -/
theorem wp_region_ord {id : Nat} {a : Act} {w : World} {l : List Oper} (S : World → Prop) (t : Ord) (hm : P.follows .mixedOrders = true) (hB : (Region.noSelect l.toArray && (decide (t.len ≤ l.length) && ordB .any l.toArray t (Array.replicate l.length false))) = true)
    (hQ : ∀ c a d v w, Q (.panic c) (a.put d v) w → Q (.panic c) a w) (hS : S w.drew) (h : wpOrd P l.toArray S Q (t.ops l.toArray) a w.drew) : (Code.region id l.toArray true).wp P Q a w := by
  simp only [Bool.and_eq_true, decide_eq_true_eq] at hB
  refine wp_region_held (S := S) hm ?_
  have h1 := any_ord hB.1 hQ t _ a w.drew hB.2.2 hS h
  have h2 := any_fuel t.len (l.length - t.len) _ a w.drew h1
  rw [show t.len + (l.length - t.len) = l.toArray.size by have := hB.2.1; simp; omega] at h2
  exact (by simpa using h2)
theorem ord_read {o : Oper} {t : OrdO} {a : Act} {w : World} (a2 : Act)
    (h : ∀ w, S w → ∀ M : Act → World → Prop, M a2 w → wpList P ops (Exit.then M (fun _ _ _ => False)) [o] a w)
    (he : a.put o.dst (valOf o.dst a2) = a2) (h2 : wpOrd P ops S Q t a2 w) : wpOrd P ops S Q (.read o t) a w :=
  ⟨valOf o.dst a2, fun w hS w' e => by subst e; exact h w' hS _ ⟨he.symm, rfl⟩, by rw [he]; exact h2⟩
theorem ord_alone {o : Oper} {t : OrdO} {a : Act} {w : World}
    (h : ∀ M : Act → World → Prop, (∀ a' w', S w' → wpOrd P ops S Q t a' w' → M a' w') → wpList P ops (Exit.then M Q) [o] a w) : wpOrd P ops S Q (.alone o t) a w :=
  h _ (fun _ _ h1 h2 => ⟨h1, h2⟩)
theorem ord_fork {o p : Oper} {s t : OrdO} {a : Act} {w : World} (h1 : wpOrd P ops S Q (.alone o s) a w) (h2 : wpOrd P ops S Q (.alone p t) a w) : wpOrd P ops S Q (.fork o s p t) a w := ⟨h1, h2⟩
theorem ord_fork3 {o p q : Oper} {s t u : OrdO} {a : Act} {w : World} (h1 : wpOrd P ops S Q (.alone o s) a w) (h2 : wpOrd P ops S Q (.alone p t) a w) (h3 : wpOrd P ops S Q (.alone q u) a w) : wpOrd P ops S Q (.fork3 o s p t q u) a w := ⟨h1, h2, h3⟩
end
end Go.Proofs.YtdbdmgmenojcaaaDoor
