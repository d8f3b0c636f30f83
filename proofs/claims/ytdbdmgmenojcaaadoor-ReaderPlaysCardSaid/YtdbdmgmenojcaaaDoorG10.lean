/- The document's world: New. -/
import Derived.Test.YtdbdmgmenojcaaaDoorG9
import Derived.BigQuiet
import Derived.Deep.QuietTactic
import Derived.Test.YtdbdmgmenojcaaaDoorG4
set_option linter.unusedVariables false
set_option linter.unusedSimpArgs false
namespace Go.Proofs.YtdbdmgmenojcaaaDoor
open Go.RowKit Wd
namespace Wd
def nth (l : List ByteArray) (k : Nat) : ByteArray := l.getD k ⟨#[]⟩
/-- Stands the k-th earlier, too? -/
def dupAt (l : List ByteArray) (k : Nat) : Bool := (l.take k).any (fun x => decide (x = nth l k))
def distB (l : List ByteArray) : Bool := (List.range l.length).all (fun k => !dupAt l k)
def newB (files : List (ByteArray × ByteArray)) (reps : List Rp) (lim : Int) : Bool := distB (files.map (·.1)) && (distB (reps.map (·.cmd)) && (decide (0 ≤ lim) && decide (lim ≤ 16)))
theorem dist_no {l : List ByteArray} {k : Nat} (hk : k < l.length) (h : dupAt l k = true) : distB l = false := by
  unfold distB
  rw [List.all_eq_false]
  exact ⟨k, List.mem_range.2 hk, by simp [h]⟩
theorem dist_yes {l : List ByteArray} (h : ∀ k, k < l.length → dupAt l k = false) : distB l = true := by
  unfold distB
  rw [List.all_eq_true]
  intro k hk
  simp [h k (List.mem_range.1 hk)]
theorem any_step {l : List ByteArray} {x : ByteArray} {b : Nat} (hb : b < l.length) (h : (l.take b).any (fun y => decide (y = x)) = false) (hne : ¬ nth l b = x) : (l.take (b + 1)).any (fun y => decide (y = x)) = false := by
  rw [any_take_succ _ l b hb, h, Bool.false_or]
  have e : nth l b = l[b] := by simp [nth, List.getD_eq_getElem?_getD, List.getElem?_eq_getElem hb]
  rw [e] at hne
  simp [hne]
theorem any_hit {l : List ByteArray} {x : ByteArray} {a b : Nat} (hb : b < a) (ha : a ≤ l.length) (h : nth l b = x) : (l.take a).any (fun y => decide (y = x)) = true := by
  have hbl : b < l.length := by omega
  have e : nth l b = l[b] := by simp [nth, List.getD_eq_getElem?_getD, List.getElem?_eq_getElem hbl]
  rw [List.any_eq_true]
  refine ⟨l[b], ?_, by rw [e] at h; simp [h]⟩
  apply List.mem_of_getElem? (i := b)
  rw [List.getElem?_take, if_pos hb, List.getElem?_eq_getElem hbl]
def rst0 (files : List (ByteArray × ByteArray)) (reps : List Rp) (fls : List Fl) (stdin : ByteArray) (lim clock ch : Int) : RSt := ⟨stdin, reps, fls, lim, clock, ch, files, 0, [], ch, []⟩
end Wd
theorem names_cell {K : Nat → Prop} {w : World} {A : Option Addr} {n cap : Nat} {l : List (ByteArray × ByteArray)} (h : Row K w (.slice A n cap) n 2 (fvals2 l)) (hl : n = l.length) (hn : 0 < n) :
    ∃ b o, A = some ⟨b, o, none⟩ ∧ b < w.heap.size ∧ ∀ i, i < n → w.cell? ⟨b, o + i * 2, none⟩ = some (.string (nth (l.map (·.1)) i)) := by
  obtain ⟨-, -, A', cap', hv, -, -, hcell⟩ := h
  obtain ⟨rfl, -, -⟩ := Value.slice.inj hv
  obtain ⟨b, o, hA, hb, -, hc⟩ := hcell hn
  refine ⟨b, o, hA, hb, fun i hi => ?_⟩
  have h1 := hc (i * 2 + 0) (by omega)
  rw [fvals2_get l i 0 (by omega) (by omega)] at h1
  have e : nth (l.map (·.1)) i = l[i].1 := by simp [nth, List.getD_eq_getElem?_getD, List.getElem?_eq_getElem (show i < l.length by omega)]
  rw [e]
  exact h1
theorem cmds_cell {K : Nat → Prop} {w : World} {A : Option Addr} {n cap : Nat} {l : List Rp} (h : Row K w (.slice A n cap) n 3 (rvals l)) (hl : n = l.length) (hn : 0 < n) :
    ∃ b o, A = some ⟨b, o, none⟩ ∧ b < w.heap.size ∧ ∀ i, i < n → w.cell? ⟨b, o + i * 3, none⟩ = some (.string (nth (l.map (·.cmd)) i)) := by
  obtain ⟨-, -, A', cap', hv, -, -, hcell⟩ := h
  obtain ⟨rfl, -, -⟩ := Value.slice.inj hv
  obtain ⟨b, o, hA, hb, -, hc⟩ := hcell hn
  refine ⟨b, o, hA, hb, fun i hi => ?_⟩
  have h1 := hc (i * 3 + 0) (by omega)
  rw [rvals_get l i 0 (by omega) (by omega)] at h1
  have e : nth (l.map (·.cmd)) i = l[i].cmd := by simp [nth, List.getD_eq_getElem?_getD, List.getElem?_eq_getElem (show i < l.length by omega)]
  rw [e]
  exact h1
theorem row_src {K : Nat → Prop} {w : World} {A : Option Addr} {n cap : Nat} {l : List (ByteArray × ByteArray)} (h : Row K w (.slice A n cap) n 2 (fvals2 l)) (hA : A = none → n = 0 ∧ cap = 0) : Src w A n cap 2 (fvals2 l) := by
  obtain ⟨h1, -, A', cap', hv, -, -, hcell⟩ := h
  obtain ⟨rfl, -, -⟩ := Value.slice.inj hv
  have hone : ∀ u ∈ fvals2 l, u.oneCell' = true := by
    intro u hu
    obtain ⟨p, -, hp⟩ := List.mem_flatMap.1 hu
    simp only [fl2, List.mem_cons, List.not_mem_nil, or_false] at hp
    rcases hp with rfl | rfl <;> rfl
  refine ⟨h1, hone, ?_⟩
  cases A with
  | none => obtain ⟨e1, e2⟩ := hA rfl; exact .inl ⟨rfl, e1, e2⟩
  | some a =>
    refine .inr ⟨a, rfl, fun j u hj => ?_⟩
    have hjl : j < n * 2 := by rw [← h1]; exact (List.getElem?_eq_some_iff.1 hj).1
    obtain ⟨b, o, e, -, -, hc⟩ := hcell (by omega)
    injection e with e
    subst e
    have : (⟨b, o, none⟩ : Addr).add j = ⟨b, o + j, none⟩ := by unfold Addr.add; split <;> simp_all
    rw [this, hc j hjl]
    exact hj
def NewRP (K : Nat → Prop) (w : World) (st0 : RSt) (ok : Bool) (e : Ending) (w' : World) : Prop :=
  if ok then ∃ f', e = .returned (.tuple #[.agg (fcells f' st0), .int .i64 0]) ∧ RF (Nw K w) w' f' st0 ∧ Below w.heap.size w w' else e = .returned (.tuple #[.agg #[.slice none 0 0, .string ⟨#[]⟩, .slice none 0 0, .slice none 0 0, .int .i64 0, .int .i64 0, .int .u64 0, .slice none 0 0, .int .i64 0, .slice none 0 0, .int .u64 0, .slice none 0 0], .int .i64 2]) ∧ Below w.heap.size w w'
theorem NewRP.no {K : Nat → Prop} {w : World} {st0 : RSt} {e : Ending} {w' : World} (he : e = .returned (.tuple #[.agg #[.slice none 0 0, .string ⟨#[]⟩, .slice none 0 0, .slice none 0 0, .int .i64 0, .int .i64 0, .int .u64 0, .slice none 0 0, .int .i64 0, .slice none 0 0, .int .u64 0, .slice none 0 0], .int .i64 2])) (hb : Below w.heap.size w w') : NewRP K w st0 false e w' := ⟨he, hb⟩
structure NS (w wr : World) (B : Nat) (scr : Array Value) : Prop where
  below : Below w.heap.size w wr
  scr : Blk wr B 38 scr
  res : Blk wr (B + 1) 46 #[.slice none 0 0, .string ⟨#[]⟩, .slice none 0 0, .slice none 0 0, .int .i64 0, .int .i64 0, .int .u64 0, .slice none 0 0, .int .i64 0, .slice none 0 0, .int .u64 0, .slice none 0 0]
theorem NS.keep {w wr wx : World} {B : Nat} {scr : Array Value} (h : NS w wr B scr) (hb : Below wr.heap.size wr wx) : NS w wx B scr :=
  ⟨h.below.trans (hb.mono h.below.size), below_blk h.scr hb h.scr.lt, below_blk h.res hb h.res.lt⟩
theorem NS.drewN {w wr : World} {B : Nat} {scr : Array Value} (h : NS w wr B scr) (n : Nat) : NS w (wr.drewN n) B scr := h.keep ⟨rfl, rfl, rfl, Nat.le_refl _, fun _ _ => rfl⟩
theorem NS.zeroed {w wx : World} {B : Nat} {scr : Array Value} (h : NS w wx B scr) (hB : B = w.heap.size) : Blk ((((((((((((wx.setCell ⟨B + 1, 0, none⟩ (.slice none 0 0)).setCell ⟨B + 1, 1, none⟩ (.string ⟨#[]⟩)).setCell ⟨B + 1, 2, none⟩ (.slice none 0 0)).setCell ⟨B + 1, 3, none⟩ (.slice none 0 0)).setCell ⟨B + 1, 4, none⟩ (.int .i64 0)).setCell ⟨B + 1, 5, none⟩ (.int .i64 0)).setCell ⟨B + 1, 6, none⟩ (.int .u64 0)).setCell ⟨B + 1, 7, none⟩ (.slice none 0 0)).setCell ⟨B + 1, 8, none⟩ (.int .i64 0)).setCell ⟨B + 1, 9, none⟩ (.slice none 0 0)).setCell ⟨B + 1, 10, none⟩ (.int .u64 0)).setCell ⟨B + 1, 11, none⟩ (.slice none 0 0)) (B + 1) 46 #[.slice none 0 0, .string ⟨#[]⟩, .slice none 0 0, .slice none 0 0, .int .i64 0, .int .i64 0, .int .u64 0, .slice none 0 0, .int .i64 0, .slice none 0 0, .int .u64 0, .slice none 0 0] ∧ Below w.heap.size w ((((((((((((wx.setCell ⟨B + 1, 0, none⟩ (.slice none 0 0)).setCell ⟨B + 1, 1, none⟩ (.string ⟨#[]⟩)).setCell ⟨B + 1, 2, none⟩ (.slice none 0 0)).setCell ⟨B + 1, 3, none⟩ (.slice none 0 0)).setCell ⟨B + 1, 4, none⟩ (.int .i64 0)).setCell ⟨B + 1, 5, none⟩ (.int .i64 0)).setCell ⟨B + 1, 6, none⟩ (.int .u64 0)).setCell ⟨B + 1, 7, none⟩ (.slice none 0 0)).setCell ⟨B + 1, 8, none⟩ (.int .i64 0)).setCell ⟨B + 1, 9, none⟩ (.slice none 0 0)).setCell ⟨B + 1, 10, none⟩ (.int .u64 0)).setCell ⟨B + 1, 11, none⟩ (.slice none 0 0)) := by
  have h1 := h.res.set12 (.slice none 0 0) (.string ⟨#[]⟩) (.slice none 0 0) (.slice none 0 0) (.int .i64 0) (.int .i64 0) (.int .u64 0) (.slice none 0 0) (.int .i64 0) (.slice none 0 0) (.int .u64 0) (.slice none 0 0)
  have h2 := Tur.set12 (w := wx) (g := B + 1) (.slice none 0 0) (.string ⟨#[]⟩) (.slice none 0 0) (.slice none 0 0) (.int .i64 0) (.int .i64 0) (.int .u64 0) (.slice none 0 0) (.int .i64 0) (.slice none 0 0) (.int .u64 0) (.slice none 0 0)
  refine ⟨h1, h.below.trans (h2.below _ h.below.size (fun k hk e => by omega))⟩
set_option maxRecDepth 100000 in
set_option maxHeartbeats 8000000 in
theorem fw_new {K : Nat → Prop} {w : World} {A1 A2 A3 : Option Addr} {n1 n2 n3 cap1 cap2 cap3 : Nat} (files : List (ByteArray × ByteArray)) (reps : List Rp) (fls : List Fl) (stdin : ByteArray) (lim clock ch : Int)
    (e1 : n1 = files.length) (e2 : n2 = reps.length) (e3 : n3 = fls.length) (hF : Row K w (.slice A1 n1 cap1) n1 2 (fvals2 files)) (hR : Row K w (.slice A2 n2 cap2) n2 3 (rvals reps)) (hL : Row K w (.slice A3 n3 cap3) n3 2 (fvals fls)) (hA1 : A1 = none → n1 = 0 ∧ cap1 = 0) (hb1 : n1 ≤ 1000) (hb2 : n2 ≤ 1000) (hb3 : n3 ≤ 1000) :
    Calls Tryd.prog 13 #[.agg #[.slice A1 n1 cap1, .string stdin, .slice A2 n2 cap2, .slice A3 n3 cap3, .int .i64 lim, .int .i64 clock, .int .u64 ch]] w (NewRP K w (rst0 files reps fls stdin lim clock ch) (newB files reps lim)) := by
  have HF := Lib.hid hF
  have HR := Lib.hid hR
  have HL := Lib.hid hL
  have HE1 := Lib.hid e1
  have HE2 := Lib.hid e2
  have HE3 := Lib.hid e3
  have HA1 := Lib.hid hA1
  have k1 : cap1 < 9223372036854775808 := by obtain ⟨-, -, _, _, hv, -, hm, -⟩ := hF; obtain ⟨-, -, rfl⟩ := Value.slice.inj hv; unfold maxLen at hm; omega
  have k2 : cap2 < 9223372036854775808 := by obtain ⟨-, -, _, _, hv, -, hm, -⟩ := hR; obtain ⟨-, -, rfl⟩ := Value.slice.inj hv; unfold maxLen at hm; omega
  obtain ⟨o, ho⟩ : ∃ o, o = newB files reps lim := ⟨_, rfl⟩
  rw [← ho]
  have HO := Lib.hid ho
  have hns : NS w ((w.alloc (.cells #[.slice A1 n1 cap1, .string stdin, .slice A2 n2 cap2, .slice A3 n3 cap3, .int .i64 lim, .int .i64 clock, .int .u64 ch] 38)).alloc (.cells #[.slice none 0 0, .string ⟨#[]⟩, .slice none 0 0, .slice none 0 0, .int .i64 0, .int .i64 0, .int .u64 0, .slice none 0 0, .int .i64 0, .slice none 0 0, .int .u64 0, .slice none 0 0] 46)) w.heap.size #[.slice A1 n1 cap1, .string stdin, .slice A2 n2 cap2, .slice A3 n3 cap3, .int .i64 lim, .int .i64 clock, .int .u64 ch] := by
    refine ⟨((Below.refl _ _).alloc (Nat.le_refl _) _).alloc (by simp) _, (Blk.new w _ _).keep (Tur.of_alloc (F := fun _ => False) _ _) (fun h => h), ?_⟩
    have := Blk.new (w.alloc (.cells #[.slice A1 n1 cap1, .string stdin, .slice A2 n2 cap2, .slice A3 n3 cap3, .int .i64 lim, .int .i64 clock, .int .u64 ch] 38)) 46 #[.slice none 0 0, .string ⟨#[]⟩, .slice none 0 0, .slice none 0 0, .int .i64 0, .int .i64 0, .int .u64 0, .slice none 0 0, .int .i64 0, .slice none 0 0, .int .u64 0, .slice none 0 0]
    rwa [World.size_alloc] at this
  clear hF hR hL e1 e2 e3 hA1 ho
  go_enter Tryd.func13, Tryd.ntmps13
  go_wp2_with fail
  generalize ((w.alloc (.cells #[.slice A1 n1 cap1, .string stdin, .slice A2 n2 cap2, .slice A3 n3 cap3, .int .i64 lim, .int .i64 clock, .int .u64 ch] 38)).alloc (.cells #[.slice none 0 0, .string ⟨#[]⟩, .slice none 0 0, .slice none 0 0, .int .i64 0, .int .i64 0, .int .u64 0, .slice none 0 0, .int .i64 0, .slice none 0 0, .int .u64 0, .slice none 0 0] 46)) = W1 at hns ⊢
  obtain ⟨B, hB⟩ : ∃ B, B = w.heap.size := ⟨_, rfl⟩
  rw [← hB] at hns ⊢
  have HNS := Lib.hid hns
  have HBE := Lib.hid hB
  clear hns hB
  go_loopw [4] (fun i0 wr => ∃ a : Nat, a ≤ n1 ∧ i0 = .int .i64 a ∧ NS w wr B #[.slice A1 n1 cap1, .string stdin, .slice A2 n2 cap2, .slice A3 n3 cap3, .int .i64 lim, .int .i64 clock, .int .u64 ch] ∧ ∀ k, k < a → dupAt (files.map (·.1)) k = false) (fun i0 wr => n1 - (intOf i0).toNat)
  case atStart => exact ⟨0, Nat.zero_le _, rfl, HNS.out, fun k hk => absurd hk (Nat.not_lt_zero k)⟩
  case round =>
    obtain ⟨a, ha, rfl, hn, hd⟩ := hrel
    have HN := Lib.hid hn
    have HD := Lib.hid hd
    have c0 : wr.cell? ⟨B, 0, none⟩ = some (.slice A1 n1 cap1) := hn.scr.cell 0
    clear hn hd
    by_cases hlt : a < n1
    case pos =>
      obtain ⟨b1, o1, hA, hbl, hc⟩ := names_cell HF.out HE1.out (by omega)
      have HC : Hid (∀ wx, Below w.heap.size w wx → ∀ i, i < n1 → wx.cell? ⟨b1, o1 + i * 2, none⟩ = some (.string (nth (files.map (·.1)) i))) := fun wx hb i hi => (hb.cell (p := ⟨b1, o1 + i * 2, none⟩) hbl).trans (hc i hi)
      subst hA
      clear hc
      have HLE : Hid (n1 = (files.map (·.1)).length) := by unfold Hid; rw [HE1.out, List.length_map]
      go_wp2_with fail
      generalize wr = wz at *
      go_loopw [5] (fun j0 wx => ∃ b : Nat, b ≤ a ∧ j0 = .int .i64 b ∧ NS w wx B #[.slice (some ⟨b1, o1, none⟩) n1 cap1, .string stdin, .slice A2 n2 cap2, .slice A3 n3 cap3, .int .i64 lim, .int .i64 clock, .int .u64 ch] ∧ ((files.map (·.1)).take b).any (fun y => decide (y = nth (files.map (·.1)) a)) = false) (fun j0 wx => a - (intOf j0).toNat)
      case atStart => exact ⟨0, Nat.zero_le _, rfl, HN.out, rfl⟩
      case round =>
        obtain ⟨b, hb, rfl, hn2, hany⟩ := hrel
        have HN2 := Lib.hid hn2
        have HANY := Lib.hid hany
        have d0 : wr.cell? ⟨B, 0, none⟩ = some (.slice (some ⟨b1, o1, none⟩) n1 cap1) := hn2.scr.cell 0
        clear hn2 hany c0
        by_cases hltb : b < a
        case pos =>
          have ca := HC.out _ HN2.out.below a hlt
          have cb := HC.out _ HN2.out.below b (by omega)
          have HXA : Hid (nth (files.map (·.1)) b = nth (files.map (·.1)) a → o = false) := fun he => by
            rw [HO.out]; unfold newB
            rw [show distB (files.map (·.1)) = false from dist_no (by rw [← HLE.out]; exact hlt) (any_hit hltb (by rw [← HLE.out]; omega) he)]
            simp
          have HXN : Hid (¬ nth (files.map (·.1)) b = nth (files.map (·.1)) a → ((files.map (·.1)).take (b + 1)).any (fun y => decide (y = nth (files.map (·.1)) a)) = false) := fun hne => any_step (by rw [← HLE.out]; omega) HANY.out hne
          obtain ⟨x, hx⟩ : ∃ x, x = nth (files.map (·.1)) a := ⟨_, rfl⟩
          obtain ⟨y, hy⟩ : ∃ y, y = nth (files.map (·.1)) b := ⟨_, rfl⟩
          rw [← hx] at ca HXA HXN
          rw [← hy] at cb HXA HXN
          have HXX := Lib.hid hx
          clear hx hy
          by_cases hxy : y = x
          case pos =>
            have HOF := Lib.hid (HXA.out hxy)
            have e1 : (x.toList == y.toList) = true := by rw [str_eq]; exact decide_eq_true hxy.symm
            clear hxy
            go_wp2_with fail
            go_quiet (fail)
            obtain ⟨⟨r0, r1, r2, r3, r4, r5, r6, r7, r8, r9, r10, r11⟩, q0, q1, q2, q3, q4, q5, q6, q7, q8, q9, q10, q11⟩ := HN2.out.res.twelve
            go_wp2_with fail
            have hz := (HN2.out.drewN nq).zeroed HBE.out
            generalize (((((((((((((wr.drewN nq).setCell ⟨B + 1, 0, none⟩ (.slice none 0 0)).setCell ⟨B + 1, 1, none⟩ (.string ⟨#[]⟩)).setCell ⟨B + 1, 2, none⟩ (.slice none 0 0)).setCell ⟨B + 1, 3, none⟩ (.slice none 0 0)).setCell ⟨B + 1, 4, none⟩ (.int .i64 0)).setCell ⟨B + 1, 5, none⟩ (.int .i64 0)).setCell ⟨B + 1, 6, none⟩ (.int .u64 0)).setCell ⟨B + 1, 7, none⟩ (.slice none 0 0)).setCell ⟨B + 1, 8, none⟩ (.int .i64 0)).setCell ⟨B + 1, 9, none⟩ (.slice none 0 0)).setCell ⟨B + 1, 10, none⟩ (.int .u64 0)).setCell ⟨B + 1, 11, none⟩ (.slice none 0 0)) = w9 at hz ⊢
            obtain ⟨⟨x0, x1, x2, x3, x4, x5, x6, x7, x8, x9, x10, x11⟩, -⟩ := hz.1.twelve
            refine bodyPost_ret (v := .tuple #[.agg #[.slice none 0 0, .string ⟨#[]⟩, .slice none 0 0, .slice none 0 0, .int .i64 0, .int .i64 0, .int .u64 0, .slice none 0 0, .int .i64 0, .slice none 0 0, .int .u64 0, .slice none 0 0], .int .i64 2]) (by simp [results, Tryd.results13, go_sem, x0, x1, x2, x3, x4, x5, x6, x7, x8, x9, x10, x11]) rfl (by rw [HOF.out]; exact NewRP.no rfl hz.2)
          case neg =>
            have HST := Lib.hid (HXN.out hxy)
            have e1 : (x.toList == y.toList) = false := by rw [str_eq]; exact decide_eq_false (fun h => hxy h.symm)
            clear hxy
            go_wp2_with fail
            go_quiet (fail)
            go_wp2_with fail
            go_roundw
            case rel => exact ⟨b + 1, by omega, by go_num, HN2.out.drewN _, by rw [← HXX.out]; exact HST.out⟩
            case measure => simp [intOf]; omega
        case neg =>
          have hba : b = a := by omega
          subst hba
          have HD2 : Hid (∀ k, k < b + 1 → dupAt (files.map (·.1)) k = false) := fun k hk => by
            rcases Nat.lt_or_ge k b with h | h
            · exact HD.out k h
            · obtain rfl : k = b := by omega
              exact HANY.out
          go_wp2_with fail
          go_roundw
          case rel => exact ⟨b + 1, by omega, by go_num, HN2.out, HD2.out⟩
          case measure => simp [intOf]; omega
    case neg =>
      have hae : n1 = a := by omega
      subst hae
      have HDF : Hid (distB (files.map (·.1)) = true) := dist_yes (fun k hk => HD.out k (by rw [HE1.out]; simpa using hk))
      clear HD
      go_wp2_with fail
      generalize wr = wy at *
      go_loopw [6] (fun i0 wr => ∃ a : Nat, a ≤ n2 ∧ i0 = .int .i64 a ∧ NS w wr B #[.slice A1 n1 cap1, .string stdin, .slice A2 n2 cap2, .slice A3 n3 cap3, .int .i64 lim, .int .i64 clock, .int .u64 ch] ∧ ∀ k, k < a → dupAt (reps.map (·.cmd)) k = false) (fun i0 wr => n2 - (intOf i0).toNat)
      case atStart => exact ⟨0, Nat.zero_le _, rfl, HN.out, fun k hk => absurd hk (Nat.not_lt_zero k)⟩
      case round =>
        clear HN
        obtain ⟨a, ha, rfl, hn, hd⟩ := hrel
        have HN := Lib.hid hn
        have HD := Lib.hid hd
        have c2 : wr.cell? ⟨B, 2, none⟩ = some (.slice A2 n2 cap2) := hn.scr.cell 2
        clear hn hd
        by_cases hlt : a < n2
        case pos =>
          obtain ⟨b1, o1, hA, hbl, hc⟩ := cmds_cell HR.out HE2.out (by omega)
          have HC : Hid (∀ wx, Below w.heap.size w wx → ∀ i, i < n2 → wx.cell? ⟨b1, o1 + i * 3, none⟩ = some (.string (nth (reps.map (·.cmd)) i))) := fun wx hb i hi => (hb.cell (p := ⟨b1, o1 + i * 3, none⟩) hbl).trans (hc i hi)
          subst hA
          clear hc
          have HLE : Hid (n2 = (reps.map (·.cmd)).length) := by unfold Hid; rw [HE2.out, List.length_map]
          go_wp2_with fail
          generalize wr = wz at *
          go_loopw [7] (fun j0 wx => ∃ b : Nat, b ≤ a ∧ j0 = .int .i64 b ∧ NS w wx B #[.slice A1 n1 cap1, .string stdin, .slice (some ⟨b1, o1, none⟩) n2 cap2, .slice A3 n3 cap3, .int .i64 lim, .int .i64 clock, .int .u64 ch] ∧ ((reps.map (·.cmd)).take b).any (fun y => decide (y = nth (reps.map (·.cmd)) a)) = false) (fun j0 wx => a - (intOf j0).toNat)
          case atStart => exact ⟨0, Nat.zero_le _, rfl, HN.out, rfl⟩
          case round =>
            obtain ⟨b, hb, rfl, hn2, hany⟩ := hrel
            have HN2 := Lib.hid hn2
            have HANY := Lib.hid hany
            have d0 : wr.cell? ⟨B, 2, none⟩ = some (.slice (some ⟨b1, o1, none⟩) n2 cap2) := hn2.scr.cell 2
            clear hn2 hany c2
            by_cases hltb : b < a
            case pos =>
              have ca := HC.out _ HN2.out.below a hlt
              have cb := HC.out _ HN2.out.below b (by omega)
              have HXA : Hid (nth (reps.map (·.cmd)) b = nth (reps.map (·.cmd)) a → o = false) := fun he => by
                rw [HO.out]; unfold newB
                rw [show distB (reps.map (·.cmd)) = false from dist_no (by rw [← HLE.out]; exact hlt) (any_hit hltb (by rw [← HLE.out]; omega) he)]
                simp
              have HXN : Hid (¬ nth (reps.map (·.cmd)) b = nth (reps.map (·.cmd)) a → ((reps.map (·.cmd)).take (b + 1)).any (fun y => decide (y = nth (reps.map (·.cmd)) a)) = false) := fun hne => any_step (by rw [← HLE.out]; omega) HANY.out hne
              obtain ⟨x, hx⟩ : ∃ x, x = nth (reps.map (·.cmd)) a := ⟨_, rfl⟩
              obtain ⟨y, hy⟩ : ∃ y, y = nth (reps.map (·.cmd)) b := ⟨_, rfl⟩
              rw [← hx] at ca HXA HXN
              rw [← hy] at cb HXA HXN
              have HXX := Lib.hid hx
              clear hx hy
              by_cases hxy : y = x
              case pos =>
                have HOF := Lib.hid (HXA.out hxy)
                have e1 : (x.toList == y.toList) = true := by rw [str_eq]; exact decide_eq_true hxy.symm
                clear hxy
                go_wp2_with fail
                go_quiet (fail)
                obtain ⟨⟨r0, r1, r2, r3, r4, r5, r6, r7, r8, r9, r10, r11⟩, q0, q1, q2, q3, q4, q5, q6, q7, q8, q9, q10, q11⟩ := HN2.out.res.twelve
                go_wp2_with fail
                have hz := (HN2.out.drewN nq).zeroed HBE.out
                generalize (((((((((((((wr.drewN nq).setCell ⟨B + 1, 0, none⟩ (.slice none 0 0)).setCell ⟨B + 1, 1, none⟩ (.string ⟨#[]⟩)).setCell ⟨B + 1, 2, none⟩ (.slice none 0 0)).setCell ⟨B + 1, 3, none⟩ (.slice none 0 0)).setCell ⟨B + 1, 4, none⟩ (.int .i64 0)).setCell ⟨B + 1, 5, none⟩ (.int .i64 0)).setCell ⟨B + 1, 6, none⟩ (.int .u64 0)).setCell ⟨B + 1, 7, none⟩ (.slice none 0 0)).setCell ⟨B + 1, 8, none⟩ (.int .i64 0)).setCell ⟨B + 1, 9, none⟩ (.slice none 0 0)).setCell ⟨B + 1, 10, none⟩ (.int .u64 0)).setCell ⟨B + 1, 11, none⟩ (.slice none 0 0)) = w9 at hz ⊢
                obtain ⟨⟨x0, x1, x2, x3, x4, x5, x6, x7, x8, x9, x10, x11⟩, -⟩ := hz.1.twelve
                refine bodyPost_ret (v := .tuple #[.agg #[.slice none 0 0, .string ⟨#[]⟩, .slice none 0 0, .slice none 0 0, .int .i64 0, .int .i64 0, .int .u64 0, .slice none 0 0, .int .i64 0, .slice none 0 0, .int .u64 0, .slice none 0 0], .int .i64 2]) (by simp [results, Tryd.results13, go_sem, x0, x1, x2, x3, x4, x5, x6, x7, x8, x9, x10, x11]) rfl (by rw [HOF.out]; exact NewRP.no rfl hz.2)
              case neg =>
                have HST := Lib.hid (HXN.out hxy)
                have e1 : (x.toList == y.toList) = false := by rw [str_eq]; exact decide_eq_false (fun h => hxy h.symm)
                clear hxy
                go_wp2_with fail
                go_quiet (fail)
                go_wp2_with fail
                go_roundw
                case rel => exact ⟨b + 1, by omega, by go_num, HN2.out.drewN _, by rw [← HXX.out]; exact HST.out⟩
                case measure => simp [intOf]; omega
            case neg =>
              have hba : b = a := by omega
              subst hba
              have HD2 : Hid (∀ k, k < b + 1 → dupAt (reps.map (·.cmd)) k = false) := fun k hk => by
                rcases Nat.lt_or_ge k b with h | h
                · exact HD.out k h
                · obtain rfl : k = b := by omega
                  exact HANY.out
              go_wp2_with fail
              go_roundw
              case rel => exact ⟨b + 1, by omega, by go_num, HN2.out, HD2.out⟩
              case measure => simp [intOf]; omega
        case neg =>
          have hae : n2 = a := by omega
          subst hae
          have HDR : Hid (distB (reps.map (·.cmd)) = true) := dist_yes (fun k hk => HD.out k (by rw [HE2.out]; simpa using hk))
          have HON : Hid (o = (decide (0 ≤ lim) && decide (lim ≤ 16))) := by unfold Hid; rw [HO.out]; unfold newB; rw [HDF.out, HDR.out]; rfl
          clear HD
          have c4 : wr.cell? ⟨B, 4, none⟩ = some (.int .i64 lim) := HN.out.scr.cell 4
          by_cases hl0 : lim < 0
          case pos =>
            have HOF : Hid (o = false) := by unfold Hid; rw [HON.out]; simp; omega
            obtain ⟨⟨r0, r1, r2, r3, r4, r5, r6, r7, r8, r9, r10, r11⟩, q0, q1, q2, q3, q4, q5, q6, q7, q8, q9, q10, q11⟩ := HN.out.res.twelve
            go_wp2_with fail
            have hz := HN.out.zeroed HBE.out
            generalize ((((((((((((wr.setCell ⟨B + 1, 0, none⟩ (.slice none 0 0)).setCell ⟨B + 1, 1, none⟩ (.string ⟨#[]⟩)).setCell ⟨B + 1, 2, none⟩ (.slice none 0 0)).setCell ⟨B + 1, 3, none⟩ (.slice none 0 0)).setCell ⟨B + 1, 4, none⟩ (.int .i64 0)).setCell ⟨B + 1, 5, none⟩ (.int .i64 0)).setCell ⟨B + 1, 6, none⟩ (.int .u64 0)).setCell ⟨B + 1, 7, none⟩ (.slice none 0 0)).setCell ⟨B + 1, 8, none⟩ (.int .i64 0)).setCell ⟨B + 1, 9, none⟩ (.slice none 0 0)).setCell ⟨B + 1, 10, none⟩ (.int .u64 0)).setCell ⟨B + 1, 11, none⟩ (.slice none 0 0)) = w9 at hz ⊢
            obtain ⟨⟨x0, x1, x2, x3, x4, x5, x6, x7, x8, x9, x10, x11⟩, -⟩ := hz.1.twelve
            refine bodyPost_ret (v := .tuple #[.agg #[.slice none 0 0, .string ⟨#[]⟩, .slice none 0 0, .slice none 0 0, .int .i64 0, .int .i64 0, .int .u64 0, .slice none 0 0, .int .i64 0, .slice none 0 0, .int .u64 0, .slice none 0 0], .int .i64 2]) (by simp [results, Tryd.results13, go_sem, x0, x1, x2, x3, x4, x5, x6, x7, x8, x9, x10, x11]) rfl (by rw [HOF.out]; exact NewRP.no rfl hz.2)
          case neg =>
          by_cases hl1 : 16 < lim
          case pos =>
            have HOF : Hid (o = false) := by unfold Hid; rw [HON.out]; simp; omega
            obtain ⟨⟨r0, r1, r2, r3, r4, r5, r6, r7, r8, r9, r10, r11⟩, q0, q1, q2, q3, q4, q5, q6, q7, q8, q9, q10, q11⟩ := HN.out.res.twelve
            go_wp2_with fail
            have hz := HN.out.zeroed HBE.out
            generalize ((((((((((((wr.setCell ⟨B + 1, 0, none⟩ (.slice none 0 0)).setCell ⟨B + 1, 1, none⟩ (.string ⟨#[]⟩)).setCell ⟨B + 1, 2, none⟩ (.slice none 0 0)).setCell ⟨B + 1, 3, none⟩ (.slice none 0 0)).setCell ⟨B + 1, 4, none⟩ (.int .i64 0)).setCell ⟨B + 1, 5, none⟩ (.int .i64 0)).setCell ⟨B + 1, 6, none⟩ (.int .u64 0)).setCell ⟨B + 1, 7, none⟩ (.slice none 0 0)).setCell ⟨B + 1, 8, none⟩ (.int .i64 0)).setCell ⟨B + 1, 9, none⟩ (.slice none 0 0)).setCell ⟨B + 1, 10, none⟩ (.int .u64 0)).setCell ⟨B + 1, 11, none⟩ (.slice none 0 0)) = w9 at hz ⊢
            obtain ⟨⟨x0, x1, x2, x3, x4, x5, x6, x7, x8, x9, x10, x11⟩, -⟩ := hz.1.twelve
            refine bodyPost_ret (v := .tuple #[.agg #[.slice none 0 0, .string ⟨#[]⟩, .slice none 0 0, .slice none 0 0, .int .i64 0, .int .i64 0, .int .u64 0, .slice none 0 0, .int .i64 0, .slice none 0 0, .int .u64 0, .slice none 0 0], .int .i64 2]) (by simp [results, Tryd.results13, go_sem, x0, x1, x2, x3, x4, x5, x6, x7, x8, x9, x10, x11]) rfl (by rw [HOF.out]; exact NewRP.no rfl hz.2)
          case neg =>
            have HOT : Hid (o = true) := by unfold Hid; rw [HON.out]; simp; omega
            go_wp2_with fail
            clear hl0 hl1 c2 c4
            have HSC : Hid (Blk wr.drew B 38 #[.slice A1 n1 cap1, .string stdin, .slice A2 n2 cap2, .slice A3 n3 cap3, .int .i64 lim, .int .i64 clock, .int .u64 ch]) := HN.out.scr
            refine wp_region_noPanic ?_
            refine wp_region_pi (fun wd => Blk wd B 38 #[.slice A1 n1 cap1, .string stdin, .slice A2 n2 cap2, .slice A3 n3 cap3, .int .i64 lim, .int .i64 clock, .int .u64 ch]) [(0, true), (1, true), (2, true), (3, true), (5, true), (6, true), (4, false), (7, true), (8, false), (9, false)] (by kernel_rfl) (by kernel_rfl) (fun _ _ _ _ _ h => h) HSC.out ?_
            simp only [piO, List.filterMap_cons, List.filterMap_nil, List.getElem?_toArray, List.getElem?_cons_zero, List.getElem?_cons_succ, Option.map_some]
            iterate 6 (
              refine pi_read ?_ (fun wd hS M hM => ?_) ?_ ?_
              rotate_left
              · have HM := Lib.hid hM
                have s0 : wd.cell? ⟨B, 0, none⟩ = some (.slice A1 n1 cap1) := hS.cell 0
                have s1 : wd.cell? ⟨B, 1, none⟩ = some (.string stdin) := hS.cell 1
                have s2 : wd.cell? ⟨B, 2, none⟩ = some (.slice A2 n2 cap2) := hS.cell 2
                have s3 : wd.cell? ⟨B, 3, none⟩ = some (.slice A3 n3 cap3) := hS.cell 3
                have s4 : wd.cell? ⟨B, 4, none⟩ = some (.int .i64 lim) := hS.cell 4
                have s5 : wd.cell? ⟨B, 5, none⟩ = some (.int .i64 clock) := hS.cell 5
                have s6 : wd.cell? ⟨B, 6, none⟩ = some (.int .u64 ch) := hS.cell 6
                clear hM hS
                go_wp2_with fail
                exact HM.out
              · rfl)
            have hbw : Below w.heap.size w wr.drew := HN.out.below.drew
            have hsrc := (row_src HF.out HA1.out).keep hbw
            refine pi_alone (fun M hM => ?_)
            have HM := Lib.hid hM
            clear hM
            refine wp_appx rfl _ _ _ rfl 83 2 32 _ Tryd.underlying33 info_con rfl (by decide) wr.drew.heap.size _ 0 [] rfl (World.ownsRow_nil _ _ _ _) _ _ _ _ rfl hsrc (by unfold maxLen; omega) (by omega) (Nat.le_refl _) ?_
            intro AF cF w5 how hgrow hat
            simp only [Nat.zero_add, List.nil_append] at how ⊢
            have hb5 : Below wr.drew.heap.size wr.drew w5 := (Below.refl _ _).grown hgrow (Nat.le_refl _) (fun k hk => by cases hk)
            have HHOW := Lib.hid how
            have HB5 := Lib.hid hb5
            clear how hgrow hat
            go_wp2_with fail
            refine HM.out _ _ (below_blk HSC.out HB5.out HSC.out.lt) ?_
            clear HM M
            have HN5 := Lib.hid ((HN.out.keep (Below.refl _ _).drew).keep HB5.out)
            refine pi_read ?_ (fun wd hS M hM => ?_) ?_ ?_
            rotate_left
            · have HM := Lib.hid hM
              clear hM hS
              go_wp2_with fail
              exact HM.out
            · rfl
            have hB1 := HBE.out
            have hset := HN5.out.res.set12 (.slice A1 n1 cap1) (.string stdin) (.slice A2 n2 cap2) (.slice A3 n3 cap3) (.int .i64 lim) (.int .i64 clock) (.int .u64 ch) (.slice AF n1 cF) (.int .i64 0) (.slice none 0 0) (.int .u64 ch) (.slice none 0 0)
            have htur := Tur.set12 (w := w5) (g := B + 1) (.slice A1 n1 cap1) (.string stdin) (.slice A2 n2 cap2) (.slice A3 n3 cap3) (.int .i64 lim) (.int .i64 clock) (.int .u64 ch) (.slice AF n1 cF) (.int .i64 0) (.slice none 0 0) (.int .u64 ch) (.slice none 0 0)
            have hbf : Below w.heap.size w ((((((((((((w5.setCell ⟨B + 1, 0, none⟩ (.slice A1 n1 cap1)).setCell ⟨B + 1, 1, none⟩ (.string stdin)).setCell ⟨B + 1, 2, none⟩ (.slice A2 n2 cap2)).setCell ⟨B + 1, 3, none⟩ (.slice A3 n3 cap3)).setCell ⟨B + 1, 4, none⟩ (.int .i64 lim)).setCell ⟨B + 1, 5, none⟩ (.int .i64 clock)).setCell ⟨B + 1, 6, none⟩ (.int .u64 ch)).setCell ⟨B + 1, 7, none⟩ (.slice AF n1 cF)).setCell ⟨B + 1, 8, none⟩ (.int .i64 0)).setCell ⟨B + 1, 9, none⟩ (.slice none 0 0)).setCell ⟨B + 1, 10, none⟩ (.int .u64 ch)).setCell ⟨B + 1, 11, none⟩ (.slice none 0 0)) := HN5.out.below.trans (htur.below _ HN5.out.below.size (fun k hk e => by omega))
            have hbs : Blk ((((((((((((w5.setCell ⟨B + 1, 0, none⟩ (.slice A1 n1 cap1)).setCell ⟨B + 1, 1, none⟩ (.string stdin)).setCell ⟨B + 1, 2, none⟩ (.slice A2 n2 cap2)).setCell ⟨B + 1, 3, none⟩ (.slice A3 n3 cap3)).setCell ⟨B + 1, 4, none⟩ (.int .i64 lim)).setCell ⟨B + 1, 5, none⟩ (.int .i64 clock)).setCell ⟨B + 1, 6, none⟩ (.int .u64 ch)).setCell ⟨B + 1, 7, none⟩ (.slice AF n1 cF)).setCell ⟨B + 1, 8, none⟩ (.int .i64 0)).setCell ⟨B + 1, 9, none⟩ (.slice none 0 0)).setCell ⟨B + 1, 10, none⟩ (.int .u64 ch)).setCell ⟨B + 1, 11, none⟩ (.slice none 0 0)) B 38 #[.slice A1 n1 cap1, .string stdin, .slice A2 n2 cap2, .slice A3 n3 cap3, .int .i64 lim, .int .i64 clock, .int .u64 ch] := HN5.out.scr.keep htur (fun h => by omega)
            have hown : ((((((((((((w5.setCell ⟨B + 1, 0, none⟩ (.slice A1 n1 cap1)).setCell ⟨B + 1, 1, none⟩ (.string stdin)).setCell ⟨B + 1, 2, none⟩ (.slice A2 n2 cap2)).setCell ⟨B + 1, 3, none⟩ (.slice A3 n3 cap3)).setCell ⟨B + 1, 4, none⟩ (.int .i64 lim)).setCell ⟨B + 1, 5, none⟩ (.int .i64 clock)).setCell ⟨B + 1, 6, none⟩ (.int .u64 ch)).setCell ⟨B + 1, 7, none⟩ (.slice AF n1 cF)).setCell ⟨B + 1, 8, none⟩ (.int .i64 0)).setCell ⟨B + 1, 9, none⟩ (.slice none 0 0)).setCell ⟨B + 1, 10, none⟩ (.int .u64 ch)).setCell ⟨B + 1, 11, none⟩ (.slice none 0 0)).ownsRow wr.drew.heap.size 83 2 (.slice AF n1 cF) n1 (fvals2 files) := own_of_block HHOW.out (fun g hg => htur.block g (own_lt HHOW.out hg).choose_spec.2 (fun h => by have := own_ge' HHOW.out hg; have := HN.out.res.lt; have e : wr.drew.heap.size = wr.heap.size := rfl; omega))
            have HSET := Lib.hid hset
            have HBF := Lib.hid hbf
            have HBS := Lib.hid hbs
            have HOWN := Lib.hid hown
            clear hset htur hbf hbs hown hB1
            obtain ⟨⟨r0, r1, r2, r3, r4, r5, r6, r7, r8, r9, r10, r11⟩, q0, q1, q2, q3, q4, q5, q6, q7, q8, q9, q10, q11⟩ := HN5.out.res.twelve
            refine pi_alone (fun M hM => ?_)
            have HM := Lib.hid hM
            clear hM
            go_wp2_with fail
            clear r0 r1 r2 r3 r4 r5 r6 r7 r8 r9 r10 r11 q0 q1 q2 q3 q4 q5 q6 q7 q8 q9 q10 q11
            generalize ((((((((((((w5.setCell ⟨B + 1, 0, none⟩ (.slice A1 n1 cap1)).setCell ⟨B + 1, 1, none⟩ (.string stdin)).setCell ⟨B + 1, 2, none⟩ (.slice A2 n2 cap2)).setCell ⟨B + 1, 3, none⟩ (.slice A3 n3 cap3)).setCell ⟨B + 1, 4, none⟩ (.int .i64 lim)).setCell ⟨B + 1, 5, none⟩ (.int .i64 clock)).setCell ⟨B + 1, 6, none⟩ (.int .u64 ch)).setCell ⟨B + 1, 7, none⟩ (.slice AF n1 cF)).setCell ⟨B + 1, 8, none⟩ (.int .i64 0)).setCell ⟨B + 1, 9, none⟩ (.slice none 0 0)).setCell ⟨B + 1, 10, none⟩ (.int .u64 ch)).setCell ⟨B + 1, 11, none⟩ (.slice none 0 0)) = w9 at HSET HBF HBS HOWN ⊢
            refine HM.out _ _ HBS.out ?_
            clear HM M
            refine pi_alone (fun M hM => ?_)
            have HM := Lib.hid hM
            clear hM
            go_wp2_with fail
            refine HM.out _ _ HBS.out ?_
            clear HM M
            refine NoPanic.normal (?_ : _)
            obtain ⟨⟨x0, x1, x2, x3, x4, x5, x6, x7, x8, x9, x10, x11⟩, -⟩ := HSET.out.twelve
            go_wp2_with fail
            refine bodyPost_ret (v := .tuple #[.agg #[.slice A1 n1 cap1, .string stdin, .slice A2 n2 cap2, .slice A3 n3 cap3, .int .i64 lim, .int .i64 clock, .int .u64 ch, .slice AF n1 cF, .int .i64 0, .slice none 0 0, .int .u64 ch, .slice none 0 0], .int .i64 0]) (by simp [results, Tryd.results13, go_sem, x0, x1, x2, x3, x4, x5, x6, x7, x8, x9, x10, x11]) rfl ?_
            rw [HOT.out]
            have hws : w.heap.size ≤ wr.drew.heap.size := HN.out.below.size
            obtain rfl := HE1.out
            obtain rfl := HE2.out
            obtain rfl := HE3.out
            refine ⟨⟨A1, files.length, cap1, A2, cap2, A3, cap3, AF, cF, none, 0, none, 0⟩, rfl, ?_, HBF.out⟩
            exact {
              r2 := (HR.out.keep HBF.out.size (fun b hb _ => HBF.out.block b hb)).mono (fun _ _ hk => .inl hk)
              r3 := (HL.out.keep HBF.out.size (fun b hb _ => HBF.out.block b hb)).mono (fun _ _ hk => .inl hk)
              oF := ⟨own_base HOWN.out (fun _ _ => Nat.zero_le _), fun g hg => .inr (Nat.le_trans hws (own_ge' HOWN.out hg)), by show files.length ≤ 1000000; omega⟩
              oO := ⟨World.ownsRow_nil _ _ _ _, fun g hg => (by cases hg), Nat.zero_le _⟩
              oE := ⟨World.ownsRow_nil _ _ _ _, fun g hg => (by cases hg), Nat.zero_le _⟩ }
end Go.Proofs.YtdbdmgmenojcaaaDoor
namespace Go.Proofs.YtdbdmgmenojcaaaDoor
open Go.RowKit Wd
open Go.WideMaps Go.WideElems Go.WideAt

theorem row_src' {K : Nat → Prop} {w : World} {A : Option Addr} {n cap sz : Nat} {cs : List Value} (h : Row K w (.slice A n cap) n sz cs) (hone : ∀ u ∈ cs, u.oneCell' = true) (hA : A = none → n = 0 ∧ cap = 0) : Src w A n cap sz cs := by
  obtain ⟨h1, -, A', cap', hv, -, -, hcell⟩ := h
  obtain ⟨rfl, -, -⟩ := Value.slice.inj hv
  refine ⟨h1, hone, ?_⟩
  cases A with
  | none => obtain ⟨e1, e2⟩ := hA rfl; exact .inl ⟨rfl, e1, e2⟩
  | some a =>
    refine .inr ⟨a, rfl, fun j u hj => ?_⟩
    have hjl : j < n * sz := by rw [← h1]; exact (List.getElem?_eq_some_iff.1 hj).1
    have hn : 0 < n := by
      rcases Nat.eq_zero_or_pos n with e | e
      · subst e; simp at hjl
      · exact e
    obtain ⟨b, o, e, -, -, hc⟩ := hcell hn
    injection e with e
    subst e
    have : (⟨b, o, none⟩ : Addr).add j = ⟨b, o + j, none⟩ := by unfold Addr.add; split <;> simp_all
    rw [this, hc j hjl]
    exact hj
theorem rvals_one (l : List Rp) : ∀ u ∈ rvals l, u.oneCell' = true := by
  intro u hu
  obtain ⟨e, -, he⟩ := List.mem_flatMap.1 hu
  exact one_rp u he
theorem fvals_one (l : List Fl) : ∀ u ∈ fvals l, u.oneCell' = true := by
  intro u hu
  obtain ⟨e, -, he⟩ := List.mem_flatMap.1 hu
  simp only [Fl.vals, List.mem_cons, List.not_mem_nil, or_false] at he
  rcases he with rfl | rfl <;> rfl
theorem info_fl : (Tryd.prog.info? 85).map (fun i => (i.zero, i.size, i.bytes)) = some (some (.agg #[.int .u8 0, .string ⟨#[]⟩]), 2, 24) := by kernel_rfl
set_option maxRecDepth 100000 in
theorem wo_cloneRG {w : World} {A : Option Addr} {n cap : Nat} {cs : List Value} (hs : Src w A n cap 3 cs) (hn : n ≤ 1000000) :
    Calls Tryd.prog 31 #[.slice A n cap] w fun e w' => ∃ v', e = .returned v' ∧ w'.ownsRow w.heap.size 87 3 v' n cs ∧ Below w.heap.size w w' := by
  cases A with
  | none =>
    have h0 : n = 0 ∧ cap = 0 ∧ cs = [] := by
      obtain ⟨h1, -, ⟨-, rfl, rfl⟩ | ⟨a', e, -⟩⟩ := hs
      · exact ⟨rfl, rfl, List.eq_nil_of_length_eq_zero (by simpa using h1)⟩
      · cases e
    obtain ⟨rfl, rfl, rfl⟩ := h0
    have hnil := fun w => Lib.run_eql_slice_nil (P := Tryd.prog) w 34 87 none 0 0 0 0 Tryd.underlying34
    go_enter Tryd.func31, Tryd.ntmps31
    go_wp2_with fail
    go_ret
    exact ⟨_, rfl, World.ownsRow_nil _ _ _ _, Below.refl _ _⟩
  | some a =>
    have hz1 : n ≤ maxLen := by unfold maxLen; omega
    have hz2 : (0 + n) * 40 ≤ 140737488355328 := by omega
    have hba := (Below.refl w.heap.size w).alloc (Nat.le_refl _) (.cells #[] 87)
    have HBA := Lib.hid hba
    have HR1 := Lib.hid (hs.keep hba)
    have HE : Hid ((w.alloc (.cells #[] 87)).ownsRow w.heap.size 87 3 (.slice (some ⟨w.heap.size, 0, none⟩) 0 0) 0 []) :=
      ⟨rfl, .inr ⟨w.heap.size, 0, #[], rfl, Nat.le_refl _, Blk.new w _ _, Nat.le_refl _, Nat.zero_le _, rfl, rfl⟩⟩
    clear hs hba
    have hnil := fun w => Lib.run_eql_slice_nil (P := Tryd.prog) w 34 87 (some a) n cap 0 0 Tryd.underlying34
    go_enter Tryd.func31, Tryd.ntmps31
    go_wp2_with (at_builtin; refine wp_appx rfl _ _ _ rfl 87 3 40 _ Tryd.underlying34 info_rp rfl (by decide) w.heap.size (.slice (some ⟨w.heap.size, 0, none⟩) 0 0) 0 [] rfl HE.out (some a) n cap _ rfl HR1.out (by rw [Nat.zero_add]; exact hz1) hz2 (by simp) ?_; intro A1 cap1 w1 hown1 hgrow1 hat1)
    go_ret
    refine ⟨_, rfl, by have := hown1; simp only [Nat.zero_add, List.nil_append] at this ⊢; exact this, ?_⟩
    exact ⟨hgrow1.os.trans HBA.out.os, hgrow1.tape.trans HBA.out.tape, hgrow1.output.trans HBA.out.output, Nat.le_trans HBA.out.size hgrow1.size, fun k hk => (hgrow1.block k (by have := HBA.out.size; omega) (by intro e; injection e with e; change k = w.heap.size at e; omega)).trans (HBA.out.block k hk)⟩
set_option maxRecDepth 100000 in
theorem wo_cloneFG {w : World} {A : Option Addr} {n cap : Nat} {cs : List Value} (hs : Src w A n cap 2 cs) (hn : n ≤ 1000000) :
    Calls Tryd.prog 32 #[.slice A n cap] w fun e w' => ∃ v', e = .returned v' ∧ w'.ownsRow w.heap.size 85 2 v' n cs ∧ Below w.heap.size w w' := by
  cases A with
  | none =>
    have h0 : n = 0 ∧ cap = 0 ∧ cs = [] := by
      obtain ⟨h1, -, ⟨-, rfl, rfl⟩ | ⟨a', e, -⟩⟩ := hs
      · exact ⟨rfl, rfl, List.eq_nil_of_length_eq_zero (by simpa using h1)⟩
      · cases e
    obtain ⟨rfl, rfl, rfl⟩ := h0
    have hnil := fun w => Lib.run_eql_slice_nil (P := Tryd.prog) w 35 85 none 0 0 0 0 Tryd.underlying35
    go_enter Tryd.func32, Tryd.ntmps32
    go_wp2_with fail
    go_ret
    exact ⟨_, rfl, World.ownsRow_nil _ _ _ _, Below.refl _ _⟩
  | some a =>
    have hz1 : n ≤ maxLen := by unfold maxLen; omega
    have hz2 : (0 + n) * 24 ≤ 140737488355328 := by omega
    have hba := (Below.refl w.heap.size w).alloc (Nat.le_refl _) (.cells #[] 85)
    have HBA := Lib.hid hba
    have HR1 := Lib.hid (hs.keep hba)
    have HE : Hid ((w.alloc (.cells #[] 85)).ownsRow w.heap.size 85 2 (.slice (some ⟨w.heap.size, 0, none⟩) 0 0) 0 []) :=
      ⟨rfl, .inr ⟨w.heap.size, 0, #[], rfl, Nat.le_refl _, Blk.new w _ _, Nat.le_refl _, Nat.zero_le _, rfl, rfl⟩⟩
    clear hs hba
    have hnil := fun w => Lib.run_eql_slice_nil (P := Tryd.prog) w 35 85 (some a) n cap 0 0 Tryd.underlying35
    go_enter Tryd.func32, Tryd.ntmps32
    go_wp2_with (at_builtin; refine wp_appx rfl _ _ _ rfl 85 2 24 _ Tryd.underlying35 info_fl rfl (by decide) w.heap.size (.slice (some ⟨w.heap.size, 0, none⟩) 0 0) 0 [] rfl HE.out (some a) n cap _ rfl HR1.out (by rw [Nat.zero_add]; exact hz1) hz2 (by simp) ?_; intro A1 cap1 w1 hown1 hgrow1 hat1)
    go_ret
    refine ⟨_, rfl, by have := hown1; simp only [Nat.zero_add, List.nil_append] at this ⊢; exact this, ?_⟩
    exact ⟨hgrow1.os.trans HBA.out.os, hgrow1.tape.trans HBA.out.tape, hgrow1.output.trans HBA.out.output, Nat.le_trans HBA.out.size hgrow1.size, fun k hk => (hgrow1.block k (by have := HBA.out.size; omega) (by intro e; injection e with e; change k = w.heap.size at e; omega)).trans (HBA.out.block k hk)⟩
theorem run_look_some {P : Program} {k e : TypeId} {w : World} {b m : Nat} {f : List UInt8 → Option Value} (h : MapS P k e w b m f) {t : TypeId} (K : Go.Maps.Keyed P k) (ht : P.underlying t = some (.map k e)) {z : Value} (hz : (zeroValue e).run P w = .ok z w)
    {key : Value} {l : List UInt8} (hkey : keyOf P k key = some (.string l)) {u : Value} (hn : f l = some u) : (Instr.lookup t (.map (some b)) key true).run P w = .ok (.tuple #[u, .bool true]) w := by
  obtain ⟨D, hown, _, hf⟩ := h
  obtain ⟨es, clock, hb, F, _, rfl⟩ := hown
  obtain ⟨h1, d, hd, hat⟩ := (hf l).2 u hn
  rcases Maps.fit_look true K ht hz hb F hkey with ⟨-, -, h2⟩ | ⟨e0, y, _, _, hrun, hy, hat2, _⟩
  · exfalso
    have e1 := (h2 (.lit (.bool true))).symm.trans (hat _)
    have e2 := (h2 (.lit (.bool false))).symm.trans (hat _)
    rw [← e2] at e1
    cases e1
  · have e1 : y.1 = d := (hat2 d).symm.trans (hat d)
    obtain ⟨y1, y2⟩ := y
    simp only at e1
    subst e1
    rw [plain_inj hy hd] at hrun
    exact hrun
namespace Wd
theorem filesOf_any (l : List (ByteArray × ByteArray)) (x : ByteArray) : (filesOf l x.data.toList).isSome = (l.map (·.1)).any (fun y => decide (y = x)) := by
  have H : ∀ n, n ≤ l.length → (filesOf (l.take n) x.data.toList).isSome = ((l.take n).map (·.1)).any (fun y => decide (y = x)) := by
    intro n
    induction n with
    | zero => intro _; simp [filesOf]
    | succ k ih =>
      intro hk
      rw [filesOf_succ hk, List.take_succ_eq_append_getElem hk, List.map_append, List.any_append, ← ih (by omega)]
      unfold setF
      have e : (x.data.toList = l[k].1.data.toList) ↔ (l[k].1 = x) := by
        constructor
        · intro h
          have h2 : x.data = l[k].1.data := Array.toList_inj.1 h
          exact (ByteArray.ext h2).symm
        · intro h; rw [h]
      by_cases hx : l[k].1 = x
      · rw [if_pos (e.2 hx)]; simp [hx]
      · rw [if_neg (fun h => hx (e.1 h))]; simp [hx]
  have := H l.length (Nat.le_refl _)
  rwa [List.take_length] at this
theorem nth_map {α : Type} (g : α → ByteArray) (l : List α) (k : Nat) (h : k < l.length) : nth (l.map g) k = g l[k] := by
  simp [nth, List.getD_eq_getElem?_getD, List.getElem?_eq_getElem h]
theorem dup_file {l : List (ByteArray × ByteArray)} {k : Nat} (h : k < l.length) : (filesOf (l.take k) l[k].1.data.toList).isSome = dupAt (l.map (·.1)) k := by
  rw [filesOf_any, dupAt, nth_map _ _ _ h, List.map_take]
theorem dup_cmd {l : List Rp} {k : Nat} (h : k < l.length) : (l.take k).any (isRp l[k].cmd) = dupAt (l.map (·.cmd)) k := by
  unfold dupAt
  rw [nth_map _ _ _ h, ← List.map_take, List.any_map]
  rfl
end Wd
end Go.Proofs.YtdbdmgmenojcaaaDoor
