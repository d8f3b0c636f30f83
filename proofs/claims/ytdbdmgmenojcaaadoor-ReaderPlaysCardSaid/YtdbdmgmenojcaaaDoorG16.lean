/- A script that is looked at: ShortScript. -/
import Derived.Test.YtdbdmgmenojcaaaDoorG6
import Derived.Deep.Cut
import Derived.Test.YtdbdmgmenojcaaaDoorG14
import Derived.Test.YtdbdmgmenojcaaaDoorG11
import Derived.Deep.Slices
import Derived.OpenShut
import Derived.SliceStrings
import Derived.WideShapes
import Derived.Test.YtdbdmgmenojcaaaDoorG15
import Derived.Lib.IndexMore
import Derived.Lib.TrimByte
import Derived.Lib.Join
import Derived.Lib.Strings
import Derived.Lib.Replace
set_option linter.unusedVariables false
set_option linter.unusedSimpArgs false
namespace Go.Proofs.YtdbdmgmenojcaaaDoor
open Go.RowKit Wd
namespace Wd
def shF (b : Nat) (p : ByteArray × ByteArray) : Bool := decide (p.1.size ≤ b) && decide (p.2.size ≤ b)
def shR (b : Nat) (p : Rp) : Bool := decide (p.cmd.size ≤ b) && decide (p.out.size ≤ b)
def shL (b : Nat) (p : Fl) : Bool := decide (p.name.size ≤ b)
def shortB (files : List (ByteArray × ByteArray)) (reps : List Rp) (fls : List Fl) (stdin : ByteArray) (c b : Nat) : Bool :=
  decide (files.length ≤ c ∧ reps.length ≤ c ∧ fls.length ≤ c ∧ stdin.size ≤ b) && files.all (shF b) && reps.all (shR b) && fls.all (shL b)
theorem all_take_succ {α : Type} (p : α → Bool) (l : List α) (k : Nat) (h : k < l.length) : (l.take (k + 1)).all p = ((l.take k).all p && p l[k]) := by
  rw [List.take_succ_eq_append_getElem h, List.all_append]; simp
theorem all_no {α : Type} {p : α → Bool} {l : List α} {k : Nat} (h : k < l.length) (hp : p l[k] = false) : l.all p = false := by
  rw [List.all_eq_false]
  exact ⟨l[k], List.getElem_mem h, by rw [hp]; decide⟩
end Wd
set_option maxRecDepth 100000 in
set_option maxHeartbeats 8000000 in
theorem w_short {K : Nat → Prop} {w : World} {vF vR vL : Value} (files : List (ByteArray × ByteArray)) (reps : List Rp) (fls : List Fl) (stdin : ByteArray) (lim clock ch : Int) (c b : Nat) (hF : Row K w vF files.length 2 (fvals2 files)) (hR : Row K w vR reps.length 3 (rvals reps)) (hL : Row K w vL fls.length 2 (fvals fls)) (hst : stdin.size ≤ maxLen)
    (hfz : ∀ p ∈ files, p.1.size ≤ maxLen ∧ p.2.size ≤ maxLen) (hrz : ∀ p ∈ reps, p.cmd.size ≤ maxLen ∧ p.out.size ≤ maxLen) (hlz : ∀ p ∈ fls, p.name.size ≤ maxLen) (hc : c ≤ 1000) (hb : b ≤ 100000) :
    Calls Tryd.prog 11 #[.agg #[vF, .string stdin, vR, vL, .int .i64 lim, .int .i64 clock, .int .u64 ch], .int .i64 c, .int .i64 b] w fun e w' => e = .returned (.bool (shortB files reps fls stdin c b)) ∧ Below w.heap.size w w' := by
  obtain ⟨-, hn1, A1, cap1, rfl, hc1, hd1, hcell1⟩ := hF
  obtain ⟨-, hn2, A2, cap2, rfl, hc2, hd2, hcell2⟩ := hR
  obtain ⟨-, hn3, A3, cap3, rfl, hc3, hd3, hcell3⟩ := hL
  have HB := Lib.hid ((Below.refl w.heap.size w).alloc (Nat.le_refl _) (.cells #[.slice A1 files.length cap1, .string stdin, .slice A2 reps.length cap2, .slice A3 fls.length cap3, .int .i64 lim, .int .i64 clock, .int .u64 ch] 38))
  have HN := Lib.hid (Blk.new w 38 #[.slice A1 files.length cap1, .string stdin, .slice A2 reps.length cap2, .slice A3 fls.length cap3, .int .i64 lim, .int .i64 clock, .int .u64 ch])
  obtain ⟨n1, e1⟩ : ∃ n, n = files.length := ⟨_, rfl⟩
  obtain ⟨n2, e2⟩ : ∃ n, n = reps.length := ⟨_, rfl⟩
  obtain ⟨n3, e3⟩ : ∃ n, n = fls.length := ⟨_, rfl⟩
  rw [← e1] at hn1 hc1 hcell1
  rw [← e2] at hn2 hc2 hcell2
  rw [← e3] at hn3 hc3 hcell3
  rw [← e1, ← e2, ← e3] at HB HN
  obtain ⟨o, ho⟩ : ∃ o, o = shortB files reps fls stdin c b := ⟨_, rfl⟩
  rw [← ho, ← e1, ← e2, ← e3]
  have HO : Hid (o = (decide (n1 ≤ c ∧ n2 ≤ c ∧ n3 ≤ c ∧ stdin.size ≤ b) && files.all (shF b) && reps.all (shR b) && fls.all (shL b))) := by unfold Hid; rw [ho, e1, e2, e3]; rfl
  have HE1 := Lib.hid e1
  have HE2 := Lib.hid e2
  have HE3 := Lib.hid e3
  have HC1 := Lib.hid hcell1
  have HC2 := Lib.hid hcell2
  have HC3 := Lib.hid hcell3
  have HFZ := Lib.hid hfz
  have HRZ := Lib.hid hrz
  have HLZ := Lib.hid hlz
  have k1 : cap1 < 9223372036854775808 := by unfold maxLen at hd1; omega
  have k2 : cap2 < 9223372036854775808 := by unfold maxLen at hd2; omega
  have k3 : cap3 < 9223372036854775808 := by unfold maxLen at hd3; omega
  have hst2 : stdin.size < 9223372036854775808 := by unfold maxLen at hst; omega
  clear hcell1 hcell2 hcell3 e1 e2 e3 ho hfz hrz hlz
  have hways : (c < n1) ∨ (¬ c < n1 ∧ c < n2) ∨ (¬ c < n1 ∧ ¬ c < n2 ∧ c < n3) ∨ (¬ c < n1 ∧ ¬ c < n2 ∧ ¬ c < n3 ∧ b < stdin.size) ∨ (¬ c < n1 ∧ ¬ c < n2 ∧ ¬ c < n3 ∧ ¬ b < stdin.size) := by omega
  obtain ⟨B, hB⟩ : ∃ B, B = w.heap.size := ⟨_, rfl⟩
  have HBE := Lib.hid hB
  rw [← hB] at HN HB
  have HBW : Hid (Below w.heap.size w (w.alloc (.cells #[.slice A1 n1 cap1, .string stdin, .slice A2 n2 cap2, .slice A3 n3 cap3, .int .i64 lim, .int .i64 clock, .int .u64 ch] 38))) := by have := HB.out; rw [hB] at this; exact this
  clear hB
  rcases hways with h1 | ⟨h1, h2⟩ | ⟨h1, h2, h3⟩ | ⟨h1, h2, h3, h4⟩ | ⟨h1, h2, h3, h4⟩
  · have HE : Hid (o = false) := by unfold Hid; rw [HO.out, decide_eq_false (by omega)]; rfl
    go_enter Tryd.func11, Tryd.ntmps11
    go_wp2_with fail
    go_ret
    exact ⟨ret_bool HE.out.symm, HBW.out⟩
  · have HE : Hid (o = false) := by unfold Hid; rw [HO.out, decide_eq_false (by omega)]; rfl
    go_enter Tryd.func11, Tryd.ntmps11
    go_wp2_with fail
    go_ret
    exact ⟨ret_bool HE.out.symm, HBW.out⟩
  · have HE : Hid (o = false) := by unfold Hid; rw [HO.out, decide_eq_false (by omega)]; rfl
    go_enter Tryd.func11, Tryd.ntmps11
    go_wp2_with fail
    go_ret
    exact ⟨ret_bool HE.out.symm, HBW.out⟩
  · have HE : Hid (o = false) := by unfold Hid; rw [HO.out, decide_eq_false (by omega)]; rfl
    go_enter Tryd.func11, Tryd.ntmps11
    go_wp2_with fail
    go_ret
    exact ⟨ret_bool HE.out.symm, HBW.out⟩
  · have HW : Hid (decide (n1 ≤ c ∧ n2 ≤ c ∧ n3 ≤ c ∧ stdin.size ≤ b) = true) := by unfold Hid; exact decide_eq_true (by omega)
    go_enter Tryd.func11, Tryd.ntmps11
    go_upto_region 3 with (fail)
    have hbr := HBE.out
    rw [← hbr]
    clear hbr
    generalize w.alloc (.cells #[.slice A1 n1 cap1, .string stdin, .slice A2 n2 cap2, .slice A3 n3 cap3, .int .i64 lim, .int .i64 clock, .int .u64 ch] 38) = w1 at *
    have c0 : w1.cell? ⟨B, 0, none⟩ = some (.slice A1 n1 cap1) := HN.out.cell 0
    have c2 : w1.cell? ⟨B, 2, none⟩ = some (.slice A2 n2 cap2) := HN.out.cell 2
    have c3 : w1.cell? ⟨B, 3, none⟩ = some (.slice A3 n3 cap3) := HN.out.cell 3
    go_wp2_with fail
    go_loop [7] (fun i => ∃ k : Nat, k ≤ n1 ∧ i = .int .i64 k ∧ (files.take k).all (shF b) = true) (fun i => n1 - (intOf i).toNat)
    case atStart => exact ⟨0, Nat.zero_le _, rfl, rfl⟩
    case round =>
      obtain ⟨k, hk, rfl, hall⟩ := hrel
      have HALL := Lib.hid hall
      clear hall
      by_cases hlt : k < n1
      · have hkl : k < files.length := by have := HE1.out; omega
        obtain ⟨bb, oo, rfl, hbl, -, hcell⟩ := HC1.out (by omega)
        have hat : ∀ j, j < 2 → w1.cell? ⟨bb, oo + (k * 2 + j), none⟩ = (fl2 files[k])[j]? := by
          intro j hj
          rw [HB.out.cell (p := ⟨bb, oo + (k * 2 + j), none⟩) (by have := HBE.out; show bb < B; omega), hcell (k * 2 + j) (by omega), fvals2_get files k j hkl hj]
        have hz := HFZ.out _ (List.getElem_mem hkl)
        have HS := Lib.hid (all_take_succ (shF b) files k hkl)
        rw [HALL.out, Bool.true_and] at HS
        have HNO := Lib.hid (fun h => all_no (p := shF b) hkl h)
        have HP : Hid (shF b files[k] = (decide (files[k].1.size ≤ b) && decide (files[k].2.size ≤ b))) := rfl
        have d0 : w1.cell? ⟨bb, oo + k * 2, none⟩ = some (.string files[k].1) := hat 0 (by omega)
        have d1 : w1.cell? ⟨bb, oo + k * 2 + 1, none⟩ = some (.string files[k].2) := by rw [Nat.add_assoc]; exact hat 1 (by omega)
        unfold maxLen at hz
        generalize files[k].1 = x0 at *
        generalize files[k].2 = x1 at *
        clear hat hcell
        obtain ⟨hz1, hz2⟩ := hz
        have hw2 : (b < x0.size) ∨ (¬ b < x0.size ∧ b < x1.size) ∨ (¬ b < x0.size ∧ ¬ b < x1.size) := by omega
        rcases hw2 with g1 | ⟨g1, g2⟩ | ⟨g1, g2⟩
        · have hall0 := HNO.out (by rw [HP.out, decide_eq_false (by omega), Bool.false_and])
          have HE : Hid (o = false) := by unfold Hid; rw [HO.out, hall0]; simp
          clear hall0
          go_wp2_with fail
          go_ret
          exact ⟨ret_bool HE.out.symm, HBW.out⟩
        · have hall0 := HNO.out (by rw [HP.out, decide_eq_false (show ¬ x1.size ≤ b by omega), Bool.and_false])
          have HE : Hid (o = false) := by unfold Hid; rw [HO.out, hall0]; simp
          clear hall0
          go_wp2_with fail
          go_ret
          exact ⟨ret_bool HE.out.symm, HBW.out⟩
        · have HS2 := Lib.hid (HS.out.trans (HP.out.trans (by rw [decide_eq_true (show x0.size ≤ b by omega) , decide_eq_true (show x1.size ≤ b by omega)])))
          go_wp2_with fail
          go_round
          case rel => exact ⟨k + 1, by omega, by go_num, HS2.out⟩
          case measure => simp [intOf]; omega
      · have HALL7 : Hid (files.all (shF b) = true) := by
          have h := HALL.out
          rw [List.take_of_length_le (by have := HE1.out; omega)] at h
          exact h
        go_wp2_with fail
        go_loop [8] (fun i => ∃ k : Nat, k ≤ n2 ∧ i = .int .i64 k ∧ (reps.take k).all (shR b) = true) (fun i => n2 - (intOf i).toNat)
        case atStart => exact ⟨0, Nat.zero_le _, rfl, rfl⟩
        case round =>
          obtain ⟨k, hk, rfl, hall⟩ := hrel
          have HALL := Lib.hid hall
          clear hall
          by_cases hlt : k < n2
          · have hkl : k < reps.length := by have := HE2.out; omega
            obtain ⟨bb, oo, rfl, hbl, -, hcell⟩ := HC2.out (by omega)
            have hat : ∀ j, j < 3 → w1.cell? ⟨bb, oo + (k * 3 + j), none⟩ = (reps[k].vals)[j]? := by
              intro j hj
              rw [HB.out.cell (p := ⟨bb, oo + (k * 3 + j), none⟩) (by have := HBE.out; show bb < B; omega), hcell (k * 3 + j) (by omega), rvals_get reps k j hkl hj]
            have hz := HRZ.out _ (List.getElem_mem hkl)
            have HS := Lib.hid (all_take_succ (shR b) reps k hkl)
            rw [HALL.out, Bool.true_and] at HS
            have HNO := Lib.hid (fun h => all_no (p := shR b) hkl h)
            have HP : Hid (shR b reps[k] = (decide (reps[k].cmd.size ≤ b) && decide (reps[k].out.size ≤ b))) := rfl
            have d0 : w1.cell? ⟨bb, oo + k * 3, none⟩ = some (.string reps[k].cmd) := hat 0 (by omega)
            have d1 : w1.cell? ⟨bb, oo + k * 3 + 1, none⟩ = some (.string reps[k].out) := by rw [Nat.add_assoc]; exact hat 1 (by omega)
            unfold maxLen at hz
            generalize reps[k].cmd = x0 at *
            generalize reps[k].out = x1 at *
            clear hat hcell
            obtain ⟨hz1, hz2⟩ := hz
            have hw2 : (b < x0.size) ∨ (¬ b < x0.size ∧ b < x1.size) ∨ (¬ b < x0.size ∧ ¬ b < x1.size) := by omega
            rcases hw2 with g1 | ⟨g1, g2⟩ | ⟨g1, g2⟩
            · have hall0 := HNO.out (by rw [HP.out, decide_eq_false (by omega), Bool.false_and])
              have HE : Hid (o = false) := by unfold Hid; rw [HO.out, hall0]; simp
              clear hall0
              go_wp2_with fail
              go_ret
              exact ⟨ret_bool HE.out.symm, HBW.out⟩
            · have hall0 := HNO.out (by rw [HP.out, decide_eq_false (show ¬ x1.size ≤ b by omega), Bool.and_false])
              have HE : Hid (o = false) := by unfold Hid; rw [HO.out, hall0]; simp
              clear hall0
              go_wp2_with fail
              go_ret
              exact ⟨ret_bool HE.out.symm, HBW.out⟩
            · have HS2 := Lib.hid (HS.out.trans (HP.out.trans (by rw [decide_eq_true (show x0.size ≤ b by omega) , decide_eq_true (show x1.size ≤ b by omega)])))
              go_wp2_with fail
              go_round
              case rel => exact ⟨k + 1, by omega, by go_num, HS2.out⟩
              case measure => simp [intOf]; omega
          · have HALL8 : Hid (reps.all (shR b) = true) := by
              have h := HALL.out
              rw [List.take_of_length_le (by have := HE2.out; omega)] at h
              exact h
            go_wp2_with fail
            go_loop [9] (fun i => ∃ k : Nat, k ≤ n3 ∧ i = .int .i64 k ∧ (fls.take k).all (shL b) = true) (fun i => n3 - (intOf i).toNat)
            case atStart => exact ⟨0, Nat.zero_le _, rfl, rfl⟩
            case round =>
              obtain ⟨k, hk, rfl, hall⟩ := hrel
              have HALL := Lib.hid hall
              clear hall
              by_cases hlt : k < n3
              · have hkl : k < fls.length := by have := HE3.out; omega
                obtain ⟨bb, oo, rfl, hbl, -, hcell⟩ := HC3.out (by omega)
                have hat : ∀ j, j < 2 → w1.cell? ⟨bb, oo + (k * 2 + j), none⟩ = (fls[k].vals)[j]? := by
                  intro j hj
                  rw [HB.out.cell (p := ⟨bb, oo + (k * 2 + j), none⟩) (by have := HBE.out; show bb < B; omega), hcell (k * 2 + j) (by omega), fvals_get fls k j hkl hj]
                have hz := HLZ.out _ (List.getElem_mem hkl)
                have HS := Lib.hid (all_take_succ (shL b) fls k hkl)
                rw [HALL.out, Bool.true_and] at HS
                have HNO := Lib.hid (fun h => all_no (p := shL b) hkl h)
                have HP : Hid (shL b fls[k] = (decide (fls[k].name.size ≤ b))) := rfl
                have d1 : w1.cell? ⟨bb, oo + k * 2 + 1, none⟩ = some (.string fls[k].name) := by rw [Nat.add_assoc]; exact hat 1 (by omega)
                unfold maxLen at hz
                generalize fls[k].name = x1 at *
                clear hat hcell
                have hw2 : (b < x1.size) ∨ (¬ b < x1.size) := by omega
                rcases hw2 with g1 | g1
                · have hall0 := HNO.out (by rw [HP.out, decide_eq_false (by omega)])
                  have HE : Hid (o = false) := by unfold Hid; rw [HO.out, hall0]; simp
                  clear hall0
                  go_wp2_with fail
                  go_ret
                  exact ⟨ret_bool HE.out.symm, HBW.out⟩
                · have HS2 := Lib.hid (HS.out.trans (HP.out.trans (by rw [decide_eq_true (show x1.size ≤ b by omega)])))
                  go_wp2_with fail
                  go_round
                  case rel => exact ⟨k + 1, by omega, by go_num, HS2.out⟩
                  case measure => simp [intOf]; omega
              · have HALL9 : Hid (fls.all (shL b) = true) := by
                  have h := HALL.out
                  rw [List.take_of_length_le (by have := HE3.out; omega)] at h
                  exact h
                have HE : Hid (o = true) := by unfold Hid; rw [HO.out, HW.out, HALL7.out, HALL8.out, HALL9.out]; rfl
                go_wp2_with fail
                go_ret
                exact ⟨ret_bool HE.out.symm, HBW.out⟩
end Go.Proofs.YtdbdmgmenojcaaaDoor
namespace Go.Proofs.YtdbdmgmenojcaaaDoor
open Go.RowKit Go.ChangeShapes Go.WideShapes Go.Deep Wd
set_option maxRecDepth 100000
/-- A row that came in: what is known of it, however long. -/
def RowL (w : World) (A : Option Addr) (n cap sz : Nat) (cs : List Value) : Prop :=
  cs.length = n * sz ∧ n ≤ cap ∧ cap ≤ maxLen ∧ (A = none → n = 0 ∧ cap = 0) ∧ (0 < n → ∃ b o, A = some ⟨b, o, none⟩ ∧ b < w.heap.size ∧ ∀ i, i < n * sz → w.cell? ⟨b, o + i, none⟩ = cs[i]?)
theorem RowL.row {w : World} {A : Option Addr} {n cap sz : Nat} {cs : List Value} (h : RowL w A n cap sz cs) (hn : n ≤ 1000000) : Row (fun b => b < w.heap.size) w (.slice A n cap) n sz cs :=
  ⟨h.1, hn, A, cap, rfl, h.2.1, h.2.2.1, fun h0 => by
    obtain ⟨b, o, e1, e2, e3⟩ := h.2.2.2.2 h0
    exact ⟨b, o, e1, e2, e2, e3⟩⟩
section
variable {H : Type} {enc : TypeId × Value → H} {w : World} {spare : Nat → Bool} {held : Bool} {fuel : Nat} {cs : List Value} {x : DataW H × List MemPlace}
theorem lt_of_cellX {b o : Nat} {v : Value} (h : w.cell? ⟨b, o, none⟩ = some v) : b < w.heap.size := by
  by_cases hb : b < w.heap.size
  · exact hb
  · simp [World.cell?, Array.getElem?_eq_none (Nat.le_of_not_lt hb)] at h
theorem t_row {R : Type} (vals : R → List Value) (ok : R → Prop) (t e sz : Nat) (hz : 0 < sz) (hvl : ∀ r, (vals r).length = sz) (hu : Tryd.prog.underlying t = some (.slice e)) (hc : Tryd.prog.cellsOf e = sz)
    (each0 : ∀ {n : Nat} {cs : List Value} {x : DataW H × List MemPlace}, DataW.trod enc Tryd.prog w 0 spare held n e cs = some x → ∃ r, ok r ∧ cs = vals r)
    (h : DataW.trod enc Tryd.prog w 0 spare held fuel t cs = some x) : ∃ A n cap, ∃ rs : List R, cs = [.slice A n cap] ∧ rs.length = n ∧ (∀ r ∈ rs, ok r) ∧ RowL w A n cap sz (rs.flatMap vals) := by
  rcases open_slice hu h with ⟨hcs, _⟩ | ⟨a, len, cap, m, n, D, Pl, hcs, hb, hl, hm, hmm, hx, hi⟩
  · exact ⟨_, _, _, [], hcs, rfl, by simp, by simp, Nat.le_refl _, Nat.zero_le _, fun _ => ⟨rfl, rfl⟩, fun h => absurd h (Nat.lt_irrefl 0)⟩
  · have hlen : len ≤ m := by rw [hmm]; split <;> omega
    rw [hc] at hi
    have each : ∀ i, i < len → ∃ r : R, ok r ∧ w.cells? 0 (a.add (i * sz)) sz = some (vals r) := fun i h => by
      obtain ⟨cs', h1, h2⟩ := hi i (by omega)
      obtain ⟨r, h3, rfl⟩ := each0 h2
      exact ⟨r, h3, h1⟩
    refine ⟨_, _, _, (List.range len).attach.map (fun i => (each i.1 (List.mem_range.1 i.2)).choose), hcs, by simp, fun r hr => ?_, ?_, hl, hm, fun e => (by cases e), fun hn => ?_⟩
    · simp only [List.mem_map] at hr
      obtain ⟨i, -, rfl⟩ := hr
      exact (each i.1 (List.mem_range.1 i.2)).choose_spec.1
    · have : ∀ l : List R, (l.flatMap vals).length = l.length * sz := fun l => by
        induction l with
        | nil => simp
        | cons a l ih => rw [List.flatMap_cons, List.length_append, ih, hvl, List.length_cons, Nat.add_mul, Nat.one_mul, Nat.add_comm]
      rw [this]; simp
    obtain ⟨b, o, s⟩ := a
    obtain ⟨op0, -, h0⟩ := each 0 hn
    have h0' := (World.cells?_some h0).2.2 0 (by omega)
    have hv0 : ∃ v, (vals op0)[0]? = some v := ⟨_, List.getElem?_eq_getElem (by rw [hvl]; exact hz)⟩
    obtain ⟨v0, hv0⟩ := hv0
    rw [hv0] at h0'
    have hs : s = none := by simpa [Addr.add] using World.cell?_spot h0'
    subst hs
    have hlt : b < w.heap.size := by
      simp only [Nat.zero_mul, add_offX, Nat.add_zero] at h0'
      exact lt_of_cellX h0'
    refine ⟨b, o, rfl, hlt, fun i hi' => ?_⟩
    have hq : i / sz < len := Nat.div_lt_of_lt_mul (by rw [Nat.mul_comm]; exact hi')
    have hr : i % sz < sz := Nat.mod_lt _ hz
    have hiq : i = i / sz * sz + i % sz := by rw [Nat.mul_comm]; exact (Nat.div_add_mod i sz).symm
    have hg := flat_get vals sz hvl ((List.range len).attach.map (fun i => (each i.1 (List.mem_range.1 i.2)).choose)) (i / sz) (i % sz) (by simpa using hq) hr
    have h1 := (each (i / sz) hq).choose_spec.2
    have hg2 : ((List.range len).attach.map (fun i => (each i.1 (List.mem_range.1 i.2)).choose))[i / sz]'(by simpa using hq) = (each (i / sz) hq).choose := by simp
    rw [hg2] at hg
    generalize (each (i / sz) hq).choose = op at h1 hg
    have h2 := (World.cells?_some h1).2.2 (i % sz) hr
    rw [add_offX, add_offX, Nat.add_assoc, ← hiq] at h2
    rw [h2]
    rw [← hiq] at hg
    exact hg.symm
theorem con_open (h : DataW.trod enc Tryd.prog w 0 spare held fuel 83 cs = some x) : ∃ p : ByteArray × ByteArray, (p.1.size ≤ maxLen ∧ p.2.size ≤ maxLen) ∧ cs = fl2 p := by
  obtain ⟨ys, n, hn, hy, hlen, hyl, hf⟩ := DataW.trod_struct Tryd.underlying83 h
  have hc5 : Tryd.prog.cellsOf 83 = 2 := by kernel_rfl
  rw [hc5] at hlen
  have k1 : Tryd.prog.cellsOf 9 = 1 := by kernel_rfl
  match cs, hlen, ys, hyl with
  | [v0, v1], _, [y0, y1], _ =>
    have e0 : DataW.trod enc Tryd.prog w 0 spare held n 9 (([v0, v1].drop 0).take (Tryd.prog.cellsOf 9)) = some y0 := hf 0 _ rfl
    have e1 : DataW.trod enc Tryd.prog w 0 spare held n 9 (([v0, v1].drop 1).take (Tryd.prog.cellsOf 9)) = some y1 := hf 1 _ rfl
    rw [k1] at e0 e1
    obtain ⟨m0, a0, -, h0⟩ := DataW.trod_string Tryd.underlying9 e0
    obtain ⟨m1, a1, -, h1⟩ := DataW.trod_string Tryd.underlying9 e1
    simp at a0 a1
    subst a0 a1
    exact ⟨(m0, m1), ⟨h0, h1⟩, rfl⟩
theorem rep_open (h : DataW.trod enc Tryd.prog w 0 spare held fuel 87 cs = some x) : ∃ p : Rp, (p.cmd.size ≤ maxLen ∧ p.out.size ≤ maxLen) ∧ cs = p.vals := by
  obtain ⟨ys, n, hn, hy, hlen, hyl, hf⟩ := DataW.trod_struct Tryd.underlying87 h
  have hc5 : Tryd.prog.cellsOf 87 = 3 := by kernel_rfl
  rw [hc5] at hlen
  have k0 : Tryd.prog.cellsOf 3 = 1 := by kernel_rfl
  have k1 : Tryd.prog.cellsOf 9 = 1 := by kernel_rfl
  match cs, hlen, ys, hyl with
  | [v0, v1, v2], _, [y0, y1, y2], _ =>
    have e0 : DataW.trod enc Tryd.prog w 0 spare held n 9 (([v0, v1, v2].drop 0).take (Tryd.prog.cellsOf 9)) = some y0 := hf 0 _ rfl
    have e1 : DataW.trod enc Tryd.prog w 0 spare held n 9 (([v0, v1, v2].drop 1).take (Tryd.prog.cellsOf 9)) = some y1 := hf 1 _ rfl
    have e2 : DataW.trod enc Tryd.prog w 0 spare held n 3 (([v0, v1, v2].drop 2).take (Tryd.prog.cellsOf 3)) = some y2 := hf 2 _ rfl
    rw [k1] at e0 e1
    rw [k0] at e2
    obtain ⟨m0, a0, -, h0⟩ := DataW.trod_string Tryd.underlying9 e0
    obtain ⟨m1, a1, -, h1⟩ := DataW.trod_string Tryd.underlying9 e1
    obtain ⟨m2, a2, -, h2⟩ := DataW.trod_int Tryd.underlying3 e2
    simp at a0 a1 a2
    subst a0 a1 a2
    exact ⟨⟨m0, m1, m2⟩, ⟨h0, h1⟩, rfl⟩
theorem fl_open (h : DataW.trod enc Tryd.prog w 0 spare held fuel 85 cs = some x) : ∃ p : Fl, p.name.size ≤ maxLen ∧ cs = p.vals := by
  obtain ⟨ys, n, hn, hy, hlen, hyl, hf⟩ := DataW.trod_struct Tryd.underlying85 h
  have hc5 : Tryd.prog.cellsOf 85 = 2 := by kernel_rfl
  rw [hc5] at hlen
  have k0 : Tryd.prog.cellsOf 5 = 1 := by kernel_rfl
  have k1 : Tryd.prog.cellsOf 9 = 1 := by kernel_rfl
  match cs, hlen, ys, hyl with
  | [v0, v1], _, [y0, y1], _ =>
    have e0 : DataW.trod enc Tryd.prog w 0 spare held n 5 (([v0, v1].drop 0).take (Tryd.prog.cellsOf 5)) = some y0 := hf 0 _ rfl
    have e1 : DataW.trod enc Tryd.prog w 0 spare held n 9 (([v0, v1].drop 1).take (Tryd.prog.cellsOf 9)) = some y1 := hf 1 _ rfl
    rw [k0] at e0
    rw [k1] at e1
    obtain ⟨m0, a0, -, h0⟩ := DataW.trod_int Tryd.underlying5 e0
    obtain ⟨m1, a1, -, h1⟩ := DataW.trod_string Tryd.underlying9 e1
    simp at a0 a1
    subst a0 a1
    exact ⟨⟨m0, m1⟩, h1, rfl⟩
end
structure ScrV where
  A1 : Option Addr
  n1 : Nat
  c1 : Nat
  A2 : Option Addr
  n2 : Nat
  c2 : Nat
  A3 : Option Addr
  n3 : Nat
  c3 : Nat
  files : List (ByteArray × ByteArray)
  reps : List Rp
  fls : List Fl
  stdin : ByteArray
  lim : Int
  clock : Int
  ch : Int
def ScrV.val (s : ScrV) : Value := .agg #[.slice s.A1 s.n1 s.c1, .string s.stdin, .slice s.A2 s.n2 s.c2, .slice s.A3 s.n3 s.c3, .int .i64 s.lim, .int .i64 s.clock, .int .u64 s.ch]
structure ScrAt (w : World) (s : ScrV) : Prop where
  l1 : s.files.length = s.n1
  l2 : s.reps.length = s.n2
  l3 : s.fls.length = s.n3
  r1 : RowL w s.A1 s.n1 s.c1 2 (fvals2 s.files)
  r2 : RowL w s.A2 s.n2 s.c2 3 (rvals s.reps)
  r3 : RowL w s.A3 s.n3 s.c3 2 (fvals s.fls)
  z1 : ∀ p ∈ s.files, p.1.size ≤ maxLen ∧ p.2.size ≤ maxLen
  z2 : ∀ p ∈ s.reps, p.cmd.size ≤ maxLen ∧ p.out.size ≤ maxLen
  z3 : ∀ p ∈ s.fls, p.name.size ≤ maxLen
  zs : s.stdin.size ≤ maxLen
  i1 : (Lit.int .i64 s.lim).wf = true
  i2 : (Lit.int .i64 s.clock).wf = true
  i3 : (Lit.int .u64 s.ch).wf = true
theorem scr_open {H : Type} {enc : TypeId × Value → H} {w : World} {base : Nat} {v : Value} {d : DataW H} {p : List MemPlace} {spare : Nat → Bool} {held : Bool} {r}
    (hval : Value.okWide Tryd.prog w r base 38 v) (k : DataW.Trod enc Tryd.prog w 0 spare held 38 v d p) : ∃ s : ScrV, v = s.val ∧ ScrAt w s := by
  have hu := Tryd.underlying38
  unfold Value.okWide at hval
  rw [hu] at hval
  obtain ⟨vs, rfl, -⟩ := hval
  obtain ⟨fuel, hf0⟩ := k
  have h : DataW.trod enc Tryd.prog w 0 spare held fuel 38 vs.toList = some (d, p) := by simpa [Value.cells] using hf0
  obtain ⟨cs⟩ := vs
  obtain ⟨ys, n, hn, hy, hlen, hyl, hf⟩ := DataW.trod_struct Tryd.underlying38 h
  have hc5 : Tryd.prog.cellsOf 38 = 7 := by kernel_rfl
  rw [hc5] at hlen
  have k0 : Tryd.prog.cellsOf 33 = 1 := by kernel_rfl
  have k1 : Tryd.prog.cellsOf 9 = 1 := by kernel_rfl
  have k2 : Tryd.prog.cellsOf 34 = 1 := by kernel_rfl
  have k3 : Tryd.prog.cellsOf 35 = 1 := by kernel_rfl
  have k4 : Tryd.prog.cellsOf 3 = 1 := by kernel_rfl
  have k6 : Tryd.prog.cellsOf 36 = 1 := by kernel_rfl
  match cs, hlen, ys, hyl with
  | [v0, v1, v2, v3, v4, v5, v6], _, [y0, y1, y2, y3, y4, y5, y6], _ =>
    have e0 : DataW.trod enc Tryd.prog w 0 spare held n 33 (([v0, v1, v2, v3, v4, v5, v6].drop 0).take (Tryd.prog.cellsOf 33)) = some y0 := hf 0 _ rfl
    have e1 : DataW.trod enc Tryd.prog w 0 spare held n 9 (([v0, v1, v2, v3, v4, v5, v6].drop 1).take (Tryd.prog.cellsOf 9)) = some y1 := hf 1 _ rfl
    have e2 : DataW.trod enc Tryd.prog w 0 spare held n 34 (([v0, v1, v2, v3, v4, v5, v6].drop 2).take (Tryd.prog.cellsOf 34)) = some y2 := hf 2 _ rfl
    have e3 : DataW.trod enc Tryd.prog w 0 spare held n 35 (([v0, v1, v2, v3, v4, v5, v6].drop 3).take (Tryd.prog.cellsOf 35)) = some y3 := hf 3 _ rfl
    have e4 : DataW.trod enc Tryd.prog w 0 spare held n 3 (([v0, v1, v2, v3, v4, v5, v6].drop 4).take (Tryd.prog.cellsOf 3)) = some y4 := hf 4 _ rfl
    have e5 : DataW.trod enc Tryd.prog w 0 spare held n 3 (([v0, v1, v2, v3, v4, v5, v6].drop 5).take (Tryd.prog.cellsOf 3)) = some y5 := hf 5 _ rfl
    have e6 : DataW.trod enc Tryd.prog w 0 spare held n 36 (([v0, v1, v2, v3, v4, v5, v6].drop 6).take (Tryd.prog.cellsOf 36)) = some y6 := hf 6 _ rfl
    rw [k0] at e0
    rw [k1] at e1
    rw [k2] at e2
    rw [k3] at e3
    rw [k4] at e4
    rw [k4] at e5
    rw [k6] at e6
    obtain ⟨A1, n1, c1, fs, a0, l1, z1, r1⟩ := t_row fl2 (fun p => p.1.size ≤ maxLen ∧ p.2.size ≤ maxLen) _ 83 2 (by decide) (fun _ => rfl) Tryd.underlying33 (by kernel_rfl) con_open e0
    obtain ⟨m1, a1, -, h1⟩ := DataW.trod_string Tryd.underlying9 e1
    obtain ⟨A2, n2, c2, rs, a2, l2, z2, r2⟩ := t_row Rp.vals (fun p => p.cmd.size ≤ maxLen ∧ p.out.size ≤ maxLen) _ 87 3 (by decide) (fun _ => rfl) Tryd.underlying34 (by kernel_rfl) rep_open e2
    obtain ⟨A3, n3, c3, ls, a3, l3, z3, r3⟩ := t_row Fl.vals (fun p => p.name.size ≤ maxLen) _ 85 2 (by decide) (fun _ => rfl) Tryd.underlying35 (by kernel_rfl) fl_open e3
    obtain ⟨m4, a4, -, h4⟩ := DataW.trod_int Tryd.underlying3 e4
    obtain ⟨m5, a5, -, h5⟩ := DataW.trod_int Tryd.underlying3 e5
    obtain ⟨m6, a6, -, h6⟩ := DataW.trod_int Tryd.underlying36 e6
    simp at a0 a1 a2 a3 a4 a5 a6
    subst a0 a1 a2 a3 a4 a5 a6
    exact ⟨⟨A1, n1, c1, A2, n2, c2, A3, n3, c3, fs, rs, ls, m1, m4, m5, m6⟩, rfl, ⟨l1, l2, l3, r1, r2, r3, z1, z2, z3, h1, h4, h5, h6⟩⟩
end Go.Proofs.YtdbdmgmenojcaaaDoor
namespace Go.Proofs.YtdbdmgmenojcaaaDoor
open Go.RowKit Wd
namespace Wd
structure Bd (t m : Nat) (rs : RSt) : Prop where
  t50 : t ≤ 50
  opn : rs.opn.length ≤ t
  ev : rs.events.length ≤ 300 * t
  fl : rs.files.length ≤ 8 + t
  fs : ∀ p ∈ rs.files, p.2.size ≤ 200 + 100 * t
  st : rs.stdin.size ≤ 200
  src : ∀ s ∈ rs.opn, s.src.size ≤ 200 + 100 * t
  rep : rs.replies.length ≤ 8
  outs : ∀ r ∈ rs.replies, r.out.size ≤ 200
  fails : rs.fails.length ≤ 8
  m : m ≤ 8 + t
variable {t m m' : Nat} {rs rs' : RSt}
/-- What stays. -/
structure Kept (rs rs' : RSt) : Prop where
  st : rs'.stdin = rs.stdin
  rep : rs'.replies = rs.replies
  fails : rs'.fails = rs.fails
theorem Bd.next (h : Bd t m rs) (ht : t < 50) (k : Kept rs rs') (h1 : rs'.opn.length ≤ t + 1) (h2 : rs'.events.length ≤ rs.events.length + 300) (h3 : rs'.files.length ≤ rs.files.length + 1) (h4 : ∀ p ∈ rs'.files, p.2.size ≤ 300 + 100 * t) (h5 : ∀ s ∈ rs'.opn, s.src.size ≤ 200 + 100 * t) (hm : m' ≤ m + 1) : Bd (t + 1) m' rs' where
  t50 := ht
  opn := h1
  ev := by have := h.ev; omega
  fl := by have := h.fl; omega
  fs := fun p hp => by have := h4 p hp; omega
  st := by rw [k.st]; exact h.st
  src := fun p hp => by have := h5 p hp; omega
  rep := by rw [k.rep]; exact h.rep
  outs := by rw [k.rep]; exact h.outs
  fails := by rw [k.fails]; exact h.fails
  m := by have := h.m; omega
theorem with_len (l : List (ByteArray × ByteArray)) (name data : ByteArray) : (withL l name data).length ≤ l.length + 1 := by
  unfold withL
  rw [List.length_append, List.length_map]
  split <;> simp
theorem with_mem {l : List (ByteArray × ByteArray)} {name data : ByteArray} {p : ByteArray × ByteArray} (h : p ∈ withL l name data) : p ∈ l ∨ p.2 = data := by
  unfold withL at h
  rcases List.mem_append.1 h with h | h
  · obtain ⟨q, hq, rfl⟩ := List.mem_map.1 h
    unfold withP
    split
    · exact .inr rfl
    · exact .inl hq
  · split at h
    · cases h
    · simp at h; subst h; exact .inr rfl
theorem Bd.file (h : Bd t m rs) (name : ByteArray) : ((fileF rs name).getD (⟨#[]⟩, ⟨#[]⟩)).2.size ≤ 200 + 100 * t := by
  unfold fileF
  cases hf : rs.files.find? (isFile name) with
  | none => exact Nat.zero_le _
  | some p => exact h.fs p (List.mem_of_find?_eq_some hf)
theorem Bd.out (h : Bd t m rs) (name : ByteArray) : ((replyF rs name).getD rpZero).out.size ≤ 200 := by
  unfold replyF
  cases hf : rs.replies.find? (isRp name) with
  | none => exact Nat.zero_le _
  | some p => exact h.outs p (List.mem_of_find?_eq_some hf)
theorem Bd.same (h : Bd t m rs) (ht : t < 50) (hm : m' ≤ m + 1) : Bd (t + 1) m' rs :=
  h.next ht ⟨rfl, rfl, rfl⟩ (by have := h.opn; omega) (by omega) (by omega) (fun p hp => by have := h.fs p hp; omega) (fun s hs => h.src s hs) hm
theorem Bd.open (h : Bd t m rs) (ht : t < 50) (k : Int) (name : ByteArray) (hm : m' ≤ m + 1) : Bd (t + 1) m' (openD rs k name).1 := by
  unfold openD
  split
  · exact h.same ht hm
  split
  · exact h.same ht hm
  split
  · exact h.same ht hm
  split
  · exact h.same ht hm
  refine h.next ht ⟨rfl, rfl, rfl⟩ ?_ ?_ ?_ ?_ ?_ hm
  · show (rs.opn ++ [_]).length ≤ _
    have := h.opn
    rw [List.length_append]; simp; omega
  · show (rs.events ++ [_]).length ≤ _
    rw [List.length_append]; simp
  · show (openF rs k name).length ≤ _
    unfold openF
    split
    · exact with_len _ _ _
    split
    · exact with_len _ _ _
    · omega
  · intro p hp
    have hp : p ∈ openF rs k name := hp
    unfold openF at hp
    have hf := h.file name
    split at hp
    · rcases with_mem hp with h1 | h1
      · have := h.fs p h1; omega
      · rw [h1]; exact Nat.zero_le _
    split at hp
    · rcases with_mem hp with h1 | h1
      · have := h.fs p h1; omega
      · rw [h1]; omega
    · have := h.fs p hp; omega
  · intro s hs
    have hs : s ∈ rs.opn ++ [_] := hs
    rcases List.mem_append.1 hs with h1 | h1
    · exact h.src s h1
    · simp at h1
      subst h1
      show (openS rs k name).size ≤ _
      unfold openS
      split
      · exact h.file name
      split
      · have := h.out name; omega
      · exact Nat.zero_le _
theorem Bd.write (h : Bd t m rs) (ht : t < 50) (k : Int) (name data : ByteArray) (hd : data.size ≤ 100) (hm : m' ≤ m + 1) : Bd (t + 1) m' (writeD rs k name data).1 := by
  unfold writeD
  generalize (if k = 6 then (⟨#[]⟩ : ByteArray) else name) = nm
  split
  · exact h.same ht hm
  split
  · exact h.same ht hm
  split
  · exact h.same ht hm
  by_cases hk : k = 3 ∨ k = 4
  · rw [if_pos hk]
    refine h.next ht ⟨rfl, rfl, rfl⟩ (by have := h.opn; show rs.opn.length ≤ _; omega) ?_ (with_len _ _ _) ?_ (fun s hs => h.src s hs) hm
    · show (rs.events ++ [_]).length ≤ _
      rw [List.length_append]; simp
    · intro p hp
      have hf := h.file name
      rcases with_mem hp with h1 | h1
      · have := h.fs p h1; omega
      · rw [h1, ByteArray.size_append]; omega
  · rw [if_neg hk]
    refine h.next ht ⟨rfl, rfl, rfl⟩ (by have := h.opn; show rs.opn.length ≤ _; omega) ?_ (by show rs.files.length ≤ _; omega) (fun p hp => by have := h.fs p hp; omega) (fun s hs => h.src s hs) hm
    show (rs.events ++ [_]).length ≤ _
    rw [List.length_append]; simp
theorem Bd.read (h : Bd t m rs) (ht : t < 50) (k : Int) (name : ByteArray) (n : Int) (hm : m' ≤ m + 1) : Bd (t + 1) m' (readD rs k name n).1 := by
  unfold readD
  cases hf : findF rs k name with
  | none => exact h.same ht hm
  | some i =>
    have hil : i < rs.opn.length := (List.findIdx?_eq_some_iff_getElem.1 hf).1
    have hmm : rs.opn.getD i smZ ∈ rs.opn := by simp [List.getD_eq_getElem?_getD, List.getElem?_eq_getElem hil]
    simp only
    split
    · exact h.same ht hm
    split
    · exact h.same ht hm
    split
    · exact h.same ht hm
    split
    · exact h.next ht ⟨rfl, rfl, rfl⟩ (by have := h.opn; show rs.opn.length ≤ _; omega) (by show rs.events.length ≤ _; omega) (by show rs.files.length ≤ _; omega) (fun p hp => by have := h.fs p hp; omega) (fun s hs => h.src s hs) hm
    · refine h.next ht ⟨rfl, rfl, rfl⟩ ?_ (by show rs.events.length ≤ _; omega) (by show rs.files.length ≤ _; omega) (fun p hp => by have := h.fs p hp; omega) ?_ hm
      · show (rs.opn.set i _).length ≤ _
        rw [List.length_set]; have := h.opn; omega
      · intro s hs
        rcases List.mem_or_eq_of_mem_set hs with h1 | h1
        · exact h.src s h1
        · subst h1
          show (rs.opn.getD i smZ).src.size ≤ _
          exact h.src _ hmm
theorem closeD_kept (rs : RSt) (name : ByteArray) : Kept rs (closeD rs name).1 ∧ (closeD rs name).1.files = rs.files ∧ (closeD rs name).1.opn = rs.opn.filter (keptR name) := by
  have h := (closeRK_same rs name 5).1
  refine ⟨⟨?_, ?_, ?_⟩, ?_, rfl⟩
  · show (closeRK rs name 5).1.stdin = _; rw [h]
  · show (closeRK rs name 5).1.replies = _; rw [h]
  · show (closeRK rs name 5).1.fails = _; rw [h]
  · show (closeRK rs name 5).1.files = _; rw [h]
theorem Bd.close (h : Bd t m rs) (ht : t < 50) (name : ByteArray) (hm : m' ≤ m + 1) : Bd (t + 1) m' (closeD rs name).1 := by
  obtain ⟨h1, h2, h3⟩ := closeD_kept rs name
  refine h.next ht h1 ?_ ?_ (by rw [h2]; omega) (by rw [h2]; exact fun p hp => by have := h.fs p hp; omega) ?_ hm
  · rw [h3]; have := List.length_filter_le (keptR name) rs.opn; have := h.opn; omega
  · have := (closeRK_same rs name 5).2
    show (closeRK rs name 5).1.events.length ≤ _
    omega
  · rw [h3]; exact fun s hs => h.src s (List.mem_filter.1 hs).1
theorem closedR_kept (h : ClosedR rs rs') : Kept rs rs' ∧ rs'.files = rs.files ∧ rs'.events.length + 5 * rs'.opn.length ≤ rs.events.length + 5 * rs.opn.length := by
  induction h with
  | refl => exact ⟨⟨rfl, rfl, rfl⟩, rfl, Nat.le_refl _⟩
  | @step b mm r hc ho ih =>
    obtain ⟨h1, h2, h3⟩ := ih
    obtain ⟨k1, k2, -⟩ := closeD_kept b mm.name
    obtain ⟨l1, l2⟩ := closeD_less ho
    exact ⟨⟨k1.st.trans h1.st, k1.rep.trans h1.rep, k1.fails.trans h1.fails⟩, k2.trans h2, by omega⟩
theorem Bd.closeAll (h : Bd t m rs) (ht : t < 50) (hc : ClosedR rs rs') (ho : rs'.opn = []) (hm : m' ≤ m + 1) : Bd (t + 1) m' rs' := by
  obtain ⟨h1, h2, h3⟩ := closedR_kept hc
  refine h.next ht h1 (by rw [ho]; simp) ?_ (by rw [h2]; omega) (by rw [h2]; exact fun p hp => by have := h.fs p hp; omega) (by rw [ho]; simp) hm
  have := h.opn
  omega
theorem Bd.system (h : Bd t m rs) (ht : t < 50) (cmd : ByteArray) (hm : m' ≤ m + 1) : Bd (t + 1) m' (systemD rs cmd).1 := by
  unfold systemD
  split
  · exact h.same ht hm
  · refine h.next ht ⟨rfl, rfl, rfl⟩ (by have := h.opn; show rs.opn.length ≤ _; omega) ?_ (by show rs.files.length ≤ _; omega) (fun p hp => by have := h.fs p hp; omega) (fun s hs => h.src s hs) hm
    show (rs.events ++ [_]).length ≤ _
    rw [List.length_append]; simp
theorem Bd.chanced (h : Bd t m rs) (ht : t < 50) (hm : m' ≤ m + 1) : Bd (t + 1) m' { rs with num := chanceW rs.num } :=
  h.next ht ⟨rfl, rfl, rfl⟩ (by have := h.opn; show rs.opn.length ≤ _; omega) (by show rs.events.length ≤ _; omega) (by show rs.files.length ≤ _; omega) (fun p hp => by have := h.fs p hp; omega) (fun s hs => h.src s hs) hm
end Wd
structure Both (w : World) (F : Nat → Prop) (pb : Nat) (M : Mem) (st : St) (K : Nat → Prop) (f : Fm) (rs : RSt) : Prop where
  wat : WAt w F pb M st
  rf : RF K w f rs
  apart : ∀ b, b < w.heap.size → K b → F b → False
  corr : Corr st rs
section
variable {w w' : World} {F F' K : Nat → Prop} {pb : Nat} {M M' : Mem} {st st' : St} {f f' : Fm} {rs rs' : RSt}
/-- The program's call. -/
theorem Both.mine (h : Both w F pb M st K f rs) (hw : WAt w' F' pb M' st') (ht : Tur F w w') (hF : ∀ g, F' g → F g ∨ w.heap.size ≤ g) : WAt w' F' pb M' st' ∧ RF (fun b => K b ∧ b < w.heap.size) w' f rs ∧ (∀ b, b < w'.heap.size → (K b ∧ b < w.heap.size) → F' b → False) := by
  refine ⟨hw, ?_, ?_⟩
  · have h0 : RF (fun b => K b ∧ b < w.heap.size) w f rs := RAt.mono h.rf (fun b hb hK => ⟨hK, hb⟩)
    exact RAt.keep h0 ht.size (fun b hb hK => ht.block b hb (fun hf => h.apart b hb hK.1 hf))
  · intro b hb ⟨h1, h2⟩ h3
    rcases hF b h3 with h4 | h4
    · exact h.apart b h2 h1 h4
    · omega
/-- .. and then the document's. -/
theorem Both.done {wx : World} {K' : Nat → Prop} (hw : WAt w F pb M st) (hb : Below w.heap.size w wx) (hr : RF (Nw K' w) wx f rs) (ha : ∀ b, b < w.heap.size → K' b → F b → False) (hc : Corr st rs) : Both wx F pb M st (Nw K' w) f rs :=
  ⟨hw.pure hb, hr, fun b _ hK hF => by
    rcases hK with hK | hK
    · exact ha b (hw.flt b hF) hK hF
    · have := hw.flt b hF; omega, hc⟩
theorem Both.pure (h : Both w F pb M st K f rs) (hb : Below w.heap.size w w') : Both w' F pb M st (fun b => K b ∧ b < w.heap.size) f rs :=
  ⟨h.wat.pure hb, RAt.pure (RAt.mono h.rf (fun b hb hK => ⟨hK, hb⟩)) hb, fun b _ hK hF => h.apart b hK.2 hK.1 hF, h.corr⟩
end
end Go.Proofs.YtdbdmgmenojcaaaDoor
namespace Go.Proofs.YtdbdmgmenojcaaaDoor
namespace Rd
open Go.Lib
def tw (b : UInt8) (T : List UInt8) : List UInt8 := T.takeWhile (· != b)
def rest1 (b : UInt8) (T : List UInt8) : List UInt8 := (T.dropWhile (· != b)).drop 1
theorem pre_one (b x : UInt8) (l : List UInt8) : ([b] : List UInt8).isPrefixOf (x :: l) = (b == x) := by simp [List.isPrefixOf]
theorem index_one (b : UInt8) : ∀ s : List UInt8, (b ∈ s → index s [b] = (tw b s).length) ∧ (b ∉ s → index s [b] = -1) := by
  intro s
  induction s with
  | nil => exact ⟨fun h => by simp at h, fun _ => rfl⟩
  | cons x l ih =>
    unfold index
    rw [pre_one]
    by_cases hx : b = x
    · subst hx
      exact ⟨fun _ => by simp [tw], fun h => absurd (List.mem_cons_self) h⟩
    · rw [if_neg (by simp [hx])]
      have htw : tw b (x :: l) = x :: tw b l := by simp [tw, Ne.symm hx]
      refine ⟨fun h => ?_, fun h => ?_⟩
      · have hl : b ∈ l := by simpa [hx] using h
        rw [ih.1 hl, htw]
        have : (((tw b l).length : Int) == -1) = false := by rw [beq_eq_false_iff_ne]; omega
        rw [this]; simp
      · have hl : b ∉ l := fun h' => h (List.mem_cons_of_mem _ h')
        rw [ih.2 hl]; rfl
theorem tw_split {b : UInt8} {s : List UInt8} (h : b ∈ s) : s = tw b s ++ b :: rest1 b s := by
  induction s with
  | nil => simp at h
  | cons x l ih =>
    by_cases hx : x = b
    · subst hx; simp [tw, rest1]
    · have hl : b ∈ l := by simpa [Ne.symm hx] using h
      have h1 : tw b (x :: l) = x :: tw b l := by simp [tw, hx]
      have h2 : rest1 b (x :: l) = rest1 b l := by simp [rest1, hx]
      rw [h1, h2, List.cons_append, ← ih hl]
theorem tw_all {b : UInt8} {s : List UInt8} (h : b ∉ s) : tw b s = s ∧ rest1 b s = [] := by
  induction s with
  | nil => exact ⟨rfl, rfl⟩
  | cons x l ih =>
    have hx : x ≠ b := fun e => h (by rw [e]; exact List.mem_cons_self)
    have hl : b ∉ l := fun e => h (List.mem_cons_of_mem _ e)
    obtain ⟨h1, h2⟩ := ih hl
    constructor
    · have : tw b (x :: l) = x :: tw b l := by simp [tw, hx]
      rw [this, h1]
    · have : rest1 b (x :: l) = rest1 b l := by simp [rest1, hx]
      rw [this, h2]
theorem tw_not (b : UInt8) (s : List UInt8) : b ∉ tw b s := by
  induction s with
  | nil => simp [tw]
  | cons x l ih =>
    by_cases hx : x = b
    · subst hx; simp [tw]
    · have e : tw b (x :: l) = x :: tw b l := by simp [tw, hx]
      rw [e]
      simp [Ne.symm hx, ih]
theorem tw_app {b : UInt8} {l : List UInt8} (r : List UInt8) (h : b ∈ l) : tw b (l ++ r) = tw b l ∧ rest1 b (l ++ r) = rest1 b l ++ r := by
  induction l with
  | nil => simp at h
  | cons x l ih =>
    by_cases hx : x = b
    · subst hx; simp [tw, rest1]
    · have hl : b ∈ l := by simpa [Ne.symm hx] using h
      obtain ⟨h1, h2⟩ := ih hl
      have e1 : ∀ m, tw b (x :: m) = x :: tw b m := fun m => by simp [tw, hx]
      have e2 : ∀ m, rest1 b (x :: m) = rest1 b m := fun m => by simp [rest1, hx]
      rw [List.cons_append, e1, e2, e1, e2, h1, h2]
      exact ⟨rfl, rfl⟩
theorem split_at {s p r : List UInt8} {b : UInt8} (h : s = p ++ b :: r) : s.take p.length = p ∧ s.drop (p.length + 1) = r := by
  subst h
  constructor
  · simp
  · rw [← List.drop_drop]; simp
theorem cut_in {b : UInt8} {s : List UInt8} (h : b ∈ s) : cut s [b] = (tw b s, rest1 b s, true) := by
  unfold cut
  rw [(index_one b s).1 h, if_pos (by omega)]
  have h2 := tw_split h
  have e : ((tw b s).length : Int).toNat = (tw b s).length := by omega
  obtain ⟨g1, g2⟩ := split_at h2
  rw [e, g1]
  show (_, s.drop ((tw b s).length + 1), true) = _
  rw [g2]
theorem cut_out {b : UInt8} {s : List UInt8} (h : b ∉ s) : cut s [b] = (s, [], false) := by
  unfold cut
  rw [(index_one b s).2 h]; rfl
theorem indexByte_one (b : UInt8) : ∀ s : List UInt8, decide (0 ≤ indexByte s b) = decide (b ∈ s) := by
  intro s
  induction s with
  | nil => simp [indexByte]
  | cons x l ih =>
    unfold indexByte
    by_cases hx : x = b
    · subst hx; simp
    · have hge : -1 ≤ indexByte l b := by
        clear ih
        induction l with
        | nil => simp [indexByte]
        | cons y l ih => unfold indexByte; split <;> (try split) <;> omega
      have hm : (b ∈ x :: l) = (b ∈ l) := by simp [Ne.symm hx]
      rw [if_neg (by simp [hx])]
      by_cases h1 : indexByte l b = -1
      · rw [if_pos (by simp [h1])]
        have hb : b ∉ l := by rw [h1] at ih; simpa using ih
        rw [decide_eq_false (show ¬ (0 : Int) ≤ -1 by omega)]
        exact (decide_eq_false (by rw [hm]; exact hb)).symm
      · rw [if_neg (by simp [h1])]
        have hb : b ∈ l := by rw [decide_eq_true (show 0 ≤ indexByte l b by omega)] at ih; simpa using ih
        rw [decide_eq_true (show 0 ≤ indexByte l b + 1 by omega)]
        exact (decide_eq_true (by rw [hm]; exact hb)).symm
theorem rest1_len (b : UInt8) {T : List UInt8} (h : T ≠ []) : (tw b T).length + (rest1 b T).length ≤ T.length ∧ (rest1 b T).length + 1 ≤ T.length := by
  by_cases hb : b ∈ T
  · have := congrArg List.length (tw_split hb)
    simp at this
    omega
  · obtain ⟨h1, h2⟩ := tw_all hb
    rw [h1, h2]
    have := List.length_pos_iff.2 h
    simp; omega
/-- What has been told of s by b: L, and what is left: T. -/
structure Whole (b : UInt8) (s : List UInt8) (L : List (List UInt8)) (T : List UInt8) : Prop where
  no : ∀ t ∈ L, b ∉ t
  len : L.length + T.length ≤ s.length
  lens : lens L ≤ s.length
  shape : s = (L.map (· ++ [b])).flatten ++ T ∨ (T = [] ∧ ∃ L' t, L = L' ++ [t] ∧ t ≠ [] ∧ s = (L'.map (· ++ [b])).flatten ++ t)
theorem flat_lens (b : UInt8) (L : List (List UInt8)) : lens L ≤ ((L.map (· ++ [b])).flatten).length := by
  induction L with
  | nil => simp [Lib.lens]
  | cons x l ih => simp [Lib.lens] at *; omega
theorem lens_snoc (L : List (List UInt8)) (t : List UInt8) : Lib.lens (L ++ [t]) = Lib.lens L + t.length := by
  simp [Lib.lens]
theorem whole_start (b : UInt8) (s : List UInt8) : Whole b s [] s := ⟨by simp, by simp, by simp [Lib.lens], .inl (by simp)⟩
theorem whole_step {b : UInt8} {s : List UInt8} {L : List (List UInt8)} {T : List UInt8} (h : Whole b s L T) (hT : T ≠ []) : Whole b s (L ++ [tw b T]) (rest1 b T) := by
  obtain ⟨h1, h2, hl, h3⟩ := h
  have hlen := (rest1_len b hT).2
  rcases h3 with h3 | ⟨h3, -⟩
  · by_cases hb : b ∈ T
    · have hsh : s = ((L ++ [tw b T]).map (· ++ [b])).flatten ++ rest1 b T := by
        rw [h3]
        conv => lhs; rw [tw_split hb]
        simp
      refine ⟨?_, ?_, ?_, .inl hsh⟩
      · intro t ht
        rcases List.mem_append.1 ht with ht | ht
        · exact h1 t ht
        · rw [List.mem_singleton.1 ht]; exact tw_not b T
      · simp; omega
      · have := flat_lens b (L ++ [tw b T])
        have h4 := congrArg List.length hsh
        rw [List.length_append] at h4
        omega
    · obtain ⟨e1, e2⟩ := tw_all hb
      rw [e1, e2]
      refine ⟨?_, ?_, ?_, .inr ⟨rfl, L, T, rfl, hT, h3⟩⟩
      · intro t ht
        rcases List.mem_append.1 ht with ht | ht
        · exact h1 t ht
        · rw [List.mem_singleton.1 ht]; exact hb
      · simp
        have := List.length_pos_iff.2 hT
        omega
      · rw [lens_snoc]
        have := flat_lens b L
        have h4 := congrArg List.length h3
        rw [List.length_append] at h4
        omega
  · exact absurd h3 hT
theorem join_flat (b : UInt8) : ∀ (L : List (List UInt8)) (t : List UInt8), join (L ++ [t]) [b] = (L.map (· ++ [b])).flatten ++ t := by
  intro L
  induction L with
  | nil => intro t; rw [List.nil_append, join_one]; rfl
  | cons x l ih =>
    intro t
    have h := ih t
    cases l with
    | nil =>
      simp [join_cons, joinTail]
    | cons y l =>
      rw [List.cons_append, List.cons_append, join_cons]
      rw [List.cons_append, join_cons] at h
      have e : joinTail [b] (y :: (l ++ [t])) = [b] ++ (y ++ joinTail [b] (l ++ [t])) := by simp [joinTail]
      rw [e, h]
      simp
theorem whole_end {b : UInt8} {s : List UInt8} {L : List (List UInt8)} (h : Whole b s L []) : (s = [] ∧ join L [b] = []) ∨ (s ≠ [] ∧ join L [b] ++ [b] = s) ∨ (s ≠ [] ∧ join L [b] = s ∧ hasSuffix s [b] = false) := by
  obtain ⟨h1, h2, -, h3⟩ := h
  rcases h3 with h3 | ⟨-, L', t, rfl, ht, h3⟩
  · rcases List.eq_nil_or_concat L with rfl | ⟨L', t, e⟩
    · left; exact ⟨by simpa using h3, rfl⟩
    · rw [List.concat_eq_append] at e
      subst e
      right; left
      have e2 : join (L' ++ [t]) [b] ++ [b] = s := by rw [join_flat, h3]; simp
      refine ⟨?_, e2⟩
      rintro rfl
      simp at e2
  · right; right
    have hs : s ≠ [] := by rw [h3]; simp [ht]
    refine ⟨hs, by rw [join_flat, h3], ?_⟩
    have hbt := h1 t (by simp)
    cases hh : hasSuffix s [b] with
    | false => rfl
    | true =>
      exfalso
      unfold hasSuffix at hh
      have hsuf := List.isSuffixOf_iff_suffix.1 hh
      obtain ⟨p, hp⟩ := hsuf
      obtain ⟨t', x, e⟩ : ∃ t' x, t = t' ++ [x] := by
        rcases List.eq_nil_or_concat t with rfl | ⟨t', x, e⟩
        · exact absurd rfl ht
        · exact ⟨t', x, by rw [e, List.concat_eq_append]⟩
      subst e
      rw [h3, ← List.append_assoc] at hp
      have := List.append_inj_right' hp rfl
      simp at this
      apply hbt
      rw [this]; simp
end Rd
end Go.Proofs.YtdbdmgmenojcaaaDoor
