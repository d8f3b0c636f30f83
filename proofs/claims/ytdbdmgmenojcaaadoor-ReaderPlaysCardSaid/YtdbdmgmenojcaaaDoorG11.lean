/- A world: New of any script: its rows as they came in. -/
import Derived.Test.YtdbdmgmenojcaaaDoorG10
import Derived.StillTailTactics
import Derived.Test.YtdbdmgmenojcaaaDoorG3
import Derived.Test.YtdbdmgmenojcaaaDoorG5
import Derived.Deep.Slices
import Derived.Deep.Cut
set_option linter.unusedVariables false
set_option linter.unusedSimpArgs false
namespace Go.Proofs.YtdbdmgmenojcaaaDoor
open Go.RowKit Wd
open Go.WideMaps Go.WideElems Go.WideAt
structure PS (w wr : World) (B : Nat) (scr : Array Value) : Prop where
  below : Below B w wr
  scr : Blk wr B 38 scr
theorem PS.keep {w wr wx : World} {B : Nat} {scr : Array Value} (h : PS w wr B scr) (hb : Below wr.heap.size wr wx) : PS w wx B scr :=
  ⟨h.below.trans (hb.mono (Nat.le_of_lt h.scr.lt)), below_blk h.scr hb h.scr.lt⟩
theorem PS.alloc {w wr : World} {B : Nat} {scr : Array Value} (h : PS w wr B scr) (o : Obj) : PS w (wr.alloc o) B scr := h.keep ((Below.refl _ _).alloc (Nat.le_refl _) o)
theorem PS.drewN {w wr : World} {B : Nat} {scr : Array Value} (h : PS w wr B scr) (n : Nat) : PS w (wr.drewN n) B scr := h.keep (below_drew wr n)
theorem PS.drew {w wr : World} {B : Nat} {scr : Array Value} (h : PS w wr B scr) : PS w wr.drew B scr := h.keep (below_drew wr 1)
theorem mapA {w1 w2 w3 : World} (hb2 : Below (w1.alloc (.map #[] 0)).drew.heap.size (w1.alloc (.map #[] 0)).drew w2) (hb3 : Below w2.heap.size w2 w3) : MapS Tryd.prog 9 9 w3 w1.heap.size 0 (fun _ => none) := by
  have e1 : (w1.alloc (.map #[] 0)).drew.heap.size = w1.heap.size + 1 := by (show (w1.alloc _).heap.size = _; simp)
  have h := hb2.size
  exact (MapS.made Tryd.prog 9 9 w1).of_block ((hb3.block _ (by omega)).trans (hb2.block w1.heap.size (by rw [e1]; omega)))
theorem mapB {w2 w3 : World} (hb3 : Below (w2.alloc (.map #[] 0)).heap.size (w2.alloc (.map #[] 0)) w3) : MapS Tryd.prog 9 9 w3 w2.heap.size 0 (fun _ => none) :=
  (MapS.made Tryd.prog 9 9 w2).of_block (hb3.block w2.heap.size (by simp))
def PEnd (w : World) (B : Nat) (scr : Array Value) (w5 : World) (pb : Nat) (v2 : Value) (st : St) : Prop :=
  ∃ (M0 : Mem) (F0 : Nat → Prop), M0.m = 0 ∧ M0.vr = v2 ∧ WAt w5 F0 pb M0 st ∧ PS w w5 B scr ∧ ∀ k, F0 k → B ≤ k
theorem new_stG {w wy : World} {B bm n1 n2 n3 cap1 cap2 cap3 cb2 cb3 : Nat} {A1 A2 A3 B2 B3 : Option Addr} {lr : List Rp} {lf : List Fl} (l : List (ByteArray × ByteArray)) (stdin : ByteArray) (lim clock ch : Int) (e2 : n2 = lr.length) (e3 : n3 = lf.length)
    (hp : PS w wy B #[.slice A1 n1 cap1, .string stdin, .slice A2 n2 cap2, .slice A3 n3 cap3, .int .i64 lim, .int .i64 clock, .int .u64 ch]) (hm : MapS Tryd.prog 9 9 wy bm 0 (fun _ => none)) (hbm : B ≤ bm) (hr : wy.ownsRow 0 87 3 (.slice B2 n2 cb2) n2 (rvals lr)) (hf : wy.ownsRow 0 85 2 (.slice B3 n3 cb3) n3 (fvals lf))
    (hv2 : ∀ k, (Value.slice B2 n2 cb2).ownBlock = some k → B ≤ k) (hv3 : ∀ k, (Value.slice B3 n3 cb3).ownBlock = some k → B ≤ k) :
    PEnd w B #[.slice A1 n1 cap1, .string stdin, .slice A2 n2 cap2, .slice A3 n3 cap3, .int .i64 lim, .int .i64 clock, .int .u64 ch] (wy.alloc (.cells #[.bool true, .slice A1 n1 cap1, .string stdin, .slice A2 n2 cap2, .slice A3 n3 cap3, .int .i64 lim, .int .i64 clock, .int .u64 ch, .map (some bm), .string stdin, .slice none 0 0, .int .u64 ch, .slice none 0 0, .slice B2 n2 cb2, .slice B3 n3 cb3] 93)) wy.heap.size (.slice B2 n2 cb2) ⟨lim, clock, filesOf (l.take 0), stdin, [], ch, [], lr, lf⟩ := by
  have hb := (Below.refl wy.heap.size wy).alloc (Nat.le_refl _) (.cells #[.bool true, .slice A1 n1 cap1, .string stdin, .slice A2 n2 cap2, .slice A3 n3 cap3, .int .i64 lim, .int .i64 clock, .int .u64 ch, .map (some bm), .string stdin, .slice none 0 0, .int .u64 ch, .slice none 0 0, .slice B2 n2 cb2, .slice B3 n3 cb3] 93)
  have hbl := hm.lt
  subst e2 e3
  refine ⟨⟨.slice A1 n1 cap1, .string stdin, .slice A2 lr.length cap2, .slice A3 lf.length cap3, .int .u64 ch, bm, 0, .slice none 0 0, [], .slice none 0 0, .slice B2 lr.length cb2, .slice B3 lf.length cb3⟩, fun k => k = bm ∨ k = wy.heap.size ∨ (Value.slice B2 lr.length cb2).ownBlock = some k ∨ (Value.slice B3 lf.length cb3).ownBlock = some k, rfl, rfl, ?_, hp.alloc _, ?_⟩
  · exact {
      flt := fun k hk => by
        show k < (wy.alloc _).heap.size
        rcases hk with hk | hk | hk | hk
        · simp; omega
        · simp; omega
        · obtain ⟨cur, -, h2⟩ := own_lt hr hk
          simp; omega
        · obtain ⟨cur, -, h2⟩ := own_lt hf hk
          simp; omega
      fp := .inr (.inl rfl)
      fm := .inl rfl
      fo := fun g hg => by cases hg
      ft := fun g hg => by cases hg
      fr := fun g hg => .inr (.inr (.inl hg))
      ff := fun g hg => .inr (.inr (.inr hg))
      fg := fun g hg => by cases hg
      head := Blk.new wy _ _
      map := hm.of_block (hb.block _ hbl)
      rowO := World.ownsRow_nil _ _ _ _
      strm := fun i h => by simp at h
      nd := List.nodup_nil
      rowT := World.ownsRow_nil _ _ _ _
      rowR := own_of_block hr (fun g hg => hb.block g (own_lt hr hg).choose_spec.2)
      rowF := own_of_block hf (fun g hg => hb.block g (own_lt hf hg).choose_spec.2) }
  · have := hp.scr.lt
    rintro k (rfl | rfl | hk | hk)
    · exact hbm
    · omega
    · exact hv2 k hk
    · exact hv3 k hk
theorem files_cell {K : Nat → Prop} {w : World} {A : Option Addr} {n cap : Nat} {l : List (ByteArray × ByteArray)} (h : Row K w (.slice A n cap) n 2 (fvals2 l)) (hl : n = l.length) (hn : 0 < n) :
    ∃ b o, A = some ⟨b, o, none⟩ ∧ b < w.heap.size ∧ ∀ i, (h : i < l.length) → w.cell? ⟨b, o + i * 2, none⟩ = some (.string l[i].1) ∧ w.cell? ⟨b, o + i * 2 + 1, none⟩ = some (.string l[i].2) := by
  obtain ⟨-, -, A', cap', hv, -, -, hcell⟩ := h
  obtain ⟨rfl, -, -⟩ := Value.slice.inj hv
  obtain ⟨b, o, hA, hb, -, hc⟩ := hcell hn
  refine ⟨b, o, hA, hb, fun i hi => ⟨?_, ?_⟩⟩
  · have h1 := hc (i * 2 + 0) (by omega)
    rw [fvals2_get l i 0 (by omega) (by omega)] at h1
    exact h1
  · have h1 := hc (i * 2 + 1) (by omega)
    rw [fvals2_get l i 1 (by omega) (by omega)] at h1
    exact h1
def NewPP (w : World) (st0 : St) (n : Nat) (ok : Bool) (e : Ending) (w' : World) : Prop :=
  if ok then ∃ pb M F, e = .returned (.tuple #[.pointer (some ⟨pb, 0, none⟩), .int .i64 0]) ∧ WAt w' F pb M st0 ∧ Below w.heap.size w w' ∧ (∀ g, F g → w.heap.size ≤ g) ∧ M.m ≤ n
  else e = .returned (.tuple #[.pointer none, .int .i64 2]) ∧ Below w.heap.size w w'
theorem NewPP.no {w : World} {st0 : St} {n : Nat} {e : Ending} {w' : World} (he : e = .returned (.tuple #[.pointer none, .int .i64 2])) (hb : Below w.heap.size w w') : NewPP w st0 n false e w' := ⟨he, hb⟩
set_option maxRecDepth 20000 in
set_option maxHeartbeats 4000000 in
theorem wo_newG {K : Nat → Prop} {w : World} {A1 A2 A3 : Option Addr} {n1 n2 n3 cap1 cap2 cap3 : Nat} (l : List (ByteArray × ByteArray)) (lr : List Rp) (lf : List Fl) (stdin : ByteArray) (lim clock ch : Int)
    (e1 : n1 = l.length) (e2 : n2 = lr.length) (e3 : n3 = lf.length) (hF : Row K w (.slice A1 n1 cap1) n1 2 (fvals2 l)) (hR : Row K w (.slice A2 n2 cap2) n2 3 (rvals lr)) (hL : Row K w (.slice A3 n3 cap3) n3 2 (fvals lf))
    (hA2 : A2 = none → n2 = 0 ∧ cap2 = 0) (hA3 : A3 = none → n3 = 0 ∧ cap3 = 0) (hn1 : n1 ≤ 1000) (hn2 : n2 ≤ 1000) (hn3 : n3 ≤ 1000) (hsz : ∀ p ∈ l, p.1.size ≤ maxLen ∧ p.2.size ≤ maxLen) :
    Calls Tryd.prog 12 #[.agg #[.slice A1 n1 cap1, .string stdin, .slice A2 n2 cap2, .slice A3 n3 cap3, .int .i64 lim, .int .i64 clock, .int .u64 ch]] w (NewPP w ⟨lim, clock, filesOf l, stdin, [], ch, [], lr, lf⟩ n1 (newB l lr lim)) := by
  have HF := Lib.hid hF
  have HE1 := Lib.hid e1
  have HE2 := Lib.hid e2
  have HE3 := Lib.hid e3
  have HSZ := Lib.hid hsz
  have hsr := row_src' hR (rvals_one lr) hA2
  have hsl := row_src' hL (fvals_one lf) hA3
  have k1 : cap1 < 9223372036854775808 := by obtain ⟨-, -, _, _, hv, -, hm, -⟩ := hF; obtain ⟨-, -, rfl⟩ := Value.slice.inj hv; unfold maxLen at hm; omega
  have k2 : cap2 < 9223372036854775808 := by obtain ⟨-, -, _, _, hv, -, hm, -⟩ := hR; obtain ⟨-, -, rfl⟩ := Value.slice.inj hv; unfold maxLen at hm; omega
  have k3 : cap3 < 9223372036854775808 := by obtain ⟨-, -, _, _, hv, -, hm, -⟩ := hL; obtain ⟨-, -, rfl⟩ := Value.slice.inj hv; unfold maxLen at hm; omega
  have H2 : Hid (n2 ≤ 1000000) := Nat.le_trans hn2 (by omega)
  have H3 : Hid (n3 ≤ 1000000) := Nat.le_trans hn3 (by omega)
  obtain ⟨o, ho⟩ : ∃ o, o = newB l lr lim := ⟨_, rfl⟩
  rw [← ho]
  have HO := Lib.hid ho
  have HP1 : Hid (PS w (w.alloc (.cells #[.slice A1 n1 cap1, .string stdin, .slice A2 n2 cap2, .slice A3 n3 cap3, .int .i64 lim, .int .i64 clock, .int .u64 ch] 38)) w.heap.size #[.slice A1 n1 cap1, .string stdin, .slice A2 n2 cap2, .slice A3 n3 cap3, .int .i64 lim, .int .i64 clock, .int .u64 ch]) := ⟨(Below.refl _ _).alloc (Nat.le_refl _) _, Blk.new w _ _⟩
  clear hF hR hL e1 e2 e3 hA2 hA3 ho hsz
  go_enter Tryd.func12, Tryd.ntmps12
  go_wp2_with fail
  generalize w.alloc (.cells #[.slice A1 n1 cap1, .string stdin, .slice A2 n2 cap2, .slice A3 n3 cap3, .int .i64 lim, .int .i64 clock, .int .u64 ch] 38) = w1 at *
  obtain ⟨B, hB⟩ : ∃ B, B = w.heap.size := ⟨_, rfl⟩
  rw [← hB] at HP1 ⊢
  have HBE := Lib.hid hB
  have HSR : Hid (∀ wx, PS w wx B #[.slice A1 n1 cap1, .string stdin, .slice A2 n2 cap2, .slice A3 n3 cap3, .int .i64 lim, .int .i64 clock, .int .u64 ch] → Src wx A2 n2 cap2 3 (rvals lr)) := fun wx h => hsr.keep (by rw [← HBE.out]; exact h.below)
  have HSL : Hid (∀ wx, PS w wx B #[.slice A1 n1 cap1, .string stdin, .slice A2 n2 cap2, .slice A3 n3 cap3, .int .i64 lim, .int .i64 clock, .int .u64 ch] → Src wx A3 n3 cap3 2 (fvals lf)) := fun wx h => hsl.keep (by rw [← HBE.out]; exact h.below)
  have S1 : ∀ w', PS w w' B #[.slice A1 n1 cap1, .string stdin, .slice A2 n2 cap2, .slice A3 n3 cap3, .int .i64 lim, .int .i64 clock, .int .u64 ch] → w'.cell? ⟨B, 0, none⟩ = some (.slice A1 n1 cap1) ∧ w'.cell? ⟨B, 1, none⟩ = some (.string stdin) ∧ w'.cell? ⟨B, 2, none⟩ = some (.slice A2 n2 cap2) ∧ w'.cell? ⟨B, 3, none⟩ = some (.slice A3 n3 cap3) ∧ w'.cell? ⟨B, 4, none⟩ = some (.int .i64 lim) ∧ w'.cell? ⟨B, 5, none⟩ = some (.int .i64 clock) ∧ w'.cell? ⟨B, 6, none⟩ = some (.int .u64 ch) := fun w' h => ⟨h.scr.cell 0, h.scr.cell 1, h.scr.cell 2, h.scr.cell 3, h.scr.cell 4, h.scr.cell 5, h.scr.cell 6⟩
  obtain ⟨c0, c1, c2, c3, c4, c5, c6⟩ := S1 w1 HP1.out
  have HS1 := Lib.hid S1
  have HP1d := Lib.hid HP1.out.drew
  have HP1m := Lib.hid (HP1.out.alloc (.map #[] 0)).drew
  clear hB S1 hsr hsl
  have hmm := @run_makeMap Tryd.prog
  go_region_held3 (fun w' => w'.cell? ⟨B, 0, none⟩ = some (.slice A1 n1 cap1) ∧ w'.cell? ⟨B, 1, none⟩ = some (.string stdin) ∧ w'.cell? ⟨B, 2, none⟩ = some (.slice A2 n2 cap2) ∧ w'.cell? ⟨B, 3, none⟩ = some (.slice A3 n3 cap3) ∧ w'.cell? ⟨B, 4, none⟩ = some (.int .i64 lim) ∧ w'.cell? ⟨B, 5, none⟩ = some (.int .i64 clock) ∧ w'.cell? ⟨B, 6, none⟩ = some (.int .u64 ch)) (first | exact HS1.out _ HP3.out | exact HS1.out _ HP2.out | go_keep) (first | (go_at_call 32; refine (wo_cloneFG (HSL.out _ (by first | exact HP2.out | exact HP2.out.alloc _)) H3.out).mono ?_; rintro e w3 ⟨v3, rfl, hr3, hb3⟩; obtain ⟨B3, cb3, rfl, -, -⟩ := own_form hr3; have HP3 : Hid (PS w w3 B #[.slice A1 n1 cap1, .string stdin, .slice A2 n2 cap2, .slice A3 n3 cap3, .int .i64 lim, .int .i64 clock, .int .u64 ch]) := (by first | exact HP2.out.keep hb3 | exact (HP2.out.alloc _).keep hb3)) | (go_at_call 31; refine (wo_cloneRG (HSR.out _ (by first | exact HP1d.out | exact HP1m.out)) H2.out).mono ?_; rintro e w2 ⟨v2, rfl, hr2, hb2⟩; obtain ⟨B2, cb2, rfl, -, -⟩ := own_form hr2; have HP2 : Hid (PS w w2 B #[.slice A1 n1 cap1, .string stdin, .slice A2 n2 cap2, .slice A3 n3 cap3, .int .i64 lim, .int .i64 clock, .int .u64 ch]) := (by first | exact HP1d.out.keep hb2 | exact HP1m.out.keep hb2)) | fail)
  all_goals
    have hb23 : Below w2.heap.size w2 w3 := by (first | exact hb3 | exact ((Below.refl w2.heap.size w2).alloc (Nat.le_refl _) (.map #[] 0)).trans (hb3.mono (by simp)))
    have hq1 := HP1.out.scr.lt
    have hq1d := HP1d.out.scr.lt
    have hq1m := HP1m.out.scr.lt
    have hq2 := HP2.out.scr.lt
    have hq2m := (HP2.out.alloc (.map #[] 0)).scr.lt
    have hq3 := HP3.out.scr.lt
    have hv2 : ∀ k, (Value.slice B2 n2 cb2).ownBlock = some k → B ≤ k := fun k hk => by
      have h := own_ge hr2 hk
      omega
    have hv3 : ∀ k, (Value.slice B3 n3 cb3).ownBlock = some k → B ≤ k := fun k hk => by
      have h := own_ge hr3 hk
      omega
    have hr2' := own_of_block (own_base hr2 (fun _ _ => Nat.zero_le _)) (fun g hg => hb23.block g (own_lt hr2 hg).choose_spec.2)
    have hr3' := own_base hr3 (fun _ _ => Nat.zero_le _)
    clear c0 c1 c2 c3 c4 c5 c6
    first
    | (have HST := Lib.hid (new_stG (bm := w1.heap.size) l stdin lim clock ch HE2.out HE3.out HP3.out (mapA hb2 hb3) (by omega) hr2' hr3' hv2 hv3)
       obtain ⟨bm, hbm⟩ : ∃ bm, bm = w1.heap.size := ⟨_, rfl⟩
       obtain ⟨pb, hpb⟩ : ∃ pb, pb = w3.heap.size := ⟨_, rfl⟩
       clear hq1 hq1d hq1m hq2 hq2m hq3 hv2 hv3 hr2' hr3' hr2 hr3 hb2 hb3 hb23 HP1d HP1m HP2 HP3 HP1 hmm
       generalize w3.alloc (.cells #[.bool true, .slice A1 n1 cap1, .string stdin, .slice A2 n2 cap2, .slice A3 n3 cap3, .int .i64 lim, .int .i64 clock, .int .u64 ch, .map (some w1.heap.size), .string stdin, .slice none 0 0, .int .u64 ch, .slice none 0 0, .slice B2 n2 cb2, .slice B3 n3 cb3] 93) = w5 at *
       rw [← hpb] at HST ⊢
       rw [← hbm]
       clear hbm hpb)
    | (have HST := Lib.hid (new_stG (bm := w2.heap.size) l stdin lim clock ch HE2.out HE3.out HP3.out (mapB hb3) (by omega) hr2' hr3' hv2 hv3)
       obtain ⟨bm, hbm⟩ : ∃ bm, bm = w2.heap.size := ⟨_, rfl⟩
       obtain ⟨pb, hpb⟩ : ∃ pb, pb = w3.heap.size := ⟨_, rfl⟩
       clear hq1 hq1d hq1m hq2 hq2m hq3 hv2 hv3 hr2' hr3' hr2 hr3 hb2 hb3 hb23 HP1d HP1m HP2 HP3 HP1 hmm
       generalize w3.alloc (.cells #[.bool true, .slice A1 n1 cap1, .string stdin, .slice A2 n2 cap2, .slice A3 n3 cap3, .int .i64 lim, .int .i64 clock, .int .u64 ch, .map (some w2.heap.size), .string stdin, .slice none 0 0, .int .u64 ch, .slice none 0 0, .slice B2 n2 cb2, .slice B3 n3 cb3] 93) = w5 at *
       rw [← hpb] at HST ⊢
       rw [← hbm]
       clear hbm hpb)
    | (have hba3 := (Below.refl w3.heap.size w3).alloc (Nat.le_refl _) (.map #[] 0)
       have HST := Lib.hid (new_stG (bm := w3.heap.size) l stdin lim clock ch HE2.out HE3.out (HP3.out.alloc (.map #[] 0)) (MapS.made Tryd.prog 9 9 w3) (by omega) (own_of_block hr2' (fun g hg => hba3.block g (own_lt hr2' hg).choose_spec.2)) (own_of_block hr3' (fun g hg => hba3.block g (own_lt hr3' hg).choose_spec.2)) hv2 hv3)
       have e1 : (w3.alloc (.map #[] 0)).heap.size = w3.heap.size + 1 := by simp
       rw [e1] at HST
       obtain ⟨bm, hbm⟩ : ∃ bm, bm = w3.heap.size := ⟨_, rfl⟩
       obtain ⟨pb, hpb⟩ : ∃ pb, pb = w3.heap.size + 1 := ⟨_, rfl⟩
       clear hq1 hq1d hq1m hq2 hq2m hq3 hv2 hv3 hr2' hr3' hr2 hr3 hb2 hb3 hb23 HP1d HP1m HP2 HP3 HP1 hmm hba3 e1
       generalize (w3.alloc (.map #[] 0)).alloc (.cells #[.bool true, .slice A1 n1 cap1, .string stdin, .slice A2 n2 cap2, .slice A3 n3 cap3, .int .i64 lim, .int .i64 clock, .int .u64 ch, .map (some w3.heap.size), .string stdin, .slice none 0 0, .int .u64 ch, .slice none 0 0, .slice B2 n2 cb2, .slice B3 n3 cb3] 93) = w5 at *
       rw [← hpb] at HST ⊢
       rw [← hbm]
       clear hbm hpb)
    clear HSR HSL HS1
    obtain ⟨M0, F0, hM0, hMv, hW0, hP5, hF0⟩ := HST.out
    generalize hv2 : Value.slice B2 n2 cb2 = v2 at *
    have HM0 := Lib.hid hM0
    have HMV := Lib.hid hMv
    have HW0 := Lib.hid hW0
    have HP5 := Lib.hid hP5
    have HF0 := Lib.hid hF0
    have HV2 := Lib.hid hv2
    clear HST hM0 hMv hW0 hP5 hF0 hv2
    go_wp2_with fail
    go_loopw [28] (fun i wr => ∃ (k : Nat) (M' : Mem), k ≤ n1 ∧ i = .int .i64 k ∧ WAt wr F0 pb M' ⟨lim, clock, filesOf (l.take k), stdin, [], ch, [], lr, lf⟩ ∧ M'.m ≤ k ∧ M'.vr = v2 ∧ PS w wr B #[.slice A1 n1 cap1, .string stdin, .slice A2 n2 cap2, .slice A3 n3 cap3, .int .i64 lim, .int .i64 clock, .int .u64 ch] ∧ ∀ j, j < k → dupAt (l.map (·.1)) j = false) (fun i _ => n1 - (intOf i).toNat)
    case atStart => exact ⟨0, M0, Nat.zero_le _, rfl, HW0.out, by rw [HM0.out]; exact Nat.le_refl _, HMV.out, HP5.out, fun j hj => absurd hj (Nat.not_lt_zero j)⟩
    case round =>
      obtain ⟨k, M', hk, rfl, hW, hm, hvr, hP, hD⟩ := hrel
      have HVR := Lib.hid hvr
      have HW := Lib.hid hW
      have HM := Lib.hid hm
      have HP := Lib.hid hP
      have HD := Lib.hid hD
      clear hW hm hP hvr hD HW0 HP5 HM0 HMV
      by_cases hlt : k < n1
      · have hkl : k < l.length := by have := HE1.out; omega
        obtain ⟨b, o', hA, hbw, hc⟩ := files_cell HF.out HE1.out (by omega)
        subst hA
        obtain ⟨d0, d1⟩ := hc k hkl
        have hbB : b < B := by have := HBE.out; omega
        have d0' := (HP.out.below.cell (p := ⟨b, o' + k * 2, none⟩) hbB).trans d0
        have d1' := (HP.out.below.cell (p := ⟨b, o' + k * 2 + 1, none⟩) hbB).trans d1
        obtain ⟨hs1, hs2⟩ := HSZ.out l[k] (List.getElem_mem _)
        have hdup := dup_file hkl
        have hfs := filesOf_succ hkl
        generalize l[k].1 = fname at *
        generalize l[k].2 = fdata at *
        have HDUP := Lib.hid hdup
        have HFS := Lib.hid hfs
        clear d0 d1 hdup hfs hc
        have HBN := Lib.hid (Blk.new wr 83 #[.string fname, .string fdata])
        have HWB := Lib.hid (HW.out.pure ((Below.refl wr.heap.size wr).alloc (Nat.le_refl _) (.cells #[.string fname, .string fdata] 83)))
        have HPB := Lib.hid (HP.out.alloc (.cells #[.string fname, .string fdata] 83))
        have hbl : b < wr.heap.size := by have := HP.out.scr.lt; omega
        go_wp2_with fail
        generalize wr.alloc (.cells #[.string fname, .string fdata] 83) = w3 at *
        obtain ⟨X, hX⟩ : ∃ X, X = wr.heap.size := ⟨_, rfl⟩
        rw [← hX] at HBN ⊢
        have HXE := Lib.hid hX
        clear hX d0' d1'
        have c8 : w3.cell? ⟨pb, 8, none⟩ = some (.map (some M'.bm)) := HWB.out.cell 8
        obtain ⟨⟨n0, n1'⟩, -⟩ := HBN.out.two
        cases hdd : dupAt (l.map (·.1)) k with
        | true =>
          obtain ⟨u, hu⟩ := Option.isSome_iff_exists.1 (HDUP.out.trans hdd)
          have HU := Lib.hid hu
          have HON : Hid (o = false) := by
            unfold Hid; rw [HO.out]; unfold newB
            rw [dist_no (by simpa using hkl) hdd, Bool.false_and]
          clear hu hdd
          have hlk : ∀ q, (Instr.lookup 88 (.map (some M'.bm)) (.string fname) true).run Tryd.prog (w3.drewN q) = .ok (.tuple #[.string u, .bool true]) (w3.drewN q) := fun q => run_look_some (HWB.out.drewN q).map klaw Tryd.underlying88 (zero_string _) (keyOf_string_mk Tryd.underlying9 hs1) (by show ((filesOf (l.take k)) fname.data.toList).map Value.string = _; rw [HU.out]; rfl)
          go_wp2_with fail
          go_quiet (fail)
          have HP4 := Lib.hid (HPB.out.drewN nq)
          clear hlk c8 n0 n1'
          generalize w3.drewN nq = w4 at *
          go_wp2_with fail
          go_ret2
          rw [HON.out]
          exact NewPP.no rfl (by rw [← HBE.out]; exact HP4.out.below)
        | false =>
          have HDD := Lib.hid hdd
          have HNONE : Hid ((filesOf (l.take k)) fname.data.toList = none) := Option.isSome_eq_false_iff.1 (HDUP.out.trans hdd) |> Option.isNone_iff_eq_none.1
          clear hdd
          have hlk : ∀ q, (Instr.lookup 88 (.map (some M'.bm)) (.string fname) true).run Tryd.prog (w3.drewN q) = .ok (.tuple #[.string ⟨#[]⟩, .bool false]) (w3.drewN q) := fun q => run_look_none (HWB.out.drewN q).map klaw Tryd.underlying88 (zero_string _) (keyOf_string_mk Tryd.underlying9 hs1) (by show ((filesOf (l.take k)) fname.data.toList).map Value.string = none; rw [HNONE.out]; rfl)
          go_wp2_with fail
          go_quiet (fail)
          have HW4 := Lib.hid (HWB.out.drewN nq)
          have HP4 := Lib.hid (HPB.out.drewN nq)
          have HX4 : Hid (Blk (w3.drewN nq) X 83 #[.string fname, .string fdata]) := HBN.out
          clear hlk c8 n0 n1'
          generalize w3.drewN nq = w4 at *
          have c8 : w4.cell? ⟨pb, 8, none⟩ = some (.map (some M'.bm)) := HW4.out.cell 8
          obtain ⟨⟨n0, n1'⟩, -⟩ := HX4.out.two
          go_wp2_with fail
          go_still_tail 8, (by kernel_rfl)
          change wpList _ _ _ _ _ w4.drew
          have HW5 := Lib.hid HW4.out.drew
          have HP5 := Lib.hid HP4.out.drew
          clear c8 n0 n1'
          generalize w4.drew = w5 at *
          have hmm2 : M'.m < maxLen := by unfold maxLen; have := HM.out; omega
          have HBM2 := Lib.hid (show ¬ B = M'.bm from map_ne HP5.out.scr HW5.out.map)
          have HMB := Lib.hid (show (if ((fun x => (filesOf (l.take k) x).map Value.string) fname.data.toList).isSome then M'.m else M'.m + 1) ≤ k + 1 by have := HM.out; split <;> omega)
          go_wp2_with (at_mapUpdate; refine wp_map_put rfl _ _ _ _ rfl klaw Tryd.underlying9 Tryd.underlying88 rfl HW5.out.map hmm2 _ (.string fdata) _ rfl rfl (keyOf_string_mk Tryd.underlying9 hs1) ⟨_, plainElem_string Tryd.underlying9 hs2⟩ ?_; intro w6 hmap6 hturn6; obtain ⟨h6', t6⟩ := HW5.out.put fname.data.toList fdata hmap6 hturn6; obtain ⟨M6, hm6, hv6, h6⟩ : ∃ M6 : Mem, M6.m ≤ k + 1 ∧ M6.vr = v2 ∧ WAt w6 F0 pb M6 ⟨lim, clock, setF (filesOf (l.take k)) fname.data.toList fdata, stdin, [], ch, [], lr, lf⟩ := ⟨{ M' with m := (if ((fun x => (filesOf (l.take k) x).map Value.string) fname.data.toList).isSome then M'.m else M'.m + 1) }, HMB.out, HVR.out, h6'⟩; clear h6'; have HW6 := Lib.hid h6; have HP6 : Hid (PS w w6 B #[.slice (some ⟨b, o', none⟩) n1 cap1, .string stdin, .slice A2 n2 cap2, .slice A3 n3 cap3, .int .i64 lim, .int .i64 clock, .int .u64 ch]) := ⟨HP5.out.below.trans (t6.below B (Nat.le_of_lt HP5.out.scr.lt) (fun k hk hF => by have := HF0.out _ hF; omega)), HP5.out.scr.keep ((Tur.of_grown hturn6.grown).mono (fun k _ e => (show k = M'.bm by injection e))) HBM2.out⟩; clear h6 t6 hmap6 hturn6)
          go_roundw
          case rel => exact ⟨k + 1, M6, by omega, by go_num, by rw [HFS.out]; exact HW6.out, hm6, hv6, HP6.out, fun j hj => by rcases Nat.lt_succ_iff_lt_or_eq.1 hj with h | h; exact HD.out j h; rw [h]; exact HDD.out⟩
          case measure => simp [intOf]; omega
      · obtain rfl : n1 = k := by omega
        have HLK := Lib.hid (show l.take n1 = l by rw [HE1.out, List.take_length])
        have HDF : Hid (distB (l.map (·.1)) = true) := dist_yes (fun j hj => HD.out j (by rw [HE1.out]; simpa using hj))
        have HROW := Lib.hid (show wr.ownsRow 0 87 3 (.slice B2 n2 cb2) n2 (rvals lr) by have h := HW.out.rowR; rw [HVR.out, ← HV2.out, ← HE2.out] at h; exact h)
        have c13 : wr.cell? ⟨pb, 13, none⟩ = some (.slice B2 n2 cb2) := by have h := HW.out.cell 13; rw [show (wcells M' _)[13]? = some M'.vr from rfl, HVR.out, ← HV2.out] at h; exact h
        obtain ⟨B2', cb2', hv3, hc31, hc32⟩ := own_form HROW.out
        obtain ⟨-, -, rfl⟩ := Value.slice.inj hv3
        have hNl : n2 ≤ 1000000000 := by omega
        clear hv3 HD HF
        go_wp2_with fail
        generalize wr = wz at *
        go_loopw [57] (fun i wr => ∃ q : Nat, q ≤ n2 ∧ i = .int .i64 q ∧ Below wz.heap.size wz wr ∧ ∀ j, j < q → dupAt (lr.map (·.cmd)) j = false) (fun i _ => n2 - (intOf i).toNat)
        case atStart => exact ⟨0, Nat.zero_le _, rfl, Below.refl _ _, fun j hj => absurd hj (Nat.not_lt_zero j)⟩
        case round =>
          obtain ⟨q, hq, rfl, hbx, hD⟩ := hrel
          have HBX := Lib.hid hbx
          have HD := Lib.hid hD
          clear hbx hD
          by_cases hql : q < n2
          · have hqr : q < lr.length := by have := HE2.out; omega
            obtain ⟨gr, cap', hv, -, -⟩ := ownBlock_form HROW.out (by omega)
            obtain ⟨rfl, -, -⟩ := Value.slice.inj hv
            obtain ⟨cur, -, hgl'⟩ := own_lt HROW.out rfl
            have hgl : gr < wz.heap.size := hgl'
            have hcell : ∀ j, j < 3 → wr.cell? ⟨gr, q * 3 + j, none⟩ = (lr[q].vals)[j]? := by
              intro j hj
              have := HROW.out.cellAt (q * 3 + j) (by omega)
              rw [HBX.out.cell (p := ⟨gr, q * 3 + j, none⟩) (by show gr < _; omega), this, rvals_get lr q j hqr hj]
            have d0 : wr.cell? ⟨gr, q * 3, none⟩ = some (.string lr[q].cmd) := hcell 0 (by omega)
            have d1 : wr.cell? ⟨gr, q * 3 + 1, none⟩ = some (.string lr[q].out) := hcell 1 (by omega)
            have d2 : wr.cell? ⟨gr, q * 3 + 2, none⟩ = some (.int .i64 lr[q].status) := hcell 2 (by omega)
            have HDUP := Lib.hid (dup_cmd hqr)
            clear hv hcell hgl' c13
            generalize lr[q] = r at *
            obtain ⟨rc, ro, rs⟩ := r
            have hba := (Below.refl wr.heap.size wr).alloc (Nat.le_refl _) (.cells #[.string rc, .string ro, .int .i64 rs] 87)
            have HBA := Lib.hid (HBX.out.trans (hba.mono HBX.out.size))
            have HBN := Lib.hid (Blk.new wr 87 #[.string rc, .string ro, .int .i64 rs])
            have HROW4 : Hid (World.ownsRow (wr.alloc (.cells #[.string rc, .string ro, .int .i64 rs] 87)) 0 87 3 (.slice (some ⟨gr, 0, none⟩) q cb2) q (rvals (lr.take q))) := by
              have h := own_take (k := q) (own_of_block HROW.out (fun g hg => HBA.out.block g (own_lt HROW.out hg).choose_spec.2)) (by omega)
              rw [rvals_take] at h
              exact h
            have HLT : Hid (q = (lr.take q).length) := by unfold Hid; simp; omega
            have c13 : (wr.alloc (.cells #[.string rc, .string ro, .int .i64 rs] 87)).cell? ⟨pb, 13, none⟩ = some (.slice (some ⟨gr, 0, none⟩) n2 cb2) := by
              have h := (HW.out.pure HBA.out).cell 13
              rw [show (wcells M' _)[13]? = some M'.vr from rfl, HVR.out, ← HV2.out] at h
              exact h
            clear hba
            have HPB : Hid (pb < wz.heap.size) := HW.out.head.lt
            go_wp2_with fail
            generalize wr.alloc (.cells #[.string rc, .string ro, .int .i64 rs] 87) = w6 at *
            refine (wo_containsR (lr.take q) 34 _ (isRp rc) HROW4.out HLT.out enters_new1 (fun r wy hb => ?_) (by omega)).mono ?_
            · exact wo_new1 r ((hb.cell (p := ⟨_, 0, none⟩) HBN.out.lt).trans (HBN.out.cell 0)) (by have := hb.size; have := HBN.out.lt; omega)
            rintro e w7 ⟨rfl, hb7⟩
            have HB7 := Lib.hid (HBA.out.trans (hb7.mono HBA.out.size))
            have hdu : (lr.take q).any (isRp rc) = dupAt (lr.map (·.cmd)) q := HDUP.out
            rw [hdu]
            clear hb7 c13 d0 d1 d2 hdu
            cases hdd : dupAt (lr.map (·.cmd)) q with
            | true =>
              have HON : Hid (o = false) := by
                unfold Hid; rw [HO.out]; unfold newB
                rw [dist_no (by simpa using hqr) hdd, Bool.false_and, Bool.and_false]
              clear hdd
              go_wp2_with fail
              go_ret2
              rw [HON.out]
              exact NewPP.no rfl (by rw [← HBE.out]; exact (HP.out.keep HB7.out).below)
            | false =>
              have HDD := Lib.hid hdd
              clear hdd
              go_wp2_with fail
              go_roundw
              case rel => exact ⟨q + 1, by omega, by go_num, HB7.out, fun j hj => by rcases Nat.lt_succ_iff_lt_or_eq.1 hj with h | h; exact HD.out j h; rw [h]; exact HDD.out⟩
              case measure => simp [intOf]; omega
          · obtain rfl : n2 = q := by omega
            have HDR : Hid (distB (lr.map (·.cmd)) = true) := dist_yes (fun j hj => HD.out j (by rw [HE2.out]; simpa using hj))
            have HON : Hid (o = (decide (0 ≤ lim) && decide (lim ≤ 16))) := by unfold Hid; rw [HO.out]; unfold newB; rw [HDF.out, HDR.out]; rfl
            have HPX := Lib.hid (HP.out.keep HBX.out)
            have c4 : wr.cell? ⟨B, 4, none⟩ = some (.int .i64 lim) := HPX.out.scr.cell 4
            clear c13
            by_cases hl1 : lim < 0
            · have HOF : Hid (o = false) := by unfold Hid; rw [HON.out, decide_eq_false (by omega), Bool.false_and]
              go_wp2_with fail
              go_ret2
              rw [HOF.out]
              exact NewPP.no rfl (by rw [← HBE.out]; exact HPX.out.below)
            by_cases hl2 : 16 < lim
            · have HOF : Hid (o = false) := by unfold Hid; rw [HON.out, decide_eq_false (show ¬ lim ≤ 16 by omega), Bool.and_false]
              go_wp2_with fail
              go_ret2
              rw [HOF.out]
              exact NewPP.no rfl (by rw [← HBE.out]; exact HPX.out.below)
            have HOT : Hid (o = true) := by unfold Hid; rw [HON.out, decide_eq_true (show 0 ≤ lim by omega), decide_eq_true (show lim ≤ 16 by omega)]; rfl
            go_wp2_with fail
            go_ret2
            rw [HOT.out]
            exact ⟨pb, M', F0, rfl, by have := HW.out.pure HBX.out; rw [HLK.out] at this; exact this, by rw [← HBE.out]; exact HPX.out.below, fun g hg => by have := HF0.out g hg; have := HBE.out; omega, HM.out⟩
end Go.Proofs.YtdbdmgmenojcaaaDoor
namespace Go.Proofs.YtdbdmgmenojcaaaDoor
open Go.RowKit Go.ChangeShapes Go.WideShapes Go.Deep Wd

theorem add_offX (b o i : Nat) : (⟨b, o, none⟩ : Addr).add i = ⟨b, o + i, none⟩ := by unfold Addr.add; split <;> simp_all
structure Wd.OpV where
  kind : Int
  k : Int
  name : ByteArray
  data : ByteArray
  n : Int



namespace Wd
def opens (l : List Ev) : Nat := l.countP (fun e => e.k == 1)
def closes (l : List Ev) : Nat := l.countP (fun e => e.k == 3)
structure Fine (L : Int) (st : St) : Prop where
  lim : st.lim = L
  len : (st.opn.length : Int) ≤ L
  kind : ∀ m ∈ st.opn, 1 ≤ m.k ∧ m.k ≤ 5
  apart : st.opn.Pairwise (fun a b => ¬ (a.k = b.k ∧ a.name = b.name))
  bal : opens st.trace = closes st.trace + st.opn.length
theorem find_any (st : St) (k : Int) (name : ByteArray) : (find st k name).isSome = st.opn.any (hit k name) := by
  unfold find
  rw [List.findIdx?_isSome]
def cntL (l : List Sm) (name : ByteArray) : Nat → Nat
  | 0 => 0
  | n + 1 => (if l.any (hit ((n + 1 : Nat) : Int) name) then 1 else 0) + cntL l name n
theorem cnt_filter (name : ByteArray) : ∀ (l : List Sm), (∀ m ∈ l, 1 ≤ m.k ∧ m.k ≤ 5) → l.Pairwise (fun a b => ¬ (a.k = b.k ∧ a.name = b.name)) → cntL l name 5 = (l.filter (fun m => decide (m.name = name))).length := by
  intro l
  induction l with
  | nil => intro _ _; simp [cntL]
  | cons m l ih =>
    intro hk hp
    obtain ⟨hp1, hp2⟩ := List.pairwise_cons.1 hp
    have h0 := ih (fun x hx => hk x (List.mem_cons_of_mem _ hx)) hp2
    have hmk := hk m (List.mem_cons_self)
    by_cases hm : m.name = name
    · have hno : l.any (hit m.k name) = false := by
        rw [List.any_eq_false]
        intro x hx hh
        simp only [hit, Bool.and_eq_true, decide_eq_true_eq] at hh
        exact hp1 x hx ⟨hh.1.symm, by rw [hm, hh.2]⟩
      have step : ∀ n, cntL (m :: l) name n = cntL l name n + if 1 ≤ m.k ∧ m.k ≤ n then 1 else 0 := by
        intro n
        induction n with
        | zero => rw [if_neg (by omega)]; rfl
        | succ n ihn =>
          show (if (m :: l).any (hit ((n + 1 : Nat) : Int) name) then 1 else 0) + cntL (m :: l) name n = (if l.any (hit ((n + 1 : Nat) : Int) name) then 1 else 0) + cntL l name n + _
          rw [ihn, List.any_cons]
          by_cases e : m.k = ((n + 1 : Nat) : Int)
          · have e1 : hit ((n + 1 : Nat) : Int) name m = true := by simp [hit, e, hm]
            have hno' : l.any (hit ((n + 1 : Nat) : Int) name) = false := by rw [← e]; exact hno
            rw [e1, hno', Bool.true_or, if_pos rfl, if_neg (by decide : ¬ (false = true)), if_neg (show ¬ (1 ≤ m.k ∧ m.k ≤ (n : Int)) by omega), if_pos (show 1 ≤ m.k ∧ m.k ≤ ((n + 1 : Nat) : Int) by omega)]
            omega
          · have e1 : hit ((n + 1 : Nat) : Int) name m = false := by simp only [hit, decide_eq_false e, Bool.false_and]
            rw [e1, Bool.false_or]
            by_cases c : 1 ≤ m.k ∧ m.k ≤ (n : Int)
            · rw [if_pos c, if_pos (show 1 ≤ m.k ∧ m.k ≤ ((n + 1 : Nat) : Int) by omega)]
              omega
            · rw [if_neg c, if_neg (show ¬ (1 ≤ m.k ∧ m.k ≤ ((n + 1 : Nat) : Int)) by omega)]
              omega
      rw [step 5, h0, if_pos (show 1 ≤ m.k ∧ m.k ≤ ((5 : Nat) : Int) by omega), List.filter_cons, if_pos (by simp [hm])]
      rfl
    · have step : ∀ n, cntL (m :: l) name n = cntL l name n := by
        intro n
        induction n with
        | zero => rfl
        | succ n ihn =>
          show (if (m :: l).any _ then 1 else 0) + cntL (m :: l) name n = (if l.any _ then 1 else 0) + cntL l name n
          rw [ihn, List.any_cons, show hit ((n + 1 : Nat) : Int) name m = false by simp [hit, hm], Bool.false_or]
      rw [step 5, h0, List.filter_cons, if_neg (by simp [hm])]
theorem filter_two (l : List Sm) (q : Sm → Bool) : l.length = (l.filter q).length + (l.filter (fun m => !q m)).length := by
  induction l with
  | nil => rfl
  | cons m l ih => rw [List.filter_cons, List.filter_cons, List.length_cons, ih]; cases q m <;> simp <;> omega
theorem closeK_cnt (st : St) (name : ByteArray) (n : Nat) : opens (closeK st name n).1.trace = opens st.trace ∧ closes (closeK st name n).1.trace = closes st.trace + cntL st.opn name n ∧ ((closeK st name n).2.2 = decide (0 < cntL st.opn name n)) := by
  induction n with
  | zero => exact ⟨rfl, rfl, rfl⟩
  | succ n ih =>
    obtain ⟨h1, h2, h3⟩ := ih
    have hc : cntL st.opn name (n + 1) = (if st.opn.any (hit ((n + 1 : Nat) : Int) name) then 1 else 0) + cntL st.opn name n := rfl
    unfold closeK
    rw [find_any, hc]
    by_cases ha : st.opn.any (hit ((n + 1 : Nat) : Int) name) = true
    · rw [if_pos ha, if_pos ha]
      refine ⟨?_, ?_, ?_⟩
      · show opens ((closeK st name n).1.trace ++ [_]) = _
        unfold opens at *
        rw [List.countP_append, h1]; rfl
      · show closes ((closeK st name n).1.trace ++ [_]) = _
        unfold closes at *
        rw [List.countP_append, h2]
        show _ + 1 = _
        omega
      · show true = _
        exact (decide_eq_true (by omega)).symm
    · rw [if_neg ha, if_neg ha, Nat.zero_add]
      exact ⟨h1, h2, h3⟩
theorem fine_close {lim : Int} {st : St} (h : Fine lim st) (name : ByteArray) : Fine lim (closeL st name).1 ∧ (closeL st name).2.2 = decide ((closeL st name).1.opn.length < st.opn.length) := by
  obtain ⟨c1, c2, c3⟩ := closeK_cnt st name 5
  have c4 := cnt_filter name st.opn h.kind h.apart
  have c5 := filter_two st.opn (fun m => decide (m.name = name))
  have c6 : (closeL st name).1.opn = st.opn.filter (fun m => !decide (m.name = name)) := rfl
  refine ⟨⟨?_, ?_, ?_, ?_, ?_⟩, ?_⟩
  · show (closeK st name 5).1.lim = lim
    rw [(closeK_same st name 5).1]; exact h.lim
  · rw [c6]; have := h.len; have := List.length_filter_le (fun m : Sm => !decide (m.name = name)) st.opn; omega
  · rw [c6]; intro m hm; exact h.kind m (List.mem_filter.1 hm).1
  · rw [c6]; exact h.apart.filter _
  · rw [c6]
    show opens (closeK st name 5).1.trace = closes (closeK st name 5).1.trace + _
    rw [c1, c2, h.bal, c4]; omega
  · rw [c6]
    show (closeK st name 5).2.2 = _
    rw [c3, c4]
    congr 1
    exact propext (by omega)
theorem fine_closed {lim : Int} {st st' : St} (h : Fine lim st) (hc : ClosedTo st st') : Fine lim st' := by
  induction hc with
  | refl => exact h
  | step _ _ ih => exact (fine_close ih _).1
theorem find_kind {lim : Int} {st : St} (h : Fine lim st) {k : Int} {name : ByteArray} (hk : k < 1 ∨ 5 < k) : (find st k name).isSome = false := by
  rw [find_any, List.any_eq_false]
  intro m hm hh
  simp only [hit, Bool.and_eq_true, decide_eq_true_eq] at hh
  have := h.kind m hm
  omega
theorem fine_open {lim : Int} {st : St} (h : Fine lim st) (k : Int) (name : ByteArray) :
    Fine lim (openL st k name).1 ∧ (k ≠ 6 → (find (openL st k name).1 k name).isSome = decide ((openL st k name).2 = 0)) ∧
      (decide ((openL st k name).1.opn.length = st.opn.length + 1) = (decide ((openL st k name).2 = 0) && !(decide (k = 6) || (find st k name).isSome))) := by
  unfold openL
  by_cases hA : k < 1 ∨ 5 < k
  · rw [if_pos hA]
    exact ⟨h, fun _ => by rw [find_kind h hA]; rfl, by simp⟩
  · rw [if_neg hA]
    by_cases hf : (find st k name).isSome = true
    · rw [if_pos hf]
      exact ⟨h, fun _ => by rw [hf]; rfl, by simp [hf]⟩
    · rw [if_neg hf]
      have hf' : (find st k name).isSome = false := by simpa using hf
      by_cases hL : st.lim ≤ st.opn.length
      · rw [if_pos hL]
        exact ⟨h, fun _ => by rw [hf']; rfl, by simp⟩
      · rw [if_neg hL]
        by_cases hE : failB st 1 name = true ∨ (k = 1 ∧ name ≠ minus ∧ (st.files name.data.toList).isSome = false)
        · rw [if_pos hE]
          exact ⟨h, fun _ => by rw [hf']; rfl, by simp⟩
        · rw [if_neg hE]
          have hno : st.opn.any (hit k name) = false := by rw [← find_any]; exact hf'
          refine ⟨⟨h.lim, ?_, ?_, ?_, ?_⟩, fun _ => ?_, ?_⟩
          · show (((st.opn ++ [_]).length : Nat) : Int) ≤ lim
            rw [List.length_append]
            have := h.lim
            show ((st.opn.length + 1 : Nat) : Int) ≤ lim
            omega
          · intro m hm
            rcases List.mem_append.1 (show m ∈ st.opn ++ [_] from hm) with hm | hm
            · exact h.kind m hm
            · rw [List.mem_singleton.1 hm]; show 1 ≤ k ∧ k ≤ 5; omega
          · show (st.opn ++ [_]).Pairwise _
            rw [List.pairwise_append]
            refine ⟨h.apart, List.pairwise_singleton _ _, fun a ha b hb => ?_⟩
            rw [List.mem_singleton.1 hb]
            rintro ⟨e1, e2⟩
            rw [List.any_eq_false] at hno
            exact hno a ha (by simp [hit, show a.k = k from e1, show a.name = name from e2])
          · show opens (st.trace ++ [_]) = closes (st.trace ++ [_]) + (st.opn ++ [_]).length
            have hb := h.bal
            unfold opens closes at *
            rw [List.countP_append, List.countP_append, List.length_append, hb]
            show _ + 1 = _ + 0 + (_ + 1)
            omega
          · rw [find_any]
            show (st.opn ++ [_]).any (hit k name) = true
            rw [List.any_append]
            simp [hit]
          · show decide ((st.opn ++ [_]).length = st.opn.length + 1) = _
            rw [hf', List.length_append]
            have : ¬ k = 6 := by omega
            simp [this]
theorem openL_trace (st : St) (k : Int) (name : ByteArray) : (openL st k name).1.trace.length ≤ st.trace.length + 1 ∧ (openL st k name).1.replies = st.replies ∧ (openL st k name).1.fails = st.fails := by
  unfold openL
  by_cases h1 : k < 1 ∨ 5 < k
  · rw [if_pos h1]; exact ⟨Nat.le_succ _, rfl, rfl⟩
  · rw [if_neg h1]
    by_cases h2 : (find st k name).isSome = true
    · rw [if_pos h2]; exact ⟨Nat.le_succ _, rfl, rfl⟩
    · rw [if_neg h2]
      by_cases h3 : st.lim ≤ st.opn.length
      · rw [if_pos h3]; exact ⟨Nat.le_succ _, rfl, rfl⟩
      · rw [if_neg h3]
        by_cases h4 : failB st 1 name = true ∨ (k = 1 ∧ name ≠ minus ∧ (st.files name.data.toList).isSome = false)
        · rw [if_pos h4]; exact ⟨Nat.le_succ _, rfl, rfl⟩
        · rw [if_neg h4]
          refine ⟨?_, rfl, rfl⟩
          show (st.trace ++ [_]).length ≤ _
          rw [List.length_append]
          exact Nat.le_refl _
theorem closeL_fails (st : St) (name : ByteArray) : (closeL st name).1.fails = st.fails := by show (closeK st name 5).1.fails = _; rw [(closeK_same st name 5).1]
end Wd
end Go.Proofs.YtdbdmgmenojcaaaDoor
namespace Go.Proofs.YtdbdmgmenojcaaaDoor
open Go.RowKit Wd
open Go.WideMaps Go.WideElems Go.WideAt

def Wd.setAtL (l : List Sm) (i : Nat) (left : ByteArray) : List Sm := l.set i { l.getD i smZero with left := left }
/-- What Read gives, and the world then. -/
def Wd.cutN (n : Int) (s : ByteArray) : Nat := min n.toNat s.size
def Wd.readL (st : St) (k : Int) (name : ByteArray) (n : Int) : St × ByteArray × Int :=
  if ¬ (k = 1 ∨ k = 2) then (st, ⟨#[]⟩, 16)
  else match find st k name with
  | none => (st, ⟨#[]⟩, 16)
  | some i =>
    if n < 1 then (st, ⟨#[]⟩, 2)
    else if failB st 2 name then (st, ⟨#[]⟩, 13)
    else if k = 1 ∧ name = minus then ({ st with stdin := st.stdin.extract (cutN n st.stdin) st.stdin.size }, st.stdin.extract 0 (cutN n st.stdin), 0)
    else ({ st with opn := setAtL st.opn i ((st.opn.getD i smZero).left.extract (cutN n (st.opn.getD i smZero).left) (st.opn.getD i smZero).left.size) }, (st.opn.getD i smZero).left.extract 0 (cutN n (st.opn.getD i smZero).left), 0)
/-- One cell of the world's own, set. -/
theorem WAt.setHead {w : World} {F : Nat → Prop} {pb : Nat} {M : Mem} {st st' : St} (h : WAt w F pb M st) (i : Nat) (v : Value) (hc : (wcells M st).setIfInBounds i v = wcells M st') (h1 : st'.files = st.files) (h2 : st'.opn = st.opn) (h3 : st'.trace = st.trace) (h4 : st'.replies = st.replies) (h5 : st'.fails = st.fails) :
    WAt (w.setCell ⟨pb, i, none⟩ v) F pb M st' ∧ Tur F w (w.setCell ⟨pb, i, none⟩ v) := by
  have ht : Tur (· = pb) w (w.setCell ⟨pb, i, none⟩ v) := Tur.of_set ⟨pb, i, none⟩ v
  have hrow : ∀ (u : Value) (t : TypeId) (sz n : Nat) (cs : List Value), w.ownsRow 0 t sz u n cs → t ≠ 93 → ∀ k, u.ownBlock = some k → ¬ k = pb := by
    intro u t sz n cs hr ht2 k hk e
    obtain ⟨cur, hc, -⟩ := own_lt hr hk
    exact cells_ne hc h.head ht2 e
  refine ⟨?_, ht.mono (fun k _ e => by rw [e]; exact h.fp)⟩
  exact {
    flt := fun k hk => Nat.lt_of_lt_of_le (h.flt k hk) ht.size
    fp := h.fp
    fm := h.fm
    fo := h.fo
    ft := h.ft
    fr := h.fr
    ff := h.ff
    fg := h.fg
    head := by have := h.head.set i v; rw [hc] at this; exact this
    map := by rw [h1]; exact h.map' ht (fun e => map_ne h.head h.map e.symm)
    rowO := by rw [h2]; exact h.rowO' ht (hrow _ _ _ _ _ h.rowO (by decide))
    strm := by rw [h2]; exact h.strm' ht (fun k hk => by obtain ⟨cs, hc⟩ := h.gsAt hk; exact fun e => cells_ne hc h.head (by decide) e)
    nd := h.nd
    rowT := by rw [h3]; exact h.rowT' ht (hrow _ _ _ _ _ h.rowT (by decide))
    rowR := by rw [h4]; exact h.rowR' ht (hrow _ _ _ _ _ h.rowR (by decide))
    rowF := by rw [h5]; exact h.rowF' ht (hrow _ _ _ _ _ h.rowF (by decide)) }
/-- What a stream still gives, set. -/
theorem WAt.setLeft {w : World} {F : Nat → Prop} {pb : Nat} {M : Mem} {st : St} (h : WAt w F pb M st) (i : Nat) (hi : i < st.opn.length) (left : ByteArray) :
    WAt (w.setCell ⟨M.gs.getD i 0, 2, none⟩ (.string left)) F pb M { st with opn := setAtL st.opn i left } ∧ Tur F w (w.setCell ⟨M.gs.getD i 0, 2, none⟩ (.string left)) := by
  have hig : i < M.gs.length := by rw [h.gl]; exact hi
  obtain ⟨g, hg, hB⟩ := h.strm i hi
  have hgd : M.gs.getD i 0 = g := by simp [List.getD, hg]
  rw [hgd]
  have hgm : g ∈ M.gs := List.mem_of_getElem? hg
  have ht : Tur (· = g) w (w.setCell ⟨g, 2, none⟩ (.string left)) := Tur.of_set ⟨g, 2, none⟩ _
  have hrow : ∀ (u : Value) (t : TypeId) (sz n : Nat) (cs : List Value), w.ownsRow 0 t sz u n cs → t ≠ 109 → ∀ k, u.ownBlock = some k → ¬ k = g := by
    intro u t sz n cs hr ht2 k hk e
    obtain ⟨cur, hc, -⟩ := own_lt hr hk
    exact cells_ne hc hB ht2 e
  refine ⟨?_, ht.mono (fun k _ e => by rw [e]; exact h.fg g hgm)⟩
  exact {
    flt := fun k hk => Nat.lt_of_lt_of_le (h.flt k hk) ht.size
    fp := h.fp
    fm := h.fm
    fo := h.fo
    ft := h.ft
    fr := h.fr
    ff := h.ff
    fg := h.fg
    head := h.head' ht (fun e => cells_ne h.head hB (by decide) e)
    map := h.map' ht (fun e => map_ne hB h.map e.symm)
    rowO := by
      show World.ownsRow _ 0 99 1 M.vo (setAtL st.opn i left).length _
      rw [show (setAtL st.opn i left).length = st.opn.length by simp [setAtL]]
      exact h.rowO' ht (hrow _ _ _ _ _ h.rowO (by decide))
    strm := fun j hj => by
      have hj' : j < st.opn.length := by simpa [setAtL] using hj
      obtain ⟨gj, hgj, hBj⟩ := h.strm j hj'
      refine ⟨gj, hgj, ?_⟩
      show Blk _ gj _ ((setAtL st.opn i left)[j]'hj).cells
      by_cases e : j = i
      · subst e
        rw [hg] at hgj
        injection hgj with hgj
        subst hgj
        have hs := hB.set 2 (.string left)
        simp only [setAtL, List.getElem_set_self]
        have e2 : st.opn.getD j smZero = st.opn[j] := by simp [List.getD, hj']
        rw [e2]
        exact hs
      · have hne : gj ≠ g := by
          intro e2
          have h1 : M.gs[j]? = M.gs[i]? := by rw [hgj, hg, e2]
          exact e ((List.getElem?_inj (by rw [h.gl]; exact hj') h.nd).1 h1)
        simp only [setAtL, List.getElem_set_ne (Ne.symm e)]
        exact hBj.keep ht hne
    nd := h.nd
    rowT := h.rowT' ht (hrow _ _ _ _ _ h.rowT (by decide))
    rowR := h.rowR' ht (hrow _ _ _ _ _ h.rowR (by decide))
    rowF := h.rowF' ht (hrow _ _ _ _ _ h.rowF (by decide)) }
end Go.Proofs.YtdbdmgmenojcaaaDoor
namespace Go.Proofs.YtdbdmgmenojcaaaDoor
open Go.RowKit Wd
open Go.WideMaps Go.WideElems Go.WideAt
set_option maxRecDepth 20000 in
set_option maxHeartbeats 4000000 in
theorem wo_read_in {w : World} {F : Nat → Prop} {pb : Nat} {M : Mem} {st : St} (h : WAt w F pb M st) (q : Nat) (hno : st.opn.length ≤ 1000000000) (hnf : st.fails.length ≤ 1000000000) (hn : q ≤ 9223372036854775807) (hq1 : ¬ (q : Int) < 1)
    (hs1 : st.stdin.size ≤ 4294967296) (i : Nat) (hf : find st 1 minus = some i) (hfl : failB st 2 minus = false) :
    Calls Tryd.prog 18 #[.pointer (some ⟨pb, 0, none⟩), .int .u8 1, .string minus, .int .i64 q] w fun e w' => e = .returned (.tuple #[.string (st.stdin.extract 0 (cutN q st.stdin)), .int .i64 0]) ∧ WAt w' F pb M { st with stdin := st.stdin.extract (cutN q st.stdin) st.stdin.size } ∧ Tur F w w' := by
  have H := Lib.hid h
  clear h
  have hi : i < st.opn.length := (List.findIdx?_eq_some_iff_getElem.1 hf).1
  have HFV : Hid (findV M st 1 minus = .pointer (some ⟨M.gs.getD i 0, 0, none⟩)) := by unfold Hid findV; rw [hf]
  have HFB := Lib.hid hfl
  obtain ⟨g, hgd⟩ : ∃ g, M.gs.getD i 0 = g := ⟨_, rfl⟩
  rw [hgd] at HFV
  obtain ⟨s, hs⟩ : ∃ s, s = st.stdin := ⟨_, rfl⟩
  have HSS := Lib.hid hs
  rw [← hs] at hs1 ⊢
  obtain ⟨c, hc⟩ : ∃ c, c = cutN q s := ⟨_, rfl⟩
  have hmin : ((q : Int) ≤ (s.size : Int) ∧ c = q) ∨ ((s.size : Int) < (q : Int) ∧ c = s.size) := by
    rw [hc]
    unfold cutN
    rcases Nat.lt_or_ge s.size q with h | h
    · right; exact ⟨by omega, by simp; omega⟩
    · left; exact ⟨by omega, by simp; omega⟩
  rw [← hc]
  have hnb : (minus.toList == [45]) = true := by rw [minus_list]; simp
  obtain ⟨nm, hnm⟩ : ∃ nm, nm = minus := ⟨_, rfl⟩
  rw [← hnm] at HFV HFB hnb ⊢
  have hcs : c ≤ s.size := by rcases hmin with h | h <;> omega
  clear hs hf hfl hgd hc hnm
  go_enter Tryd.func18, Tryd.ntmps18
  go_wp2_with fail
  refine (wo_none H.out).mono ?_
  rintro e w2 ⟨rfl, rfl⟩
  go_wp2_with fail
  refine (wo_find H.out _ nm hno).mono ?_
  rintro e w1 ⟨rfl, hb1⟩
  rw [HFV.out]
  have H1 := Lib.hid (H.out.pure hb1)
  have HT1 := Lib.hid (Tur.of_gr (F := F) hb1)
  clear hb1
  go_wp2_with fail
  refine (wo_fail H1.out 2 nm hnf).mono ?_
  rintro e w3 ⟨rfl, hb3⟩
  rw [HFB.out]
  have H3 := Lib.hid (H1.out.pure hb3)
  have HT3 := Lib.hid (HT1.out.trans (Tur.of_gr (F := F) hb3) (fun _ _ e => e))
  clear hb3
  have c9 : w3.cell? ⟨pb, 9, none⟩ = some (.string s) := HSS.out ▸ H3.out.cell 9
  have f9 := H3.out.free 9
  have hcs2 : (c : Int) ≤ (s.size : Int) := by omega
  have hc0 : (0 : Int) ≤ (c : Int) := by omega
  have HST := Lib.hid (H3.out.setHead (st' := { st with stdin := s.extract c s.size }) 9 (.string (s.extract c s.size)) (by rfl) rfl rfl rfl rfl rfl)
  have hmin2 : (c = q ∧ (q : Int) ≤ (s.size : Int)) ∨ (c = s.size ∧ ¬ (q : Int) ≤ (s.size : Int)) := by omega
  clear hmin
  rcases hmin2 with ⟨rfl, hm⟩ | ⟨rfl, hm⟩
  all_goals
    go_wp2_with fail
    go_ret2
    first
      | exact ⟨rfl, HST.out.1, HT3.out.trans HST.out.2 (fun _ _ e => e)⟩
      | (have he : s.extract s.size s.size = ByteArray.empty := by simp
         have h2 := HST.out
         rw [he] at h2 ⊢
         exact ⟨by first | rfl | (rw [show s.extract 0 s.size = s by simp]; rfl), h2.1, HT3.out.trans h2.2 (fun _ _ e => e)⟩)
set_option maxRecDepth 20000 in
set_option maxHeartbeats 4000000 in
theorem wo_read_st {w : World} {F : Nat → Prop} {pb : Nat} {M : Mem} {st : St} (h : WAt w F pb M st) (k : Int) (nm : ByteArray) (q : Nat) (hk : k = 1 ∨ k = 2) (hin : ¬ (k = 1 ∧ nm = minus)) (hno : st.opn.length ≤ 1000000000) (hnf : st.fails.length ≤ 1000000000) (hn : q ≤ 9223372036854775807) (hq1 : ¬ (q : Int) < 1)
    (i : Nat) (hf : find st k nm = some i) (hfl : failB st 2 nm = false) (s : ByteArray) (hs : s = (st.opn.getD i smZero).left) (hs1 : s.size ≤ 4294967296) :
    Calls Tryd.prog 18 #[.pointer (some ⟨pb, 0, none⟩), .int .u8 k, .string nm, .int .i64 q] w fun e w' => e = .returned (.tuple #[.string (s.extract 0 (cutN q s)), .int .i64 0]) ∧ WAt w' F pb M { st with opn := setAtL st.opn i (s.extract (cutN q s) s.size) } ∧ Tur F w w' := by
  have H := Lib.hid h
  clear h
  have hi : i < st.opn.length := (List.findIdx?_eq_some_iff_getElem.1 hf).1
  have HFV : Hid (findV M st k nm = .pointer (some ⟨M.gs.getD i 0, 0, none⟩)) := by unfold Hid findV; rw [hf]
  have HFB := Lib.hid hfl
  obtain ⟨g, hgd⟩ : ∃ g, M.gs.getD i 0 = g := ⟨_, rfl⟩
  rw [hgd] at HFV
  have HGD := Lib.hid hgd
  have HSE := Lib.hid hs
  have HII := Lib.hid hi
  obtain ⟨c, hc⟩ : ∃ c, c = cutN q s := ⟨_, rfl⟩
  have hmin : ((q : Int) ≤ (s.size : Int) ∧ c = q) ∨ ((s.size : Int) < (q : Int) ∧ c = s.size) := by
    rw [hc]
    unfold cutN
    rcases Nat.lt_or_ge s.size q with h | h
    · right; exact ⟨by omega, by simp; omega⟩
    · left; exact ⟨by omega, by simp; omega⟩
  rw [← hc]
  have hcs : c ≤ s.size := by rcases hmin with h | h <;> omega
  have hnb9 : k = 1 → (nm.toList == [45]) = false ∧ ¬ nm.toList = [45] := fun h => by
    have h2 : ¬ nm = minus := fun e => hin ⟨h, e⟩
    have h3 : (nm.toList == minus.toList) = false := by rw [str_eq]; exact decide_eq_false h2
    rw [minus_list] at h3
    exact ⟨h3, beq_eq_false_iff_ne.1 h3⟩
  have hk9 : (k = 1 ∧ (nm.toList == [45]) = false ∧ ¬ nm.toList = [45]) ∨ (k = 2 ∧ True ∧ True) := by
    rcases hk with h | h
    · exact .inl ⟨h, hnb9 h⟩
    · exact .inr ⟨h, trivial, trivial⟩
  clear hs hf hfl hgd hc hk hin hi hnb9
  rcases hk9 with ⟨rfl, hnb, hnb2⟩ | ⟨rfl, -, -⟩
  all_goals
    go_enter Tryd.func18, Tryd.ntmps18
    go_wp2_with fail
    refine (wo_none H.out).mono ?_
    rintro e w2 ⟨rfl, rfl⟩
    go_wp2_with fail
    refine (wo_find H.out _ nm hno).mono ?_
    rintro e w1 ⟨rfl, hb1⟩
    rw [HFV.out]
    have H1 := Lib.hid (H.out.pure hb1)
    have HT1 := Lib.hid (Tur.of_gr (F := F) hb1)
    clear hb1
    go_wp2_with fail
    refine (wo_fail H1.out 2 nm hnf).mono ?_
    rintro e w3 ⟨rfl, hb3⟩
    rw [HFB.out]
    have H3 := Lib.hid (H1.out.pure hb3)
    have HT3 := Lib.hid (HT1.out.trans (Tur.of_gr (F := F) hb3) (fun _ _ e => e))
    clear hb3
    have hst := H3.out.strm i HII.out
    have hst2 : Blk w3 g 109 (Sm.cells ⟨(st.opn.getD i smZero).k, (st.opn.getD i smZero).name, s⟩) := by
      obtain ⟨g', hg', hB⟩ := hst
      have e1 : g' = g := by rw [← HGD.out]; simp [List.getD, hg']
      have e2 : st.opn.getD i smZero = st.opn[i]'HII.out := by have := HII.out; simp [List.getD, this]
      rw [HSE.out, e2, ← e1]
      exact hB
    have c9 : w3.cell? ⟨g, 2, none⟩ = some (.string s) := hst2.cell 2
    have f9 := hst2.free 2
    have hcs2 : (c : Int) ≤ (s.size : Int) := by omega
    have hc0 : (0 : Int) ≤ (c : Int) := by omega
    have hsl := H3.out.setLeft i HII.out (s.extract c s.size)
    rw [HGD.out] at hsl
    have HST := Lib.hid hsl
    have hmin2 : (c = q ∧ (q : Int) ≤ (s.size : Int)) ∨ (c = s.size ∧ ¬ (q : Int) ≤ (s.size : Int)) := by omega
    clear hmin hst hst2 hsl
    rcases hmin2 with ⟨rfl, hm⟩ | ⟨rfl, hm⟩
    all_goals
      go_wp2_with fail
      go_ret2
      first
        | exact ⟨rfl, HST.out.1, HT3.out.trans HST.out.2 (fun _ _ e => e)⟩
        | (have he : s.extract s.size s.size = ByteArray.empty := by simp
           have h2 := HST.out
           rw [he] at h2 ⊢
           exact ⟨by first | rfl | (rw [show s.extract 0 s.size = s by simp]; rfl), h2.1, HT3.out.trans h2.2 (fun _ _ e => e)⟩)
end Go.Proofs.YtdbdmgmenojcaaaDoor
namespace Go.Proofs.YtdbdmgmenojcaaaDoor
open Go.RowKit Wd
open Go.WideMaps Go.WideElems Go.WideAt



end Go.Proofs.YtdbdmgmenojcaaaDoor
namespace Go.Proofs.YtdbdmgmenojcaaaDoor
open Go.RowKit Wd
set_option maxRecDepth 20000 in
set_option maxHeartbeats 4000000 in
theorem wo_read_kind {w : World} {F : Nat → Prop} {pb : Nat} {M : Mem} {st : St} (h : WAt w F pb M st) (k : Int) (nm : ByteArray) (n : Int) (hk : k ≠ 1 ∧ k ≠ 2) (hno : st.opn.length ≤ 1000000000) (hnf : st.fails.length ≤ 1000000000) :
    Calls Tryd.prog 18 #[.pointer (some ⟨pb, 0, none⟩), .int .u8 k, .string nm, .int .i64 n] w fun e w' => e = .returned (.tuple #[.string ⟨#[]⟩, .int .i64 16]) ∧ WAt w' F pb M st ∧ Tur F w w' := by
  have H := Lib.hid h
  have d1 : (k != 1) = true := by simp [hk.1]
  have d2 : (k != 2) = true := by simp [hk.2]
  have e1 : (k == 1) = false := by simp [hk.1]
  have e2 : (k == 2) = false := by simp [hk.2]
  clear h hk
  go_enter Tryd.func18, Tryd.ntmps18
  go_wp2_with fail
  refine (wo_none H.out).mono ?_
  rintro e w2 ⟨rfl, rfl⟩
  go_wp2_with fail
  refine (wo_find H.out _ nm hno).mono ?_
  rintro e w1 ⟨rfl, hb1⟩
  obtain ⟨fv, hfv⟩ : ∃ fv, fv = findV M st k nm := ⟨_, rfl⟩
  rw [← hfv]
  clear hfv
  have H1 := Lib.hid (H.out.pure hb1)
  have HT1 := Lib.hid (Tur.of_gr (F := F) hb1)
  clear hb1
  go_wp2_with fail
  go_ret2
  exact ⟨rfl, H1.out, HT1.out⟩
set_option maxRecDepth 20000 in
set_option maxHeartbeats 4000000 in
theorem wo_read_nil {w : World} {F : Nat → Prop} {pb : Nat} {M : Mem} {st : St} (h : WAt w F pb M st) (k : Int) (nm : ByteArray) (n : Int) (hk : k = 1 ∨ k = 2) (hf : find st k nm = none) (hno : st.opn.length ≤ 1000000000) (hnf : st.fails.length ≤ 1000000000) :
    Calls Tryd.prog 18 #[.pointer (some ⟨pb, 0, none⟩), .int .u8 k, .string nm, .int .i64 n] w fun e w' => e = .returned (.tuple #[.string ⟨#[]⟩, .int .i64 16]) ∧ WAt w' F pb M st ∧ Tur F w w' := by
  have H := Lib.hid h
  have HFV : Hid (findV M st k nm = .pointer none) := by unfold Hid findV; rw [hf]
  clear h hf
  rcases hk with rfl | rfl
  all_goals
    go_enter Tryd.func18, Tryd.ntmps18
    go_wp2_with fail
    refine (wo_none H.out).mono ?_
    rintro e w2 ⟨rfl, rfl⟩
    go_wp2_with fail
    refine (wo_find H.out _ nm hno).mono ?_
    rintro e w1 ⟨rfl, hb1⟩
    rw [HFV.out]
    have H1 := Lib.hid (H.out.pure hb1)
    have HT1 := Lib.hid (Tur.of_gr (F := F) hb1)
    clear hb1
    go_wp2_with fail
    go_ret2
    exact ⟨rfl, H1.out, HT1.out⟩
set_option maxRecDepth 20000 in
set_option maxHeartbeats 4000000 in
theorem wo_read_arg {w : World} {F : Nat → Prop} {pb : Nat} {M : Mem} {st : St} (h : WAt w F pb M st) (k : Int) (nm : ByteArray) (n : Int) (i : Nat) (hk : k = 1 ∨ k = 2) (hf : find st k nm = some i) (hn : n < 1) (hno : st.opn.length ≤ 1000000000) (hnf : st.fails.length ≤ 1000000000) :
    Calls Tryd.prog 18 #[.pointer (some ⟨pb, 0, none⟩), .int .u8 k, .string nm, .int .i64 n] w fun e w' => e = .returned (.tuple #[.string ⟨#[]⟩, .int .i64 2]) ∧ WAt w' F pb M st ∧ Tur F w w' := by
  have H := Lib.hid h
  have HFV : Hid (findV M st k nm = .pointer (some ⟨M.gs.getD i 0, 0, none⟩)) := by unfold Hid findV; rw [hf]
  generalize M.gs.getD i 0 = g at *
  clear h hf
  rcases hk with rfl | rfl
  all_goals
    go_enter Tryd.func18, Tryd.ntmps18
    go_wp2_with fail
    refine (wo_none H.out).mono ?_
    rintro e w2 ⟨rfl, rfl⟩
    go_wp2_with fail
    refine (wo_find H.out _ nm hno).mono ?_
    rintro e w1 ⟨rfl, hb1⟩
    rw [HFV.out]
    have H1 := Lib.hid (H.out.pure hb1)
    have HT1 := Lib.hid (Tur.of_gr (F := F) hb1)
    clear hb1
    go_wp2_with fail
    go_ret2
    exact ⟨rfl, H1.out, HT1.out⟩
set_option maxRecDepth 20000 in
set_option maxHeartbeats 4000000 in
theorem wo_read_fail {w : World} {F : Nat → Prop} {pb : Nat} {M : Mem} {st : St} (h : WAt w F pb M st) (k : Int) (nm : ByteArray) (n : Int) (i : Nat) (hk : k = 1 ∨ k = 2) (hf : find st k nm = some i) (hn : ¬ n < 1) (hfl : failB st 2 nm = true) (hno : st.opn.length ≤ 1000000000) (hnf : st.fails.length ≤ 1000000000) :
    Calls Tryd.prog 18 #[.pointer (some ⟨pb, 0, none⟩), .int .u8 k, .string nm, .int .i64 n] w fun e w' => e = .returned (.tuple #[.string ⟨#[]⟩, .int .i64 13]) ∧ WAt w' F pb M st ∧ Tur F w w' := by
  have H := Lib.hid h
  have HFV : Hid (findV M st k nm = .pointer (some ⟨M.gs.getD i 0, 0, none⟩)) := by unfold Hid findV; rw [hf]
  generalize M.gs.getD i 0 = g at *
  have HFB := Lib.hid hfl
  clear h hf hfl
  rcases hk with rfl | rfl
  all_goals
    go_enter Tryd.func18, Tryd.ntmps18
    go_wp2_with fail
    refine (wo_none H.out).mono ?_
    rintro e w2 ⟨rfl, rfl⟩
    go_wp2_with fail
    refine (wo_find H.out _ nm hno).mono ?_
    rintro e w1 ⟨rfl, hb1⟩
    rw [HFV.out]
    have H1 := Lib.hid (H.out.pure hb1)
    have HT1 := Lib.hid (Tur.of_gr (F := F) hb1)
    clear hb1
    go_wp2_with fail
    refine (wo_fail H1.out 2 nm hnf).mono ?_
    rintro e w3 ⟨rfl, hb3⟩
    rw [HFB.out]
    have H3 := Lib.hid (H1.out.pure hb3)
    have HT3 := Lib.hid (HT1.out.trans (Tur.of_gr (F := F) hb3) (fun _ _ e => e))
    clear hb3
    go_wp2_with fail
    go_ret2
    exact ⟨rfl, H3.out, HT3.out⟩






def Wd.sysN (st : St) (cmd : ByteArray) : Int := if replyB st cmd then (replyR st cmd).status else 127

end Go.Proofs.YtdbdmgmenojcaaaDoor
namespace Go.Proofs.YtdbdmgmenojcaaaDoor
open Go.RowKit Wd
def Wd.chanceW (n : Int) : Int := IntKind.u64.wrap (IntKind.u64.wrap (n * 6364136223846793005) + 1442695040888963407)

end Go.Proofs.YtdbdmgmenojcaaaDoor
