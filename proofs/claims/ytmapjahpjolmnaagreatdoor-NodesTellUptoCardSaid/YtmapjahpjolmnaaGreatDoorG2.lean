/- A region that draws its order, walked by a TREE of orders: reads (the same in every world that meets S) come first; one that stands alone; two, or three, that stand beside one another, each way by itself. No program in sight. -/
import Derived.Test.YtmapjahpjolmnaaGreatDoorG1
import Derived.Test.YtmapjahpjolmnaaGreatDoorProg
import Derived.Deep.Cut
import Derived.Deep.RegionHeld3
import Derived.BigQuiet
import Derived.Laws.EntriesVeiled
import Derived.StillTailTactics
import Derived.Deep.QuietTactic
set_option linter.unusedVariables false
set_option linter.unusedSimpArgs false
namespace Go.Proofs.YtmapjahpjolmnaaGreatDoor
open Go
inductive Ord where
  | done
  | read (i : Nat) (t : Ord)
  | alone (i : Nat) (t : Ord)
  | fork (i : Nat) (s : Ord) (j : Nat) (t : Ord)
  | fork3 (i : Nat) (s : Ord) (j : Nat) (t : Ord) (k : Nat) (u : Ord)
inductive OrdO where
  | done
  | read (o : Oper) (t : OrdO)
  | alone (o : Oper) (t : OrdO)
  | fork (o : Oper) (s : OrdO) (p : Oper) (t : OrdO)
  | fork3 (o : Oper) (s : OrdO) (p : Oper) (t : OrdO) (q : Oper) (u : OrdO)
def Ord.len : Ord → Nat
  | .done => 0
  | .read _ t => t.len + 1
  | .alone _ t => t.len + 1
  | .fork _ s _ _ => s.len + 1
  | .fork3 _ s _ _ _ _ => s.len + 1
def Ord.ops (ops : Array Oper) : Ord → OrdO
  | .done => .done
  | .read i t => match ops[i]? with
    | some o => .read o (t.ops ops)
    | none => .done
  | .alone i t => match ops[i]? with
    | some o => .alone o (t.ops ops)
    | none => .done
  | .fork i s j t => match ops[i]?, ops[j]? with
    | some o, some p => .fork o (s.ops ops) p (t.ops ops)
    | _, _ => .done
  | .fork3 i s j t k u => match ops[i]?, ops[j]?, ops[k]? with
    | some o, some p, some q => .fork3 o (s.ops ops) p (t.ops ops) q (u.ops ops)
    | _, _, _ => .done
def ordB (md : Region.Mode) (ops : Array Oper) : Ord → Array Bool → Bool
  | .done, l => (Region.ready md ops l).isEmpty
  | .read i t, l => (Region.ready md ops l).contains i && Region.free md ops l i && ordB md ops t (l.setIfInBounds i true)
  | .alone i t, l => decide (Region.ready md ops l = [i]) && ordB md ops t (l.setIfInBounds i true)
  | .fork i s j t, l => decide (Region.ready md ops l = [i, j]) && (decide (s.len = t.len) && (ordB md ops s (l.setIfInBounds i true) && ordB md ops t (l.setIfInBounds j true)))
  | .fork3 i s j t k u, l => decide (Region.ready md ops l = [i, j, k]) && (decide (s.len = t.len ∧ s.len = u.len) && (ordB md ops s (l.setIfInBounds i true) && (ordB md ops t (l.setIfInBounds j true) && ordB md ops u (l.setIfInBounds k true))))
def wpOrd (P : Program) (ops : Array Oper) (S : World → Prop) (Q : Exit → Act → World → Prop) : OrdO → Act → World → Prop
  | .done, a, w => Q .normal a w
  | .read o t, a, w => ∃ v, Reads P ops S o a v ∧ wpOrd P ops S Q t (a.put o.dst v) w
  | .alone o t, a, w => wpList P ops (Exit.then (fun a' w' => S w' ∧ wpOrd P ops S Q t a' w') Q) [o] a w
  | .fork o s p t, a, w => wpList P ops (Exit.then (fun a' w' => S w' ∧ wpOrd P ops S Q s a' w') Q) [o] a w ∧ wpList P ops (Exit.then (fun a' w' => S w' ∧ wpOrd P ops S Q t a' w') Q) [p] a w
  | .fork3 o s p t q u, a, w => wpList P ops (Exit.then (fun a' w' => S w' ∧ wpOrd P ops S Q s a' w') Q) [o] a w ∧ wpList P ops (Exit.then (fun a' w' => S w' ∧ wpOrd P ops S Q t a' w') Q) [p] a w ∧ wpList P ops (Exit.then (fun a' w' => S w' ∧ wpOrd P ops S Q u a' w') Q) [q] a w
section
variable {P : Program} {ops : Array Oper} {md : Region.Mode} {S : World → Prop} {Q : Exit → Act → World → Prop}
theorem ready_in {i : Nat} {r : List Nat} {l : Array Bool} (hB : Region.ready md ops l = r) (hi : i ∈ r) : ∃ o, ops[i]? = some o := ready_some (md := md) (l := l) (by rw [hB]; exact hi)
theorem any_ord (hsel : Region.noSelect ops = true) (hQ : ∀ c a d v w, Q (.panic c) (a.put d v) w → Q (.panic c) a w) : ∀ (t : Ord) (l : Array Bool) (a : Act) (w : World), ordB md ops t l = true → S w → wpOrd P ops S Q (t.ops ops) a w →
    wpAnyH P md ops Q S t.len l a w
  | .done, l, a, w, hB, _, h => ⟨by simpa [ordB] using hB, h⟩
  | .read i t, l, a, w, hB, hS, h => by
    simp only [ordB, Bool.and_eq_true] at hB
    have hr : i ∈ Region.ready md ops l := by simpa using hB.1.1
    obtain ⟨o, ho⟩ := ready_some hr
    simp only [Ord.ops, ho] at h
    obtain ⟨v, hy, h⟩ := h
    exact anyR_first ho (Region.noSelect_spec hsel) (fun c a w h => hQ c a _ _ w h) _ l a w (Region.free_spec ho hB.1.2) hr hy hS (any_ord hsel hQ t _ _ w hB.2 hS h)
  | .alone i t, l, a, w, hB, hS, h => by
    simp only [ordB, Bool.and_eq_true, decide_eq_true_eq] at hB
    obtain ⟨o, ho⟩ := ready_in hB.1 (List.mem_singleton.2 rfl)
    simp only [Ord.ops, ho] at h
    refine wpAnyH_all hB.1 (by simp) (fun j hj => ?_)
    simp only [List.mem_singleton] at hj
    subst hj
    exact wpOp_mono (fun a' w' h' => ⟨h'.1, any_ord hsel hQ t _ a' w' hB.2 h'.1 h'.2⟩) (wpOp_of_list' ho h)
  | .fork i s j t, l, a, w, hB, hS, h => by
    simp only [ordB, Bool.and_eq_true, decide_eq_true_eq] at hB
    obtain ⟨o, ho⟩ := ready_in (i := i) hB.1 (by simp)
    obtain ⟨p, hp⟩ := ready_in (i := j) hB.1 (by simp)
    simp only [Ord.ops, ho, hp] at h
    refine wpAnyH_all hB.1 (by simp) (fun x hx => ?_)
    simp only [List.mem_cons, List.not_mem_nil, or_false] at hx
    rcases hx with rfl | rfl
    · exact wpOp_mono (fun a' w' h' => ⟨h'.1, any_ord hsel hQ s _ a' w' hB.2.2.1 h'.1 h'.2⟩) (wpOp_of_list' ho h.1)
    · refine wpOp_mono (fun a' w' h' => ⟨h'.1, ?_⟩) (wpOp_of_list' hp h.2)
      show wpAnyH P md ops Q S s.len _ a' w'
      rw [hB.2.1]
      exact any_ord hsel hQ t _ a' w' hB.2.2.2 h'.1 h'.2
  | .fork3 i s j t k u, l, a, w, hB, hS, h => by
    simp only [ordB, Bool.and_eq_true, decide_eq_true_eq] at hB
    obtain ⟨o, ho⟩ := ready_in (i := i) hB.1 (by simp)
    obtain ⟨p, hp⟩ := ready_in (i := j) hB.1 (by simp)
    obtain ⟨q, hq⟩ := ready_in (i := k) hB.1 (by simp)
    simp only [Ord.ops, ho, hp, hq] at h
    refine wpAnyH_all hB.1 (by simp) (fun x hx => ?_)
    simp only [List.mem_cons, List.not_mem_nil, or_false] at hx
    rcases hx with rfl | rfl | rfl
    · exact wpOp_mono (fun a' w' h' => ⟨h'.1, any_ord hsel hQ s _ a' w' hB.2.2.1 h'.1 h'.2⟩) (wpOp_of_list' ho h.1)
    · refine wpOp_mono (fun a' w' h' => ⟨h'.1, ?_⟩) (wpOp_of_list' hp h.2.1)
      show wpAnyH P md ops Q S s.len _ a' w'
      rw [hB.2.1.1]
      exact any_ord hsel hQ t _ a' w' hB.2.2.2.1 h'.1 h'.2
    · refine wpOp_mono (fun a' w' h' => ⟨h'.1, ?_⟩) (wpOp_of_list' hq h.2.2)
      show wpAnyH P md ops Q S s.len _ a' w'
      rw [hB.2.1.2]
      exact any_ord hsel hQ u _ a' w' hB.2.2.2.2 h'.1 h'.2
/-- THE LAW. -/
theorem wp_region_ord {id : Nat} {a : Act} {w : World} {l : List Oper} (S : World → Prop) (t : Ord) (hm : P.follows .mixedOrders = true) (hB : (Region.noSelect l.toArray && (decide (t.len ≤ l.length) && ordB .any l.toArray t (Array.replicate l.length false))) = true)
    (hQ : ∀ c a d v w, Q (.panic c) (a.put d v) w → Q (.panic c) a w) (hS : S w.drew) (h : wpOrd P l.toArray S Q (t.ops l.toArray) a w.drew) : (Code.region id l.toArray true).wp P Q a w := by
  simp only [Bool.and_eq_true, decide_eq_true_eq] at hB
  refine wp_region_held (S := S) hm ?_
  have h1 := any_ord hB.1 hQ t _ a w.drew hB.2.2 hS h
  have h2 := any_fuel t.len (l.length - t.len) _ a w.drew h1
  rw [show t.len + (l.length - t.len) = l.toArray.size by have := hB.2.1; simp; omega] at h2
  exact (by simpa using h2)
theorem ord_read {o : Oper} {t : OrdO} {a : Act} {w : World} (a2 : Act)
    (h : ∀ w, S w → ∀ M : Act → World → Prop, M a2 w → wpList P ops (Exit.then M (fun _ _ _ => False)) [o] a w)
    (he : a.put o.dst (valOf o.dst a2) = a2) (h2 : wpOrd P ops S Q t a2 w) : wpOrd P ops S Q (.read o t) a w :=
  ⟨valOf o.dst a2, fun w hS w' e => by subst e; exact h w' hS _ ⟨he.symm, rfl⟩, by rw [he]; exact h2⟩
theorem ord_alone {o : Oper} {t : OrdO} {a : Act} {w : World}
    (h : ∀ M : Act → World → Prop, (∀ a' w', S w' → wpOrd P ops S Q t a' w' → M a' w') → wpList P ops (Exit.then M Q) [o] a w) : wpOrd P ops S Q (.alone o t) a w :=
  h _ (fun _ _ h1 h2 => ⟨h1, h2⟩)
end
end Go.Proofs.YtmapjahpjolmnaaGreatDoor
namespace Go.Proofs.YtmapjahpjolmnaaGreatDoor
open Go.RowKit Tr
theorem cells_ne {w : World} {a b : Nat} {t u : TypeId} {cs cu : Array Value} (h : w.heap[a]? = some (.cells cs t (0, 0))) (k : w.heap[b]? = some (.cells cu u (0, 0))) (hne : t ≠ u) : a ≠ b := by
  rintro rfl; rw [h] at k; injection k with k; injection k with _ h2; exact hne h2
/-- What a walk needs of its closure on expressions. -/
structure WkE {σ : Type} (I : σ → World → Prop) (se : σ → XE → Int → σ) (most : Int) (Bd wb f : Nat) (caps : Array Value) (fs : Value) (Fr : Nat → Prop) (w0 : World) : Prop where
  m0 : 0 ≤ most
  m1 : most ≤ 100
  box : ∀ a w, I a w → Blk w wb 62 #[.func (.func f) #[] caps, fs, .int .i64 most]
  below : ∀ a w, I a w → Below Bd w0 w
  drew : ∀ a w, I a w → I a w.drew
  run : ∀ (args : Array Value) (w : World), (callFunc f args).run Tryz.prog w = .ok (.enter f args) w
  call : ∀ (a : σ) (w : World) (b o : Nat) (e : XE) (kv : Value) (d : Int), I a w → ecells w b o e kv → EsAt w Bd e.kids kv → b < Bd → e.Ok → 0 ≤ d → d ≤ most →
    Calls Tryz.prog f (#[.pointer (some ⟨b, o, none⟩), .int .i64 d] ++ caps) w fun en w' => en = .returned (.tuple #[]) ∧ I (se a e d) w' ∧ Tur Fr w w'
set_option maxRecDepth 20000 in
set_option maxHeartbeats 4000000 in
theorem w_exprs {σ : Type} {I : σ → World → Prop} {se : σ → XE → Int → σ} {most : Int} {Bd wb f : Nat} {caps : Array Value} {fs : Value} {Fr : Nat → Prop} {w0 : World} (W : WkE I se most Bd wb f caps fs Fr w0) {l : List XE} {v : Value} (h : EsAt w0 Bd l v) :
    ∀ (d : Int) (a : σ) (w : World), I a w → 0 ≤ d → d ≤ 101 → Calls Tryz.prog 24 #[.pointer (some ⟨wb, 0, none⟩), v, .int .i64 d] w fun en w' => en = .returned (.tuple #[]) ∧ I (foldEs se most l d a) w' ∧ Tur Fr w w' := by
  induction h with
  | @mk l A cap kv hc hm hat hok hk ih =>
    intro d a w hI h0 h1
    have HI := Lib.hid hI
    have HAT := Lib.hid hat
    have HOK := Lib.hid hok
    have HK := Lib.hid hk
    have IH := Lib.hid ih
    have HW := Lib.hid W
    have hm0 := W.m0
    have hm1 := W.m1
    have hcl : cap < 9223372036854775808 := by unfold maxLen at hm; omega
    clear hI hat hok hk ih W
    go_enter Tryz.func24, Tryz.ntmps24
    go_wp2_with fail
    go_loopw [6, 9] (fun _ v9 wr => ∃ i : Nat, v9 = .int .i64 i ∧ i ≤ l.length ∧ I (foldEs se most (l.take i) d a) wr ∧ Tur Fr w wr) (fun _ v9 _ => l.length - (intOf v9).toNat)
    case atStart => exact ⟨0, rfl, Nat.zero_le _, by rw [List.take_zero, foldEs_nil]; exact HI.out, Tur.refl _ _⟩
    case round =>
      obtain ⟨i, rfl, hi, hir, htr⟩ := hrel
      have HR := Lib.hid hir
      have HT := Lib.hid htr
      clear hir htr
      by_cases hlt : i < l.length
      · obtain ⟨b, o, rfl, hbB, hcells⟩ := HAT.out (by omega)
        have HC := Lib.hid (hcells i hlt)
        have HBX := Lib.hid (HW.out.box _ _ HR.out)
        have HBB := Lib.hid hbB
        clear hcells hbB
        obtain ⟨x0, x1, x2⟩ : wr.cell? ⟨wb, 0, none⟩ = some (.func (.func f) #[] caps) ∧ wr.cell? ⟨wb, 1, none⟩ = some fs ∧ wr.cell? ⟨wb, 2, none⟩ = some (.int .i64 most) := ⟨HBX.out.cell 0, HBX.out.cell 1, HBX.out.cell 2⟩
        by_cases hd : most < d
        · clear x0 x1
          go_wp2_with fail
          ((try simp only [Exit.inBlock, Exit.then]); refine bodyPost_ret (results_none rfl _ _ _) rfl ?_)
          refine ⟨rfl, ?_, HT.out⟩
          have h2 := HR.out
          rw [foldEs_deep _ _ hd] at h2 ⊢
          exact h2
        · clear x0 x1
          go_upto_region 4 with (fail)
          clear x2
          have HRD := Lib.hid (HW.out.drew _ _ HR.out)
          have HBD := Lib.hid (HW.out.box _ _ HRD.out)
          have HCD := Lib.hid (HC.out.keep (HW.out.below _ _ HRD.out) HBB.out)
          refine wp_region_noPanic ?_
          refine wp_region_ord (fun wd => Blk wd wb 62 #[.func (.func f) #[] caps, fs, .int .i64 most]) (.read 0 (.read 1 (.read 2 (.read 3 (.read 4 (.read 5 (.read 6 (.read 7 (.alone 8 .done))))))))) (by kernel_rfl) (by kernel_rfl) (fun _ _ _ _ _ h => h) HBD.out ?_
          simp only [Ord.ops, List.getElem?_toArray, List.getElem?_cons_zero, List.getElem?_cons_succ]
          have HTD : Hid (Tur Fr w wr.drew) := HT.out.trans ((Tur.of_below (Below.refl wr.heap.size wr).drew).mono (fun i h1 h2 => absurd h2 (by omega))) (fun _ _ h => h)
          generalize wr.drew = wq at *
          iterate 8 (
            refine ord_read ?_ (fun wd hS M hM => ?_) ?_ ?_
            rotate_left
            · have HM := Lib.hid hM
              have x0 : wd.cell? ⟨wb, 0, none⟩ = some (.func (.func f) #[] caps) := hS.cell 0
              clear hM hS
              repeat (first | go_values | go_skip | go_guarded | go_step | go_upon)
              exact HM.out
            · rfl)
          refine ord_alone (fun M hM => ?_)
          have HM := Lib.hid hM
          clear hM
          have hrun := HW.out.run
          repeat (first | go_values | go_skip | go_guarded | go_step | go_upon)
          refine (HW.out.call _ _ b (o + i * 4) l[i] (kv i) d HRD.out HCD.out ((HK.out i hlt).keep (HW.out.below _ _ HRD.out)) HBB.out (HOK.out i hlt) h0 (by omega)).mono ?_
          rintro en w4 ⟨rfl, hI4, ht4⟩
          have HI4 := Lib.hid hI4
          have HT4 := Lib.hid (HTD.out.trans ht4 (fun _ _ h => h))
          clear ht4
          have HC4 := Lib.hid (HC.out.keep (HW.out.below _ _ hI4) HBB.out)
          clear hI4
          dsimp only
          repeat (first | go_values | go_skip | go_guarded | go_step | go_upon)
          refine HM.out _ _ (HW.out.box _ _ HI4.out) ?_
          clear HM M
          refine NoPanic.normal (?_ : _)
          have x3 := HC4.out.2.2.2
          clear hrun
          go_wp2_with fail
          refine (IH.out i hlt (d + 1) _ w4 HI4.out (by omega) (by omega)).mono ?_
          rintro en w5 ⟨rfl, hI5, ht5⟩
          have HT5 := Lib.hid (HT4.out.trans ht5 (fun _ _ h => h))
          clear ht5
          have HI5 : Hid (I (foldEs se most (l.take (i + 1)) d a) w5) := by
            unfold Hid
            rw [foldEs_take _ _ (by omega) l i hlt, foldE_eq]
            exact hI5
          clear hI5 x3
          go_wp2_with fail
          go_roundw
          case rel => exact ⟨i + 1, by go_num, by omega, HI5.out, HT5.out⟩
          case measure => simp [intOf]; omega
      · rw [List.take_of_length_le (by omega)] at HR
        go_wp2_with fail
        go_end0
        exact ⟨rfl, HR.out, HT.out⟩
theorem scellsT.keep {w w' : World} {Bd b o : Nat} {e : XS} {x y z : Value} (h : scellsT w b o e x y z) (hb : Below Bd w w') (hlt : b < Bd) : scellsT w' b o e x y z := by
  unfold scellsT at h ⊢
  simp only [cell_keep hb hlt]
  exact h
/-- .. and of its closure on statements. -/
structure WkS {σ : Type} (I : σ → World → Prop) (se : σ → XE → Int → σ) (ss : σ → XS → Int → σ) (most : Int) (Bd wb f : Nat) (caps : Array Value) (fg : Nat) (cs : Array Value) (Fr : Nat → Prop) (w0 : World) : Prop where
  e : WkE I se most Bd wb f caps (.func (.func fg) #[] cs) Fr w0
  run : ∀ (args : Array Value) (w : World), (callFunc fg args).run Tryz.prog w = .ok (.enter fg args) w
  call : ∀ (a : σ) (w : World) (b o : Nat) (e : XS) (ev bv lv : Value) (d : Int), I a w → scellsT w b o e ev bv lv → EsAt w Bd e.exprs ev → SsAt w Bd e.body bv → SsAt w Bd e.els lv → b < Bd → e.Ok → 0 ≤ d → d ≤ most →
    Calls Tryz.prog fg (#[.pointer (some ⟨b, o, none⟩), .int .i64 d] ++ cs) w fun en w' => en = .returned (.tuple #[]) ∧ I (ss a e d) w' ∧ Tur Fr w w'
set_option maxRecDepth 20000 in
set_option maxHeartbeats 4000000 in
theorem w_stmts {σ : Type} {I : σ → World → Prop} {se : σ → XE → Int → σ} {ss : σ → XS → Int → σ} {most : Int} {Bd wb f : Nat} {caps : Array Value} {fg : Nat} {cs : Array Value} {Fr : Nat → Prop} {w0 : World} (W : WkS I se ss most Bd wb f caps fg cs Fr w0) {l : List XS} {v : Value} (h : SsAt w0 Bd l v) :
    ∀ (d : Int) (a : σ) (w : World), I a w → 0 ≤ d → d ≤ 101 → Calls Tryz.prog 25 #[.pointer (some ⟨wb, 0, none⟩), v, .int .i64 d] w fun en w' => en = .returned (.tuple #[]) ∧ I (foldSs se ss most l d a) w' ∧ Tur Fr w w' := by
  induction h with
  | @mk l A cap ev bv lv hc hm hat hok he hb hl ih1 ih2 =>
    intro d a w hI h0 h1
    have HI := Lib.hid hI
    have HAT := Lib.hid hat
    have HOK := Lib.hid hok
    have HE := Lib.hid he
    have HB := Lib.hid hb
    have HL := Lib.hid hl
    have IH1 := Lib.hid ih1
    have IH2 := Lib.hid ih2
    have HW := Lib.hid W
    have hm0 := W.e.m0
    have hm1 := W.e.m1
    have hcl : cap < 9223372036854775808 := by unfold maxLen at hm; omega
    clear hI hat hok he hb hl ih1 ih2 W
    go_enter Tryz.func25, Tryz.ntmps25
    go_wp2_with fail
    go_loopw [6, 9] (fun _ v9 wr => ∃ i : Nat, v9 = .int .i64 i ∧ i ≤ l.length ∧ I (foldSs se ss most (l.take i) d a) wr ∧ Tur Fr w wr) (fun _ v9 _ => l.length - (intOf v9).toNat)
    case atStart => exact ⟨0, rfl, Nat.zero_le _, by rw [List.take_zero, foldSs_nil]; exact HI.out, Tur.refl _ _⟩
    case round =>
      obtain ⟨i, rfl, hi, hir, htr⟩ := hrel
      have HR := Lib.hid hir
      have HT := Lib.hid htr
      clear hir htr
      by_cases hlt : i < l.length
      · obtain ⟨b, o, rfl, hbB, hcells⟩ := HAT.out (by omega)
        have HC := Lib.hid (hcells i hlt)
        have HBX := Lib.hid (HW.out.e.box _ _ HR.out)
        have HBB := Lib.hid hbB
        clear hcells hbB
        have x2 : wr.cell? ⟨wb, 2, none⟩ = some (.int .i64 most) := HBX.out.cell 2
        by_cases hd : most < d
        · go_wp2_with fail
          ((try simp only [Exit.inBlock, Exit.then]); refine bodyPost_ret (results_none rfl _ _ _) rfl ?_)
          refine ⟨rfl, ?_, HT.out⟩
          have h2 := HR.out
          rw [foldSs_deep _ _ _ hd] at h2 ⊢
          exact h2
        · go_upto_region 4 with (fail)
          clear x2
          have HRD := Lib.hid (HW.out.e.drew _ _ HR.out)
          have HBD := Lib.hid (HW.out.e.box _ _ HRD.out)
          have HCD := Lib.hid (HC.out.keep (HW.out.e.below _ _ HRD.out) HBB.out)
          refine wp_region_noPanic ?_
          refine wp_region_ord (fun wd => Blk wd wb 62 #[.func (.func f) #[] caps, .func (.func fg) #[] cs, .int .i64 most]) (.read 0 (.read 1 (.read 2 (.read 3 (.read 4 (.read 5 (.read 6 (.read 7 (.alone 8 .done))))))))) (by kernel_rfl) (by kernel_rfl) (fun _ _ _ _ _ h => h) HBD.out ?_
          simp only [Ord.ops, List.getElem?_toArray, List.getElem?_cons_zero, List.getElem?_cons_succ]
          have HTD : Hid (Tur Fr w wr.drew) := HT.out.trans ((Tur.of_below (Below.refl wr.heap.size wr).drew).mono (fun i h1 h2 => absurd h2 (by omega))) (fun _ _ h => h)
          generalize wr.drew = wq at *
          iterate 8 (
            refine ord_read ?_ (fun wd hS M hM => ?_) ?_ ?_
            rotate_left
            · have HM := Lib.hid hM
              have x1 : wd.cell? ⟨wb, 1, none⟩ = some (.func (.func fg) #[] cs) := hS.cell 1
              clear hM hS
              repeat (first | go_values | go_skip | go_guarded | go_step | go_upon)
              exact HM.out
            · rfl)
          refine ord_alone (fun M hM => ?_)
          have HM := Lib.hid hM
          clear hM
          have hrun := HW.out.run
          repeat (first | go_values | go_skip | go_guarded | go_step | go_upon)
          have hbk := HW.out.e.below _ _ HRD.out
          refine (HW.out.call _ _ b (o + i * 7) l[i] (ev i) (bv i) (lv i) d HRD.out HCD.out ((HE.out i hlt).keep hbk) ((HB.out i hlt).keep hbk) ((HL.out i hlt).keep hbk) HBB.out (HOK.out i hlt) h0 (by omega)).mono ?_
          clear hbk
          rintro en w4 ⟨rfl, hI4, ht4⟩
          have HI4 := Lib.hid hI4
          have HT4 := Lib.hid (HTD.out.trans ht4 (fun _ _ h => h))
          clear ht4
          have HC4 := Lib.hid (HC.out.keep (HW.out.e.below _ _ hI4) HBB.out)
          clear hI4
          dsimp only
          repeat (first | go_values | go_skip | go_guarded | go_step | go_upon)
          refine HM.out _ _ (HW.out.e.box _ _ HI4.out) ?_
          clear HM M
          refine NoPanic.normal (?_ : _)
          have x3 := HC4.out.2.2.2.1
          clear hrun
          go_wp2_with fail
          refine (w_exprs HW.out.e (HE.out i hlt) (d + 1) _ w4 HI4.out (by omega) (by omega)).mono ?_
          rintro en w5 ⟨rfl, hI5, ht5⟩
          have HT5 := Lib.hid (HT4.out.trans ht5 (fun _ _ h => h))
          clear ht5
          have HI5 := Lib.hid hI5
          have HC5 := Lib.hid (HC.out.keep (HW.out.e.below _ _ hI5) HBB.out)
          clear hI5 x3
          have x4 := HC5.out.2.2.2.2.1
          go_wp2_with fail
          refine (IH1.out i hlt (d + 1) _ w5 HI5.out (by omega) (by omega)).mono ?_
          rintro en w6 ⟨rfl, hI6, ht6⟩
          have HT6 := Lib.hid (HT5.out.trans ht6 (fun _ _ h => h))
          clear ht6
          have HI6 := Lib.hid hI6
          have HC6 := Lib.hid (HC.out.keep (HW.out.e.below _ _ hI6) HBB.out)
          clear hI6 x4
          have x5 := HC6.out.2.2.2.2.2.1
          go_wp2_with fail
          refine (IH2.out i hlt (d + 1) _ w6 HI6.out (by omega) (by omega)).mono ?_
          rintro en w7 ⟨rfl, hI7, ht7⟩
          have HT7 := Lib.hid (HT6.out.trans ht7 (fun _ _ h => h))
          clear ht7
          have HI7 : Hid (I (foldSs se ss most (l.take (i + 1)) d a) w7) := by
            unfold Hid
            rw [foldSs_take _ _ _ (by omega) l i hlt, foldS_eq]
            exact hI7
          clear hI7 x5
          go_wp2_with fail
          go_roundw
          case rel => exact ⟨i + 1, by go_num, by omega, HI7.out, HT7.out⟩
          case measure => simp [intOf]; omega
      · rw [List.take_of_length_le (by omega)] at HR
        go_wp2_with fail
        go_end0
        exact ⟨rfl, HR.out, HT.out⟩
end Go.Proofs.YtmapjahpjolmnaaGreatDoor
namespace Go.Proofs.YtmapjahpjolmnaaGreatDoor.Lex
open Go

def dig (b : Int) : Bool := decide (48 ≤ b) && decide (b ≤ 57)
def let_ (b : Int) : Bool := (decide (97 ≤ b) && decide (b ≤ 122)) || (decide (65 ≤ b) && decide (b ≤ 90)) || decide (b = 95)
def word (b : Int) : Bool := let_ b || dig b
def blank (b : Int) : Bool := decide (b = 32) || decide (b = 9) || decide (b = 13)
def noLine (b : Int) : Bool := !decide (b = 10)

def runL (p : Int → Bool) (l : List UInt8) : Nat := (l.takeWhile fun c => p c.toNat).length
theorem runL_le (p : Int → Bool) (l : List UInt8) : runL p l ≤ l.length := by
  unfold runL
  exact (List.takeWhile_prefix _).length_le
theorem runL_nil (p : Int → Bool) : runL p [] = 0 := rfl
theorem runL_cons (p : Int → Bool) (c : UInt8) (l : List UInt8) : runL p (c :: l) = if p c.toNat then 1 + runL p l else 0 := by
  unfold runL
  rw [List.takeWhile_cons]
  split <;> simp [Nat.add_comm]
theorem runL_is {p : Int → Bool} {l : List UInt8} {n : Nat} (hn : n ≤ l.length) (h1 : ∀ j, (hj : j < l.length) → j < n → p l[j].toNat = true) (h2 : ∀ h : n < l.length, p l[n].toNat = false) : runL p l = n := by
  induction l generalizing n with
  | nil => simp at hn; simp [runL_nil, hn]
  | cons c l ih =>
    rw [runL_cons]
    cases n with
    | zero => have := h2 (by simp); simp at this; simp [this]
    | succ n =>
      have h0 := h1 0 (by simp) (by omega)
      simp at h0
      rw [if_pos h0, ih (n := n) (by simpa using hn) (fun j hj hjn => by have := h1 (j + 1) (by simpa using hj) (by omega); simpa using this) (fun h => by have := h2 (by simpa using h); simpa using this)]
      omega
theorem runL_end {p : Int → Bool} {l : List UInt8} (h : runL p l < l.length) : p (l[runL p l]'h).toNat = false := by
  induction l with
  | nil => simp [runL_nil] at h
  | cons c l ih =>
    by_cases hc : p c.toNat = true
    · have e : runL p (c :: l) = runL p l + 1 := by rw [runL_cons, if_pos hc, Nat.add_comm]
      have h' : runL p l < l.length := by rw [e] at h; simpa using h
      have := ih h'
      simp only [e, List.getElem_cons_succ]
      exact this
    · have e : runL p (c :: l) = 0 := by rw [runL_cons, if_neg hc]
      simp only [e, List.getElem_cons_zero]
      simpa using hc
/-- What is passed over: outside (false) and within (true) a remark. -/
def passM : Bool → List UInt8 → Nat
  | _, [] => 0
  | true, c :: r => if c.toNat = 10 then 0 else 1 + passM true r
  | false, c :: r => if blank c.toNat then 1 + passM false r else if c.toNat = 35 then 1 + passM true r else if c.toNat = 92 then (match r with | [] => 0 | d :: r' => if d.toNat = 10 then 2 + passM false r' else 0) else 0
abbrev passL : List UInt8 → Nat := passM false
theorem passM_true (l : List UInt8) : passM true l = runL noLine l := by
  induction l with
  | nil => rfl
  | cons c l ih =>
    rw [runL_cons]
    unfold passM
    rw [ih]
    by_cases h : c.toNat = 10
    · rw [if_pos h, if_neg (by simp [noLine, h])]
    · rw [if_neg h, if_pos (by simp [noLine]; omega)]
theorem passM_le (b : Bool) (l : List UInt8) : passM b l ≤ l.length := by
  fun_induction passM b l with
  | case1 => simp
  | case2 => simp
  | case3 => simp; omega
  | case4 => simp; omega
  | case5 => simp; omega
  | case6 => simp
  | case7 => simp; omega
  | case8 => simp
  | case9 => simp
theorem passL_cons (c : UInt8) (r : List UInt8) : passL (c :: r) = if blank c.toNat then 1 + passL r else if c.toNat = 35 then 1 + runL noLine r else if c.toNat = 92 then (match r with | [] => 0 | d :: r' => if d.toNat = 10 then 2 + passL r' else 0) else 0 := by
  rw [← passM_true]
  unfold passL
  cases r with
  | nil => simp only [passM]
  | cons d r' => simp only [passM]
/-- By blanks: one behind the other. -/
theorem passL_blanks (l : List UInt8) : passL l = runL blank l + passL (l.drop (runL blank l)) := by
  induction l with
  | nil => rfl
  | cons c l ih =>
    rw [runL_cons]
    by_cases h : blank c.toNat = true
    · rw [if_pos h, passL_cons, if_pos h, ih, Nat.add_comm 1 (runL blank l), List.drop_succ_cons]; omega
    · rw [if_neg h]; simp
theorem passL_remark {c : UInt8} {r : List UInt8} (h : c.toNat = 35) : passL (c :: r) = 1 + runL noLine r ∧ passL ((c :: r).drop (1 + runL noLine r)) = 0 := by
  refine ⟨by rw [passL_cons, if_neg (by simp [blank, h]), if_pos h], ?_⟩
  rw [Nat.add_comm, List.drop_succ_cons]
  cases hd : r.drop (runL noLine r) with
  | nil => rfl
  | cons d r' =>
    have hlt : runL noLine r < r.length := by
      by_cases hlt : runL noLine r < r.length
      · exact hlt
      · rw [List.drop_eq_nil_of_le (by omega)] at hd; cases hd
    have h2 := runL_end hlt
    rw [List.drop_eq_getElem_cons hlt] at hd
    injection hd with hd1 hd2
    rw [hd1] at h2
    have h3 : d.toNat = 10 := by simp [noLine] at h2; omega
    rw [passL_cons]
    simp [blank, h3]
theorem passL_two {c d : UInt8} {r : List UInt8} (hc : c.toNat = 92) (hd : d.toNat = 10) : passL (c :: d :: r) = 2 + passL r := by
  rw [passL_cons, if_neg (by simp [blank, hc]), if_neg (by omega), if_pos hc]
  simp [hd]
theorem passL_stop {l : List UInt8} (h0 : runL blank l = 0) (h1 : ¬ (∃ r, l = 35 :: r)) (h2 : ¬ ∃ r, l = 92 :: 10 :: r) : passL l = 0 := by
  cases l with
  | nil => rfl
  | cons c r =>
    rw [runL_cons] at h0
    have hb : ¬ blank c.toNat = true := by intro hb; rw [if_pos hb] at h0; omega
    have hc : ¬ c.toNat = 35 := fun e => h1 ⟨r, by rw [show c = 35 from UInt8.toNat_inj.1 e]⟩
    rw [passL_cons, if_neg hb, if_neg hc]
    split
    · rename_i h92
      cases r with
      | nil => rfl
      | cons d r' =>
        have hd : ¬ d.toNat = 10 := fun e => h2 ⟨r', by rw [show c = 92 from UInt8.toNat_inj.1 h92, show d = 10 from UInt8.toNat_inj.1 e]⟩
        simp [hd]
    · rfl
/-- How many lines: ends of lines ahead. -/
def lines (l : List UInt8) : Nat := l.count 10
def lineL (l : List UInt8) (at_ : Int) : Int := if at_ < 0 ∨ (l.length : Int) < at_ then 0 else 1 + (lines (l.take at_.toNat) : Int)
/-- How long the number is that a text begins with. -/
def num1 (l : List UInt8) : Nat :=
  let n := runL dig l
  match l.drop n with
  | [] => n
  | c :: r => if c.toNat = 46 ∧ 0 < n + runL dig r then n + 1 + runL dig r else n
def signL (r : List UInt8) : Nat := match r with
  | [] => 0
  | d :: _ => if d.toNat = 43 ∨ d.toNat = 45 then 1 else 0
def numL (l : List UInt8) : Nat :=
  let n := num1 l
  if n = 0 then 0 else match l.drop n with
  | [] => n
  | c :: r => if c.toNat = 101 ∨ c.toNat = 69 then (let k := runL dig (r.drop (signL r)); if 0 < k then n + 1 + signL r + k else n) else n
end Go.Proofs.YtmapjahpjolmnaaGreatDoor.Lex
