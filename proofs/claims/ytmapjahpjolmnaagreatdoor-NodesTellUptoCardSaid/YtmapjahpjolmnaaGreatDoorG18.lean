/- nodes.Size. -/
import Derived.Test.YtmapjahpjolmnaaGreatDoorG2
import Derived.Test.YtmapjahpjolmnaaGreatDoorG16
import Derived.Test.YtmapjahpjolmnaaGreatDoorG17
import Derived.Lib.LaidTab
import Derived.Lib.ItoaMem
import Derived.Lib.AppendIntMem
import Derived.Test.YtmapjahpjolmnaaGreatDoorShelf
set_option linter.unusedVariables false
set_option linter.unusedSimpArgs false
namespace Go.Proofs.YtmapjahpjolmnaaGreatDoor
open Go.RowKit Tr
set_option maxRecDepth 20000 in
set_option maxHeartbeats 4000000 in
theorem w_count {w : World} {nb db : Nat} {n d deep : Int} (hn : Blk w nb 3 #[.int .i64 n]) (hd : Blk w db 3 #[.int .i64 d]) (hne : nb ≠ db) (h0 : 0 ≤ d) (h1 : d ≤ 1000) (h2 : 0 ≤ deep) (h3 : deep ≤ 1000) :
    Calls Tryz.prog 21 #[.int .i64 deep, .pointer (some ⟨nb, 0, none⟩), .pointer (some ⟨db, 0, none⟩)] w fun e w' => e = .returned (.tuple #[]) ∧ w' = (w.setCell ⟨nb, 0, none⟩ (.int .i64 (wrap64 (n + 1)))).setCell ⟨db, 0, none⟩ (.int .i64 (max d deep)) := by
  have c0 : w.cell? ⟨nb, 0, none⟩ = some (.int .i64 n) := hn.cell 0
  have c1 : w.cell? ⟨db, 0, none⟩ = some (.int .i64 d) := hd.cell 0
  have f0 := hn.free 0
  have f1 := hd.free 0
  clear hn hd
  go_enter Tryz.func21, Tryz.ntmps21
  go_wp2_with fail
  all_goals
    go_end0
    exact ⟨rfl, by first | rfl | rw [Int.max_eq_right (by omega)] | rw [Int.max_eq_left (by omega)]⟩
theorem wrap_add (x : Int) : wrap64 (wrap64 x + 1) = wrap64 (x + 1) := by
  unfold wrap64
  omega
theorem alloc_keep {w : World} {g : Nat} {t : TypeId} {cs : Array Value} (h : Blk w g t cs) (o : Obj) : Blk (w.alloc o) g t cs := h.keep (Tur.of_alloc (F := fun _ => False) _ o) (fun h => h)
/-- Five blocks, one behind the other. -/
theorem five_new (w : World) (t0 t1 t2 t3 t4 : TypeId) (c0 c1 c2 c3 c4 : Array Value) : ∃ w5, w5 = ((((w.alloc (.cells c0 t0)).alloc (.cells c1 t1)).alloc (.cells c2 t2)).alloc (.cells c3 t3)).alloc (.cells c4 t4) ∧ Below w.heap.size w w5 ∧
    Blk w5 w.heap.size t0 c0 ∧ Blk w5 (w.heap.size + 1) t1 c1 ∧ Blk w5 (w.heap.size + 1 + 1) t2 c2 ∧ Blk w5 (w.heap.size + 1 + 1 + 1) t3 c3 ∧ Blk w5 (w.heap.size + 1 + 1 + 1 + 1) t4 c4 := by
  refine ⟨_, rfl, (((((Below.refl _ _).alloc (Nat.le_refl _) _).alloc (by simp) _).alloc (by simp; omega) _).alloc (by simp; omega) _).alloc (by simp; omega) _, ?_, ?_, ?_, ?_, ?_⟩
  · exact alloc_keep (alloc_keep (alloc_keep (alloc_keep (Blk.new w t0 c0) _) _) _) _
  · have h := Blk.new (w.alloc (.cells c0 t0)) t1 c1
    rw [World.size_alloc] at h
    exact alloc_keep (alloc_keep (alloc_keep h _) _) _
  · have h := Blk.new ((w.alloc (.cells c0 t0)).alloc (.cells c1 t1)) t2 c2
    rw [World.size_alloc, World.size_alloc] at h
    exact alloc_keep (alloc_keep h _) _
  · have h := Blk.new (((w.alloc (.cells c0 t0)).alloc (.cells c1 t1)).alloc (.cells c2 t2)) t3 c3
    rw [World.size_alloc, World.size_alloc, World.size_alloc] at h
    exact alloc_keep h _
  · have h := Blk.new ((((w.alloc (.cells c0 t0)).alloc (.cells c1 t1)).alloc (.cells c2 t2)).alloc (.cells c3 t3)) t4 c4
    rw [World.size_alloc, World.size_alloc, World.size_alloc, World.size_alloc] at h
    exact h
/-- What Size's closures hold. -/
structure SzI (nb db cb wb B : Nat) (w0 : World) (a : Int × Int) (w : World) : Prop where
  below : Below B w0 w
  n : Blk w nb 3 #[.int .i64 (wrap64 a.1)]
  d : Blk w db 3 #[.int .i64 a.2]
  c : Blk w cb 55 #[.func (.func 21) #[] #[.pointer (some ⟨nb, 0, none⟩), .pointer (some ⟨db, 0, none⟩)]]
  wk : Blk w wb 62 #[.func (.func 22) #[] #[.pointer (some ⟨cb, 0, none⟩)], .func (.func 23) #[] #[.pointer (some ⟨cb, 0, none⟩)], .int .i64 61]
  r0 : 0 ≤ a.2
  r1 : a.2 ≤ 100
theorem sz_tur {w : World} {nb db : Nat} (x y : Value) : Tur (fun k => k = nb ∨ k = db) w ((w.setCell ⟨nb, 0, none⟩ x).setCell ⟨db, 0, none⟩ y) := by
  have t1 : Tur (fun k => k = nb ∨ k = db) w (w.setCell ⟨nb, 0, none⟩ x) := (Tur.of_set ⟨nb, 0, none⟩ _).mono (fun i _ h => .inl h)
  have t2 : Tur (fun k => k = nb ∨ k = db) (w.setCell ⟨nb, 0, none⟩ x) ((w.setCell ⟨nb, 0, none⟩ x).setCell ⟨db, 0, none⟩ y) := (Tur.of_set ⟨db, 0, none⟩ _).mono (fun i _ h => .inr h)
  exact t1.trans t2 (fun _ _ h => h)
theorem icells.keep {w w' : World} {Bd b o : Nat} {e : XI} {x y z : Value} (h : icells w b o e x y z) (hb : Below Bd w w') (hlt : b < Bd) : icells w' b o e x y z := by
  unfold icells at h ⊢
  simp only [cell_keep hb hlt]
  exact h
theorem SzI.pure {nb db cb wb B : Nat} {w0 w : World} {a : Int × Int} {o : Obj} (h : SzI nb db cb wb B w0 a w) (hB : B ≤ w0.heap.size := by omega) : SzI nb db cb wb B w0 a (w.alloc o) :=
  ⟨h.below.alloc (by have := h.below.size; omega) _, alloc_keep h.n _, alloc_keep h.d _, alloc_keep h.c _, alloc_keep h.wk _, h.r0, h.r1⟩
theorem SzI.step {nb db cb wb B : Nat} {w0 w : World} {a : Int × Int} {deep : Int} {X : Type} {e : X} (h : SzI nb db cb wb B w0 a w) (hne : nb ≠ db) (hn : B ≤ nb) (hd : B ≤ db) (hB : B ≤ w0.heap.size) (h0 : 0 ≤ deep) (h1 : deep ≤ 100) :
    SzI nb db cb wb B w0 (stN a e deep) ((w.setCell ⟨nb, 0, none⟩ (.int .i64 (wrap64 (wrap64 a.1 + 1)))).setCell ⟨db, 0, none⟩ (.int .i64 (max a.2 deep))) := by
  have ht := sz_tur (w := w) (nb := nb) (db := db) (.int .i64 (wrap64 (wrap64 a.1 + 1))) (.int .i64 (max a.2 deep))
  have hs := h.below.size
  refine ⟨h.below.trans (ht.below _ (by omega) (fun k hk e => by rcases e with e | e <;> omega)), ?_, ?_, h.c.keep ht ?_, h.wk.keep ht ?_, ?_, ?_⟩
  · have h2 := h.n.set 0 (.int .i64 (wrap64 (wrap64 a.1 + 1)))
    have h3 := h2.keep (Tur.of_set (w := w.setCell ⟨nb, 0, none⟩ (.int .i64 (wrap64 (wrap64 a.1 + 1)))) ⟨db, 0, none⟩ (.int .i64 (max a.2 deep))) (fun e => hne e)
    rw [wrap_add] at h3 ⊢
    simpa [stN] using h3
  · have h2 := (h.d.keep (Tur.of_set (w := w) ⟨nb, 0, none⟩ (.int .i64 (wrap64 (wrap64 a.1 + 1)))) (fun e => hne e.symm)).set 0 (.int .i64 (max a.2 deep))
    simpa [stN] using h2
  · rintro (e | e)
    · exact cells_ne h.c h.n (by decide) e
    · exact cells_ne h.c h.d (by decide) e
  · rintro (e | e)
    · exact cells_ne h.wk h.n (by decide) e
    · exact cells_ne h.wk h.d (by decide) e
  · have := h.r0; show 0 ≤ max a.2 deep; omega
  · have := h.r1; show max a.2 deep ≤ 100; omega
set_option maxRecDepth 20000 in
theorem w_sizeE {nb db cb wb B : Nat} {w0 w : World} {a : Int × Int} {deep : Int} {X : Type} (e : X) (h : SzI nb db cb wb B w0 a w) (hne : nb ≠ db) (hn : B ≤ nb) (hd : B ≤ db) (hB : B ≤ w0.heap.size) (h0 : 0 ≤ deep) (h1 : deep ≤ 100) (p : Value) :
    Calls Tryz.prog 22 #[p, .int .i64 deep, .pointer (some ⟨cb, 0, none⟩)] w fun en w' => en = .returned (.tuple #[]) ∧ SzI nb db cb wb B w0 (stN a e deep) w' ∧ Tur (fun k => k = nb ∨ k = db) w w' := by
  have HN := Lib.hid (h.step (e := e) hne hn hd hB h0 h1)
  have c0 : w.cell? ⟨cb, 0, none⟩ = some (.func (.func 21) #[] #[.pointer (some ⟨nb, 0, none⟩), .pointer (some ⟨db, 0, none⟩)]) := h.c.cell 0
  have HC := Lib.hid (w_count h.n h.d hne h.r0 (by have := h.r1; omega) h0 (show deep ≤ 1000 by omega))
  clear h
  go_enter Tryz.func22, Tryz.ntmps22
  go_wp2_with fail
  refine HC.out.mono ?_
  rintro en w2 ⟨rfl, rfl⟩
  go_wp2_with fail
  go_end0
  exact ⟨rfl, HN.out, sz_tur _ _⟩
set_option maxRecDepth 20000 in
theorem w_sizeS {nb db cb wb B : Nat} {w0 w : World} {a : Int × Int} {deep : Int} {X : Type} (e : X) (h : SzI nb db cb wb B w0 a w) (hne : nb ≠ db) (hn : B ≤ nb) (hd : B ≤ db) (hB : B ≤ w0.heap.size) (h0 : 0 ≤ deep) (h1 : deep ≤ 100) (p : Value) :
    Calls Tryz.prog 23 #[p, .int .i64 deep, .pointer (some ⟨cb, 0, none⟩)] w fun en w' => en = .returned (.tuple #[]) ∧ SzI nb db cb wb B w0 (stN a e deep) w' ∧ Tur (fun k => k = nb ∨ k = db) w w' := by
  have HN := Lib.hid (h.step (e := e) hne hn hd hB h0 h1)
  have c0 : w.cell? ⟨cb, 0, none⟩ = some (.func (.func 21) #[] #[.pointer (some ⟨nb, 0, none⟩), .pointer (some ⟨db, 0, none⟩)]) := h.c.cell 0
  have HC := Lib.hid (w_count h.n h.d hne h.r0 (by have := h.r1; omega) h0 (show deep ≤ 1000 by omega))
  clear h
  go_enter Tryz.func23, Tryz.ntmps23
  go_wp2_with fail
  refine HC.out.mono ?_
  rintro en w2 ⟨rfl, rfl⟩
  go_wp2_with fail
  go_end0
  exact ⟨rfl, HN.out, sz_tur _ _⟩
set_option maxRecDepth 100000 in
theorem wkSize {nb db cb wb B : Nat} {w0 : World} (hne : nb ≠ db) (hn : B ≤ nb) (hd : B ≤ db) (hB : B ≤ w0.heap.size) :
    WkS (SzI nb db cb wb B w0) stN stN 61 B wb 22 #[.pointer (some ⟨cb, 0, none⟩)] 23 #[.pointer (some ⟨cb, 0, none⟩)] (fun k => k = nb ∨ k = db) w0 where
  e := {
    m0 := by decide
    m1 := by decide
    box := fun a w h => h.wk
    below := fun a w h => h.below
    drew := fun a w h => ⟨h.below.drew, h.n, h.d, h.c, h.wk, h.r0, h.r1⟩
    run := fun args w => by rfl
    call := fun a w b o e kv d h _ _ _ _ h0 h1 => w_sizeE e h hne hn hd hB h0 (by omega) _ }
  run := fun args w => by rfl
  call := fun a w b o e ev bv lv d h _ _ _ _ _ _ h0 h1 => w_sizeS e h hne hn hd hB h0 (by omega) _
set_option maxRecDepth 20000 in
set_option maxHeartbeats 4000000 in
theorem w_Size {w : World} {l : List XI} {v : Value} (h : IsAt w w.heap.size l v) (hz : (sizeP l).1 ≤ 1000000) :
    Calls Tryz.prog 8 #[.agg #[v]] w fun e w' => e = .returned (.tuple #[.int .i64 (sizeP l).1, .int .i64 (sizeP l).2]) ∧ Below w.heap.size w w' := by
  obtain ⟨A, cap, pv, ev, bv, rfl, hc, hm, hat, hin⟩ := h.form
  have HH := Lib.hid h
  have HAT := Lib.hid hat
  have HIN := Lib.hid hin
  have hcl : cap < 9223372036854775808 := by unfold maxLen at hm; omega
  clear h hat hin
  obtain ⟨w5, hw5, hb5, k0, k1, k2, k3, k4⟩ := five_new w 24 3 3 55 62 #[.slice A l.length cap] #[.int .i64 0] #[.int .i64 0] #[.func (.func 21) #[] #[.pointer (some ⟨w.heap.size + 1, 0, none⟩), .pointer (some ⟨w.heap.size + 1 + 1, 0, none⟩)]] #[.func (.func 22) #[] #[.pointer (some ⟨w.heap.size + 1 + 1 + 1, 0, none⟩)], .func (.func 23) #[] #[.pointer (some ⟨w.heap.size + 1 + 1 + 1, 0, none⟩)], .int .i64 61]
  have HG := Lib.hid hw5
  have HI0 : Hid (SzI (w.heap.size + 1) (w.heap.size + 1 + 1) (w.heap.size + 1 + 1 + 1) (w.heap.size + 1 + 1 + 1 + 1) w.heap.size w (0, 0) w5) := ⟨hb5, by have e : wrap64 0 = 0 := (by unfold wrap64; decide); show Blk w5 _ _ #[.int .i64 (wrap64 0)]; rw [e]; exact k1, k2, k3, k4, Int.le_refl _, by decide⟩
  have HW := Lib.hid (wkSize (nb := w.heap.size + 1) (db := w.heap.size + 1 + 1) (cb := w.heap.size + 1 + 1 + 1) (wb := w.heap.size + 1 + 1 + 1 + 1) (B := w.heap.size) (w0 := w) (by omega) (by omega) (by omega) (Nat.le_refl _))
  have HP := Lib.hid k0
  clear hw5 hb5 k0 k1 k2 k3 k4
  go_enter Tryz.func8, Tryz.ntmps8
  go_upto_region 4 with (fail)
  rw [← HG.out]
  clear HG
  obtain ⟨B, hB⟩ : ∃ B, B = w.heap.size := ⟨_, rfl⟩
  rw [← hB] at HI0 HP HW ⊢
  rw [← hB] at HH HIN HAT
  obtain ⟨nb, hnb⟩ : ∃ x, x = B + 1 := ⟨_, rfl⟩
  rw [← hnb] at HI0 HW ⊢
  obtain ⟨db, hdb⟩ : ∃ x, x = nb + 1 := ⟨_, rfl⟩
  rw [← hdb] at HI0 HW ⊢
  obtain ⟨cb, hcb⟩ : ∃ x, x = db + 1 := ⟨_, rfl⟩
  rw [← hcb] at HI0 HW ⊢
  obtain ⟨wb, hwb⟩ : ∃ x, x = cb + 1 := ⟨_, rfl⟩
  rw [← hwb] at HI0 HW ⊢
  have HNE := Lib.hid (And.intro hB (And.intro hnb (And.intro hdb (And.intro hcb hwb))))
  clear hB hnb hdb hcb hwb
  have c0 : w5.cell? ⟨B, 0, none⟩ = some (.slice A l.length cap) := HP.out.cell 0
  go_wp2_with fail
  clear c0 HP
  have hs5 := HI0.out.below.size
  go_loopw [9, 18] (fun _ v wr => ∃ i : Nat, v = .int .i64 i ∧ i ≤ l.length ∧ SzI nb db cb wb B w ((l.take i).foldl sizeI (0, 0)) wr) (fun _ v _ => l.length - (intOf v).toNat)
  case atStart => exact ⟨0, rfl, Nat.zero_le _, HI0.out⟩
  case round =>
    obtain ⟨i, rfl, hi, hir⟩ := hrel
    have HR := Lib.hid hir
    clear hir
    by_cases hlt : i < l.length
    · obtain ⟨b, o, rfl, hbB, hcells⟩ := HAT.out (by omega)
      have HC := Lib.hid ((hcells i hlt).keep HR.out.below hbB)
      have HIT := Lib.hid (HIN.out i hlt)
      clear hcells
      obtain ⟨x0, x1, x2, x3, x4, x5, x6⟩ := HC.out
      obtain ⟨-, htp, hep, hbp⟩ := HIT.out
      obtain ⟨A1, n1, e1, -, -, -⟩ := htp.form
      obtain ⟨A2, n2, e2, -, -⟩ := hep.form
      obtain ⟨A3, n3, e3, -, -⟩ := hbp.form
      rw [e1] at x2
      rw [e2] at x3 hep
      rw [e3] at x5 hbp
      have HEP := Lib.hid hep
      have HBP := Lib.hid hbp
      have HX := Lib.hid (Blk.new wr 45 #[.int .u8 l[i].k, .string l[i].name, .slice A1 l[i].params.length n1, .slice A2 l[i].exprs.length n2, .bool l[i].has, .slice A3 l[i].body.length n3, .int .i64 l[i].line])
      have HRA := Lib.hid (HR.out.pure (o := .cells #[.int .u8 l[i].k, .string l[i].name, .slice A1 l[i].params.length n1, .slice A2 l[i].exprs.length n2, .bool l[i].has, .slice A3 l[i].body.length n3, .int .i64 l[i].line] 45) (by have := HNE.out.1; omega))
      clear htp hep hbp e1 e2 e3
      go_upto_region 7 with (fail)
      clear x0 x1 x2 x3 x4 x5 x6
      obtain ⟨xb, hxb⟩ : ∃ x, x = wr.heap.size := ⟨_, rfl⟩
      have hxs := HR.out.below.size
      have hxn : xb ≠ nb ∧ xb ≠ db := ⟨by have := HR.out.n.lt; omega, by have := HR.out.d.lt; omega⟩
      rw [← hxb] at HX ⊢
      clear hxb hxs
      generalize wr.alloc (.cells #[.int .u8 l[i].k, .string l[i].name, .slice A1 l[i].params.length n1, .slice A2 l[i].exprs.length n2, .bool l[i].has, .slice A3 l[i].body.length n3, .int .i64 l[i].line] 45) = wa at *
      have y3 : wa.cell? ⟨xb, 3, none⟩ = some (.slice A2 l[i].exprs.length n2) := HX.out.cell 3
      go_wp2_with fail
      refine (w_exprs HW.out.e HEP.out 1 _ wa HRA.out (by decide) (by decide)).mono ?_
      rintro en w6 ⟨rfl, hI6, ht6⟩
      have HI6 := Lib.hid hI6
      have HX6 := Lib.hid (HX.out.keep ht6 (fun e => e.elim hxn.1 hxn.2))
      clear hI6 ht6 y3
      have y5 : w6.cell? ⟨xb, 5, none⟩ = some (.slice A3 l[i].body.length n3) := HX6.out.cell 5
      go_wp2_with fail
      refine (w_stmts HW.out HBP.out 1 _ w6 HI6.out (by decide) (by decide)).mono ?_
      rintro en w7 ⟨rfl, hI7, -⟩
      have HI7 : Hid (SzI nb db cb wb B w ((l.take (i + 1)).foldl sizeI (0, 0)) w7) := by
        unfold Hid
        rw [List.take_succ_eq_append_getElem hlt, List.foldl_append, List.foldl_cons, List.foldl_nil, ← (foldI_N _ l[i] HR.out.r0).1]
        exact hI7
      clear hI7 y5
      go_wp2_with fail
      go_roundw
      case rel => exact ⟨i + 1, by go_num, by omega, HI7.out⟩
      case measure => simp [intOf]; omega
    · rw [List.take_of_length_le (by omega)] at HR
      have hr : Hid (SzI nb db cb wb B w (sizeP l) wr) := HR.out
      have y0 := hr.out.n.cell 0
      have y1 := hr.out.d.cell 0
      have hw : wrap64 (sizeP l).1 = (sizeP l).1 := by
        have := sizeP_nn l
        unfold wrap64
        omega
      rw [hw] at y0
      have HB := Lib.hid (hr.out.below.mono (by have := HNE.out.1; omega : w.heap.size ≤ B))
      clear HR hr hw
      go_wp2_with fail
      have hdr := HB.out.drew
      refine wp_region_noPanic ?_
      refine wp_region_ord (fun wd => wd.cell? ⟨nb, 0, none⟩ = some (.int .i64 (sizeP l).1) ∧ wd.cell? ⟨db, 0, none⟩ = some (.int .i64 (sizeP l).2)) (.read 0 (.read 1 (.read 2 (.read 3 .done)))) (by kernel_rfl) (by kernel_rfl) (fun _ _ _ _ _ h => h) ⟨y0, y1⟩ ?_
      simp only [Ord.ops, List.getElem?_toArray, List.getElem?_cons_zero, List.getElem?_cons_succ]
      have HBD := Lib.hid hdr
      clear hdr y0 y1
      generalize wr.drew = wq at *
      iterate 4 (
        refine ord_read ?_ (fun wd hS M hM => ?_) ?_ ?_
        rotate_left
        · have HM := Lib.hid hM
          obtain ⟨z0, z1⟩ := hS
          clear hM
          repeat (first | go_values | go_skip | go_guarded | go_step | go_upon)
          exact HM.out
        · rfl)
      refine NoPanic.normal (?_ : _)
      go_wp2_with fail
      go_ret2
      exact ⟨rfl, HBD.out⟩
end Go.Proofs.YtmapjahpjolmnaaGreatDoor
namespace Go.Proofs.YtmapjahpjolmnaaGreatDoor
open Go.RowKit Tr
set_option maxRecDepth 20000
/-- What a kind of expression may say. -/
def Tr.saysF (sg s : ByteArray) : Bool := if sg = kName then nameB s else if sg = kNo then decide (s.size = 0) else Lib.containsS ((Lib.fields sg.data.toList).map fun l => ⟨l.toArray⟩) s
/-- Is an expression right, but for its kids? -/
def Tr.alB (e : XE) : Bool :=
  if e.k = 1 then decide (e.s.size = 0) && (decide (e.kids.length = 0) && decide (e.n < 9218868437227405312))
  else if e.k = 2 then decide (e.n = 0) && decide (e.kids.length = 0)
  else if e.k = 3 then decide (e.n = 0) && (decide (e.kids.length = 0) && patB e.s.data.toList)
  else if e.k = 23 then getB e
  else match kindOf e.k with
    | none => false
    | some r => decide (e.n = 0) && (decide (r.lo ≤ e.kids.length) && ((decide (r.hi < 0) || decide ((e.kids.length : Int) ≤ r.hi)) && ((!r.first || kidLB e) && saysF r.says e.s)))
set_option maxHeartbeats 4000000 in
theorem w_alone0 {w : World} (e : XE) (A : Option Addr) (c g : Nat) (h : EsAt w w.heap.size e.kids (.slice A e.kids.length c)) (hok : e.Ok) (hM : MapLit w g kindsL) (k1 : ¬ e.k = 1) (k2 : ¬ e.k = 2) (k3 : ¬ e.k = 3) (k23 : ¬ e.k = 23) (hq : kindOf e.k = none) :
    Calls Tryz.prog 30 #[evE e A c, .map (some g)] w fun en w' => en = .returned (.bool (alB e)) ∧ Below w.heap.size w w' := by
  have HF : Hid (alB e = false) := by
    unfold Hid alB
    rw [if_neg k1, if_neg k2, if_neg k3, if_neg k23, hq]
  rw [HF.out]
  have hcap := h.cap
  have HM1 : Hid (MapLit (w.alloc (.cells #[.int .u8 e.k, .string e.s, .int .u64 e.n, .slice A e.kids.length c] 29)) g kindsL) := hM.keep ((MapKept.heap_alloc w _).2 _ hM.lt)
  clear h hM
  unfold evE
  go_enter Tryz.func30, Tryz.ntmps30
  go_upto_region 10 with (fail)
  have HLK := kinds_look HM1.out e.k none hq
  go_wp2_with fail
  go_ret
  exact ⟨rfl, ((Below.refl _ _).alloc (Nat.le_refl _) _).alloc (by simp) _⟩
theorem kinds_ok : ∀ r ∈ kindsM, 0 ≤ r.lo ∧ r.lo ≤ 3 ∧ -1 ≤ r.hi ∧ r.hi ≤ 3 ∧ (r.first = true → 1 ≤ r.lo) := by decide
theorem two_new (w : World) (t0 t1 : TypeId) (c0 c1 : Array Value) : ∃ w2, w2 = (w.alloc (.cells c0 t0)).alloc (.cells c1 t1) ∧ Below w.heap.size w w2 ∧ Blk w2 w.heap.size t0 c0 ∧ Blk w2 (w.heap.size + 1) t1 c1 ∧ w2.heap.size = w.heap.size + 2 := by
  refine ⟨_, rfl, ((Below.refl _ _).alloc (Nat.le_refl _) _).alloc (by simp) _, alloc_keep (Blk.new w t0 c0) _, ?_, by simp⟩
  have h := Blk.new (w.alloc (.cells c0 t0)) t1 c1
  rw [World.size_alloc] at h
  exact h
/-- How far an expression's own parts are known. -/
def gdB (e : XE) (lo hi : Int) (fst : Bool) : Bool := decide (e.n = 0) && (decide (lo ≤ e.kids.length) && ((decide (hi < 0) || decide ((e.kids.length : Int) ≤ hi)) && (!fst || kidLB e)))
theorem al_is (e : XE) (k1 : ¬ e.k = 1) (k2 : ¬ e.k = 2) (k3 : ¬ e.k = 3) (k23 : ¬ e.k = 23) (r : KRow) (hq : kindOf e.k = some r) : alB e = (gdB e r.lo r.hi r.first && saysF r.says e.s) := by
  unfold alB gdB
  rw [if_neg k1, if_neg k2, if_neg k3, if_neg k23, hq]
  simp only [Bool.and_assoc]
theorem kidL_not {e : XE} (h0 : ¬ 0 < e.kids.length) : kidLB e = false := by
  cases e with
  | mk k s n l =>
    cases l with
    | nil => rfl
    | cons x r => exact absurd (Nat.succ_pos _) h0
set_option maxHeartbeats 4000000 in
theorem w_alone1 {w : World} (e : XE) (A : Option Addr) (c g : Nat) (h : EsAt w w.heap.size e.kids (.slice A e.kids.length c)) (hok : e.Ok) (hM : MapLit w g kindsL) (k1 : ¬ e.k = 1) (k2 : ¬ e.k = 2) (k3 : ¬ e.k = 3) (k23 : ¬ e.k = 23) (r : KRow) (hq : kindOf e.k = some r) (hgd : gdB e r.lo r.hi r.first = false) :
    Calls Tryz.prog 30 #[evE e A c, .map (some g)] w fun en w' => en = .returned (.bool (alB e)) ∧ Below w.heap.size w w' := by
  have HF : Hid (alB e = false) := by unfold Hid; rw [al_is e k1 k2 k3 k23 r hq, hgd]; rfl
  rw [HF.out]
  obtain ⟨l0, l1, r0, r1, hf1⟩ := kinds_ok r (List.mem_of_find?_eq_some hq)
  have hcap := h.cap
  have HM1 : Hid (MapLit (w.alloc (.cells #[.int .u8 e.k, .string e.s, .int .u64 e.n, .slice A e.kids.length c] 29)) g kindsL) := hM.keep ((MapKept.heap_alloc w _).2 _ hM.lt)
  have HE := Lib.hid h
  clear h hM hok
  unfold evE
  obtain ⟨w2, hw2, hb2, hB0, hB1, hsz⟩ := two_new w 29 79 #[.int .u8 e.k, .string e.s, .int .u64 e.n, .slice A e.kids.length c] #[.int .i64 r.lo, .int .i64 r.hi, .string r.says, .bool r.first]
  have HW2 := Lib.hid hw2
  have HB2 := Lib.hid hb2
  have HX := Lib.hid hB0
  have HH := Lib.hid hB1
  have HSZ := Lib.hid hsz
  clear hw2 hb2 hB0 hB1 hsz
  go_enter Tryz.func30, Tryz.ntmps30
  go_upto_region 10 with (fail)
  have HLK := kinds_look HM1.out e.k (some r) hq
  clear hq HM1
  obtain ⟨rk, lo, hi, sg, fst⟩ := r
  simp only [Option.map_some, Option.getD_some, kRowV, Option.isSome_some] at *
  go_upto_region 11 with (fail)
  clear HLK
  rw [← HW2.out]
  clear HW2
  have x2 : w2.cell? ⟨w.heap.size, 2, none⟩ = some (.int .u64 e.n) := HX.out.cell 2
  have x3 : w2.cell? ⟨w.heap.size, 3, none⟩ = some (.slice A e.kids.length c) := HX.out.cell 3
  have y0 : w2.cell? ⟨w.heap.size + 1, 0, none⟩ = some (.int .i64 lo) := HH.out.cell 0
  have y1 : w2.cell? ⟨w.heap.size + 1, 1, none⟩ = some (.int .i64 hi) := HH.out.cell 1
  have y3 : w2.cell? ⟨w.heap.size + 1, 3, none⟩ = some (.bool fst) := HH.out.cell 3
  unfold gdB at hgd
  by_cases hm0 : 0 < e.kids.length
  · obtain ⟨kb, ko, kv, hA, hkb, hy, hkk⟩ := HE.out.head hm0
    obtain ⟨B1, n1, e1, -, -⟩ := hkk.form
    subst e1
    obtain ⟨z0, z1, z2, z3⟩ := hy.keep HB2.out hkb
    have hkl : kidLB e = lvalB e.kids[0] := kidL_is hm0
    have HGD := Lib.hid hgd
    clear hgd hkk hy
    generalize e.kids[0] = x at *
    generalize e.kids.length = m at *
    subst hA
    obtain ⟨lv, hlv⟩ : ∃ lv, lv = (decide (x.k = 4) || (decide (x.k = 5) || decide (x.k = 6))) := ⟨_, rfl⟩
    have HLV : Hid (kidLB e = lv) := by
      unfold Hid
      rw [hkl, hlv]
      rfl
    clear hkl
    rw [HLV.out] at HGD
    have HFIN := Lib.hid hlv
    clear hlv
    by_cases hn : e.n = 0
    · rw [hn] at x2
      by_cases hlo : (m : Int) < lo
      · go_wp2_with fail
        go_ret
        exact ⟨rfl, HB2.out⟩
      · by_cases hh : hi < 0
        · have hh2 : ¬ 0 ≤ hi := by omega
          have hl := HGD.out
          rw [decide_eq_true hn, decide_eq_true (show lo ≤ (m : Int) by omega), decide_eq_true hh] at hl
          simp only [Bool.true_and, Bool.true_or, Bool.or_eq_false_iff, Bool.not_eq_false'] at hl
          obtain ⟨hl1, hl2⟩ := hl
          rw [hl1] at y3
          rw [hl2] at HFIN
          clear hf1
          go_wp2_with (refine (w_lvalue _ _ _ _ _ _ _).mono ?_; rintro en w3 ⟨rfl, hb3⟩; have HB3 := Lib.hid hb3; clear hb3; rw [← HFIN.out])
          go_ret
          exact ⟨rfl, HB2.out.trans (HB3.out.mono HB2.out.size)⟩
        · have hh2 : 0 ≤ hi := by omega
          by_cases hmh : hi < (m : Int)
          · go_wp2_with fail
            go_ret
            exact ⟨rfl, HB2.out⟩
          · have hl := HGD.out
            rw [decide_eq_true hn, decide_eq_true (show lo ≤ (m : Int) by omega), decide_eq_true (show (m : Int) ≤ hi by omega)] at hl
            simp only [Bool.true_and, Bool.or_true, Bool.or_eq_false_iff, Bool.not_eq_false'] at hl
            obtain ⟨hl1, hl2⟩ := hl
            rw [hl1] at y3
            rw [hl2] at HFIN
            clear hf1
            go_wp2_with (refine (w_lvalue _ _ _ _ _ _ _).mono ?_; rintro en w3 ⟨rfl, hb3⟩; have HB3 := Lib.hid hb3; clear hb3; rw [← HFIN.out])
            go_ret
            exact ⟨rfl, HB2.out.trans (HB3.out.mono HB2.out.size)⟩
    · go_wp2_with fail
      go_ret
      exact ⟨rfl, HB2.out⟩
  · have hk0 : kidLB e = false := kidL_not hm0
    rw [hk0] at hgd
    generalize e.kids.length = m at *
    by_cases hn : e.n = 0
    · rw [hn] at x2
      by_cases hlo : (m : Int) < lo
      · go_wp2_with fail
        go_ret
        exact ⟨rfl, HB2.out⟩
      · have hl : fst = false := by
          cases fst
          · rfl
          · have := hf1 rfl; omega
        rw [hl] at y3 hgd
        have hh : ¬ hi < 0 ∧ hi < (m : Int) := by
          simp only [Bool.not_false, Bool.true_or, Bool.and_true, decide_eq_true hn, Bool.true_and, decide_eq_true (show lo ≤ (m : Int) by omega), Bool.or_eq_false_iff, decide_eq_false_iff_not] at hgd
          omega
        omega
    · go_wp2_with fail
      go_ret
      exact ⟨rfl, HB2.out⟩
end Go.Proofs.YtmapjahpjolmnaaGreatDoor
namespace Go.Proofs.YtmapjahpjolmnaaGreatDoor
open Go.RowKit Tr
set_option maxRecDepth 20000
theorem gd_ways {e : XE} {lo hi : Int} {fst : Bool} (h : gdB e lo hi fst = true) : e.n = 0 ∧ lo ≤ e.kids.length ∧ (hi < 0 ∨ (¬ hi < 0 ∧ 0 ≤ hi ∧ (e.kids.length : Int) ≤ hi)) ∧ (fst = false ∨ (fst = true ∧ kidLB e = true)) := by
  unfold gdB at h
  simp only [Bool.and_eq_true, Bool.or_eq_true, decide_eq_true_eq, Bool.not_eq_true'] at h
  obtain ⟨h1, h2, h3, h4⟩ := h
  refine ⟨h1, h2, by omega, ?_⟩
  cases fst
  · exact .inl rfl
  · rcases h4 with h4 | h4
    · cases h4
    · exact .inr ⟨rfl, h4⟩
theorem kidL_pos {e : XE} (h : kidLB e = true) : 0 < e.kids.length := by
  cases e with
  | mk k s n l =>
    cases l with
    | nil => cases h
    | cons x r => exact Nat.succ_pos _
theorem kinds_nf : ∀ r ∈ kindsM, (r.says = kName → r.first = false) ∧ (r.says = kNo → r.first = false) ∧ (r.first = true → 0 ≤ r.hi) := by decide
set_option maxHeartbeats 4000000 in
theorem w_alone2 {w : World} (e : XE) (A : Option Addr) (c g : Nat) (h : EsAt w w.heap.size e.kids (.slice A e.kids.length c)) (hok : e.Ok) (hM : MapLit w g kindsL) (k1 : ¬ e.k = 1) (k2 : ¬ e.k = 2) (k3 : ¬ e.k = 3) (k23 : ¬ e.k = 23) (r : KRow) (hq : kindOf e.k = some r) (hgd : gdB e r.lo r.hi r.first = true) (hsy : r.says = kName) :
    Calls Tryz.prog 30 #[evE e A c, .map (some g)] w fun en w' => en = .returned (.bool (alB e)) ∧ Below w.heap.size w w' := by
  have HF : Hid (alB e = nameB e.s) := by unfold Hid; rw [al_is e k1 k2 k3 k23 r hq, hgd, hsy]; rfl
  rw [HF.out]
  have hcap := h.cap
  have HNF := Lib.hid (kinds_nf r (List.mem_of_find?_eq_some hq))
  obtain ⟨l0, l1, r0, r1, hf1⟩ := kinds_ok r (List.mem_of_find?_eq_some hq)
  clear hf1
  have HM1 : Hid (MapLit (w.alloc (.cells #[.int .u8 e.k, .string e.s, .int .u64 e.n, .slice A e.kids.length c] 29)) g kindsL) := hM.keep ((MapKept.heap_alloc w _).2 _ hM.lt)
  have HE := Lib.hid h
  have HOK := Lib.hid hok
  clear h hM hok
  unfold evE
  obtain ⟨w2, hw2, hb2, hB0, hB1, hsz⟩ := two_new w 29 79 #[.int .u8 e.k, .string e.s, .int .u64 e.n, .slice A e.kids.length c] #[.int .i64 r.lo, .int .i64 r.hi, .string r.says, .bool r.first]
  have HW2 := Lib.hid hw2
  have HB2 := Lib.hid hb2
  have HX := Lib.hid hB0
  have HH := Lib.hid hB1
  have HSZ := Lib.hid hsz
  clear hw2 hb2 hB0 hB1 hsz
  go_enter Tryz.func30, Tryz.ntmps30
  go_upto_region 10 with (fail)
  have HLK := kinds_look HM1.out e.k (some r) hq
  clear hq HM1
  obtain ⟨rk, lo, hi, sg, fst⟩ := r
  simp only [Option.map_some, Option.getD_some, kRowV, Option.isSome_some] at *
  subst hsy
  go_upto_region 11 with (fail)
  clear HLK
  rw [← HW2.out]
  clear HW2
  have x1 : w2.cell? ⟨w.heap.size, 1, none⟩ = some (.string e.s) := HX.out.cell 1
  have x2 : w2.cell? ⟨w.heap.size, 2, none⟩ = some (.int .u64 e.n) := HX.out.cell 2
  have x3 : w2.cell? ⟨w.heap.size, 3, none⟩ = some (.slice A e.kids.length c) := HX.out.cell 3
  have y0 : w2.cell? ⟨w.heap.size + 1, 0, none⟩ = some (.int .i64 lo) := HH.out.cell 0
  have y1 : w2.cell? ⟨w.heap.size + 1, 1, none⟩ = some (.int .i64 hi) := HH.out.cell 1
  have y2 : w2.cell? ⟨w.heap.size + 1, 2, none⟩ = some (.string kName) := HH.out.cell 2
  have y3 : w2.cell? ⟨w.heap.size + 1, 3, none⟩ = some (.bool fst) := HH.out.cell 3
  obtain ⟨hn, hlo, hways, hfs⟩ := gd_ways hgd
  have HGW := Lib.hid hfs
  clear hgd hfs
  rw [hn] at x2
  have hf : fst = false := HNF.out.1 rfl
  rw [hf] at y3
  clear HNF hf
  generalize e.kids.length = m at *
  rcases hways with hh | ⟨hh, hh1, hh2⟩
  all_goals
    have HNM := Lib.hid (w_name e.s w2 HOK.out.2.1)
    go_wp2_with (with_reducible (refine HNM.out.mono ?_); rintro en w3 ⟨rfl, hb3⟩; have HB3 := Lib.hid hb3; clear hb3 x1 x2 x3 y0 y1 y2 y3)
    go_ret
    exact ⟨rfl, HB2.out.trans (HB3.out.mono HB2.out.size)⟩
set_option maxHeartbeats 4000000 in
theorem w_alone3 {w : World} (e : XE) (A : Option Addr) (c g : Nat) (h : EsAt w w.heap.size e.kids (.slice A e.kids.length c)) (hok : e.Ok) (hM : MapLit w g kindsL) (k1 : ¬ e.k = 1) (k2 : ¬ e.k = 2) (k3 : ¬ e.k = 3) (k23 : ¬ e.k = 23) (r : KRow) (hq : kindOf e.k = some r) (hgd : gdB e r.lo r.hi r.first = true) (hsy : r.says = kNo) :
    Calls Tryz.prog 30 #[evE e A c, .map (some g)] w fun en w' => en = .returned (.bool (alB e)) ∧ Below w.heap.size w w' := by
  have HF : Hid (alB e = decide (e.s.size = 0)) := by unfold Hid; rw [al_is e k1 k2 k3 k23 r hq, hgd, hsy]; rfl
  rw [HF.out]
  have hse := sEmpty e.s
  obtain ⟨z, hz⟩ : ∃ z, decide (e.s.size = 0) = z := ⟨_, rfl⟩
  rw [hz] at hse ⊢
  have HZ := Lib.hid hse
  clear hse hz
  have hcap := h.cap
  have HNF := Lib.hid (kinds_nf r (List.mem_of_find?_eq_some hq))
  obtain ⟨l0, l1, r0, r1, hf1⟩ := kinds_ok r (List.mem_of_find?_eq_some hq)
  clear hf1
  have HM1 : Hid (MapLit (w.alloc (.cells #[.int .u8 e.k, .string e.s, .int .u64 e.n, .slice A e.kids.length c] 29)) g kindsL) := hM.keep ((MapKept.heap_alloc w _).2 _ hM.lt)
  have HE := Lib.hid h
  have HOK := Lib.hid hok
  clear h hM hok
  unfold evE
  obtain ⟨w2, hw2, hb2, hB0, hB1, hsz⟩ := two_new w 29 79 #[.int .u8 e.k, .string e.s, .int .u64 e.n, .slice A e.kids.length c] #[.int .i64 r.lo, .int .i64 r.hi, .string r.says, .bool r.first]
  have HW2 := Lib.hid hw2
  have HB2 := Lib.hid hb2
  have HX := Lib.hid hB0
  have HH := Lib.hid hB1
  have HSZ := Lib.hid hsz
  clear hw2 hb2 hB0 hB1 hsz
  go_enter Tryz.func30, Tryz.ntmps30
  go_upto_region 10 with (fail)
  have HLK := kinds_look HM1.out e.k (some r) hq
  clear hq HM1
  obtain ⟨rk, lo, hi, sg, fst⟩ := r
  simp only [Option.map_some, Option.getD_some, kRowV, Option.isSome_some] at *
  subst hsy
  go_upto_region 11 with (fail)
  clear HLK
  rw [← HW2.out]
  clear HW2
  have x1 : w2.cell? ⟨w.heap.size, 1, none⟩ = some (.string e.s) := HX.out.cell 1
  have x2 : w2.cell? ⟨w.heap.size, 2, none⟩ = some (.int .u64 e.n) := HX.out.cell 2
  have x3 : w2.cell? ⟨w.heap.size, 3, none⟩ = some (.slice A e.kids.length c) := HX.out.cell 3
  have y0 : w2.cell? ⟨w.heap.size + 1, 0, none⟩ = some (.int .i64 lo) := HH.out.cell 0
  have y1 : w2.cell? ⟨w.heap.size + 1, 1, none⟩ = some (.int .i64 hi) := HH.out.cell 1
  have y2 : w2.cell? ⟨w.heap.size + 1, 2, none⟩ = some (.string kNo) := HH.out.cell 2
  have y3 : w2.cell? ⟨w.heap.size + 1, 3, none⟩ = some (.bool fst) := HH.out.cell 3
  obtain ⟨hn, hlo, hways, hfs⟩ := gd_ways hgd
  have HGW := Lib.hid hfs
  clear hgd hfs
  rw [hn] at x2
  have hf : fst = false := HNF.out.2.1 rfl
  rw [hf] at y3
  clear HNF hf
  generalize e.kids.length = m at *
  rcases hways with hh | ⟨hh, hh1, hh2⟩
  all_goals
    go_wp2_with fail
    all_goals
      go_ret
      refine ⟨congrArg (fun b => Ending.returned (.bool b)) ?_, HB2.out⟩
      have hz := HZ.out
      simp_all
end Go.Proofs.YtmapjahpjolmnaaGreatDoor
namespace Go.Proofs.YtmapjahpjolmnaaGreatDoor
open Go.RowKit Tr
set_option maxRecDepth 20000
def Tr.saysL (sg s : ByteArray) : Bool := Lib.containsS ((Lib.fields sg.data.toList).map fun l => ⟨l.toArray⟩) s
def sgB (r : KRow) : Bool := decide (r.says = kName) || (decide (r.says = kNo) || (decide (r.says.size < 4294967281) && ((!(r.says.toList == [110, 97, 109, 101])) && (!r.says.toList.isEmpty && (decide (0 < (Lib.fields r.says.data.toList).length) && (decide ((Lib.fields r.says.data.toList).length < 100) && r.says.data.toList.all (fun b => decide (b.toNat < 128))))))))
theorem kinds_sgB : kindsM.all sgB = true := by kernel_rfl
theorem kinds_sg (r : KRow) (hr : r ∈ kindsM) (h1 : r.says ≠ kName) (h2 : r.says ≠ kNo) : r.says.size < 4294967281 ∧ (r.says.toList == [110, 97, 109, 101]) = false ∧ r.says.toList.isEmpty = false ∧ 0 < (Lib.fields r.says.data.toList).length ∧ (Lib.fields r.says.data.toList).length < 100 ∧ (∀ (j : Nat) b, r.says.data.toList[j]? = some b → b.toNat < 128) := by
  have h := List.all_eq_true.1 kinds_sgB r hr
  unfold sgB at h
  rw [decide_eq_false h1, decide_eq_false h2] at h
  simp only [Bool.false_or, Bool.and_eq_true, decide_eq_true_eq, Bool.not_eq_true', List.all_eq_true] at h
  obtain ⟨a, b, c, d, e, f⟩ := h
  exact ⟨a, b, c, d, e, fun j x hx => f x (List.mem_of_getElem? hx)⟩
theorem has_fields (w : World) (L : List (List UInt8)) (x : ByteArray) (t : TypeId) (h1 : L.length < 100) : Calls Tryz.prog 44 #[.slice (some ⟨w.heap.size, 0, none⟩) L.length L.length, .string x] (w.alloc (.cells (L.map fun l => Value.string ⟨l.toArray⟩).toArray t)) fun e w' => e = .returned (.bool (Lib.containsS (L.map fun l => ⟨l.toArray⟩) x)) ∧ w' = w.alloc (.cells (L.map fun l => Value.string ⟨l.toArray⟩).toArray t) := by
  refine (Tryz.slices_Contains_string w.heap.size 0 L.length L.length (L.map fun l => ⟨l.toArray⟩) x _ (by simp) (by omega) (fun j hj => ?_)).mono ?_
  · have hb := (Blk.new w t (L.map fun l => Value.string ⟨l.toArray⟩).toArray).cell (0 + j)
    rw [hb]
    simp at hj
    simp [List.getD_eq_getElem?_getD, hj]
  · rintro e w' ⟨rfl, rfl⟩
    refine ⟨?_, rfl⟩
    rw [List.take_of_length_le (by simp)]
set_option maxHeartbeats 4000000 in
theorem w_alone4 {w : World} (e : XE) (A : Option Addr) (c g : Nat) (h : EsAt w w.heap.size e.kids (.slice A e.kids.length c)) (hok : e.Ok) (hM : MapLit w g kindsL) (k1 : ¬ e.k = 1) (k2 : ¬ e.k = 2) (k3 : ¬ e.k = 3) (k23 : ¬ e.k = 23) (r : KRow) (hq : kindOf e.k = some r) (hgd : gdB e r.lo r.hi r.first = true) (h1 : r.says ≠ kName) (h2 : r.says ≠ kNo) (htab : Lib.TabIs Tryz.prog w "strings.asciiSpace" .u8 Lib.asciiSpaceTab) :
    Calls Tryz.prog 30 #[evE e A c, .map (some g)] w fun en w' => en = .returned (.bool (alB e)) ∧ Below w.heap.size w w' := by
  have HF : Hid (alB e = saysL r.says e.s) := by unfold Hid; rw [al_is e k1 k2 k3 k23 r hq, hgd, Bool.true_and]; unfold saysF; rw [if_neg h1, if_neg h2]; rfl
  rw [HF.out]
  have hcap := h.cap
  have HSG := Lib.hid (kinds_sg r (List.mem_of_find?_eq_some hq) h1 h2)
  have HTB := Lib.hid (Lib.tabBelow_of_tabIs htab)
  clear htab h1 h2
  have HNF := Lib.hid (kinds_nf r (List.mem_of_find?_eq_some hq))
  obtain ⟨l0, l1, r0, r1, hf1⟩ := kinds_ok r (List.mem_of_find?_eq_some hq)
  clear hf1
  have HM1 : Hid (MapLit (w.alloc (.cells #[.int .u8 e.k, .string e.s, .int .u64 e.n, .slice A e.kids.length c] 29)) g kindsL) := hM.keep ((MapKept.heap_alloc w _).2 _ hM.lt)
  have HE := Lib.hid h
  have HOK := Lib.hid hok
  clear h hM hok
  unfold evE
  obtain ⟨w2, hw2, hb2, hB0, hB1, hsz⟩ := two_new w 29 79 #[.int .u8 e.k, .string e.s, .int .u64 e.n, .slice A e.kids.length c] #[.int .i64 r.lo, .int .i64 r.hi, .string r.says, .bool r.first]
  have HW2 := Lib.hid hw2
  have HB2 := Lib.hid hb2
  have HX := Lib.hid hB0
  have HH := Lib.hid hB1
  have HSZ := Lib.hid hsz
  clear hw2 hb2 hB0 hB1 hsz
  go_enter Tryz.func30, Tryz.ntmps30
  go_upto_region 10 with (fail)
  have HLK := kinds_look HM1.out e.k (some r) hq
  clear hq HM1
  obtain ⟨rk, lo, hi, sg, fst⟩ := r
  simp only [Option.map_some, Option.getD_some, kRowV, Option.isSome_some] at *
  go_upto_region 11 with (fail)
  clear HLK
  rw [← HW2.out]
  clear HW2
  have x1 : w2.cell? ⟨w.heap.size, 1, none⟩ = some (.string e.s) := HX.out.cell 1
  have x2 : w2.cell? ⟨w.heap.size, 2, none⟩ = some (.int .u64 e.n) := HX.out.cell 2
  have x3 : w2.cell? ⟨w.heap.size, 3, none⟩ = some (.slice A e.kids.length c) := HX.out.cell 3
  have y0 : w2.cell? ⟨w.heap.size + 1, 0, none⟩ = some (.int .i64 lo) := HH.out.cell 0
  have y1 : w2.cell? ⟨w.heap.size + 1, 1, none⟩ = some (.int .i64 hi) := HH.out.cell 1
  have y2 : w2.cell? ⟨w.heap.size + 1, 2, none⟩ = some (.string sg) := HH.out.cell 2
  have y3 : w2.cell? ⟨w.heap.size + 1, 3, none⟩ = some (.bool fst) := HH.out.cell 3
  obtain ⟨hn, hlo, hways, hfs⟩ := gd_ways hgd
  have HGW := Lib.hid hfs
  clear hgd hfs
  rw [hn] at x2
  obtain ⟨g1, g2, g3, g4, g5, g6⟩ := HSG.out
  have HG1 := Lib.hid (And.intro g1 (And.intro g4 (And.intro g5 g6)))
  clear g1 g4 g5 g6 HSG
  have HSS : Hid (saysL sg e.s = Lib.containsS ((Lib.fields sg.data.toList).map fun l => ⟨l.toArray⟩) e.s) := rfl
  rcases HGW.out with hfs | ⟨hfs, hkl⟩
  · rw [hfs] at y3
    clear hfs
    generalize e.kids.length = m at *
    rcases hways with hh | ⟨hh, hh1, hh2⟩
    all_goals
      go_upto_region 18 with (fail)
      have c1 : w2.drew.cell? ⟨w.heap.size, 1, none⟩ = some (.string e.s) := x1
      have c2 : w2.drew.cell? ⟨w.heap.size + 1, 2, none⟩ = some (.string sg) := y2
      have HZ := Lib.hid HB2.out.drew
      have HZS : Hid (w.heap.size + 1 < w2.drew.heap.size) := by have := HSZ.out; show w.heap.size + 1 < w2.heap.size; omega
      clear x1 x2 x3 y0 y1 y2 y3
      (refine wp_region_noPanic ?_; refine wp_region_ord (fun wd => wd.cell? ⟨w.heap.size, 1, none⟩ = some (.string e.s) ∧ wd.cell? ⟨w.heap.size + 1, 2, none⟩ = some (.string sg)) (.read 0 (.read 1 (.read 3 (.read 4 (.alone 2 (.alone 5 (.alone 6 .done))))))) (by kernel_rfl) (by kernel_rfl) (fun _ _ _ _ _ h => h) ⟨c1, c2⟩ ?_; simp only [Ord.ops, List.getElem?_toArray, List.getElem?_cons_zero, List.getElem?_cons_succ]; have HC12 := Lib.hid (And.intro c1 c2); clear c1 c2; generalize w2.drew = wq at *; (iterate 4 (refine ord_read ?_ (fun wd hS M hM => ?_) ?_ ?_; rotate_left; (have HM := Lib.hid hM; obtain ⟨q1, q2⟩ := hS; clear hM; (repeat (first | go_values | go_skip | go_guarded | go_step | go_upon)); exact HM.out); rfl)); refine ord_alone (fun M hM => ?_); have HM := Lib.hid hM; clear hM; (repeat (first | go_values | go_skip | go_guarded | go_step | go_upon)); refine (Tryz.strings_Fields sg wq HG1.out.1 HG1.out.2.2.2 (HTB.out _ HZ.out)).mono ?_; rintro en w4 ⟨rfl, rfl⟩; dsimp only; (repeat (first | go_values | go_skip | go_guarded | go_step | go_upon)); have HA := Lib.hid (has_fields wq (Lib.fields sg.data.toList) e.s 9 HG1.out.2.2.1); have HZA := Lib.hid (HZ.out.alloc HZ.out.size (.cells ((Lib.fields sg.data.toList).map fun l => Value.string ⟨l.toArray⟩).toArray 9)); have HCA := Lib.hid (And.intro ((cell_keep ((Below.refl wq.heap.size wq).alloc (Nat.le_refl _) (.cells ((Lib.fields sg.data.toList).map fun l => Value.string ⟨l.toArray⟩).toArray 9)) (Nat.lt_of_succ_lt HZS.out)).trans HC12.out.1) ((cell_keep ((Below.refl wq.heap.size wq).alloc (Nat.le_refl _) (.cells ((Lib.fields sg.data.toList).map fun l => Value.string ⟨l.toArray⟩).toArray 9)) HZS.out).trans HC12.out.2)); generalize wq.alloc (.cells ((Lib.fields sg.data.toList).map fun l => Value.string ⟨l.toArray⟩).toArray 9) = wa at *; refine HM.out _ _ HCA.out ?_; clear HM M; refine ord_alone (fun M hM => ?_); have HM := Lib.hid hM; clear hM; (repeat (first | go_values | go_skip | go_guarded | go_step | go_upon)); refine HA.out.mono ?_; rintro en w5 ⟨rfl, rfl⟩; dsimp only; (repeat (first | go_values | go_skip | go_guarded | go_step | go_upon)); refine HM.out _ _ HCA.out ?_; clear HM M; refine ord_alone (fun M hM => ?_); have HM := Lib.hid hM; clear hM; (repeat (first | go_values | go_skip | go_guarded | go_step | go_upon)); refine HM.out _ _ HCA.out ?_; clear HM M; refine NoPanic.normal (?_ : _); go_wp2_with fail; go_ret; exact ⟨congrArg (fun b => Ending.returned (.bool b)) HSS.out.symm, HZA.out⟩)
  · have hhi : 0 ≤ hi := HNF.out.2.2 hfs
    rw [hfs] at y3
    have hm0 : 0 < e.kids.length := kidL_pos hkl
    obtain ⟨kb, ko, kv, hA, hkb, hy, hkk⟩ := HE.out.head hm0
    obtain ⟨B1, n1, e1, -, -⟩ := hkk.form
    subst e1
    obtain ⟨z0, z1, z2, z3⟩ := hy.keep HB2.out hkb
    have hlx : lvalB e.kids[0] = true := by rw [← kidL_is hm0]; exact hkl
    clear hkk hy
    generalize e.kids[0] = x at *
    generalize e.kids.length = m at *
    subst hA
    have HLV : Hid ((decide (x.k = 4) || (decide (x.k = 5) || decide (x.k = 6))) = true) := hlx
    have HLW := Lib.hid (w_lvalue x.k x.s x.n B1 x.kids.length n1 w2)
    have hlt0 : w.heap.size < w2.heap.size := by have := HSZ.out; omega
    have hlt1 : w.heap.size + 1 < w2.heap.size := by have := HSZ.out; omega
    clear hlx hkl hfs HGW
    rcases hways with hh | ⟨hh, hh1, hh2⟩
    · omega
    · go_upto_region 18 with (with_reducible (refine HLW.out.mono ?_); rintro en w3 ⟨rfl, hb3⟩; rw [HLV.out]; replace y2 := (cell_keep hb3 hlt1).trans y2; replace x1 := (cell_keep hb3 hlt0).trans x1; have HB3 := Lib.hid hb3; clear hb3 x2 x3 y0 y1 y3 z0 z1 z2 z3)
      have c1 : w3.drew.cell? ⟨w.heap.size, 1, none⟩ = some (.string e.s) := x1
      have c2 : w3.drew.cell? ⟨w.heap.size + 1, 2, none⟩ = some (.string sg) := y2
      have HZ := Lib.hid (HB2.out.trans (HB3.out.mono HB2.out.size)).drew
      have HZS : Hid (w.heap.size + 1 < w3.drew.heap.size) := Nat.lt_of_lt_of_le hlt1 HB3.out.size
      clear x1 y2
      (refine wp_region_noPanic ?_; refine wp_region_ord (fun wd => wd.cell? ⟨w.heap.size, 1, none⟩ = some (.string e.s) ∧ wd.cell? ⟨w.heap.size + 1, 2, none⟩ = some (.string sg)) (.read 0 (.read 1 (.read 3 (.read 4 (.alone 2 (.alone 5 (.alone 6 .done))))))) (by kernel_rfl) (by kernel_rfl) (fun _ _ _ _ _ h => h) ⟨c1, c2⟩ ?_; simp only [Ord.ops, List.getElem?_toArray, List.getElem?_cons_zero, List.getElem?_cons_succ]; have HC12 := Lib.hid (And.intro c1 c2); clear c1 c2; generalize w3.drew = wq at *; (iterate 4 (refine ord_read ?_ (fun wd hS M hM => ?_) ?_ ?_; rotate_left; (have HM := Lib.hid hM; obtain ⟨q1, q2⟩ := hS; clear hM; (repeat (first | go_values | go_skip | go_guarded | go_step | go_upon)); exact HM.out); rfl)); refine ord_alone (fun M hM => ?_); have HM := Lib.hid hM; clear hM; (repeat (first | go_values | go_skip | go_guarded | go_step | go_upon)); refine (Tryz.strings_Fields sg wq HG1.out.1 HG1.out.2.2.2 (HTB.out _ HZ.out)).mono ?_; rintro en w4 ⟨rfl, rfl⟩; dsimp only; (repeat (first | go_values | go_skip | go_guarded | go_step | go_upon)); have HA := Lib.hid (has_fields wq (Lib.fields sg.data.toList) e.s 9 HG1.out.2.2.1); have HZA := Lib.hid (HZ.out.alloc HZ.out.size (.cells ((Lib.fields sg.data.toList).map fun l => Value.string ⟨l.toArray⟩).toArray 9)); have HCA := Lib.hid (And.intro ((cell_keep ((Below.refl wq.heap.size wq).alloc (Nat.le_refl _) (.cells ((Lib.fields sg.data.toList).map fun l => Value.string ⟨l.toArray⟩).toArray 9)) (Nat.lt_of_succ_lt HZS.out)).trans HC12.out.1) ((cell_keep ((Below.refl wq.heap.size wq).alloc (Nat.le_refl _) (.cells ((Lib.fields sg.data.toList).map fun l => Value.string ⟨l.toArray⟩).toArray 9)) HZS.out).trans HC12.out.2)); generalize wq.alloc (.cells ((Lib.fields sg.data.toList).map fun l => Value.string ⟨l.toArray⟩).toArray 9) = wa at *; refine HM.out _ _ HCA.out ?_; clear HM M; refine ord_alone (fun M hM => ?_); have HM := Lib.hid hM; clear hM; (repeat (first | go_values | go_skip | go_guarded | go_step | go_upon)); refine HA.out.mono ?_; rintro en w5 ⟨rfl, rfl⟩; dsimp only; (repeat (first | go_values | go_skip | go_guarded | go_step | go_upon)); refine HM.out _ _ HCA.out ?_; clear HM M; refine ord_alone (fun M hM => ?_); have HM := Lib.hid hM; clear hM; (repeat (first | go_values | go_skip | go_guarded | go_step | go_upon)); refine HM.out _ _ HCA.out ?_; clear HM M; refine NoPanic.normal (?_ : _); go_wp2_with fail; go_ret; exact ⟨congrArg (fun b => Ending.returned (.bool b)) HSS.out.symm, HZA.out⟩)
end Go.Proofs.YtmapjahpjolmnaaGreatDoor
namespace Go.Proofs.YtmapjahpjolmnaaGreatDoor
open Go.RowKit Tr
set_option maxRecDepth 20000
set_option maxHeartbeats 4000000 in
theorem w_alone_k {w : World} (e : XE) (A : Option Addr) (c g : Nat) (h : EsAt w w.heap.size e.kids (.slice A e.kids.length c)) (hok : e.Ok) (hk : e.k = 1 ∨ e.k = 2 ∨ e.k = 3 ∨ e.k = 23) :
    Calls Tryz.prog 30 #[evE e A c, .map (some g)] w fun en w' => en = .returned (.bool (alB e)) ∧ Below w.heap.size w w' := by
  have hcap := h.cap
  have HE := Lib.hid h
  have HOK := Lib.hid hok
  obtain ⟨w2, hw2, hb2, hB0⟩ : ∃ w2, w2 = w.alloc (.cells #[.int .u8 e.k, .string e.s, .int .u64 e.n, .slice A e.kids.length c] 29) ∧ Below w.heap.size w w2 ∧ Blk w2 w.heap.size 29 #[.int .u8 e.k, .string e.s, .int .u64 e.n, .slice A e.kids.length c] := ⟨_, rfl, (Below.refl _ _).alloc (Nat.le_refl _) _, Blk.new w _ _⟩
  have HW2 := Lib.hid hw2
  have HB2 := Lib.hid hb2
  have HX := Lib.hid hB0
  clear hw2 hb2 hB0 h hok
  obtain ⟨z, hz⟩ : ∃ z, decide (e.s.size = 0) = z := ⟨_, rfl⟩
  have HZZ : Hid (e.s.toList = [] ↔ z = true) := by unfold Hid; rw [← hz, ← sEmpty, List.isEmpty_iff]
  rcases hk with hk | hk | hk | hk
  · have HF : Hid (alB e = (z && (decide (e.kids.length = 0) && decide (e.n < 9218868437227405312)))) := by
      unfold Hid alB
      rw [if_pos hk, hz]
    unfold evE
    clear hz
    rw [hk] at HW2 HX ⊢
    clear hk
    go_enter Tryz.func30, Tryz.ntmps30
    go_upto_region 3 with (fail)
    rw [← HW2.out]
    clear HW2
    have x1 : w2.cell? ⟨w.heap.size, 1, none⟩ = some (.string e.s) := HX.out.cell 1
    have x2 : w2.cell? ⟨w.heap.size, 2, none⟩ = some (.int .u64 e.n) := HX.out.cell 2
    have x3 : w2.cell? ⟨w.heap.size, 3, none⟩ = some (.slice A e.kids.length c) := HX.out.cell 3
    generalize e.kids.length = m at *
    go_wp2_with fail
    all_goals (go_ret; refine ⟨congrArg (fun b => Ending.returned (.bool b)) ?_, HB2.out⟩; refine Eq.trans ?_ HF.out.symm; have hzz := HZZ.out; clear HZZ HF HB2 HX HOK HE x1 x2 x3 hcap; simp_all <;> first | omega | (rw [Bool.eq_iff_iff]; simp only [Bool.and_eq_true, Bool.or_eq_true, Bool.not_eq_true', beq_iff_eq, decide_eq_true_eq] <;> omega))
  · have HF : Hid (alB e = (decide (e.n = 0) && decide (e.kids.length = 0))) := by
      unfold Hid alB
      rw [if_neg (by rw [hk]; decide), if_pos hk]
    unfold evE
    clear hz
    rw [hk] at HW2 HX ⊢
    clear hk
    go_enter Tryz.func30, Tryz.ntmps30
    go_upto_region 5 with (fail)
    rw [← HW2.out]
    clear HW2
    have x1 : w2.cell? ⟨w.heap.size, 1, none⟩ = some (.string e.s) := HX.out.cell 1
    have x2 : w2.cell? ⟨w.heap.size, 2, none⟩ = some (.int .u64 e.n) := HX.out.cell 2
    have x3 : w2.cell? ⟨w.heap.size, 3, none⟩ = some (.slice A e.kids.length c) := HX.out.cell 3
    generalize e.kids.length = m at *
    go_wp2_with fail
    all_goals (go_ret; refine ⟨congrArg (fun b => Ending.returned (.bool b)) ?_, HB2.out⟩; refine Eq.trans ?_ HF.out.symm; have hzz := HZZ.out; clear HZZ HF HB2 HX HOK HE x1 x2 x3 hcap; simp_all <;> first | omega | (rw [Bool.eq_iff_iff]; simp only [Bool.and_eq_true, Bool.or_eq_true, Bool.not_eq_true', beq_iff_eq, decide_eq_true_eq] <;> omega))
  · have HF : Hid (alB e = (decide (e.n = 0) && (decide (e.kids.length = 0) && patB e.s.data.toList))) := by
      unfold Hid alB
      rw [if_neg (by rw [hk]; decide), if_neg (by rw [hk]; decide), if_pos hk]
    have HPT := Lib.hid (w_pattern e.s w2 HOK.out.2.1)
    generalize patB e.s.data.toList = pb at *
    unfold evE
    clear hz
    rw [hk] at HW2 HX ⊢
    clear hk
    go_enter Tryz.func30, Tryz.ntmps30
    go_upto_region 7 with (fail)
    rw [← HW2.out]
    clear HW2
    have x1 : w2.cell? ⟨w.heap.size, 1, none⟩ = some (.string e.s) := HX.out.cell 1
    have x2 : w2.cell? ⟨w.heap.size, 2, none⟩ = some (.int .u64 e.n) := HX.out.cell 2
    have x3 : w2.cell? ⟨w.heap.size, 3, none⟩ = some (.slice A e.kids.length c) := HX.out.cell 3
    generalize e.kids.length = m at *
    go_wp2_with (with_reducible (refine HPT.out.mono ?_); rintro en w3 ⟨rfl, rfl⟩)
    all_goals (clear HPT; (go_ret; refine ⟨congrArg (fun b => Ending.returned (.bool b)) ?_, HB2.out⟩; refine Eq.trans ?_ HF.out.symm; have hzz := HZZ.out; clear HZZ HF HB2 HX HOK HE x1 x2 x3 hcap; simp_all <;> first | omega | (rw [Bool.eq_iff_iff]; simp only [Bool.and_eq_true, Bool.or_eq_true, Bool.not_eq_true', beq_iff_eq, decide_eq_true_eq] <;> omega)))
  · have HF : Hid (alB e = getB e) := by
      unfold Hid alB
      rw [if_neg (by rw [hk]; decide), if_neg (by rw [hk]; decide), if_neg (by rw [hk]; decide), if_pos hk]
    rw [HF.out]
    have HG := Lib.hid (w_getline e A c (HE.out.keep HB2.out) HB2.out.size HOK.out)
    unfold evE at HG ⊢
    rw [hk] at HW2 HX HG ⊢
    clear hk hz
    go_enter Tryz.func30, Tryz.ntmps30
    go_upto_region 9 with (fail)
    rw [← HW2.out]
    clear HW2
    have x0 : w2.cell? ⟨w.heap.size, 0, none⟩ = some (.int .u8 23) := HX.out.cell 0
    have x1 : w2.cell? ⟨w.heap.size, 1, none⟩ = some (.string e.s) := HX.out.cell 1
    have x2 : w2.cell? ⟨w.heap.size, 2, none⟩ = some (.int .u64 e.n) := HX.out.cell 2
    have x3 : w2.cell? ⟨w.heap.size, 3, none⟩ = some (.slice A e.kids.length c) := HX.out.cell 3
    generalize e.kids.length = m at *
    go_wp2_with (with_reducible (refine HG.out.mono ?_); rintro en w3 ⟨rfl, hb3⟩; have HB3 := Lib.hid hb3; clear hb3)
    go_ret
    exact ⟨rfl, HB2.out.trans (HB3.out.mono HB2.out.size)⟩
end Go.Proofs.YtmapjahpjolmnaaGreatDoor
namespace Go.Proofs.YtmapjahpjolmnaaGreatDoor
open Go.RowKit Tr
theorem ecells.tur {w w' : World} {F : Nat → Prop} {b o : Nat} {e : XE} {v : Value} (h : ecells w b o e v) (ht : Tur F w w') (hF : ¬ F b) : ecells w' b o e v := by
  have hlt : b < w.heap.size := by
    by_cases hb : b < w.heap.size
    · exact hb
    · have h0 := h.1
      simp [World.cell?, Array.getElem?_eq_none (Nat.le_of_not_lt hb)] at h0
  have hbk := ht.block b hlt hF
  unfold ecells at h ⊢
  simp only [World.cell?, hbk] at h ⊢
  exact h
set_option maxRecDepth 20000 in
set_option maxHeartbeats 4000000 in
/-- .. one expression in a row of its own. -/
theorem w_exprs_one {σ : Type} {I : σ → World → Prop} {se : σ → XE → Int → σ} {most : Int} {Bd wb f : Nat} {caps : Array Value} {fs : Value} {Fr : Nat → Prop} {w0 : World} (W : WkE I se most Bd wb f caps fs Fr w0) (h61 : 1 ≤ most) {e : XE} {kv : Value} (hk : EsAt w0 Bd e.kids kv) (hok : e.Ok) (ar : Nat) (hF : ¬ Fr ar)
    (call1 : ∀ (a : σ) (w : World), I a w → ecells w ar 0 e kv → EsAt w Bd e.kids kv → Calls Tryz.prog f (#[.pointer (some ⟨ar, 0, none⟩), .int .i64 1] ++ caps) w fun en w' => en = .returned (.tuple #[]) ∧ I (se a e 1) w' ∧ Tur Fr w w') :
    ∀ (a : σ) (w : World), I a w → ecells w ar 0 e kv → Calls Tryz.prog 24 #[.pointer (some ⟨wb, 0, none⟩), .slice (some ⟨ar, 0, none⟩) 1 1, .int .i64 1] w fun en w' => en = .returned (.tuple #[]) ∧ I (foldEs se most [e] 1 a) w' ∧ Tur Fr w w' := by
  intro a w hI hcl
  have HI := Lib.hid hI
  have HC0 := Lib.hid hcl
  have HK := Lib.hid hk
  have HW := Lib.hid W
  have hm0 := W.m0
  have hm1 := W.m1
  have HFR := Lib.hid hF
  have HOK := Lib.hid hok
  have HC1 := Lib.hid call1
  clear hI hcl hk W hF hok call1
  go_enter Tryz.func24, Tryz.ntmps24
  go_wp2_with fail
  go_loopw [6, 9] (fun _ v9 wr => ∃ i : Nat, v9 = .int .i64 i ∧ i ≤ 1 ∧ I (foldEs se most ([e].take i) 1 a) wr ∧ Tur Fr w wr) (fun _ v9 _ => 1 - (intOf v9).toNat)
  case atStart => exact ⟨0, rfl, Nat.zero_le _, by rw [List.take_zero, foldEs_nil]; exact HI.out, Tur.refl _ _⟩
  case round =>
    obtain ⟨i, rfl, hi, hir, htr⟩ := hrel
    have HR := Lib.hid hir
    have HT := Lib.hid htr
    clear hir htr
    by_cases hlt : i < 1
    · obtain rfl : i = 0 := by omega
      have HC := Lib.hid (HC0.out.tur HT.out HFR.out)
      have HBX := Lib.hid (HW.out.box _ _ HR.out)
      obtain ⟨x0, x1, x2⟩ : wr.cell? ⟨wb, 0, none⟩ = some (.func (.func f) #[] caps) ∧ wr.cell? ⟨wb, 1, none⟩ = some fs ∧ wr.cell? ⟨wb, 2, none⟩ = some (.int .i64 most) := ⟨HBX.out.cell 0, HBX.out.cell 1, HBX.out.cell 2⟩
      clear x0 x1
      go_upto_region 4 with (fail)
      clear x2
      have HRD := Lib.hid (HW.out.drew _ _ HR.out)
      have HBD := Lib.hid (HW.out.box _ _ HRD.out)
      have HCD : Hid (ecells wr.drew ar 0 e kv) := HC.out
      refine wp_region_noPanic ?_
      refine wp_region_ord (fun wd => Blk wd wb 62 #[.func (.func f) #[] caps, fs, .int .i64 most]) (.read 0 (.read 1 (.read 2 (.read 3 (.read 4 (.read 5 (.read 6 (.read 7 (.alone 8 .done))))))))) (by kernel_rfl) (by kernel_rfl) (fun _ _ _ _ _ h => h) HBD.out ?_
      simp only [Ord.ops, List.getElem?_toArray, List.getElem?_cons_zero, List.getElem?_cons_succ]
      have HTD : Hid (Tur Fr w wr.drew) := HT.out.trans ((Tur.of_below (Below.refl wr.heap.size wr).drew).mono (fun i h1 h2 => absurd h2 (by omega))) (fun _ _ h => h)
      generalize wr.drew = wq at *
      iterate 8 (
        refine ord_read ?_ (fun wd hS M hM => ?_) ?_ ?_
        rotate_left
        · have HM := Lib.hid hM
          have x0 : wd.cell? ⟨wb, 0, none⟩ = some (.func (.func f) #[] caps) := hS.cell 0
          clear hM hS
          repeat (first | go_values | go_skip | go_guarded | go_step | go_upon)
          exact HM.out
        · rfl)
      refine ord_alone (fun M hM => ?_)
      have HM := Lib.hid hM
      clear hM
      have hrun := HW.out.run
      repeat (first | go_values | go_skip | go_guarded | go_step | go_upon)
      refine (HC1.out _ _ HRD.out HCD.out (HK.out.keep (HW.out.below _ _ HRD.out))).mono ?_
      rintro en w4 ⟨rfl, hI4, ht4⟩
      have HI4 := Lib.hid hI4
      have HT4 := Lib.hid (HTD.out.trans ht4 (fun _ _ h => h))
      have HC4 := Lib.hid (HCD.out.tur ht4 HFR.out)
      clear ht4 hI4
      dsimp only
      repeat (first | go_values | go_skip | go_guarded | go_step | go_upon)
      refine HM.out _ _ (HW.out.box _ _ HI4.out) ?_
      clear HM M
      refine NoPanic.normal (?_ : _)
      have x3 := HC4.out.2.2.2
      clear hrun
      go_wp2_with fail
      refine (w_exprs HW.out HK.out 2 _ w4 HI4.out (by omega) (by omega)).mono ?_
      rintro en w5 ⟨rfl, hI5, ht5⟩
      have HT5 := Lib.hid (HT4.out.trans ht5 (fun _ _ h => h))
      clear ht5
      have HI5 : Hid (I (foldEs se most ([e].take (0 + 1)) 1 a) w5) := by
        unfold Hid
        rw [foldEs_take _ _ (by omega) [e] 0 (by simp), foldE_eq]
        exact hI5
      clear hI5 x3
      go_wp2_with fail
      go_roundw
      case rel => exact ⟨0 + 1, by go_num, by omega, HI5.out, HT5.out⟩
      case measure => simp [intOf]
    · obtain rfl : i = 1 := by omega
      go_wp2_with fail
      go_end0
      exact ⟨rfl, HR.out, HT.out⟩
end Go.Proofs.YtmapjahpjolmnaaGreatDoor
