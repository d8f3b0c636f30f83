/- nodes.alone, nodes.Expr. -/
import Derived.Test.YtmapjahpjolmnaaGreatDoorG18
import Derived.Test.YtmapjahpjolmnaaGreatDoorG16
import Derived.Test.YtmapjahpjolmnaaGreatDoorG17
set_option linter.unusedVariables false
set_option linter.unusedSimpArgs false
namespace Go.Proofs.YtmapjahpjolmnaaGreatDoor
open Go.RowKit Tr
set_option maxRecDepth 20000
theorem ecells_gr {w w' : World} {b o : Nat} {e : XE} {v : Value} (h : ecells w b o e v) (hb : Below w.heap.size w w') : ecells w' b o e v := ecells.tur h (Tur.of_gr (F := fun _ => False) hb) (fun h => h)
theorem w_alone {w : World} (e : XE) (A : Option Addr) (c g : Nat) (h : EsAt w w.heap.size e.kids (.slice A e.kids.length c)) (hok : e.Ok) (hM : MapLit w g kindsL) (htab : Lib.TabIs Tryz.prog w "strings.asciiSpace" .u8 Lib.asciiSpaceTab) :
    Calls Tryz.prog 30 #[evE e A c, .map (some g)] w fun en w' => en = .returned (.bool (alB e)) ∧ Below w.heap.size w w' := by
  by_cases hk : e.k = 1 ∨ e.k = 2 ∨ e.k = 3 ∨ e.k = 23
  · exact w_alone_k e A c g h hok hk
  · have k1 : ¬ e.k = 1 := fun h => hk (.inl h)
    have k2 : ¬ e.k = 2 := fun h => hk (.inr (.inl h))
    have k3 : ¬ e.k = 3 := fun h => hk (.inr (.inr (.inl h)))
    have k4 : ¬ e.k = 23 := fun h => hk (.inr (.inr (.inr h)))
    cases hq : kindOf e.k with
    | none => exact w_alone0 e A c g h hok hM k1 k2 k3 k4 hq
    | some r =>
      cases hgd : gdB e r.lo r.hi r.first with
      | false => exact w_alone1 e A c g h hok hM k1 k2 k3 k4 r hq hgd
      | true =>
        by_cases h1 : r.says = kName
        · exact w_alone2 e A c g h hok hM k1 k2 k3 k4 r hq hgd h1
        by_cases h2 : r.says = kNo
        · exact w_alone3 e A c g h hok hM k1 k2 k3 k4 r hq hgd h2
        exact w_alone4 e A c g h hok hM k1 k2 k3 k4 r hq hgd h1 h2 htab
/-- What the closures of Expr and Right hold: a Bool, the table of kinds, their walk. -/
structure AlI (gb ab mb wb B : Nat) (wcs : Array Value) (w0 : World) (a : Bool) (w : World) : Prop where
  below : Below B w0 w
  g : Blk w gb 4 #[.bool a]
  al : Blk w ab 67 #[.map (some mb)]
  map : MapLit w mb kindsL
  wk : Blk w wb 62 wcs
theorem tur_map {w w' : World} {F : Nat → Prop} {b : Nat} {T : List (Value × Value)} (h : MapLit w b T) (ht : Tur F w w') (hF : ¬ F b) : MapLit w' b T := h.keep (ht.block b h.lt hF)
section
variable {gb ab mb wb B : Nat} {wcs : Array Value} {w0 w w' : World} {a a' : Bool}
theorem AlI.gr (h : AlI gb ab mb wb B wcs w0 a w) (hB : B ≤ w0.heap.size) (hb : Below w.heap.size w w') : AlI gb ab mb wb B wcs w0 a w' :=
  ⟨h.below.trans (hb.mono (Nat.le_trans hB h.below.size)), h.g.keep (Tur.of_gr (F := fun _ => False) hb) (fun h => h), h.al.keep (Tur.of_gr (F := fun _ => False) hb) (fun h => h), tur_map h.map (Tur.of_gr (F := fun _ => False) hb) (fun h => h), h.wk.keep (Tur.of_gr (F := fun _ => False) hb) (fun h => h)⟩
theorem AlI.drew (h : AlI gb ab mb wb B wcs w0 a w) : AlI gb ab mb wb B wcs w0 a w.drew := ⟨h.below.drew, h.g, h.al, h.map, h.wk⟩
theorem map_ne {w : World} {a b : Nat} {t : TypeId} {cs : Array Value} {T : List (Value × Value)} (h : Blk w a t cs) (k : MapLit w b T) : a ≠ b := by
  obtain ⟨es, c, hk, -⟩ := k
  rintro rfl
  unfold Blk at h
  rw [h] at hk
  cases hk
theorem AlI.set (h : AlI gb ab mb wb B wcs w0 a w) (hB : B ≤ w0.heap.size) (hg : B ≤ gb) : AlI gb ab mb wb B wcs w0 a' (w.setCell ⟨gb, 0, none⟩ (.bool a')) := by
  have ht : Tur (· = gb) w (w.setCell ⟨gb, 0, none⟩ (.bool a')) := Tur.of_set ⟨gb, 0, none⟩ _
  refine ⟨h.below.trans (ht.below _ (Nat.le_trans hB h.below.size) (fun k hk e => by omega)), ?_, h.al.keep ht (cells_ne h.al h.g (by decide)), tur_map h.map ht (map_ne h.g h.map).symm, h.wk.keep ht (cells_ne h.wk h.g (by decide))⟩
  have := h.g.set 0 (.bool a')
  simpa using this
end
set_option maxHeartbeats 4000000 in
theorem w_expr1 {gb ab mb wb B : Nat} {wcs : Array Value} {w0 w : World} {a : Bool} (hI : AlI gb ab mb wb B wcs w0 a w) (hB : B ≤ w0.heap.size) (hg : B ≤ gb) (htab : Lib.TabBelow Tryz.prog B w0 "strings.asciiSpace" .u8 Lib.asciiSpaceTab)
    {b o : Nat} (e : XE) {kv : Value} (d : Int) (hc : ecells w b o e kv) (hk : EsAt w B e.kids kv) (hok : e.Ok) :
    Calls Tryz.prog 35 #[.pointer (some ⟨b, o, none⟩), .int .i64 d, .pointer (some ⟨gb, 0, none⟩), .pointer (some ⟨ab, 0, none⟩)] w fun en w' => en = .returned (.tuple #[]) ∧ AlI gb ab mb wb B wcs w0 (stE alB a e d) w' ∧ Tur (· = gb) w w' := by
  obtain ⟨A, c, rfl, -, -⟩ := hk.form
  have HI := Lib.hid hI
  have HTB := Lib.hid htab
  have HC := Lib.hid hc
  have HK := Lib.hid hk
  have HOK := Lib.hid hok
  have HBB := Lib.hid hB
  have HGG := Lib.hid hg
  have HNE : Hid (b ≠ gb) := by
    rintro rfl
    have h0 := hc.1
    have h1 := hI.g
    unfold Blk at h1
    unfold World.cell? at h0
    rw [h1] at h0
    match o with
    | 0 => simp at h0
    | _ + 1 => simp at h0
  clear hI htab hc hk hok hB hg
  go_enter Tryz.func35, Tryz.ntmps35
  have HID := Lib.hid HI.out.drew
  have HCD : Hid (ecells w.drew b o e (.slice A e.kids.length c)) := HC.out
  have HKD := Lib.hid (HK.out.keep (Below.refl B w).drew)
  have HTD : Hid (Tur (· = gb) w w.drew) := Tur.of_drew w
  have hS0 : w.drew.cell? ⟨ab, 0, none⟩ = some (.map (some mb)) ∧ ecells w.drew b o e (.slice A e.kids.length c) := ⟨HID.out.al.cell 0, HCD.out⟩
  refine wp_region_noPanic ?_
  refine wp_region_ord (fun wd => wd.cell? ⟨ab, 0, none⟩ = some (.map (some mb)) ∧ ecells wd b o e (.slice A e.kids.length c)) (.alone 0 (.read 1 (.read 2 (.read 3 (.read 4 (.read 5 (.read 6 (.read 7 (.read 8 (.read 9 (.alone 10 (.alone 11 (.alone 12 .done))))))))))))) (by kernel_rfl) (by kernel_rfl) (fun _ _ _ _ _ h => h) hS0 ?_
  simp only [Ord.ops, List.getElem?_toArray, List.getElem?_cons_zero, List.getElem?_cons_succ]
  have HS0 := Lib.hid hS0
  clear hS0
  generalize w.drew = wq at *
  cases a
  · have HR : Hid (stE alB false e d = false) := rfl
    have x0 : wq.cell? ⟨gb, 0, none⟩ = some (.bool false) := HID.out.g.cell 0
    have f0 := HID.out.g.free 0
    (refine ord_alone (fun M hM => ?_); have HM := Lib.hid hM; clear hM; (repeat (first | go_values | go_skip | go_guarded | go_step | go_upon)); refine HM.out _ _ HS0.out ?_; clear HM M)
    (iterate 9 (refine ord_read ?_ (fun wd hS M hM => ?_) ?_ ?_; rotate_left; (have HM := Lib.hid hM; obtain ⟨q0, q1, q2, q3, q4⟩ := hS; clear hM; (repeat (first | go_values | go_skip | go_guarded | go_step | go_upon)); exact HM.out); rfl))
    (refine ord_alone (fun M hM => ?_); have HM := Lib.hid hM; clear hM; (repeat (first | go_values | go_skip | go_guarded | go_step | go_upon)); refine HM.out _ _ HS0.out ?_; clear HM M)
    (refine ord_alone (fun M hM => ?_); have HM := Lib.hid hM; clear hM; (repeat (first | go_values | go_skip | go_guarded | go_step | go_upon)); refine HM.out _ _ HS0.out ?_; clear HM M)
    (refine ord_alone (fun M hM => ?_); have HM := Lib.hid hM; clear hM; (repeat (first | go_values | go_skip | go_guarded | go_step | go_upon)); have HN := Lib.hid (HID.out.set (a' := false) HBB.out HGG.out); have HTN := Lib.hid (HTD.out.trans (Tur.of_set ⟨gb, 0, none⟩ (.bool false)) (fun _ _ h => h)); refine HM.out _ _ ⟨HN.out.al.cell 0, ecells.tur HS0.out.2 (Tur.of_set ⟨gb, 0, none⟩ _) HNE.out⟩ ?_; clear HM M; refine NoPanic.normal (?_ : _); go_wp2_with fail; go_end0)
    refine ⟨rfl, by rw [HR.out]; exact HN.out, HTN.out⟩
  · by_cases hd : d ≤ 60
    · have HR : Hid (stE alB true e d = alB e) := by unfold Hid stE; rw [decide_eq_true hd, Bool.true_and, Bool.true_and]
      have x0 : wq.cell? ⟨gb, 0, none⟩ = some (.bool true) := HID.out.g.cell 0
      have f0 := HID.out.g.free 0
      (refine ord_alone (fun M hM => ?_); have HM := Lib.hid hM; clear hM; (repeat (first | go_values | go_skip | go_guarded | go_step | go_upon)); refine HM.out _ _ HS0.out ?_; clear HM M)
      (iterate 9 (refine ord_read ?_ (fun wd hS M hM => ?_) ?_ ?_; rotate_left; (have HM := Lib.hid hM; obtain ⟨q0, q1, q2, q3, q4⟩ := hS; clear hM; (repeat (first | go_values | go_skip | go_guarded | go_step | go_upon)); exact HM.out); rfl))
      refine ord_alone (fun M hM => ?_)
      have HM := Lib.hid hM
      clear hM
      clear x0 f0
      have HCAL := Lib.hid (w_alone e A c mb (HKD.out.mono (Nat.le_trans HBB.out HID.out.below.size)) HOK.out HID.out.map (HTB.out _ HID.out.below))
      unfold evE at HCAL
      repeat (first | go_values | go_skip | go_guarded | go_step | go_upon)
      refine HCAL.out.mono ?_
      rintro en w3 ⟨rfl, hb3⟩
      have HI3 := Lib.hid (HID.out.gr HBB.out hb3)
      have HT3 : Hid (Tur (· = gb) w w3) := HTD.out.trans (Tur.of_gr hb3) (fun _ _ h => h)
      have HS3 : Hid (w3.cell? ⟨ab, 0, none⟩ = some (.map (some mb)) ∧ ecells w3 b o e (.slice A e.kids.length c)) := ⟨HI3.out.al.cell 0, ecells_gr HS0.out.2 hb3⟩
      clear hb3
      dsimp only
      repeat (first | go_values | go_skip | go_guarded | go_step | go_upon)
      refine HM.out _ _ HS3.out ?_
      clear HM M HID HS0 HTD
      have HID := HI3
      have HS0 := HS3
      have HTD := HT3
      clear HI3 HS3 HT3
      generalize w3 = wq at *
      generalize alB e = ra at *
      have x0 : wq.cell? ⟨gb, 0, none⟩ = some (.bool true) := HID.out.g.cell 0
      have f0 := HID.out.g.free 0
      (refine ord_alone (fun M hM => ?_); have HM := Lib.hid hM; clear hM; (repeat (first | go_values | go_skip | go_guarded | go_step | go_upon)); refine HM.out _ _ HS0.out ?_; clear HM M)
      (refine ord_alone (fun M hM => ?_); have HM := Lib.hid hM; clear hM; (repeat (first | go_values | go_skip | go_guarded | go_step | go_upon)); have HN := Lib.hid (HID.out.set (a' := ra) HBB.out HGG.out); have HTN := Lib.hid (HTD.out.trans (Tur.of_set ⟨gb, 0, none⟩ (.bool ra)) (fun _ _ h => h)); refine HM.out _ _ ⟨HN.out.al.cell 0, ecells.tur HS0.out.2 (Tur.of_set ⟨gb, 0, none⟩ _) HNE.out⟩ ?_; clear HM M; refine NoPanic.normal (?_ : _); go_wp2_with fail; go_end0)
      refine ⟨rfl, by rw [HR.out]; exact HN.out, HTN.out⟩
    · have HR : Hid (stE alB true e d = false) := by unfold Hid stE; rw [decide_eq_false hd]; rfl
      have x0 : wq.cell? ⟨gb, 0, none⟩ = some (.bool true) := HID.out.g.cell 0
      have f0 := HID.out.g.free 0
      (refine ord_alone (fun M hM => ?_); have HM := Lib.hid hM; clear hM; (repeat (first | go_values | go_skip | go_guarded | go_step | go_upon)); refine HM.out _ _ HS0.out ?_; clear HM M)
      (iterate 9 (refine ord_read ?_ (fun wd hS M hM => ?_) ?_ ?_; rotate_left; (have HM := Lib.hid hM; obtain ⟨q0, q1, q2, q3, q4⟩ := hS; clear hM; (repeat (first | go_values | go_skip | go_guarded | go_step | go_upon)); exact HM.out); rfl))
      (refine ord_alone (fun M hM => ?_); have HM := Lib.hid hM; clear hM; (repeat (first | go_values | go_skip | go_guarded | go_step | go_upon)); refine HM.out _ _ HS0.out ?_; clear HM M)
      (refine ord_alone (fun M hM => ?_); have HM := Lib.hid hM; clear hM; (repeat (first | go_values | go_skip | go_guarded | go_step | go_upon)); refine HM.out _ _ HS0.out ?_; clear HM M)
      (refine ord_alone (fun M hM => ?_); have HM := Lib.hid hM; clear hM; (repeat (first | go_values | go_skip | go_guarded | go_step | go_upon)); have HN := Lib.hid (HID.out.set (a' := false) HBB.out HGG.out); have HTN := Lib.hid (HTD.out.trans (Tur.of_set ⟨gb, 0, none⟩ (.bool false)) (fun _ _ h => h)); refine HM.out _ _ ⟨HN.out.al.cell 0, ecells.tur HS0.out.2 (Tur.of_set ⟨gb, 0, none⟩ _) HNE.out⟩ ?_; clear HM M; refine NoPanic.normal (?_ : _); go_wp2_with fail; go_end0)
      refine ⟨rfl, by rw [HR.out]; exact HN.out, HTN.out⟩
end Go.Proofs.YtmapjahpjolmnaaGreatDoor
namespace Go.Proofs.YtmapjahpjolmnaaGreatDoor
open Go.RowKit Tr
set_option maxRecDepth 20000
theorem wkExpr {gb ab mb wb B : Nat} {w0 : World} (hB : B ≤ w0.heap.size) (hg : B ≤ gb) (htab : Lib.TabBelow Tryz.prog B w0 "strings.asciiSpace" .u8 Lib.asciiSpaceTab) :
    WkE (AlI gb ab mb wb B #[.func (.func 35) #[] #[.pointer (some ⟨gb, 0, none⟩), .pointer (some ⟨ab, 0, none⟩)], .nilFunc, .int .i64 61] w0) (stE alB) 61 B wb 35 #[.pointer (some ⟨gb, 0, none⟩), .pointer (some ⟨ab, 0, none⟩)] .nilFunc (· = gb) w0 where
  m0 := by decide
  m1 := by decide
  box := fun a w h => h.wk
  below := fun a w h => h.below
  drew := fun a w h => h.drew
  run := fun args w => by rfl
  call := fun a w b o e kv d h hc hk _ hok _ _ => w_expr1 h hB hg htab e d hc hk hok
set_option maxHeartbeats 4000000 in
theorem w_Expr {w : World} (e : XE) (A : Option Addr) (c : Nat) (h : EsAt w w.heap.size e.kids (.slice A e.kids.length c)) (hok : e.Ok) (htab : Lib.TabIs Tryz.prog w "strings.asciiSpace" .u8 Lib.asciiSpaceTab) :
    Calls Tryz.prog 12 #[evE e A c] w fun en w' => en = .returned (.bool (exprR alB e 60)) ∧ Below w.heap.size w w' := by
  have HK := Lib.hid h
  have HTB := Lib.hid (Lib.tabBelow_of_tabIs htab)
  have hcap := h.cap
  clear h htab
  unfold evE
  obtain ⟨w2, hw2, hb2, hB0, hB1, hsz⟩ := two_new w 29 4 #[.int .u8 e.k, .string e.s, .int .u64 e.n, .slice A e.kids.length c] #[.bool true]
  have HW2 := Lib.hid hw2
  have HB2 := Lib.hid hb2
  have HX := Lib.hid hB0
  have HG := Lib.hid hB1
  have HSZ := Lib.hid hsz
  clear hw2 hb2 hB0 hB1 hsz
  go_enter Tryz.func12, Tryz.ntmps12
  go_upto_region 2 with (fail)
  rw [← HW2.out]
  clear HW2
  have HKD := Lib.hid (w_kinds w2)
  go_upto_region 3 with (with_reducible (refine HKD.out.mono ?_); rintro en w3 ⟨rfl, hk3⟩; have HK3 := Lib.hid hk3; clear hk3)
  go_upto_region 4 with (fail)
  obtain ⟨wa, hwa, hba, hA0, hA1, hsa⟩ := two_new w3 67 62 #[.map (some w2.heap.size)] #[.func (.func 35) #[] #[.pointer (some ⟨w.heap.size + 1, 0, none⟩), .pointer (some ⟨w3.heap.size, 0, none⟩)], .nilFunc, .int .i64 61]
  rw [← hwa]
  clear hwa
  have hB3 : Hid (Below w.heap.size w w3) := HB2.out.trans (HK3.out.below.mono HB2.out.size)
  have hXa := (HX.out.keep (Tur.of_gr (F := fun _ => False) (HK3.out.below)) (fun h => h)).keep (Tur.of_gr (F := fun _ => False) hba) (fun h => h)
  have hGa := (HG.out.keep (Tur.of_gr (F := fun _ => False) (HK3.out.below)) (fun h => h)).keep (Tur.of_gr (F := fun _ => False) hba) (fun h => h)
  have hMa : MapLit wa w2.heap.size kindsL := tur_map HK3.out.map (Tur.of_gr (F := fun _ => False) hba) (fun h => h)
  have hBa : Below w.heap.size w wa := hB3.out.trans (hba.mono hB3.out.size)
  have HIA : Hid (AlI (w.heap.size + 1) w3.heap.size w2.heap.size (w3.heap.size + 1) w.heap.size #[.func (.func 35) #[] #[.pointer (some ⟨w.heap.size + 1, 0, none⟩), .pointer (some ⟨w3.heap.size, 0, none⟩)], .nilFunc, .int .i64 61] w true wa) := ⟨hBa, hGa, hA0, hMa, hA1⟩
  have hlt : w.heap.size + 1 < wa.heap.size := hGa.lt
  have hne : wa.heap.size ≠ w.heap.size + 1 := by omega
  have HNE := Lib.hid hne
  have x0 : wa.cell? ⟨w.heap.size, 0, none⟩ = some (.int .u8 e.k) := hXa.cell 0
  have x1 : wa.cell? ⟨w.heap.size, 1, none⟩ = some (.string e.s) := hXa.cell 1
  have x2 : wa.cell? ⟨w.heap.size, 2, none⟩ = some (.int .u64 e.n) := hXa.cell 2
  have x3 : wa.cell? ⟨w.heap.size, 3, none⟩ = some (.slice A e.kids.length c) := hXa.cell 3
  have HW := Lib.hid (wkExpr (ab := w3.heap.size) (mb := w2.heap.size) (wb := w3.heap.size + 1) (Nat.le_refl _) (Nat.le_succ w.heap.size) HTB.out)
  obtain ⟨gb, hgb⟩ : ∃ x, x = w.heap.size + 1 := ⟨_, rfl⟩
  obtain ⟨X, hX⟩ : ∃ x, x = w.heap.size := ⟨_, rfl⟩
  clear hba hA0 hA1 hsa hB3 hXa hGa hMa hBa hlt hne HKD HK3 HX HG
  have HCA : Hid (ecells (wa.alloc (.cells #[.int .u8 e.k, .string e.s, .int .u64 e.n, .slice A e.kids.length c] 29)) wa.heap.size 0 e (.slice A e.kids.length c)) := by
    have hb := Blk.new wa 29 #[.int .u8 e.k, .string e.s, .int .u64 e.n, .slice A e.kids.length c]
    exact ⟨hb.cell 0, hb.cell 1, hb.cell 2, hb.cell 3⟩
  have HIB := Lib.hid (HIA.out.gr (Nat.le_refl _) ((Below.refl _ _).alloc (Nat.le_refl _) (.cells #[.int .u8 e.k, .string e.s, .int .u64 e.n, .slice A e.kids.length c] 29)))
  have HCALL := Lib.hid (w_exprs_one HW.out (by decide) HK.out hok wa.heap.size HNE.out (fun a w' h1 h2 h3 => w_expr1 h1 (Nat.le_refl _) (Nat.le_succ _) HTB.out e 1 h2 h3 hok) true _ HIB.out HCA.out)
  go_upto_region 5 with (with_reducible (refine HCALL.out.mono ?_); rintro en w6 ⟨rfl, hI6, -⟩; have HI6 := Lib.hid hI6; clear hI6 x0 x1 x2 x3)
  rw [fold_Expr] at HI6
  have x0 := HI6.out.g.cell 0
  have HB6 := Lib.hid HI6.out.below
  clear HI6
  go_wp2_with fail
  go_ret
  exact ⟨rfl, HB6.out⟩
end Go.Proofs.YtmapjahpjolmnaaGreatDoor
namespace Go.Proofs.YtmapjahpjolmnaaGreatDoor
open Go.RowKit Tr
set_option maxRecDepth 20000
theorem wrap2_zero {a b : Nat} (ha : a ≤ 9223372036854775807) (hb : b ≤ 9223372036854775807) : (wrap64 ((a : Int) + b) == 0) = decide (a + b = 0) := by
  rw [Bool.eq_iff_iff, beq_iff_eq, decide_eq_true_eq]
  unfold wrap64
  omega
theorem EsAt.len {w : World} {Bd : Nat} {l : List XE} {v : Value} (h : EsAt w Bd l v) : l.length ≤ 9223372036854775807 := by
  obtain ⟨_, _, -, h1, h2⟩ := h.form
  unfold maxLen at h2
  omega
theorem SsAt.len {w : World} {Bd : Nat} {l : List XS} {v : Value} (h : SsAt w Bd l v) : l.length ≤ 9223372036854775807 := by
  obtain ⟨_, _, -, h1, h2⟩ := h.form
  unfold maxLen at h2
  omega
theorem one4_is (l : List XE) (h : l.length = 1) : one4 l = decide ((l[0]'(by omega)).k = 4) := by
  match l, h with
  | [x], _ => rfl
theorem one4_not (l : List XE) (h : ¬ l.length = 1) : one4 l = false := by
  match l, h with
  | [], _ => rfl
  | [x], h => exact absurd rfl h
  | _ :: _ :: _, _ => rfl
theorem shape_is (nm : ByteArray → Bool) (e : XS) : shapeB nm e = shapeF e.k (decide (e.s.size = 0)) e.n e.exprs.length e.body.length e.els.length (nm e.s) (loopB e) (one4 e.exprs) := rfl
end Go.Proofs.YtmapjahpjolmnaaGreatDoor
namespace Go.Proofs.YtmapjahpjolmnaaGreatDoor
open Go.RowKit Tr
set_option maxRecDepth 20000
set_option maxHeartbeats 4000000 in
theorem w_shape_a {w : World} {b o : Nat} (e : XS) {A1 A2 A3 : Option Addr} {c1 c2 c3 : Nat} (hc : scellsT w b o e (.slice A1 e.exprs.length c1) (.slice A2 e.body.length c2) (.slice A3 e.els.length c3)) (he : EsAt w w.heap.size e.exprs (.slice A1 e.exprs.length c1)) (hb : SsAt w w.heap.size e.body (.slice A2 e.body.length c2)) (hl : SsAt w w.heap.size e.els (.slice A3 e.els.length c3)) (hbw : b < w.heap.size) (hok : e.Ok) (hkk : e.k = 1 ∨ e.k = 2 ∨ e.k = 3) :
    Calls Tryz.prog 32 #[.pointer (some ⟨b, o, none⟩)] w fun en w' => en = .returned (.bool (shapeB nameB e)) ∧ Below w.heap.size w w' := by
  have HC := Lib.hid hc
  have hcb := hb.cap
  have HW23 := Lib.hid (wrap2_zero hb.len hl.len)
  have HW13 := Lib.hid (wrap2_zero he.len hl.len)
  have hcl := hl.cap
  have hce := he.cap
  have HE := Lib.hid he
  have HL := Lib.hid hl
  have HOK := Lib.hid hok
  have HBW := Lib.hid hbw
  clear hb he hl hc hok
  go_enter Tryz.func32, Tryz.ntmps32
  go_upto_region 1 with (fail)
  have HCD := Lib.hid (HC.out.keep (Below.refl w.heap.size w).drew hbw)
  have HBD := Lib.hid (Below.refl w.heap.size w).drew
  have HED := Lib.hid (HE.out.keep HBD.out)
  have HLD := Lib.hid (HL.out.keep HBD.out)
  have HSZ : Hid (w.drew.heap.size = w.heap.size) := rfl
  obtain ⟨x0, x1, x2, x3, x4, x5, x6⟩ := HCD.out
  refine wp_region_noPanic ?_
  refine wp_region_ord (fun wd => wd.cell? ⟨b, o + 1, none⟩ = some (.string e.s) ∧ wd.cell? ⟨b, o + 2, none⟩ = some (.int .i64 e.n) ∧ wd.cell? ⟨b, o + 3, none⟩ = some (.slice A1 e.exprs.length c1) ∧ wd.cell? ⟨b, o + 4, none⟩ = some (.slice A2 e.body.length c2) ∧ wd.cell? ⟨b, o + 5, none⟩ = some (.slice A3 e.els.length c3)) (.read 0 (.read 1 (.read 2 (.read 3 (.read 4 (.read 5 (.read 6 (.read 7 (.read 8 (.read 9 (.read 10 (.read 11 (.read 12 (.read 13 (.read 14 (.read 15 (.read 16 (.read 17 .done)))))))))))))))))) (by kernel_rfl) (by kernel_rfl) (fun _ _ _ _ _ h => h) ⟨x1, x2, x3, x4, x5⟩ ?_
  simp only [Ord.ops, List.getElem?_toArray, List.getElem?_cons_zero, List.getElem?_cons_succ]
  clear HC HE HL
  generalize w.drew = wq at *
  have hse := sEmpty e.s
  obtain ⟨z, hz⟩ : ∃ z, z = e.s.toList.isEmpty := ⟨_, rfl⟩
  rw [← hz] at hse
  have HZZ : Hid (e.s.toList = [] ↔ z = true) := by unfold Hid; rw [hz, List.isEmpty_iff]
  iterate 18 (
    refine ord_read ?_ (fun wd hS M hM => ?_) ?_ ?_
    rotate_left
    · have HM := Lib.hid hM
      obtain ⟨z1, z2, z3, z4, z5⟩ := hS
      clear hM
      repeat (first | go_values | go_skip | go_guarded | go_step | go_upon)
      exact HM.out
    · rfl)
  refine NoPanic.normal (?_ : _)
  clear hz
  have HSHH := Lib.hid (shape_is nameB e)
  rw [← hse] at HSHH
  obtain ⟨m1, hm1⟩ : ∃ x, e.exprs.length = x := ⟨_, rfl⟩
  obtain ⟨m2, hm2⟩ : ∃ x, e.body.length = x := ⟨_, rfl⟩
  obtain ⟨m3, hm3⟩ : ∃ x, e.els.length = x := ⟨_, rfl⟩
  rw [hm1] at x3 HSHH hce HW13
  rw [hm2] at x4 HSHH hcb HW23
  rw [hm3] at x5 HSHH hcl HW23 HW13
  rw [hm1, hm2, hm3]
  have HM1 := Lib.hid hm1
  have HM2 := Lib.hid hm2
  have HM3 := Lib.hid hm3
  clear hm1 hm2 hm3
  by_cases hk1 : e.k = 1
  · have HSH : Hid (shapeB nameB e = ((z && decide (e.n = 0)) && decide (m1 = 1 ∧ m2 + m3 = 0))) := by
      unfold Hid
      rw [HSHH.out, hk1]
      rfl
    rw [hk1] at x0
    clear hk1
    (go_wp2_with fail; all_goals (go_ret; refine ⟨congrArg (fun b => Ending.returned (.bool b)) ?_, HBD.out⟩; refine Eq.trans ?_ HSH.out.symm; have hzz := HZZ.out; have hw23 := HW23.out; have hw13 := HW13.out; clear HZZ HW23 HW13 HSH HCD HBD HED HLD HSZ HOK HBW x0 x1 x2 x3 x4 x5 x6 hse hcb hcl hce HM1 HM2 HM3; simp_all <;> first | omega | (rw [Bool.eq_iff_iff]; simp only [Bool.and_eq_true, Bool.or_eq_true, Bool.not_eq_true', beq_iff_eq, decide_eq_true_eq] <;> omega)))
  by_cases hk2 : e.k = 2
  · have HSH : Hid (shapeB nameB e = (z && decide (0 ≤ e.n ∧ e.n ≤ 3 ∧ (0 < e.n → 0 < m1) ∧ m2 + m3 = 0))) := by
      unfold Hid
      rw [HSHH.out, hk2]
      rfl
    rw [hk2] at x0
    clear hk2
    (go_wp2_with fail; all_goals (go_ret; refine ⟨congrArg (fun b => Ending.returned (.bool b)) ?_, HBD.out⟩; refine Eq.trans ?_ HSH.out.symm; have hzz := HZZ.out; have hw23 := HW23.out; have hw13 := HW13.out; clear HZZ HW23 HW13 HSH HCD HBD HED HLD HSZ HOK HBW x0 x1 x2 x3 x4 x5 x6 hse hcb hcl hce HM1 HM2 HM3; simp_all <;> first | omega | (rw [Bool.eq_iff_iff]; simp only [Bool.and_eq_true, Bool.or_eq_true, Bool.not_eq_true', beq_iff_eq, decide_eq_true_eq] <;> omega)))
  by_cases hk3 : e.k = 3
  · have HSH : Hid (shapeB nameB e = (z && decide (0 ≤ e.n ∧ e.n ≤ 3 ∧ 0 < m1 ∧ (0 < e.n → 1 < m1) ∧ m2 + m3 = 0))) := by
      unfold Hid
      rw [HSHH.out, hk3]
      rfl
    rw [hk3] at x0
    clear hk3
    (go_wp2_with fail; all_goals (go_ret; refine ⟨congrArg (fun b => Ending.returned (.bool b)) ?_, HBD.out⟩; refine Eq.trans ?_ HSH.out.symm; have hzz := HZZ.out; have hw23 := HW23.out; have hw13 := HW13.out; clear HZZ HW23 HW13 HSH HCD HBD HED HLD HSZ HOK HBW x0 x1 x2 x3 x4 x5 x6 hse hcb hcl hce HM1 HM2 HM3; simp_all <;> first | omega | (rw [Bool.eq_iff_iff]; simp only [Bool.and_eq_true, Bool.or_eq_true, Bool.not_eq_true', beq_iff_eq, decide_eq_true_eq] <;> omega)))
  exfalso
  omega
end Go.Proofs.YtmapjahpjolmnaaGreatDoor
namespace Go.Proofs.YtmapjahpjolmnaaGreatDoor
open Go.RowKit Tr
set_option maxRecDepth 20000
set_option maxHeartbeats 4000000 in
theorem w_shape_b {w : World} {b o : Nat} (e : XS) {A1 A2 A3 : Option Addr} {c1 c2 c3 : Nat} (hc : scellsT w b o e (.slice A1 e.exprs.length c1) (.slice A2 e.body.length c2) (.slice A3 e.els.length c3)) (he : EsAt w w.heap.size e.exprs (.slice A1 e.exprs.length c1)) (hb : SsAt w w.heap.size e.body (.slice A2 e.body.length c2)) (hl : SsAt w w.heap.size e.els (.slice A3 e.els.length c3)) (hbw : b < w.heap.size) (hok : e.Ok) (hkk : e.k = 4 ∨ e.k = 5 ∨ e.k = 6 ∨ e.k = 9) :
    Calls Tryz.prog 32 #[.pointer (some ⟨b, o, none⟩)] w fun en w' => en = .returned (.bool (shapeB nameB e)) ∧ Below w.heap.size w w' := by
  have HC := Lib.hid hc
  have hcb := hb.cap
  have HW23 := Lib.hid (wrap2_zero hb.len hl.len)
  have HW13 := Lib.hid (wrap2_zero he.len hl.len)
  have hcl := hl.cap
  have hce := he.cap
  have HE := Lib.hid he
  have HL := Lib.hid hl
  have HOK := Lib.hid hok
  have HBW := Lib.hid hbw
  clear hb he hl hc hok
  go_enter Tryz.func32, Tryz.ntmps32
  go_upto_region 1 with (fail)
  have HCD := Lib.hid (HC.out.keep (Below.refl w.heap.size w).drew hbw)
  have HBD := Lib.hid (Below.refl w.heap.size w).drew
  have HED := Lib.hid (HE.out.keep HBD.out)
  have HLD := Lib.hid (HL.out.keep HBD.out)
  have HSZ : Hid (w.drew.heap.size = w.heap.size) := rfl
  obtain ⟨x0, x1, x2, x3, x4, x5, x6⟩ := HCD.out
  refine wp_region_noPanic ?_
  refine wp_region_ord (fun wd => wd.cell? ⟨b, o + 1, none⟩ = some (.string e.s) ∧ wd.cell? ⟨b, o + 2, none⟩ = some (.int .i64 e.n) ∧ wd.cell? ⟨b, o + 3, none⟩ = some (.slice A1 e.exprs.length c1) ∧ wd.cell? ⟨b, o + 4, none⟩ = some (.slice A2 e.body.length c2) ∧ wd.cell? ⟨b, o + 5, none⟩ = some (.slice A3 e.els.length c3)) (.read 0 (.read 1 (.read 2 (.read 3 (.read 4 (.read 5 (.read 6 (.read 7 (.read 8 (.read 9 (.read 10 (.read 11 (.read 12 (.read 13 (.read 14 (.read 15 (.read 16 (.read 17 .done)))))))))))))))))) (by kernel_rfl) (by kernel_rfl) (fun _ _ _ _ _ h => h) ⟨x1, x2, x3, x4, x5⟩ ?_
  simp only [Ord.ops, List.getElem?_toArray, List.getElem?_cons_zero, List.getElem?_cons_succ]
  clear HC HE HL
  generalize w.drew = wq at *
  have hse := sEmpty e.s
  obtain ⟨z, hz⟩ : ∃ z, z = e.s.toList.isEmpty := ⟨_, rfl⟩
  rw [← hz] at hse
  have HZZ : Hid (e.s.toList = [] ↔ z = true) := by unfold Hid; rw [hz, List.isEmpty_iff]
  iterate 18 (
    refine ord_read ?_ (fun wd hS M hM => ?_) ?_ ?_
    rotate_left
    · have HM := Lib.hid hM
      obtain ⟨z1, z2, z3, z4, z5⟩ := hS
      clear hM
      repeat (first | go_values | go_skip | go_guarded | go_step | go_upon)
      exact HM.out
    · rfl)
  refine NoPanic.normal (?_ : _)
  clear hz
  have HSHH := Lib.hid (shape_is nameB e)
  rw [← hse] at HSHH
  obtain ⟨m1, hm1⟩ : ∃ x, e.exprs.length = x := ⟨_, rfl⟩
  obtain ⟨m2, hm2⟩ : ∃ x, e.body.length = x := ⟨_, rfl⟩
  obtain ⟨m3, hm3⟩ : ∃ x, e.els.length = x := ⟨_, rfl⟩
  rw [hm1] at x3 HSHH hce HW13
  rw [hm2] at x4 HSHH hcb HW23
  rw [hm3] at x5 HSHH hcl HW23 HW13
  rw [hm1, hm2, hm3]
  have HM1 := Lib.hid hm1
  have HM2 := Lib.hid hm2
  have HM3 := Lib.hid hm3
  clear hm1 hm2 hm3
  by_cases hk4 : e.k = 4
  · have HSH : Hid (shapeB nameB e = ((z && decide (e.n = 0)) && decide (m1 = 1))) := by
      unfold Hid
      rw [HSHH.out, hk4]
      rfl
    rw [hk4] at x0
    clear hk4
    (go_wp2_with fail; all_goals (go_ret; refine ⟨congrArg (fun b => Ending.returned (.bool b)) ?_, HBD.out⟩; refine Eq.trans ?_ HSH.out.symm; have hzz := HZZ.out; have hw23 := HW23.out; have hw13 := HW13.out; clear HZZ HW23 HW13 HSH HCD HBD HED HLD HSZ HOK HBW x0 x1 x2 x3 x4 x5 x6 hse hcb hcl hce HM1 HM2 HM3; simp_all <;> first | omega | (rw [Bool.eq_iff_iff]; simp only [Bool.and_eq_true, Bool.or_eq_true, Bool.not_eq_true', beq_iff_eq, decide_eq_true_eq] <;> omega)))
  by_cases hk5 : e.k = 5
  · have HSH : Hid (shapeB nameB e = ((z && decide (e.n = 0)) && decide (m1 = 1 ∧ m3 = 0))) := by
      unfold Hid
      rw [HSHH.out, hk5]
      rfl
    rw [hk5] at x0
    clear hk5
    (go_wp2_with fail; all_goals (go_ret; refine ⟨congrArg (fun b => Ending.returned (.bool b)) ?_, HBD.out⟩; refine Eq.trans ?_ HSH.out.symm; have hzz := HZZ.out; have hw23 := HW23.out; have hw13 := HW13.out; clear HZZ HW23 HW13 HSH HCD HBD HED HLD HSZ HOK HBW x0 x1 x2 x3 x4 x5 x6 hse hcb hcl hce HM1 HM2 HM3; simp_all <;> first | omega | (rw [Bool.eq_iff_iff]; simp only [Bool.and_eq_true, Bool.or_eq_true, Bool.not_eq_true', beq_iff_eq, decide_eq_true_eq] <;> omega)))
  by_cases hk6 : e.k = 6
  · have HSH : Hid (shapeB nameB e = ((z && decide (e.n = 0)) && decide (m1 = 1 ∧ m3 = 0))) := by
      unfold Hid
      rw [HSHH.out, hk6]
      rfl
    rw [hk6] at x0
    clear hk6
    (go_wp2_with fail; all_goals (go_ret; refine ⟨congrArg (fun b => Ending.returned (.bool b)) ?_, HBD.out⟩; refine Eq.trans ?_ HSH.out.symm; have hzz := HZZ.out; have hw23 := HW23.out; have hw13 := HW13.out; clear HZZ HW23 HW13 HSH HCD HBD HED HLD HSZ HOK HBW x0 x1 x2 x3 x4 x5 x6 hse hcb hcl hce HM1 HM2 HM3; simp_all <;> first | omega | (rw [Bool.eq_iff_iff]; simp only [Bool.and_eq_true, Bool.or_eq_true, Bool.not_eq_true', beq_iff_eq, decide_eq_true_eq] <;> omega)))
  by_cases hk9 : e.k = 9
  · have HSH : Hid (shapeB nameB e = ((z && decide (e.n = 0)) && decide (wrap64 (wrap64 ((m1 : Int) + m2) + m3) = 0))) := by
      unfold Hid
      rw [HSHH.out, hk9]
      rfl
    rw [hk9] at x0
    clear hk9
    (go_wp2_with fail; all_goals (go_ret; refine ⟨congrArg (fun b => Ending.returned (.bool b)) ?_, HBD.out⟩; refine Eq.trans ?_ HSH.out.symm; have hzz := HZZ.out; have hw23 := HW23.out; have hw13 := HW13.out; clear HZZ HW23 HW13 HSH HCD HBD HED HLD HSZ HOK HBW x0 x1 x2 x3 x4 x5 x6 hse hcb hcl hce HM1 HM2 HM3; simp_all <;> first | omega | (rw [Bool.eq_iff_iff]; simp only [Bool.and_eq_true, Bool.or_eq_true, Bool.not_eq_true', beq_iff_eq, decide_eq_true_eq] <;> omega)))
  exfalso
  omega
end Go.Proofs.YtmapjahpjolmnaaGreatDoor
namespace Go.Proofs.YtmapjahpjolmnaaGreatDoor
open Go.RowKit Tr
set_option maxRecDepth 20000
set_option maxHeartbeats 4000000 in
theorem w_shape_c {w : World} {b o : Nat} (e : XS) {A1 A2 A3 : Option Addr} {c1 c2 c3 : Nat} (hc : scellsT w b o e (.slice A1 e.exprs.length c1) (.slice A2 e.body.length c2) (.slice A3 e.els.length c3)) (he : EsAt w w.heap.size e.exprs (.slice A1 e.exprs.length c1)) (hb : SsAt w w.heap.size e.body (.slice A2 e.body.length c2)) (hl : SsAt w w.heap.size e.els (.slice A3 e.els.length c3)) (hbw : b < w.heap.size) (hok : e.Ok) (hkk : e.k = 10 ∨ e.k = 11 ∨ e.k = 12) :
    Calls Tryz.prog 32 #[.pointer (some ⟨b, o, none⟩)] w fun en w' => en = .returned (.bool (shapeB nameB e)) ∧ Below w.heap.size w w' := by
  have HC := Lib.hid hc
  have hcb := hb.cap
  have HW23 := Lib.hid (wrap2_zero hb.len hl.len)
  have HW13 := Lib.hid (wrap2_zero he.len hl.len)
  have hcl := hl.cap
  have hce := he.cap
  have HE := Lib.hid he
  have HL := Lib.hid hl
  have HOK := Lib.hid hok
  have HBW := Lib.hid hbw
  clear hb he hl hc hok
  go_enter Tryz.func32, Tryz.ntmps32
  go_upto_region 1 with (fail)
  have HCD := Lib.hid (HC.out.keep (Below.refl w.heap.size w).drew hbw)
  have HBD := Lib.hid (Below.refl w.heap.size w).drew
  have HED := Lib.hid (HE.out.keep HBD.out)
  have HLD := Lib.hid (HL.out.keep HBD.out)
  have HSZ : Hid (w.drew.heap.size = w.heap.size) := rfl
  obtain ⟨x0, x1, x2, x3, x4, x5, x6⟩ := HCD.out
  refine wp_region_noPanic ?_
  refine wp_region_ord (fun wd => wd.cell? ⟨b, o + 1, none⟩ = some (.string e.s) ∧ wd.cell? ⟨b, o + 2, none⟩ = some (.int .i64 e.n) ∧ wd.cell? ⟨b, o + 3, none⟩ = some (.slice A1 e.exprs.length c1) ∧ wd.cell? ⟨b, o + 4, none⟩ = some (.slice A2 e.body.length c2) ∧ wd.cell? ⟨b, o + 5, none⟩ = some (.slice A3 e.els.length c3)) (.read 0 (.read 1 (.read 2 (.read 3 (.read 4 (.read 5 (.read 6 (.read 7 (.read 8 (.read 9 (.read 10 (.read 11 (.read 12 (.read 13 (.read 14 (.read 15 (.read 16 (.read 17 .done)))))))))))))))))) (by kernel_rfl) (by kernel_rfl) (fun _ _ _ _ _ h => h) ⟨x1, x2, x3, x4, x5⟩ ?_
  simp only [Ord.ops, List.getElem?_toArray, List.getElem?_cons_zero, List.getElem?_cons_succ]
  clear HC HE HL
  generalize w.drew = wq at *
  have hse := sEmpty e.s
  obtain ⟨z, hz⟩ : ∃ z, z = e.s.toList.isEmpty := ⟨_, rfl⟩
  rw [← hz] at hse
  have HZZ : Hid (e.s.toList = [] ↔ z = true) := by unfold Hid; rw [hz, List.isEmpty_iff]
  iterate 18 (
    refine ord_read ?_ (fun wd hS M hM => ?_) ?_ ?_
    rotate_left
    · have HM := Lib.hid hM
      obtain ⟨z1, z2, z3, z4, z5⟩ := hS
      clear hM
      repeat (first | go_values | go_skip | go_guarded | go_step | go_upon)
      exact HM.out
    · rfl)
  refine NoPanic.normal (?_ : _)
  clear hz
  have HSHH := Lib.hid (shape_is nameB e)
  rw [← hse] at HSHH
  obtain ⟨m1, hm1⟩ : ∃ x, e.exprs.length = x := ⟨_, rfl⟩
  obtain ⟨m2, hm2⟩ : ∃ x, e.body.length = x := ⟨_, rfl⟩
  obtain ⟨m3, hm3⟩ : ∃ x, e.els.length = x := ⟨_, rfl⟩
  rw [hm1] at x3 HSHH hce HW13
  rw [hm2] at x4 HSHH hcb HW23
  rw [hm3] at x5 HSHH hcl HW23 HW13
  rw [hm1, hm2, hm3]
  have HM1 := Lib.hid hm1
  have HM2 := Lib.hid hm2
  have HM3 := Lib.hid hm3
  clear hm1 hm2 hm3
  by_cases hk10 : e.k = 10
  · have HSH : Hid (shapeB nameB e = ((z && decide (e.n = 0)) && decide (wrap64 (wrap64 ((m1 : Int) + m2) + m3) = 0))) := by
      unfold Hid
      rw [HSHH.out, hk10]
      rfl
    rw [hk10] at x0
    clear hk10
    (go_wp2_with fail; all_goals (go_ret; refine ⟨congrArg (fun b => Ending.returned (.bool b)) ?_, HBD.out⟩; refine Eq.trans ?_ HSH.out.symm; have hzz := HZZ.out; have hw23 := HW23.out; have hw13 := HW13.out; clear HZZ HW23 HW13 HSH HCD HBD HED HLD HSZ HOK HBW x0 x1 x2 x3 x4 x5 x6 hse hcb hcl hce HM1 HM2 HM3; simp_all <;> first | omega | (rw [Bool.eq_iff_iff]; simp only [Bool.and_eq_true, Bool.or_eq_true, Bool.not_eq_true', beq_iff_eq, decide_eq_true_eq] <;> omega)))
  by_cases hk11 : e.k = 11
  · have HSH : Hid (shapeB nameB e = ((z && decide (e.n = 0)) && decide (wrap64 (wrap64 ((m1 : Int) + m2) + m3) = 0))) := by
      unfold Hid
      rw [HSHH.out, hk11]
      rfl
    rw [hk11] at x0
    clear hk11
    (go_wp2_with fail; all_goals (go_ret; refine ⟨congrArg (fun b => Ending.returned (.bool b)) ?_, HBD.out⟩; refine Eq.trans ?_ HSH.out.symm; have hzz := HZZ.out; have hw23 := HW23.out; have hw13 := HW13.out; clear HZZ HW23 HW13 HSH HCD HBD HED HLD HSZ HOK HBW x0 x1 x2 x3 x4 x5 x6 hse hcb hcl hce HM1 HM2 HM3; simp_all <;> first | omega | (rw [Bool.eq_iff_iff]; simp only [Bool.and_eq_true, Bool.or_eq_true, Bool.not_eq_true', beq_iff_eq, decide_eq_true_eq] <;> omega)))
  by_cases hk12 : e.k = 12
  · have HSH : Hid (shapeB nameB e = ((z && decide (e.n = 0)) && decide (m1 ≤ 1 ∧ m2 + m3 = 0))) := by
      unfold Hid
      rw [HSHH.out, hk12]
      rfl
    rw [hk12] at x0
    clear hk12
    (go_wp2_with fail; all_goals (go_ret; refine ⟨congrArg (fun b => Ending.returned (.bool b)) ?_, HBD.out⟩; refine Eq.trans ?_ HSH.out.symm; have hzz := HZZ.out; have hw23 := HW23.out; have hw13 := HW13.out; clear HZZ HW23 HW13 HSH HCD HBD HED HLD HSZ HOK HBW x0 x1 x2 x3 x4 x5 x6 hse hcb hcl hce HM1 HM2 HM3; simp_all <;> first | omega | (rw [Bool.eq_iff_iff]; simp only [Bool.and_eq_true, Bool.or_eq_true, Bool.not_eq_true', beq_iff_eq, decide_eq_true_eq] <;> omega)))
  exfalso
  omega
end Go.Proofs.YtmapjahpjolmnaaGreatDoor
namespace Go.Proofs.YtmapjahpjolmnaaGreatDoor
open Go.RowKit Tr
set_option maxRecDepth 20000
set_option maxHeartbeats 4000000 in
theorem w_shape_d {w : World} {b o : Nat} (e : XS) {A1 A2 A3 : Option Addr} {c1 c2 c3 : Nat} (hc : scellsT w b o e (.slice A1 e.exprs.length c1) (.slice A2 e.body.length c2) (.slice A3 e.els.length c3)) (he : EsAt w w.heap.size e.exprs (.slice A1 e.exprs.length c1)) (hb : SsAt w w.heap.size e.body (.slice A2 e.body.length c2)) (hl : SsAt w w.heap.size e.els (.slice A3 e.els.length c3)) (hbw : b < w.heap.size) (hok : e.Ok) (hkk : e.k = 13 ∨ e.k = 15 ∨ e.k = 14) :
    Calls Tryz.prog 32 #[.pointer (some ⟨b, o, none⟩)] w fun en w' => en = .returned (.bool (shapeB nameB e)) ∧ Below w.heap.size w w' := by
  have HC := Lib.hid hc
  have hcb := hb.cap
  have HW23 := Lib.hid (wrap2_zero hb.len hl.len)
  have HW13 := Lib.hid (wrap2_zero he.len hl.len)
  have hcl := hl.cap
  have hce := he.cap
  have HE := Lib.hid he
  have HL := Lib.hid hl
  have HOK := Lib.hid hok
  have HBW := Lib.hid hbw
  clear hb he hl hc hok
  go_enter Tryz.func32, Tryz.ntmps32
  go_upto_region 1 with (fail)
  have HCD := Lib.hid (HC.out.keep (Below.refl w.heap.size w).drew hbw)
  have HBD := Lib.hid (Below.refl w.heap.size w).drew
  have HED := Lib.hid (HE.out.keep HBD.out)
  have HLD := Lib.hid (HL.out.keep HBD.out)
  have HSZ : Hid (w.drew.heap.size = w.heap.size) := rfl
  obtain ⟨x0, x1, x2, x3, x4, x5, x6⟩ := HCD.out
  refine wp_region_noPanic ?_
  refine wp_region_ord (fun wd => wd.cell? ⟨b, o + 1, none⟩ = some (.string e.s) ∧ wd.cell? ⟨b, o + 2, none⟩ = some (.int .i64 e.n) ∧ wd.cell? ⟨b, o + 3, none⟩ = some (.slice A1 e.exprs.length c1) ∧ wd.cell? ⟨b, o + 4, none⟩ = some (.slice A2 e.body.length c2) ∧ wd.cell? ⟨b, o + 5, none⟩ = some (.slice A3 e.els.length c3)) (.read 0 (.read 1 (.read 2 (.read 3 (.read 4 (.read 5 (.read 6 (.read 7 (.read 8 (.read 9 (.read 10 (.read 11 (.read 12 (.read 13 (.read 14 (.read 15 (.read 16 (.read 17 .done)))))))))))))))))) (by kernel_rfl) (by kernel_rfl) (fun _ _ _ _ _ h => h) ⟨x1, x2, x3, x4, x5⟩ ?_
  simp only [Ord.ops, List.getElem?_toArray, List.getElem?_cons_zero, List.getElem?_cons_succ]
  clear HC HE HL
  generalize w.drew = wq at *
  have hse := sEmpty e.s
  obtain ⟨z, hz⟩ : ∃ z, z = e.s.toList.isEmpty := ⟨_, rfl⟩
  rw [← hz] at hse
  have HZZ : Hid (e.s.toList = [] ↔ z = true) := by unfold Hid; rw [hz, List.isEmpty_iff]
  iterate 18 (
    refine ord_read ?_ (fun wd hS M hM => ?_) ?_ ?_
    rotate_left
    · have HM := Lib.hid hM
      obtain ⟨z1, z2, z3, z4, z5⟩ := hS
      clear hM
      repeat (first | go_values | go_skip | go_guarded | go_step | go_upon)
      exact HM.out
    · rfl)
  refine NoPanic.normal (?_ : _)
  clear hz
  have HSHH := Lib.hid (shape_is nameB e)
  rw [← hse] at HSHH
  obtain ⟨m1, hm1⟩ : ∃ x, e.exprs.length = x := ⟨_, rfl⟩
  obtain ⟨m2, hm2⟩ : ∃ x, e.body.length = x := ⟨_, rfl⟩
  obtain ⟨m3, hm3⟩ : ∃ x, e.els.length = x := ⟨_, rfl⟩
  rw [hm1] at x3 HSHH hce HW13
  rw [hm2] at x4 HSHH hcb HW23
  rw [hm3] at x5 HSHH hcl HW23 HW13
  rw [hm1, hm2, hm3]
  have HM1 := Lib.hid hm1
  have HM2 := Lib.hid hm2
  have HM3 := Lib.hid hm3
  clear hm1 hm2 hm3
  by_cases hk13 : e.k = 13
  · have HSH : Hid (shapeB nameB e = ((z && decide (e.n = 0)) && decide (m1 ≤ 1 ∧ m2 + m3 = 0))) := by
      unfold Hid
      rw [HSHH.out, hk13]
      rfl
    rw [hk13] at x0
    clear hk13
    (go_wp2_with fail; all_goals (go_ret; refine ⟨congrArg (fun b => Ending.returned (.bool b)) ?_, HBD.out⟩; refine Eq.trans ?_ HSH.out.symm; have hzz := HZZ.out; have hw23 := HW23.out; have hw13 := HW13.out; clear HZZ HW23 HW13 HSH HCD HBD HED HLD HSZ HOK HBW x0 x1 x2 x3 x4 x5 x6 hse hcb hcl hce HM1 HM2 HM3; simp_all <;> first | omega | (rw [Bool.eq_iff_iff]; simp only [Bool.and_eq_true, Bool.or_eq_true, Bool.not_eq_true', beq_iff_eq, decide_eq_true_eq] <;> omega)))
  by_cases hk15 : e.k = 15
  · have HSH : Hid (shapeB nameB e = ((z && decide (e.n = 0)) && decide (m1 + m3 = 0))) := by
      unfold Hid
      rw [HSHH.out, hk15]
      rfl
    rw [hk15] at x0
    clear hk15
    (go_wp2_with fail; all_goals (go_ret; refine ⟨congrArg (fun b => Ending.returned (.bool b)) ?_, HBD.out⟩; refine Eq.trans ?_ HSH.out.symm; have hzz := HZZ.out; have hw23 := HW23.out; have hw13 := HW13.out; clear HZZ HW23 HW13 HSH HCD HBD HED HLD HSZ HOK HBW x0 x1 x2 x3 x4 x5 x6 hse hcb hcl hce HM1 HM2 HM3; simp_all <;> first | omega | (rw [Bool.eq_iff_iff]; simp only [Bool.and_eq_true, Bool.or_eq_true, Bool.not_eq_true', beq_iff_eq, decide_eq_true_eq] <;> omega)))
  by_cases hk14 : e.k = 14
  · have HSH : Hid (shapeB nameB e = (nameB e.s && (decide (e.n = 0) && decide (m2 + m3 = 0)))) := by
      unfold Hid
      rw [HSHH.out, hk14]
      rfl
    rw [hk14] at x0
    clear hk14
    go_wp2_with fail
    all_goals
      refine (w_name e.s _ HOK.out.2.1).mono ?_
      rintro en w2 ⟨rfl, hb2⟩
      have HB2 := Lib.hid (HBD.out.trans (hb2.mono (Nat.le_of_eq HSZ.out.symm)))
      obtain ⟨u0, u1, u2, u3, u4, u5, u6⟩ := HCD.out.keep (hb2.mono (Nat.le_of_eq HSZ.out.symm)) HBW.out
      rw [HM1.out] at u3
      rw [HM2.out] at u4
      rw [HM3.out] at u5
      clear hb2
      go_wp2_with fail
      all_goals (go_ret; refine ⟨congrArg (fun b => Ending.returned (.bool b)) ?_, HB2.out⟩; refine Eq.trans ?_ HSH.out.symm; have hzz := HZZ.out; have hw23 := HW23.out; have hw13 := HW13.out; clear HZZ HW23 HW13 HSH HCD HBD HED HLD HSZ HOK HBW x0 x1 x2 x3 x4 x5 x6 u0 u1 u2 u3 u4 u5 u6 hse hcb hcl hce HM1 HM2 HM3; simp_all <;> first | omega | (rw [Bool.eq_iff_iff]; simp only [Bool.and_eq_true, Bool.or_eq_true, Bool.not_eq_true', beq_iff_eq, decide_eq_true_eq] <;> omega))
  exfalso
  omega
end Go.Proofs.YtmapjahpjolmnaaGreatDoor
namespace Go.Proofs.YtmapjahpjolmnaaGreatDoor
open Go.RowKit Tr
set_option maxRecDepth 20000
set_option maxHeartbeats 4000000 in
theorem w_shape_e {w : World} {b o : Nat} (e : XS) {A1 A2 A3 : Option Addr} {c1 c2 c3 : Nat} (hc : scellsT w b o e (.slice A1 e.exprs.length c1) (.slice A2 e.body.length c2) (.slice A3 e.els.length c3)) (he : EsAt w w.heap.size e.exprs (.slice A1 e.exprs.length c1)) (hb : SsAt w w.heap.size e.body (.slice A2 e.body.length c2)) (hl : SsAt w w.heap.size e.els (.slice A3 e.els.length c3)) (hbw : b < w.heap.size) (hok : e.Ok) (hkk : e.k = 7 ∨ e.k = 8) :
    Calls Tryz.prog 32 #[.pointer (some ⟨b, o, none⟩)] w fun en w' => en = .returned (.bool (shapeB nameB e)) ∧ Below w.heap.size w w' := by
  have HC := Lib.hid hc
  have hcb := hb.cap
  have HW23 := Lib.hid (wrap2_zero hb.len hl.len)
  have HW13 := Lib.hid (wrap2_zero he.len hl.len)
  have hcl := hl.cap
  have hce := he.cap
  have HE := Lib.hid he
  have HL := Lib.hid hl
  have HOK := Lib.hid hok
  have HBW := Lib.hid hbw
  clear hb he hl hc hok
  go_enter Tryz.func32, Tryz.ntmps32
  go_upto_region 1 with (fail)
  have HCD := Lib.hid (HC.out.keep (Below.refl w.heap.size w).drew hbw)
  have HBD := Lib.hid (Below.refl w.heap.size w).drew
  have HED := Lib.hid (HE.out.keep HBD.out)
  have HLD := Lib.hid (HL.out.keep HBD.out)
  have HSZ : Hid (w.drew.heap.size = w.heap.size) := rfl
  obtain ⟨x0, x1, x2, x3, x4, x5, x6⟩ := HCD.out
  refine wp_region_noPanic ?_
  refine wp_region_ord (fun wd => wd.cell? ⟨b, o + 1, none⟩ = some (.string e.s) ∧ wd.cell? ⟨b, o + 2, none⟩ = some (.int .i64 e.n) ∧ wd.cell? ⟨b, o + 3, none⟩ = some (.slice A1 e.exprs.length c1) ∧ wd.cell? ⟨b, o + 4, none⟩ = some (.slice A2 e.body.length c2) ∧ wd.cell? ⟨b, o + 5, none⟩ = some (.slice A3 e.els.length c3)) (.read 0 (.read 1 (.read 2 (.read 3 (.read 4 (.read 5 (.read 6 (.read 7 (.read 8 (.read 9 (.read 10 (.read 11 (.read 12 (.read 13 (.read 14 (.read 15 (.read 16 (.read 17 .done)))))))))))))))))) (by kernel_rfl) (by kernel_rfl) (fun _ _ _ _ _ h => h) ⟨x1, x2, x3, x4, x5⟩ ?_
  simp only [Ord.ops, List.getElem?_toArray, List.getElem?_cons_zero, List.getElem?_cons_succ]
  clear HC HE HL
  generalize w.drew = wq at *
  have hse := sEmpty e.s
  obtain ⟨z, hz⟩ : ∃ z, z = e.s.toList.isEmpty := ⟨_, rfl⟩
  rw [← hz] at hse
  have HZZ : Hid (e.s.toList = [] ↔ z = true) := by unfold Hid; rw [hz, List.isEmpty_iff]
  iterate 18 (
    refine ord_read ?_ (fun wd hS M hM => ?_) ?_ ?_
    rotate_left
    · have HM := Lib.hid hM
      obtain ⟨z1, z2, z3, z4, z5⟩ := hS
      clear hM
      repeat (first | go_values | go_skip | go_guarded | go_step | go_upon)
      exact HM.out
    · rfl)
  refine NoPanic.normal (?_ : _)
  clear hz
  have HSHH := Lib.hid (shape_is nameB e)
  rw [← hse] at HSHH
  obtain ⟨m1, hm1⟩ : ∃ x, e.exprs.length = x := ⟨_, rfl⟩
  obtain ⟨m2, hm2⟩ : ∃ x, e.body.length = x := ⟨_, rfl⟩
  obtain ⟨m3, hm3⟩ : ∃ x, e.els.length = x := ⟨_, rfl⟩
  rw [hm1] at x3 HSHH hce HW13
  rw [hm2] at x4 HSHH hcb HW23
  rw [hm3] at x5 HSHH hcl HW23 HW13
  rw [hm1, hm2, hm3]
  have HM1 := Lib.hid hm1
  have HM2 := Lib.hid hm2
  have HM3 := Lib.hid hm3
  clear hm1 hm2 hm3
  by_cases hk7 : e.k = 7
  · have HSH : Hid (shapeB nameB e = loopB e) := by
      unfold Hid
      rw [HSHH.out, hk7]
      rfl
    rw [hk7] at x0
    clear hk7
    go_wp2_with fail
    all_goals
     refine (w_loop e HCD.out (HLD.out.mono (Nat.le_of_eq HSZ.out.symm)) (HED.out.mono (Nat.le_of_eq HSZ.out.symm)) (by rw [HSZ.out]; exact HBW.out) HOK.out).mono ?_
     rintro en w2 ⟨rfl, hb2⟩
     have HB2 := Lib.hid (HBD.out.trans (hb2.mono (Nat.le_of_eq HSZ.out.symm)))
     clear hb2
     go_wp2_with fail
     go_ret
     exact ⟨congrArg (fun b => Ending.returned (.bool b)) HSH.out.symm, HB2.out⟩
  by_cases hk8 : e.k = 8
  · have HSH : Hid (shapeB nameB e = (nameB e.s && (decide (e.n = 0) && (one4 e.exprs && decide (m3 = 0))))) := by
      unfold Hid
      rw [HSHH.out, hk8]
      rfl
    rw [hk8] at x0
    clear hk8
    by_cases h1 : m1 = 1
    · have hp : 0 < e.exprs.length := by rw [HM1.out, h1]; decide
      obtain ⟨kb, ko, kv, hA, hkb, hy, hkk⟩ := HED.out.head hp
      obtain ⟨B1, n1, e1, -, -⟩ := hkk.form
      subst e1
      have ho4 : one4 e.exprs = decide (e.exprs[0].k = 4) := one4_is _ (by rw [HM1.out, h1])
      have HSI : Hid (shapeB nameB e = (nameB e.s && (decide (e.n = 0) && (decide (e.exprs[0].k = 4) && decide (m3 = 0))))) := by
        unfold Hid
        rw [HSH.out, ho4]
      have HY := Lib.hid hy
      have HKB := Lib.hid hkb
      clear ho4 hy hkk HSH hkb
      generalize e.exprs[0] = x at *
      subst hA
      go_wp2_with fail
      all_goals
        refine (w_name e.s _ HOK.out.2.1).mono ?_
        rintro en w2 ⟨rfl, hb2⟩
        have HB2 := Lib.hid (HBD.out.trans (hb2.mono (Nat.le_of_eq HSZ.out.symm)))
        obtain ⟨u0, u1, u2, u3, u4, u5, u6⟩ := HCD.out.keep (hb2.mono (Nat.le_of_eq HSZ.out.symm)) HBW.out
        obtain ⟨y0, y1, y2, y3⟩ := HY.out.keep (hb2.mono (Nat.le_of_eq HSZ.out.symm)) HKB.out
        rw [HM1.out] at u3
        rw [HM2.out] at u4
        rw [HM3.out] at u5
        clear hb2
        have HSH := HSI
        go_wp2_with fail
        all_goals (clear y0 y1 y2 y3 HY HKB HSI; (go_ret; refine ⟨congrArg (fun b => Ending.returned (.bool b)) ?_, HB2.out⟩; refine Eq.trans ?_ HSH.out.symm; have hzz := HZZ.out; have hw23 := HW23.out; have hw13 := HW13.out; clear HZZ HW23 HW13 HSH HCD HBD HED HLD HSZ HOK HBW x0 x1 x2 x3 x4 x5 x6 u0 u1 u2 u3 u4 u5 u6 hse hcb hcl hce HM1 HM2 HM3; simp_all <;> first | omega | (rw [Bool.eq_iff_iff]; simp only [Bool.and_eq_true, Bool.or_eq_true, Bool.not_eq_true', beq_iff_eq, decide_eq_true_eq] <;> omega)))
    · have HSI : Hid (shapeB nameB e = false) := by
        unfold Hid
        rw [HSH.out, one4_not _ (by rw [HM1.out]; exact h1)]
        simp
      clear HSH
      go_wp2_with fail
      all_goals
        refine (w_name e.s _ HOK.out.2.1).mono ?_
        rintro en w2 ⟨rfl, hb2⟩
        have HB2 := Lib.hid (HBD.out.trans (hb2.mono (Nat.le_of_eq HSZ.out.symm)))
        obtain ⟨u0, u1, u2, u3, u4, u5, u6⟩ := HCD.out.keep (hb2.mono (Nat.le_of_eq HSZ.out.symm)) HBW.out
        rw [HM1.out] at u3
        rw [HM2.out] at u4
        rw [HM3.out] at u5
        clear hb2
        have HSH := HSI
        go_wp2_with fail
        all_goals (clear HSI; (go_ret; refine ⟨congrArg (fun b => Ending.returned (.bool b)) ?_, HB2.out⟩; refine Eq.trans ?_ HSH.out.symm; have hzz := HZZ.out; have hw23 := HW23.out; have hw13 := HW13.out; clear HZZ HW23 HW13 HSH HCD HBD HED HLD HSZ HOK HBW x0 x1 x2 x3 x4 x5 x6 u0 u1 u2 u3 u4 u5 u6 hse hcb hcl hce HM1 HM2 HM3; simp_all <;> first | omega | (rw [Bool.eq_iff_iff]; simp only [Bool.and_eq_true, Bool.or_eq_true, Bool.not_eq_true', beq_iff_eq, decide_eq_true_eq] <;> omega)))
  exfalso
  omega
end Go.Proofs.YtmapjahpjolmnaaGreatDoor
namespace Go.Proofs.YtmapjahpjolmnaaGreatDoor
open Go.RowKit Tr
set_option maxRecDepth 20000
set_option maxHeartbeats 4000000 in
theorem w_shape_o {w : World} {b o : Nat} (e : XS) {A1 A2 A3 : Option Addr} {c1 c2 c3 : Nat} (hc : scellsT w b o e (.slice A1 e.exprs.length c1) (.slice A2 e.body.length c2) (.slice A3 e.els.length c3)) (he : EsAt w w.heap.size e.exprs (.slice A1 e.exprs.length c1)) (hb : SsAt w w.heap.size e.body (.slice A2 e.body.length c2)) (hl : SsAt w w.heap.size e.els (.slice A3 e.els.length c3)) (hbw : b < w.heap.size) (hok : e.Ok) (hk1 : ¬ e.k = 1) (hk2 : ¬ e.k = 2) (hk3 : ¬ e.k = 3) (hk4 : ¬ e.k = 4) (hk5 : ¬ e.k = 5) (hk6 : ¬ e.k = 6) (hk7 : ¬ e.k = 7) (hk8 : ¬ e.k = 8) (hk9 : ¬ e.k = 9) (hk10 : ¬ e.k = 10) (hk11 : ¬ e.k = 11) (hk12 : ¬ e.k = 12) (hk13 : ¬ e.k = 13) (hk14 : ¬ e.k = 14) (hk15 : ¬ e.k = 15) :
    Calls Tryz.prog 32 #[.pointer (some ⟨b, o, none⟩)] w fun en w' => en = .returned (.bool (shapeB nameB e)) ∧ Below w.heap.size w w' := by
  have HC := Lib.hid hc
  have hcb := hb.cap
  have HW23 := Lib.hid (wrap2_zero hb.len hl.len)
  have HW13 := Lib.hid (wrap2_zero he.len hl.len)
  have hcl := hl.cap
  have hce := he.cap
  have HE := Lib.hid he
  have HL := Lib.hid hl
  have HOK := Lib.hid hok
  have HBW := Lib.hid hbw
  clear hb he hl hc hok
  go_enter Tryz.func32, Tryz.ntmps32
  go_upto_region 1 with (fail)
  have HCD := Lib.hid (HC.out.keep (Below.refl w.heap.size w).drew hbw)
  have HBD := Lib.hid (Below.refl w.heap.size w).drew
  have HED := Lib.hid (HE.out.keep HBD.out)
  have HLD := Lib.hid (HL.out.keep HBD.out)
  have HSZ : Hid (w.drew.heap.size = w.heap.size) := rfl
  obtain ⟨x0, x1, x2, x3, x4, x5, x6⟩ := HCD.out
  refine wp_region_noPanic ?_
  refine wp_region_ord (fun wd => wd.cell? ⟨b, o + 1, none⟩ = some (.string e.s) ∧ wd.cell? ⟨b, o + 2, none⟩ = some (.int .i64 e.n) ∧ wd.cell? ⟨b, o + 3, none⟩ = some (.slice A1 e.exprs.length c1) ∧ wd.cell? ⟨b, o + 4, none⟩ = some (.slice A2 e.body.length c2) ∧ wd.cell? ⟨b, o + 5, none⟩ = some (.slice A3 e.els.length c3)) (.read 0 (.read 1 (.read 2 (.read 3 (.read 4 (.read 5 (.read 6 (.read 7 (.read 8 (.read 9 (.read 10 (.read 11 (.read 12 (.read 13 (.read 14 (.read 15 (.read 16 (.read 17 .done)))))))))))))))))) (by kernel_rfl) (by kernel_rfl) (fun _ _ _ _ _ h => h) ⟨x1, x2, x3, x4, x5⟩ ?_
  simp only [Ord.ops, List.getElem?_toArray, List.getElem?_cons_zero, List.getElem?_cons_succ]
  clear HC HE HL
  generalize w.drew = wq at *
  have hse := sEmpty e.s
  obtain ⟨z, hz⟩ : ∃ z, z = e.s.toList.isEmpty := ⟨_, rfl⟩
  rw [← hz] at hse
  have HZZ : Hid (e.s.toList = [] ↔ z = true) := by unfold Hid; rw [hz, List.isEmpty_iff]
  iterate 18 (
    refine ord_read ?_ (fun wd hS M hM => ?_) ?_ ?_
    rotate_left
    · have HM := Lib.hid hM
      obtain ⟨z1, z2, z3, z4, z5⟩ := hS
      clear hM
      repeat (first | go_values | go_skip | go_guarded | go_step | go_upon)
      exact HM.out
    · rfl)
  refine NoPanic.normal (?_ : _)
  clear hz
  have HSHH := Lib.hid (shape_is nameB e)
  rw [← hse] at HSHH
  obtain ⟨m1, hm1⟩ : ∃ x, e.exprs.length = x := ⟨_, rfl⟩
  obtain ⟨m2, hm2⟩ : ∃ x, e.body.length = x := ⟨_, rfl⟩
  obtain ⟨m3, hm3⟩ : ∃ x, e.els.length = x := ⟨_, rfl⟩
  rw [hm1] at x3 HSHH hce HW13
  rw [hm2] at x4 HSHH hcb HW23
  rw [hm3] at x5 HSHH hcl HW23 HW13
  rw [hm1, hm2, hm3]
  have HM1 := Lib.hid hm1
  have HM2 := Lib.hid hm2
  have HM3 := Lib.hid hm3
  clear hm1 hm2 hm3
  have HSH : Hid (shapeB nameB e = false) := by
    unfold Hid
    rw [HSHH.out]
    unfold shapeF
    simp only [hk1, hk2, hk3, hk4, hk5, hk6, hk7, hk8, hk9, hk10, hk11, hk12, hk13, hk14, hk15, if_false, or_false]
  go_wp2_with fail
  all_goals (go_ret; refine ⟨congrArg (fun b => Ending.returned (.bool b)) ?_, HBD.out⟩; refine Eq.trans ?_ HSH.out.symm; have hzz := HZZ.out; have hw23 := HW23.out; have hw13 := HW13.out; clear HZZ HW23 HW13 HSH HCD HBD HED HLD HSZ HOK HBW x0 x1 x2 x3 x4 x5 x6 hse hcb hcl hce HM1 HM2 HM3; simp_all <;> first | omega | (rw [Bool.eq_iff_iff]; simp only [Bool.and_eq_true, Bool.or_eq_true, Bool.not_eq_true', beq_iff_eq, decide_eq_true_eq] <;> omega))
theorem w_shape {w : World} {b o : Nat} (e : XS) {A1 A2 A3 : Option Addr} {c1 c2 c3 : Nat} (hc : scellsT w b o e (.slice A1 e.exprs.length c1) (.slice A2 e.body.length c2) (.slice A3 e.els.length c3)) (he : EsAt w w.heap.size e.exprs (.slice A1 e.exprs.length c1)) (hb : SsAt w w.heap.size e.body (.slice A2 e.body.length c2)) (hl : SsAt w w.heap.size e.els (.slice A3 e.els.length c3)) (hbw : b < w.heap.size) (hok : e.Ok) :
    Calls Tryz.prog 32 #[.pointer (some ⟨b, o, none⟩)] w fun en w' => en = .returned (.bool (shapeB nameB e)) ∧ Below w.heap.size w w' := by
  by_cases g_a : e.k = 1 ∨ e.k = 2 ∨ e.k = 3
  · exact w_shape_a e hc he hb hl hbw hok g_a
  by_cases g_b : e.k = 4 ∨ e.k = 5 ∨ e.k = 6 ∨ e.k = 9
  · exact w_shape_b e hc he hb hl hbw hok g_b
  by_cases g_c : e.k = 10 ∨ e.k = 11 ∨ e.k = 12
  · exact w_shape_c e hc he hb hl hbw hok g_c
  by_cases g_d : e.k = 13 ∨ e.k = 15 ∨ e.k = 14
  · exact w_shape_d e hc he hb hl hbw hok g_d
  by_cases g_e : e.k = 7 ∨ e.k = 8
  · exact w_shape_e e hc he hb hl hbw hok g_e
  exact w_shape_o e hc he hb hl hbw hok (by omega) (by omega) (by omega) (by omega) (by omega) (by omega) (by omega) (by omega) (by omega) (by omega) (by omega) (by omega) (by omega) (by omega) (by omega)
end Go.Proofs.YtmapjahpjolmnaaGreatDoor
