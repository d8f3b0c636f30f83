/- The kit's 'Huge': programs. -/
import Derived.Test.YtmapjahpjolmnaaGreatDoorG21
import Derived.Test.YtmapjahpjolmnaaGreatDoorG18
import Derived.Test.YtmapjahpjolmnaaGreatDoorG2
set_option linter.unusedVariables false
set_option linter.unusedSimpArgs false
namespace Go.Proofs.YtmapjahpjolmnaaGreatDoor
open Go.RowKit Tr
set_option maxRecDepth 20000
def HugeA (l : List XI) (mn : Int) (w : World) (e : Ending) (w' : World) : Prop := ∃ hb, e = .returned (.bool hb) ∧ Below w.heap.size w w' ∧ (hb = false → (numP l : Int) ≤ mn ∧ (l.length : Int) ≤ mn ∧ ∀ x ∈ l, (x.params.length : Int) ≤ mn)
theorem numP_take1 (l : List XI) (i : Nat) (h : i < l.length) : numP (l.take (i + 1)) = numP (l.take i) + numI l[i] := sum_take numI l i h
theorem numP_take_le (l : List XI) (i : Nat) : numP (l.take i) ≤ numP l := sum_take_le numI l i
set_option maxHeartbeats 4000000 in
theorem w_HugeA {w : World} {l : List XI} {v : Value} (h : IsAt w w.heap.size l v) (hz : numP l ≤ 1500000) (lv mn : Int) (hl0 : 0 ≤ lv) (hl1 : lv ≤ 1000) (hm0 : 0 ≤ mn) (hm1 : mn ≤ 100000) :
    Calls Tryz.prog 4 #[.agg #[v], .int .i64 lv, .int .i64 mn] w (HugeA l mn w) := by
  obtain ⟨A, cap, pv, ev, bv, rfl, hc, hm, hat, hin⟩ := h.form
  have HAT := Lib.hid hat
  have HIN := Lib.hid hin
  have hcl : cap < 9223372036854775808 := by unfold maxLen at hm; omega
  obtain ⟨w2, hw2, hb2, hP0, hN0, hsz⟩ := two_new w 24 3 #[.slice A l.length cap] #[.int .i64 0]
  have HW2 := Lib.hid hw2
  have HB2 := Lib.hid hb2
  have HP2 := Lib.hid hP0
  have HN2 := Lib.hid hN0
  have HSZ := Lib.hid hsz
  clear h hat hin hw2 hb2 hP0 hN0 hsz
  go_enter Tryz.func4, Tryz.ntmps4
  go_upto_region 2 with (fail)
  rw [← HW2.out]
  clear HW2
  obtain ⟨nb, hnb⟩ : ∃ x, x = w.heap.size + 1 := ⟨_, rfl⟩
  have HNE : Hid (w.heap.size ≠ nb ∧ w.heap.size ≤ nb) := ⟨by omega, by omega⟩
  rw [← hnb] at HN2 ⊢
  clear hnb
  go_wp2_with fail
  go_loopw [8] (fun v wr => ∃ i : Nat, v = .int .i64 i ∧ i ≤ l.length ∧ Below w.heap.size w wr ∧ Blk wr w.heap.size 24 #[.slice A l.length cap] ∧ Blk wr nb 3 #[.int .i64 (numP (l.take i))] ∧ (numP (l.take i) : Int) ≤ mn ∧ ∀ x ∈ l.take i, (x.params.length : Int) ≤ mn) (fun v _ => l.length - (intOf v).toNat)
  case atStart => exact ⟨0, rfl, Nat.zero_le _, HB2.out, HP2.out, HN2.out, hm0, fun x hx => by cases hx⟩
  case round =>
    obtain ⟨i, rfl, hi, hbr, hpr, hnr, hmr, hqr⟩ := hrel
    have HQR := Lib.hid hqr
    have HBR := Lib.hid hbr
    have HPR := Lib.hid hpr
    have HNR := Lib.hid hnr
    have HMR := Lib.hid hmr
    clear hbr hpr hnr hmr hqr HB2 HP2 HN2
    have x0 : wr.cell? ⟨w.heap.size, 0, none⟩ = some (.slice A l.length cap) := HPR.out.cell 0
    by_cases hlt : i < l.length
    · obtain ⟨b, o, rfl, hbB, hcells⟩ := HAT.out (by omega)
      have HCC := Lib.hid (hcells i hlt)
      have HBB := Lib.hid hbB
      obtain ⟨hok, htp, hep, hbp⟩ := HIN.out i hlt
      obtain ⟨A1, n1, e1, hq1, hq2, -⟩ := htp.form
      rw [e1] at HCC
      have hn1 : n1 < 9223372036854775808 := by unfold maxLen at hq2; omega
      have hst := numP_take1 l i hlt
      have hsl := numP_take_le l (i + 1)
      have HEP := Lib.hid hep
      have HBP := Lib.hid hbp
      have HST := Lib.hid (show numP (l.take (i + 1)) = numP (l.take i) + (numEs l[i].exprs + numSs l[i].body) ∧ numP (l.take (i + 1)) ≤ 1500000 from ⟨hst, by omega⟩)
      generalize numP (l.take i) = c0 at *
      obtain ⟨c1, hc1⟩ : ∃ c1, numP (l.take (i + 1)) = c1 := ⟨_, rfl⟩
      have HC1 := Lib.hid hc1
      rw [hc1] at HST
      have HCALL := Lib.hid (w_hugeE (HEP.out.keep HBR.out) lv mn c0 wr nb (Below.refl _ wr) HBR.out.size HNR.out HNE.out.2 (by omega) (by have := HST.out; omega) hl0 hl1 hm0 hm1)
      obtain ⟨y0, y1, y2, y3, y4, y5, y6⟩ := HCC.out.keep HBR.out HBB.out
      clear hcells hbB hok htp hep hbp e1 hq2 hst hsl hc1
      go_wp2_with fail
      refine HCALL.out.mono ?_
      rintro en w3 ⟨hb, a3, rfl, hg⟩
      have HG := Lib.hid hg
      have HB3 : Hid (Below w.heap.size w w3) := HBR.out.trans (hg.tur.below _ HBR.out.size (fun k hk e => by have := HNE.out; omega))
      have HP3 := Lib.hid (HPR.out.keep hg.tur HNE.out.1)
      clear hg y0 y1 y2 y3 y4 y5 y6 x0
      cases hb
      rotate_left
      · go_wp2_with fail
        go_ret
        exact ⟨true, rfl, HB3.out, fun h => by cases h⟩
      have HNO := Lib.hid (HG.out.no rfl)
      have HCALL2 := Lib.hid (w_hugeS (HBP.out.keep HB3.out) lv mn a3 w3 nb (Below.refl _ w3) HB3.out.size HG.out.blk HNE.out.2 (by have := HG.out.lo; omega) (by have := HNO.out.1; have := HST.out; omega) hl0 hl1 hm0 hm1)
      have x0 : w3.cell? ⟨w.heap.size, 0, none⟩ = some (.slice (some ⟨b, o, none⟩) l.length cap) := HP3.out.cell 0
      obtain ⟨y0, y1, y2, y3, y4, y5, y6⟩ := HCC.out.keep HB3.out HBB.out
      go_wp2_with fail
      refine HCALL2.out.mono ?_
      rintro en w4 ⟨hb, a4, rfl, hg⟩
      have HG4 := Lib.hid hg
      have HB4 : Hid (Below w.heap.size w w4) := HB3.out.trans (hg.tur.below _ HB3.out.size (fun k hk e => by have := HNE.out; omega))
      have HP4 := Lib.hid (HP3.out.keep hg.tur HNE.out.1)
      clear hg y0 y1 y2 y3 y4 y5 y6 x0
      cases hb
      rotate_left
      · go_wp2_with fail
        go_ret
        exact ⟨true, rfl, HB4.out, fun h => by cases h⟩
      have HNO4 := Lib.hid (HG4.out.no rfl)
      have x0 : w4.cell? ⟨w.heap.size, 0, none⟩ = some (.slice (some ⟨b, o, none⟩) l.length cap) := HP4.out.cell 0
      obtain ⟨y0, y1, y2, y3, y4, y5, y6⟩ := HCC.out.keep HB4.out HBB.out
      have HEQ : Hid ((c1 : Int) = a4 ∧ a4 ≤ mn) := ⟨by have := HNO.out.1; have := HNO4.out.1; have := HST.out.1; omega, HNO4.out.2⟩
      have HBN2 : Hid (Blk w4 nb 3 #[.int .i64 c1]) := by
        unfold Hid
        rw [HEQ.out.1]; exact HG4.out.blk
      by_cases hpm : mn < l[i].params.length
      · go_wp2_with fail
        go_ret
        exact ⟨true, rfl, HB4.out, fun h => by cases h⟩
      · have HQN : Hid (∀ x ∈ l.take (i + 1), (x.params.length : Int) ≤ mn) := fun x hx => by
          rw [List.take_succ_eq_append_getElem hlt] at hx
          rcases List.mem_append.1 hx with h1 | h1
          · exact HQR.out x h1
          · rw [List.mem_singleton.1 h1]; omega
        go_wp2_with fail
        go_roundw
        case rel => exact ⟨i + 1, by go_num, by omega, HB4.out, HP4.out, by rw [HC1.out]; exact HBN2.out, by rw [HC1.out, HEQ.out.1]; exact HEQ.out.2, HQN.out⟩
        case measure => simp [intOf]; omega
    · rw [List.take_of_length_le (by omega)] at HMR HQR
      by_cases hgm : mn < l.length
      · go_wp2_with fail
        go_ret
        exact ⟨true, rfl, HBR.out, fun h => by cases h⟩
      · go_wp2_with fail
        go_ret
        exact ⟨false, rfl, HBR.out, fun _ => ⟨HMR.out, by omega, HQR.out⟩⟩
end Go.Proofs.YtmapjahpjolmnaaGreatDoor
namespace Go.Proofs.YtmapjahpjolmnaaGreatDoor
open Go.RowKit Tr
set_option maxRecDepth 20000
theorem drew_B {B : Nat} (w : World) : Below B w w.drew := ⟨rfl, rfl, rfl, Nat.le_refl _, fun _ _ => rfl⟩
theorem drewN_B {B : Nat} {w w' : World} (n : Nat) (h : Below B w w') : Below B w (w'.drewN n) := ⟨h.os, h.tape, h.output, h.size, h.block⟩
/-- As EsAt, in blocks of a set. -/
inductive EsK (w : World) (S : Nat → Prop) : List XE → Value → Prop
  | mk {l : List XE} {A : Option Addr} {cap : Nat} (kv : Nat → Value) (hc : l.length ≤ cap) (hm : cap ≤ maxLen)
      (hat : 0 < l.length → ∃ b o, A = some ⟨b, o, none⟩ ∧ S b ∧ ∀ i (h : i < l.length), ecells w b (o + i * 4) l[i] (kv i))
      (hok : ∀ i (h : i < l.length), l[i].Ok) (hk : ∀ i (h : i < l.length), EsK w S l[i].kids (kv i)) : EsK w S l (.slice A l.length cap)
inductive SsK (w : World) (S : Nat → Prop) : List XS → Value → Prop
  | mk {l : List XS} {A : Option Addr} {cap : Nat} (ev bv lv : Nat → Value) (hc : l.length ≤ cap) (hm : cap ≤ maxLen)
      (hat : 0 < l.length → ∃ b o, A = some ⟨b, o, none⟩ ∧ S b ∧ ∀ i (h : i < l.length), scellsT w b (o + i * 7) l[i] (ev i) (bv i) (lv i))
      (hok : ∀ i (h : i < l.length), l[i].Ok) (he : ∀ i (h : i < l.length), EsK w S l[i].exprs (ev i)) (hb : ∀ i (h : i < l.length), SsK w S l[i].body (bv i)) (hl : ∀ i (h : i < l.length), SsK w S l[i].els (lv i)) : SsK w S l (.slice A l.length cap)
structure TsK (w : World) (S : Nat → Prop) (l : List ByteArray) (v : Value) : Prop where
  form : ∃ A cap, v = .slice A l.length cap ∧ l.length ≤ cap ∧ cap ≤ maxLen ∧ (0 < l.length → ∃ b o, A = some ⟨b, o, none⟩ ∧ S b ∧ ∀ i (h : i < l.length), w.cell? ⟨b, o + i, none⟩ = some (.string l[i]))
section
variable {w w' : World} {S S' : Nat → Prop} {Bd n : Nat} {v v' u : Value}
theorem cell_blk {b o : Nat} (h : w'.heap[b]? = w.heap[b]?) : w'.cell? ⟨b, o, none⟩ = w.cell? ⟨b, o, none⟩ := World.cell?_of_block (a := ⟨b, o, none⟩) h
theorem EsK.form {l : List XE} (h : EsK w S l v) : ∃ A cap, v = .slice A l.length cap ∧ l.length ≤ cap ∧ cap ≤ maxLen := by
  cases h with
  | mk kv hc hm _ _ _ => exact ⟨_, _, rfl, hc, hm⟩
theorem SsK.form {l : List XS} (h : SsK w S l v) : ∃ A cap, v = .slice A l.length cap ∧ l.length ≤ cap ∧ cap ≤ maxLen := by
  cases h with
  | mk ev bv lv hc hm _ _ _ _ _ => exact ⟨_, _, rfl, hc, hm⟩
theorem EsK.keep {l : List XE} (h : EsK w S l v) (hS : ∀ b, S b → S' b) (hw : ∀ b, S b → w'.heap[b]? = w.heap[b]?) : EsK w' S' l v := by
  induction h with
  | mk kv hc hm hat hok hk ih =>
    refine .mk kv hc hm (fun hp => ?_) hok (fun i h => ih i h)
    obtain ⟨b, o, h1, h2, h3⟩ := hat hp
    refine ⟨b, o, h1, hS b h2, fun i h => ?_⟩
    have := h3 i h
    unfold ecells at this ⊢
    simp only [cell_blk (hw b h2)]
    exact this
theorem SsK.keep {l : List XS} (h : SsK w S l v) (hS : ∀ b, S b → S' b) (hw : ∀ b, S b → w'.heap[b]? = w.heap[b]?) : SsK w' S' l v := by
  induction h with
  | mk ev bv lv hc hm hat hok he hbb hl ih1 ih2 =>
    refine .mk ev bv lv hc hm (fun hp => ?_) hok (fun i h => (he i h).keep hS hw) (fun i h => ih1 i h) (fun i h => ih2 i h)
    obtain ⟨b, o, h1, h2, h3⟩ := hat hp
    refine ⟨b, o, h1, hS b h2, fun i h => ?_⟩
    have := h3 i h
    unfold scellsT at this ⊢
    simp only [cell_blk (hw b h2)]
    exact this
theorem TsK.keep {l : List ByteArray} (h : TsK w S l v) (hS : ∀ b, S b → S' b) (hw : ∀ b, S b → w'.heap[b]? = w.heap[b]?) : TsK w' S' l v := by
  obtain ⟨A, cap, h1, h2, h3, h4⟩ := h.form
  refine ⟨A, cap, h1, h2, h3, fun hp => ?_⟩
  obtain ⟨b, o, e1, e2, e3⟩ := h4 hp
  exact ⟨b, o, e1, hS b e2, fun i h => by rw [cell_blk (hw b e2)]; exact e3 i h⟩
theorem EsK.toAt {l : List XE} (h : EsK w S l v) (hS : ∀ b, S b → b < Bd) : EsAt w Bd l v := by
  induction h with
  | mk kv hc hm hat hok hk ih =>
    refine .mk kv hc hm (fun hp => ?_) hok (fun i h => ih i h)
    obtain ⟨b, o, h1, h2, h3⟩ := hat hp
    exact ⟨b, o, h1, hS b h2, h3⟩
theorem SsK.toAt {l : List XS} (h : SsK w S l v) (hS : ∀ b, S b → b < Bd) : SsAt w Bd l v := by
  induction h with
  | mk ev bv lv hc hm hat hok he hbb hl ih1 ih2 =>
    refine .mk ev bv lv hc hm (fun hp => ?_) hok (fun i h => (he i h).toAt hS) (fun i h => ih1 i h) (fun i h => ih2 i h)
    obtain ⟨b, o, h1, h2, h3⟩ := hat hp
    exact ⟨b, o, h1, hS b h2, h3⟩
theorem TsK.toAt {l : List ByteArray} (h : TsK w S l v) (hS : ∀ b, S b → b < Bd) : TsAt w Bd l v := by
  obtain ⟨A, cap, h1, h2, h3, h4⟩ := h.form
  refine ⟨A, cap, h1, h2, h3, fun hp => ?_⟩
  obtain ⟨b, o, e1, e2, e3⟩ := h4 hp
  exact ⟨b, o, e1, hS b e2, e3⟩
/-- Blocks made since there were n of them; those but a row's own. -/
def Nw (n : Nat) (w : World) (b : Nat) : Prop := n ≤ b ∧ b < w.heap.size
def NwR (n : Nat) (w : World) (v : Value) (b : Nat) : Prop := n ≤ b ∧ b < w.heap.size ∧ v.ownBlock ≠ some b
/-- A thing that stands in blocks that stay. -/
structure Stays (w w' : World) (S S' : Nat → Prop) : Prop where
  sub : ∀ b, S b → S' b
  blk : ∀ b, S b → w'.heap[b]? = w.heap[b]?
theorem Stays.call (hb : Below w.heap.size w w') : Stays w w' (NwR n w v) (NwR n w' v) :=
  ⟨fun b h => ⟨h.1, Nat.lt_of_lt_of_le h.2.1 hb.size, h.2.2⟩, fun b h => hb.block b h.2.1⟩
theorem Stays.new (hn : n ≤ w.heap.size) (hv : ∀ g, v.ownBlock = some g → g < w.heap.size) : Stays w' w' (Nw w.heap.size w') (NwR n w' v) :=
  ⟨fun b h => ⟨Nat.le_trans hn h.1, h.2, fun e => by have := hv b e; have := h.1; omega⟩, fun b _ => rfl⟩
theorem Stays.grown {g m cap : Nat} (hg : w.grownBy w' v.ownBlock) (hv : v.ownBlock = some g ∨ w.heap.size ≤ g) : Stays w w' (NwR n w v) (NwR n w' (.slice (some ⟨g, 0, none⟩) m cap)) :=
  ⟨fun b h => ⟨h.1, Nat.lt_of_lt_of_le h.2.1 hg.size, fun e => by
    have e : g = b := by simpa [Value.ownBlock] using e
    subst e
    rcases hv with hv | hv
    · exact h.2.2 hv
    · have := h.2.1; omega⟩, fun b h => hg.block b h.2.1 (fun e => h.2.2 e.symm)⟩
theorem own_call {e : TypeId} {size m : Nat} {xs : List Value} (h : w.ownsRow n e size v m xs) (hb : Below w.heap.size w w') : w'.ownsRow n e size v m xs :=
  h.kept (row := none) ⟨hb.os, hb.tape, hb.output, hb.size, fun k hk _ => hb.block k hk⟩ (by cases hv : v.ownBlock <;> simp)
theorem flat_getK {α : Type} (f : α → List Value) (n : Nat) (hf : ∀ a, (f a).length = n) : ∀ (l : List α) (i j : Nat) (h : i < l.length), j < n → (l.flatMap f)[i * n + j]? = (f l[i])[j]? := by
  intro l
  induction l with
  | nil => intro i j h; simp at h
  | cons a l ih =>
    intro i j h hj
    cases i with
    | zero => simp only [Nat.zero_mul, Nat.zero_add, List.flatMap_cons, List.getElem_cons_zero]; rw [List.getElem?_append_left (by rw [hf]; omega)]
    | succ i =>
      simp only [List.flatMap_cons, List.getElem_cons_succ]
      rw [List.getElem?_append_right (by rw [hf, Nat.succ_mul]; omega), hf, show (i + 1) * n + j - n = i * n + j by rw [Nat.succ_mul]; omega]
      exact ih i j (by simpa using h) hj
/-- The cells of an owned row, by entry and part. -/
theorem own_cell {α : Type} {f : α → List Value} {e : TypeId} {size g m cap : Nat} (hf : ∀ a, (f a).length = size) {ps : List α} (h : w.ownsRow n e size (.slice (some ⟨g, 0, none⟩) m cap) m (ps.flatMap f)) (i j : Nat) (hi : i < ps.length) (hj : j < size) : w.cell? ⟨g, i * size + j, none⟩ = (f ps[i])[j]? := by
  have h1 := flat_getK f size hf ps i j hi hj
  have hl : j < (f ps[i]).length := by rw [hf]; exact hj
  rw [List.getElem?_eq_getElem hl] at h1 ⊢
  have h2 := h.cells (g := g) rfl _ _ h1
  rw [add_off] at h2
  simpa using h2
end
/-- The row of expressions that a copy grows. -/
def cE (p : XE × Value) : List Value := [.int .u8 p.1.k, .string p.1.s, .int .u64 p.1.n, p.2]
structure CpE (n : Nat) (w : World) (v : Value) (ps : List (XE × Value)) : Prop where
  own : w.ownsRow n 29 4 v ps.length (ps.flatMap cE)
  ok : ∀ p ∈ ps, p.1.Ok
  kids : ∀ p ∈ ps, EsK w (NwR n w v) p.1.kids p.2
section
variable {w w' : World} {n : Nat} {v : Value}
theorem CpE.nil (n : Nat) (w : World) : CpE n w (.slice none 0 0) [] := ⟨World.ownsRow_nil _ _ _ _, fun p h => (by cases h), fun p h => (by cases h)⟩
theorem CpE.call {ps : List (XE × Value)} (h : CpE n w v ps) (hb : Below w.heap.size w w') : CpE n w' v ps :=
  ⟨own_call h.own hb, h.ok, fun p hp => (h.kids p hp).keep (Stays.call hb).sub (Stays.call hb).blk⟩
theorem CpE.push {ps : List (XE × Value)} (h : CpE n w v ps) {x : XE} {u : Value} (hk : EsK w (NwR n w v) x.kids u) (hok : x.Ok) {g cap : Nat} (ho : w'.ownsRow n 29 4 (.slice (some ⟨g, 0, none⟩) (ps.length + 1) cap) (ps.length + 1) (ps.flatMap cE ++ cE (x, u)))
    (hg : w.grownBy w' v.ownBlock) (hv : v.ownBlock = some g ∨ w.heap.size ≤ g) : CpE n w' (.slice (some ⟨g, 0, none⟩) (ps.length + 1) cap) (ps ++ [(x, u)]) := by
  have hs : Stays w w' (NwR n w v) (NwR n w' (.slice (some ⟨g, 0, none⟩) (ps.length + 1) cap)) := Stays.grown hg hv
  refine ⟨?_, fun p hp => ?_, fun p hp => ?_⟩
  · simpa using ho
  · rcases List.mem_append.1 hp with h1 | h1
    · exact h.ok p h1
    · rw [List.mem_singleton.1 h1]; exact hok
  · rcases List.mem_append.1 hp with h1 | h1
    · exact (h.kids p h1).keep hs.sub hs.blk
    · rw [List.mem_singleton.1 h1]; exact hk.keep hs.sub hs.blk
theorem CpE.done {ps : List (XE × Value)} {l : List XE} (h : CpE n w v ps) (hl : ps.map Prod.fst = l) : EsK w (Nw n w) l v := by
  subst hl
  have hsub : ∀ b, NwR n w v b → Nw n w b := fun b h => ⟨h.1, h.2.1⟩
  have hlen : (ps.map Prod.fst).length = ps.length := List.length_map _
  rcases h.own.2 with ⟨h1, h0⟩ | ⟨g, cap, cur, h1, hb, hg, h4, h5, -⟩
  · obtain rfl : ps = [] := List.eq_nil_of_length_eq_zero h0
    subst h1
    exact .mk (l := []) (fun _ => .tuple #[]) (Nat.le_refl _) (Nat.zero_le _) (fun h => absurd h (Nat.lt_irrefl 0)) (fun i h => absurd h (Nat.not_lt_zero i)) (fun i h => absurd h (Nat.not_lt_zero i))
  · have hk := h.kids
    have ho := h.own
    subst h1
    rw [← hlen]
    refine .mk (fun i => (ps[i]?.map Prod.snd).getD (.tuple #[])) (by omega) h5 (fun hp => ⟨g, 0, rfl, ⟨hb, (Array.getElem?_eq_some_iff.1 hg).1⟩, fun i hi => ?_⟩) (fun i hi => ?_) (fun i hi => ?_)
    · rw [hlen] at hi
      have hc := fun j hj => own_cell (w := w) (f := cE) (fun _ => rfl) ho i j hi hj
      simp only [List.getElem_map, List.getElem?_eq_getElem hi, Option.map_some, Option.getD_some, Nat.zero_add]
      exact ⟨hc 0 (by omega), hc 1 (by omega), hc 2 (by omega), hc 3 (by omega)⟩
    · rw [hlen] at hi
      simp only [List.getElem_map]
      exact h.ok _ (List.getElem_mem hi)
    · rw [hlen] at hi
      simp only [List.getElem_map, List.getElem?_eq_getElem hi, Option.map_some, Option.getD_some]
      exact (hk _ (List.getElem_mem hi)).keep hsub (fun _ _ => rfl)
end
/-- The row of statements. -/
def cS (p : XS × Value × Value × Value) : List Value := [.int .u8 p.1.k, .string p.1.s, .int .i64 p.1.n, p.2.1, p.2.2.1, p.2.2.2, .int .i64 p.1.line]
structure KidS (w : World) (S : Nat → Prop) (p : XS × Value × Value × Value) : Prop where
  e : EsK w S p.1.exprs p.2.1
  b : SsK w S p.1.body p.2.2.1
  l : SsK w S p.1.els p.2.2.2
structure CpS (n : Nat) (w : World) (v : Value) (ps : List (XS × Value × Value × Value)) : Prop where
  own : w.ownsRow n 50 7 v ps.length (ps.flatMap cS)
  ok : ∀ p ∈ ps, p.1.Ok
  kids : ∀ p ∈ ps, KidS w (NwR n w v) p
section
variable {w w' : World} {n : Nat} {v : Value} {S S' : Nat → Prop}
theorem KidS.keep {p : XS × Value × Value × Value} (h : KidS w S p) (hs : Stays w w' S S') : KidS w' S' p := ⟨h.e.keep hs.sub hs.blk, h.b.keep hs.sub hs.blk, h.l.keep hs.sub hs.blk⟩
theorem CpS.nil (n : Nat) (w : World) : CpS n w (.slice none 0 0) [] := ⟨World.ownsRow_nil _ _ _ _, fun p h => (by cases h), fun p h => (by cases h)⟩
theorem CpS.call {ps : List (XS × Value × Value × Value)} (h : CpS n w v ps) (hb : Below w.heap.size w w') : CpS n w' v ps :=
  ⟨own_call h.own hb, h.ok, fun p hp => (h.kids p hp).keep (Stays.call hb)⟩
theorem CpS.push {ps : List (XS × Value × Value × Value)} (h : CpS n w v ps) {x : XS × Value × Value × Value} (hk : KidS w (NwR n w v) x) (hok : x.1.Ok) {g cap : Nat} (ho : w'.ownsRow n 50 7 (.slice (some ⟨g, 0, none⟩) (ps.length + 1) cap) (ps.length + 1) (ps.flatMap cS ++ cS x))
    (hg : w.grownBy w' v.ownBlock) (hv : v.ownBlock = some g ∨ w.heap.size ≤ g) : CpS n w' (.slice (some ⟨g, 0, none⟩) (ps.length + 1) cap) (ps ++ [x]) := by
  have hs : Stays w w' (NwR n w v) (NwR n w' (.slice (some ⟨g, 0, none⟩) (ps.length + 1) cap)) := Stays.grown hg hv
  refine ⟨?_, fun p hp => ?_, fun p hp => ?_⟩
  · simpa using ho
  · rcases List.mem_append.1 hp with h1 | h1
    · exact h.ok p h1
    · rw [List.mem_singleton.1 h1]; exact hok
  · rcases List.mem_append.1 hp with h1 | h1
    · exact (h.kids p h1).keep hs
    · rw [List.mem_singleton.1 h1]; exact hk.keep hs
theorem CpS.done {ps : List (XS × Value × Value × Value)} {l : List XS} (h : CpS n w v ps) (hl : ps.map Prod.fst = l) : SsK w (Nw n w) l v := by
  subst hl
  have hsub : Stays w w (NwR n w v) (Nw n w) := ⟨fun b h => ⟨h.1, h.2.1⟩, fun _ _ => rfl⟩
  have hlen : (ps.map Prod.fst).length = ps.length := List.length_map _
  rcases h.own.2 with ⟨h1, h0⟩ | ⟨g, cap, cur, h1, hb, hg, h4, h5, -⟩
  · obtain rfl : ps = [] := List.eq_nil_of_length_eq_zero h0
    subst h1
    exact .mk (l := []) (fun _ => .tuple #[]) (fun _ => .tuple #[]) (fun _ => .tuple #[]) (Nat.le_refl _) (Nat.zero_le _) (fun h => absurd h (Nat.lt_irrefl 0)) (fun i h => absurd h (Nat.not_lt_zero i)) (fun i h => absurd h (Nat.not_lt_zero i)) (fun i h => absurd h (Nat.not_lt_zero i)) (fun i h => absurd h (Nat.not_lt_zero i))
  · have hk := h.kids
    have ho := h.own
    subst h1
    rw [← hlen]
    refine .mk (fun i => (ps[i]?.map fun p => p.2.1).getD (.tuple #[])) (fun i => (ps[i]?.map fun p => p.2.2.1).getD (.tuple #[])) (fun i => (ps[i]?.map fun p => p.2.2.2).getD (.tuple #[])) (by omega) h5 (fun hp => ⟨g, 0, rfl, ⟨hb, (Array.getElem?_eq_some_iff.1 hg).1⟩, fun i hi => ?_⟩) (fun i hi => ?_) (fun i hi => ?_) (fun i hi => ?_) (fun i hi => ?_)
    · rw [hlen] at hi
      have hc := fun j hj => own_cell (w := w) (f := cS) (fun _ => rfl) ho i j hi hj
      simp only [List.getElem_map, List.getElem?_eq_getElem hi, Option.map_some, Option.getD_some, Nat.zero_add]
      exact ⟨hc 0 (by omega), hc 1 (by omega), hc 2 (by omega), hc 3 (by omega), hc 4 (by omega), hc 5 (by omega), hc 6 (by omega)⟩
    · rw [hlen] at hi
      simp only [List.getElem_map]
      exact h.ok _ (List.getElem_mem hi)
    all_goals
      rw [hlen] at hi
      simp only [List.getElem_map, List.getElem?_eq_getElem hi, Option.map_some, Option.getD_some]
    · exact ((hk _ (List.getElem_mem hi)).keep hsub).e
    · exact ((hk _ (List.getElem_mem hi)).keep hsub).b
    · exact ((hk _ (List.getElem_mem hi)).keep hsub).l
end
/-- The row of items. -/
def cI (p : XI × Value × Value × Value) : List Value := [.int .u8 p.1.k, .string p.1.name, p.2.1, p.2.2.1, .bool p.1.has, p.2.2.2, .int .i64 p.1.line]
structure KidI (w : World) (S : Nat → Prop) (p : XI × Value × Value × Value) : Prop where
  t : TsK w S p.1.params p.2.1
  e : EsK w S p.1.exprs p.2.2.1
  b : SsK w S p.1.body p.2.2.2
structure CpI (n : Nat) (w : World) (v : Value) (ps : List (XI × Value × Value × Value)) : Prop where
  own : w.ownsRow n 45 7 v ps.length (ps.flatMap cI)
  ok : ∀ p ∈ ps, p.1.Ok
  kids : ∀ p ∈ ps, KidI w (NwR n w v) p
section
variable {w w' : World} {n : Nat} {v : Value} {S S' : Nat → Prop}
theorem KidI.keep {p : XI × Value × Value × Value} (h : KidI w S p) (hs : Stays w w' S S') : KidI w' S' p := ⟨h.t.keep hs.sub hs.blk, h.e.keep hs.sub hs.blk, h.b.keep hs.sub hs.blk⟩
theorem CpI.nil (n : Nat) (w : World) : CpI n w (.slice none 0 0) [] := ⟨World.ownsRow_nil _ _ _ _, fun p h => (by cases h), fun p h => (by cases h)⟩
theorem CpI.call {ps : List (XI × Value × Value × Value)} (h : CpI n w v ps) (hb : Below w.heap.size w w') : CpI n w' v ps :=
  ⟨own_call h.own hb, h.ok, fun p hp => (h.kids p hp).keep (Stays.call hb)⟩
theorem CpI.push {ps : List (XI × Value × Value × Value)} (h : CpI n w v ps) {x : XI × Value × Value × Value} (hk : KidI w (NwR n w v) x) (hok : x.1.Ok) {g cap : Nat} (ho : w'.ownsRow n 45 7 (.slice (some ⟨g, 0, none⟩) (ps.length + 1) cap) (ps.length + 1) (ps.flatMap cI ++ cI x))
    (hg : w.grownBy w' v.ownBlock) (hv : v.ownBlock = some g ∨ w.heap.size ≤ g) : CpI n w' (.slice (some ⟨g, 0, none⟩) (ps.length + 1) cap) (ps ++ [x]) := by
  have hs : Stays w w' (NwR n w v) (NwR n w' (.slice (some ⟨g, 0, none⟩) (ps.length + 1) cap)) := Stays.grown hg hv
  refine ⟨?_, fun p hp => ?_, fun p hp => ?_⟩
  · simpa using ho
  · rcases List.mem_append.1 hp with h1 | h1
    · exact h.ok p h1
    · rw [List.mem_singleton.1 h1]; exact hok
  · rcases List.mem_append.1 hp with h1 | h1
    · exact (h.kids p h1).keep hs
    · rw [List.mem_singleton.1 h1]; exact hk.keep hs
theorem CpI.done {ps : List (XI × Value × Value × Value)} {l : List XI} (h : CpI n w v ps) (hl : ps.map Prod.fst = l) : IsAt w w.heap.size l v := by
  subst hl
  have hlen : (ps.map Prod.fst).length = ps.length := List.length_map _
  rcases h.own.2 with ⟨h1, h0⟩ | ⟨g, cap, cur, h1, hb, hg, h4, h5, -⟩
  · obtain rfl : ps = [] := List.eq_nil_of_length_eq_zero h0
    subst h1
    exact ⟨none, 0, fun _ => .tuple #[], fun _ => .tuple #[], fun _ => .tuple #[], rfl, Nat.le_refl _, Nat.zero_le _, fun h => absurd h (Nat.lt_irrefl 0), fun i h => absurd h (Nat.not_lt_zero i)⟩
  · have hk := h.kids
    have ho := h.own
    subst h1
    rw [← hlen]
    refine ⟨_, cap, fun i => (ps[i]?.map fun p => p.2.1).getD (.tuple #[]), fun i => (ps[i]?.map fun p => p.2.2.1).getD (.tuple #[]), fun i => (ps[i]?.map fun p => p.2.2.2).getD (.tuple #[]), rfl, by omega, h5, fun hp => ⟨g, 0, rfl, (Array.getElem?_eq_some_iff.1 hg).1, fun i hi => ?_⟩, fun i hi => ?_⟩
    · rw [hlen] at hi
      have hc := fun j hj => own_cell (w := w) (f := cI) (fun _ => rfl) ho i j hi hj
      simp only [List.getElem_map, List.getElem?_eq_getElem hi, Option.map_some, Option.getD_some, Nat.zero_add]
      exact ⟨hc 0 (by omega), hc 1 (by omega), hc 2 (by omega), hc 3 (by omega), hc 4 (by omega), hc 5 (by omega), hc 6 (by omega)⟩
    · rw [hlen] at hi
      simp only [List.getElem_map, List.getElem?_eq_getElem hi, Option.map_some, Option.getD_some]
      have hx := hk _ (List.getElem_mem hi)
      exact ⟨h.ok _ (List.getElem_mem hi), hx.t.toAt (fun b h => h.2.1), hx.e.toAt (fun b h => h.2.1), hx.b.toAt (fun b h => h.2.1)⟩
end
end Go.Proofs.YtmapjahpjolmnaaGreatDoor
namespace Go.Proofs.YtmapjahpjolmnaaGreatDoor
open Go.RowKit Tr
set_option maxRecDepth 20000
namespace Tr
theorem nnE (e : XE) (m : Int) : 0 ≤ (sizeE e m).2 := sizeE_nn (fun _ => true) e m
theorem nnS (e : XS) (m : Int) : 0 ≤ (sizeS e m).2 := sizeS_nn (fun _ => true) (fun _ => true) e m
def smE (m : Int) (a : Int × Int) (e : XE) : Int × Int := (a.1 + (sizeE e m).1, max a.2 (sizeE e m).2)
def smS (m : Int) (a : Int × Int) (e : XS) : Int × Int := (a.1 + (sizeS e m).1, max a.2 (sizeS e m).2)
theorem smE_acc (m : Int) : ∀ (l : List XE) (a : Int × Int), 0 ≤ a.2 → l.foldl (smE m) a = (a.1 + (l.foldl (smE m) (0, 0)).1, max a.2 (l.foldl (smE m) (0, 0)).2)
  | [], a, h => by
    rw [List.foldl_nil, List.foldl_nil]
    refine Prod.ext ?_ ?_ <;> simp only <;> omega
  | e :: r, a, h => by
    have hd := nnE e m
    rw [List.foldl_cons, List.foldl_cons, smE_acc m r (smE m a e) (by unfold smE; simp only; omega), smE_acc m r (smE m (0, 0) e) (by unfold smE; simp only; omega)]
    unfold smE
    refine Prod.ext ?_ ?_ <;> simp only <;> omega
theorem smS_acc (m : Int) : ∀ (l : List XS) (a : Int × Int), 0 ≤ a.2 → l.foldl (smS m) a = (a.1 + (l.foldl (smS m) (0, 0)).1, max a.2 (l.foldl (smS m) (0, 0)).2)
  | [], a, h => by
    rw [List.foldl_nil, List.foldl_nil]
    refine Prod.ext ?_ ?_ <;> simp only <;> omega
  | e :: r, a, h => by
    have hd := nnS e m
    rw [List.foldl_cons, List.foldl_cons, smS_acc m r (smS m a e) (by unfold smS; simp only; omega), smS_acc m r (smS m (0, 0) e) (by unfold smS; simp only; omega)]
    unfold smS
    refine Prod.ext ?_ ?_ <;> simp only <;> omega
theorem smE_nn (m : Int) : ∀ (l : List XE) (a : Int × Int), 0 ≤ a.2 → 0 ≤ (l.foldl (smE m) a).2 ∧ a.1 ≤ (l.foldl (smE m) a).1
  | [], a, h => ⟨h, Int.le_refl _⟩
  | e :: r, a, h => by
    have h1 := nnE e m
    have h2 := sizeE_n1 e m
    have h3 := smE_nn m r (smE m a e) (by unfold smE; simp only; omega)
    rw [List.foldl_cons]
    have h4 : (smE m a e).1 = a.1 + (sizeE e m).1 := rfl
    omega
theorem smS_nn (m : Int) : ∀ (l : List XS) (a : Int × Int), 0 ≤ a.2 → 0 ≤ (l.foldl (smS m) a).2 ∧ a.1 ≤ (l.foldl (smS m) a).1
  | [], a, h => ⟨h, Int.le_refl _⟩
  | e :: r, a, h => by
    have h1 := nnS e m
    have h2 := sizeS_n1 e m
    have h3 := smS_nn m r (smS m a e) (by unfold smS; simp only; omega)
    rw [List.foldl_cons]
    have h4 : (smS m a e).1 = a.1 + (sizeS e m).1 := rfl
    omega
theorem sizeEs_sm : ∀ (l : List XE) (m : Int), 1 ≤ m → sizeEs l m = (l.length + (l.foldl (smE (m - 1)) (0, 0)).1, if l.length = 0 then 0 else (l.foldl (smE (m - 1)) (0, 0)).2 + 1)
  | [], m, _ => by rw [sizeEs_nil]; rfl
  | e :: r, m, h => by
    have h0 := smE_nn (m - 1) r (0, 0) (Int.le_refl _)
    have h1 := nnE e (m - 1)
    rw [sizeEs_cons, if_neg (by omega), sizeEs_sm r m h, List.foldl_cons, smE_acc (m - 1) r (smE (m - 1) (0, 0) e) (by unfold smE; simp only; omega), if_neg (show ¬ (e :: r).length = 0 by simp)]
    unfold smE
    refine Prod.ext ?_ ?_
    · simp only [List.length_cons]; omega
    · simp only
      split
      · rename_i hz
        rw [List.eq_nil_of_length_eq_zero hz]
        simp only [List.foldl_nil]
        omega
      · omega
theorem sizeSs_sm : ∀ (l : List XS) (m : Int), 1 ≤ m → sizeSs l m = (l.length + (l.foldl (smS (m - 1)) (0, 0)).1, if l.length = 0 then 0 else (l.foldl (smS (m - 1)) (0, 0)).2 + 1)
  | [], m, _ => by rw [sizeSs_nil]; rfl
  | e :: r, m, h => by
    have h0 := smS_nn (m - 1) r (0, 0) (Int.le_refl _)
    have h1 := nnS e (m - 1)
    rw [sizeSs_cons, if_neg (by omega), sizeSs_sm r m h, List.foldl_cons, smS_acc (m - 1) r (smS (m - 1) (0, 0) e) (by unfold smS; simp only; omega), if_neg (show ¬ (e :: r).length = 0 by simp)]
    unfold smS
    refine Prod.ext ?_ ?_
    · simp only [List.length_cons]; omega
    · simp only
      split
      · rename_i hz
        rw [List.eq_nil_of_length_eq_zero hz]
        simp only [List.foldl_nil]
        omega
      · omega
mutual
theorem sizeE_leK : ∀ (e : XE) (m : Int), (sizeE e m).1 ≤ numEs e.kids
  | .mk k s n l, m => by rw [sizeE_eq]; exact sizeEs_leK l m
theorem sizeEs_leK : ∀ (l : List XE) (m : Int), (sizeEs l m).1 ≤ numEs l
  | [], m => by rw [sizeEs_nil, numEs_nil]; exact Int.le_refl _
  | e :: r, m => by
    have h1 := sizeE_leK e (m - 1)
    have h2 := sizeEs_leK r m
    rw [sizeEs_cons, numEs_cons, numE_eq]
    split
    · simp only; omega
    · simp only; omega
end
mutual
theorem sizeS_leK : ∀ (e : XS) (m : Int), (sizeS e m).1 + 1 ≤ numS e
  | .mk k s n l b o ln, m => by
    have h1 := sizeEs_leK l m
    have h2 := sizeSs_leK b m
    have h3 := sizeSs_leK o m
    rw [sizeS_eq, numS_eq]
    show (sizeEs l m).1 + (sizeSs b m).1 + (sizeSs o m).1 + 1 ≤ ((numEs l + numSs b + numSs o + 1 : Nat) : Int)
    omega
theorem sizeSs_leK : ∀ (l : List XS) (m : Int), (sizeSs l m).1 ≤ numSs l
  | [], m => by rw [sizeSs_nil, numSs_nil]; exact Int.le_refl _
  | e :: r, m => by
    have h1 := sizeS_leK e (m - 1)
    have h2 := sizeSs_leK r m
    rw [sizeSs_cons, numSs_cons]
    split
    · simp only; omega
    · simp only; omega
end
mutual
theorem sizeE_top : ∀ (e : XE) (m : Int), 0 ≤ m → (sizeE e m).2 ≤ m
  | .mk k s n l, m, h => by rw [sizeE_eq]; exact sizeEs_top l m h
theorem sizeEs_top : ∀ (l : List XE) (m : Int), 0 ≤ m → (sizeEs l m).2 ≤ m
  | [], m, h => by rw [sizeEs_nil]; exact h
  | e :: r, m, h => by
    rw [sizeEs_cons]
    split
    · exact h
    · have h1 := sizeE_top e (m - 1) (by omega)
      have h2 := sizeEs_top r m h
      simp only
      omega
end
end Tr
theorem smE_take (m : Int) (l : List XE) (i : Nat) (h : i < l.length) : (l.take (i + 1)).foldl (smE m) (0, 0) = (((l.take i).foldl (smE m) (0, 0)).1 + (sizeE l[i] m).1, max ((l.take i).foldl (smE m) (0, 0)).2 (sizeE l[i] m).2) := by
  rw [List.take_succ_eq_append_getElem h, List.foldl_append, List.foldl_cons, List.foldl_nil]
  rfl
theorem smS_take (m : Int) (l : List XS) (i : Nat) (h : i < l.length) : (l.take (i + 1)).foldl (smS m) (0, 0) = (((l.take i).foldl (smS m) (0, 0)).1 + (sizeS l[i] m).1, max ((l.take i).foldl (smS m) (0, 0)).2 (sizeS l[i] m).2) := by
  rw [List.take_succ_eq_append_getElem h, List.foldl_append, List.foldl_cons, List.foldl_nil]
  rfl
theorem smE_le (m : Int) (l : List XE) : ∀ i, l.length + ((l.take i).foldl (smE m) (0, 0)).1 ≤ (numEs l : Int) := by
  induction l with
  | nil => intro i; simp [numEs_nil]
  | cons e r ih =>
    intro i
    have h1 := sizeE_leK e m
    rw [numEs_cons, numE_eq]
    cases i with
    | zero =>
      have := ih 0
      simp only [List.take_zero, List.foldl_nil, List.length_cons] at this ⊢
      omega
    | succ i =>
      have h2 := ih i
      have hd := nnE e m
      rw [List.take_succ_cons, List.foldl_cons, smE_acc m _ (smE m (0, 0) e) (by unfold smE; simp only; omega)]
      unfold smE at h2 ⊢
      simp only [List.length_cons] at h2 ⊢
      omega
theorem smE_top (m : Int) (hm : 0 ≤ m) : ∀ (l : List XE) (a : Int × Int), a.2 ≤ m → (l.foldl (smE m) a).2 ≤ m
  | [], a, h => h
  | e :: r, a, h => by
    have h1 := sizeE_top e m hm
    rw [List.foldl_cons]
    exact smE_top m hm r _ (by unfold smE; simp only; omega)
theorem numEs_K1 (l : List XE) (i : Nat) (h : i < l.length) : numEs l[i].kids ≤ numEs l := by
  induction l generalizing i with
  | nil => simp at h
  | cons x l ih =>
    rw [numEs_cons, numE_eq]
    cases i with
    | zero => simp only [List.getElem_cons_zero]; omega
    | succ i => have := ih i (by simpa using h); simp only [List.getElem_cons_succ]; omega
set_option maxHeartbeats 4000000 in
theorem r_sizeE {w : World} {Bd : Nat} {l : List XE} {v : Value} (h : EsAt w Bd l v) : ∀ (m : Int), 0 ≤ m → m ≤ 1000 → numEs l ≤ 2000000 →
    Calls Tryz.prog 26 #[v, .int .i64 m] w fun e w' => e = .returned (.tuple #[.int .i64 (sizeEs l m).1, .int .i64 (sizeEs l m).2]) ∧ w' = w := by
  induction h with
  | @mk l A cap kv hc hm hat hok hk ih =>
    intro m hm0 hm1 hn
    have HAT := Lib.hid hat
    have HIH := Lib.hid ih
    have HK := Lib.hid hk
    have hcl : cap < 9223372036854775808 := by unfold maxLen at hm; omega
    have HNN := Lib.hid hn
    clear hat ih hok hk hn
    go_enter Tryz.func26, Tryz.ntmps26
    by_cases hs : l.length = 0 ∨ m < 1
    · have HR : Hid (sizeEs l m = (0, 0)) := by
        unfold Hid
        cases l with
        | nil => rw [sizeEs_nil]
        | cons x r =>
          rw [sizeEs_cons, if_pos]
          rcases hs with hs | hs
          · simp at hs
          · exact hs
      rw [HR.out]
      clear HR
      rcases hs with hs | hs
      · have hz : ((l.length : Int) == 0) = true := by rw [hs]; rfl
        clear hs
        go_wp2_with fail
        go_ret2
        exact ⟨rfl, rfl⟩
      · go_wp2_with fail
        all_goals
          go_ret2
          exact ⟨rfl, rfl⟩
    · have hz : ((l.length : Int) == 0) = false := by rw [beq_eq_false_iff_ne]; omega
      have hm2 : ¬ m < 1 := by omega
      have HR := Lib.hid (sizeEs_sm l m (by omega))
      have HL := Lib.hid (show ¬ l.length = 0 from by omega)
      clear hs
      go_wp2_with fail
      go_loopw [6, 7, 8] (fun v6 v7 v8 wr => ∃ i : Nat, v8 = .int .i64 i ∧ i ≤ l.length ∧ v6 = .int .i64 (l.length + ((l.take i).foldl (smE (m - 1)) (0, 0)).1) ∧ v7 = .int .i64 ((l.take i).foldl (smE (m - 1)) (0, 0)).2 ∧ wr = w) (fun _ _ v8 _ => l.length - (intOf v8).toNat)
      case atStart => exact ⟨0, rfl, Nat.zero_le _, by simp, by simp, rfl⟩
      case round =>
        obtain ⟨i, rfl, hi, rfl, rfl, rfl⟩ := hrel
        have hle := smE_le (m - 1) l i
        have htop := smE_top (m - 1) (by omega) (l.take i) (0, 0) (by simp only; omega)
        have hnn := smE_nn (m - 1) (l.take i) (0, 0) (Int.le_refl _)
        have hn := HNN.out
        by_cases hlt : i < l.length
        · obtain ⟨b, o, rfl, hbB, hcells⟩ := HAT.out (by omega)
          have y3 := (hcells i hlt).2.2.2
          have hst := smE_take (m - 1) l i hlt
          have hle2 := smE_le (m - 1) l (i + 1)
          have hkn := sizeE_leK l[i] (m - 1)
          rw [sizeE_eq] at hkn
          have hks := numEs_K1 l i hlt
          have HCALL := Lib.hid (HIH.out i hlt (m - 1) (by omega) (by omega) (by omega))
          have hs1 : sizeE l[i] (m - 1) = sizeEs l[i].kids (m - 1) := sizeE_eq _ _
          rw [hs1] at hst
          have hk1 := sizeEs_n1 l[i].kids (m - 1)
          have hk2 := sizeEs_nn l[i].kids (m - 1)
          have hk3 := sizeEs_top l[i].kids (m - 1) (by omega)
          clear hcells hbB hkn hs1
          rw [hst] at hle2
          have HST := Lib.hid hst
          clear hst
          generalize (l.take i).foldl (smE (m - 1)) (0, 0) = c at *
          generalize sizeEs l[i].kids (m - 1) = q at *
          obtain ⟨c1, c2⟩ := c
          obtain ⟨q1, q2⟩ := q
          dsimp only at *
          go_wp2_with fail
          refine HCALL.out.mono ?_
          rintro en w2 ⟨rfl, hw2⟩
          have HW2 := Lib.hid hw2
          clear hw2
          go_wp2_with fail
          all_goals
            go_roundw
            case rel => exact ⟨i + 1, by go_num, by omega, by (first | (rw [HST.out]; done) | (rw [HST.out]; simp only [Value.int.injEq, true_and]; omega)), by (first | (rw [HST.out]; done) | (rw [HST.out]; first | rfl | (simp only [Value.int.injEq, true_and]; omega))), HW2.out⟩
            case measure => simp [intOf]; omega
        · rw [List.take_of_length_le (by omega)] at htop hnn hle
          rw [List.take_of_length_le (by omega)]
          have HR2 : Hid (sizeEs l m = (l.length + (l.foldl (smE (m - 1)) (0, 0)).1, (l.foldl (smE (m - 1)) (0, 0)).2 + 1)) := by unfold Hid; rw [HR.out, if_neg HL.out]
          clear HR
          generalize l.foldl (smE (m - 1)) (0, 0) = c at *
          obtain ⟨c1, c2⟩ := c
          dsimp only at *
          go_wp2_with fail
          go_ret2
          rw [HR2.out]
          exact ⟨rfl, rfl⟩
end Go.Proofs.YtmapjahpjolmnaaGreatDoor
namespace Go.Proofs.YtmapjahpjolmnaaGreatDoor
open Go.RowKit Tr
set_option maxRecDepth 20000
namespace Tr
mutual
theorem sizeS_top : ∀ (e : XS) (m : Int), 0 ≤ m → (sizeS e m).2 ≤ m
  | .mk k s n l b o ln, m, h => by
    have h1 := sizeEs_top l m h
    have h2 := sizeSs_top b m h
    have h3 := sizeSs_top o m h
    rw [sizeS_eq]
    show max (sizeEs l m).2 (max (sizeSs b m).2 (sizeSs o m).2) ≤ m
    omega
theorem sizeSs_top : ∀ (l : List XS) (m : Int), 0 ≤ m → (sizeSs l m).2 ≤ m
  | [], m, h => by rw [sizeSs_nil]; exact h
  | e :: r, m, h => by
    rw [sizeSs_cons]
    split
    · exact h
    · have h1 := sizeS_top e (m - 1) (by omega)
      have h2 := sizeSs_top r m h
      simp only
      omega
end
end Tr
theorem smS_le (m : Int) (l : List XS) : ∀ i, l.length + ((l.take i).foldl (smS m) (0, 0)).1 ≤ (numSs l : Int) := by
  induction l with
  | nil => intro i; simp [numSs_nil]
  | cons e r ih =>
    intro i
    have h1 := sizeS_leK e m
    rw [numSs_cons]
    cases i with
    | zero =>
      have := ih 0
      have hn : 1 ≤ numS e := by rw [numS_eq]; omega
      simp only [List.take_zero, List.foldl_nil, List.length_cons] at this ⊢
      omega
    | succ i =>
      have h2 := ih i
      have hd := nnS e m
      rw [List.take_succ_cons, List.foldl_cons, smS_acc m _ (smS m (0, 0) e) (by unfold smS; simp only; omega)]
      unfold smS at h2 ⊢
      simp only [List.length_cons] at h2 ⊢
      omega
theorem smS_top (m : Int) (hm : 0 ≤ m) : ∀ (l : List XS) (a : Int × Int), a.2 ≤ m → (l.foldl (smS m) a).2 ≤ m
  | [], a, h => h
  | e :: r, a, h => by
    have h1 := sizeS_top e m hm
    rw [List.foldl_cons]
    exact smS_top m hm r _ (by unfold smS; simp only; omega)
theorem numSs_K1 (l : List XS) (i : Nat) (h : i < l.length) : numEs l[i].exprs + numSs l[i].body + numSs l[i].els ≤ numSs l := by
  induction l generalizing i with
  | nil => simp at h
  | cons x l ih =>
    rw [numSs_cons, numS_eq]
    cases i with
    | zero => simp only [List.getElem_cons_zero]; omega
    | succ i => have := ih i (by simpa using h); simp only [List.getElem_cons_succ]; omega
set_option maxHeartbeats 4000000 in
theorem r_sizeS {w : World} {Bd : Nat} {l : List XS} {v : Value} (h : SsAt w Bd l v) : ∀ (m : Int), 0 ≤ m → m ≤ 1000 → numSs l ≤ 2000000 →
    Calls Tryz.prog 27 #[v, .int .i64 m] w fun e w' => e = .returned (.tuple #[.int .i64 (sizeSs l m).1, .int .i64 (sizeSs l m).2]) ∧ w' = w := by
  induction h with
  | @mk l A cap ev bv lvv hc hm hat hok hee hbb hll ih1 ih2 =>
    intro m hm0 hm1 hn
    have HAT := Lib.hid hat
    have HIH1 := Lib.hid ih1
    have HIH2 := Lib.hid ih2
    have HEE := Lib.hid hee
    have hcl : cap < 9223372036854775808 := by unfold maxLen at hm; omega
    have HNN := Lib.hid hn
    clear hat ih1 ih2 hok hee hbb hll hn
    go_enter Tryz.func27, Tryz.ntmps27
    by_cases hs : l.length = 0 ∨ m < 1
    · have HR : Hid (sizeSs l m = (0, 0)) := by
        unfold Hid
        cases l with
        | nil => rw [sizeSs_nil]
        | cons x r =>
          rw [sizeSs_cons, if_pos]
          rcases hs with hs | hs
          · simp at hs
          · exact hs
      rw [HR.out]
      clear HR
      rcases hs with hs | hs
      · have hz : ((l.length : Int) == 0) = true := by rw [hs]; rfl
        clear hs
        go_wp2_with fail
        go_ret2
        exact ⟨rfl, rfl⟩
      · go_wp2_with fail
        all_goals
          go_ret2
          exact ⟨rfl, rfl⟩
    · have hz : ((l.length : Int) == 0) = false := by rw [beq_eq_false_iff_ne]; omega
      have hm2 : ¬ m < 1 := by omega
      have HR := Lib.hid (sizeSs_sm l m (by omega))
      have HL := Lib.hid (show ¬ l.length = 0 from by omega)
      clear hs
      go_wp2_with fail
      go_loopw [6, 7, 8] (fun v6 v7 v8 wr => ∃ i : Nat, v8 = .int .i64 i ∧ i ≤ l.length ∧ v6 = .int .i64 (l.length + ((l.take i).foldl (smS (m - 1)) (0, 0)).1) ∧ v7 = .int .i64 ((l.take i).foldl (smS (m - 1)) (0, 0)).2 ∧ wr = w) (fun _ _ v8 _ => l.length - (intOf v8).toNat)
      case atStart => exact ⟨0, rfl, Nat.zero_le _, by simp, by simp, rfl⟩
      case round =>
        obtain ⟨i, rfl, hi, rfl, rfl, rfl⟩ := hrel
        have hle := smS_le (m - 1) l i
        have htop := smS_top (m - 1) (by omega) (l.take i) (0, 0) (by simp only; omega)
        have hnn := smS_nn (m - 1) (l.take i) (0, 0) (Int.le_refl _)
        have hn := HNN.out
        by_cases hlt : i < l.length
        · obtain ⟨b, o, rfl, hbB, hcells⟩ := HAT.out (by omega)
          obtain ⟨y0, y1, y2, y3, y4, y5, y6⟩ := hcells i hlt
          have hst := smS_take (m - 1) l i hlt
          have hle2 := smS_le (m - 1) l (i + 1)
          have hks := numSs_K1 l i hlt
          have HC1 := Lib.hid (r_sizeE (HEE.out i hlt) (m - 1) (by omega) (by omega) (by omega))
          have HC2 := Lib.hid (HIH1.out i hlt (m - 1) (by omega) (by omega) (by omega))
          have HC3 := Lib.hid (HIH2.out i hlt (m - 1) (by omega) (by omega) (by omega))
          rw [sizeS_eq] at hst
          have k1 := sizeEs_n1 l[i].exprs (m - 1)
          have k2 := sizeSs_n1 l[i].body (m - 1)
          have k3 := sizeSs_n1 l[i].els (m - 1)
          have k4 := sizeEs_nn l[i].exprs (m - 1)
          have k5 := sizeSs_nn l[i].body (m - 1)
          have k6 := sizeSs_nn l[i].els (m - 1)
          have k7 := sizeEs_top l[i].exprs (m - 1) (by omega)
          have k8 := sizeSs_top l[i].body (m - 1) (by omega)
          have k9 := sizeSs_top l[i].els (m - 1) (by omega)
          clear hcells hbB hks
          rw [hst] at hle2
          have HST := Lib.hid hst
          clear hst
          generalize (l.take i).foldl (smS (m - 1)) (0, 0) = c at *
          generalize sizeEs l[i].exprs (m - 1) = q at *
          generalize sizeSs l[i].body (m - 1) = r at *
          generalize sizeSs l[i].els (m - 1) = t at *
          obtain ⟨c1, c2⟩ := c
          obtain ⟨q1, q2⟩ := q
          obtain ⟨r1, r2⟩ := r
          obtain ⟨t1, t2⟩ := t
          dsimp only at *
          go_wp2_with fail
          refine HC1.out.mono ?_
          rintro en w2 ⟨rfl, rfl⟩
          go_wp2_with fail
          all_goals
            refine HC2.out.mono ?_
            rintro en w3 ⟨rfl, rfl⟩
            go_wp2_with fail
            all_goals
              refine HC3.out.mono ?_
              rintro en w4 ⟨rfl, rfl⟩
              go_wp2_with fail
              all_goals
                go_roundw
                case rel => exact ⟨i + 1, by go_num, by omega, by (first | (rw [HST.out]; done) | (rw [HST.out]; simp only [Value.int.injEq, true_and]; omega)), by (first | (rw [HST.out]; done) | (rw [HST.out]; first | rfl | (simp only [Value.int.injEq, true_and]; omega))), by first | rfl | trivial⟩
                case measure => simp [intOf]; omega
        · rw [List.take_of_length_le (by omega)] at htop hnn hle
          rw [List.take_of_length_le (by omega)]
          have HR2 : Hid (sizeSs l m = (l.length + (l.foldl (smS (m - 1)) (0, 0)).1, (l.foldl (smS (m - 1)) (0, 0)).2 + 1)) := by unfold Hid; rw [HR.out, if_neg HL.out]
          clear HR
          generalize l.foldl (smS (m - 1)) (0, 0) = c at *
          obtain ⟨c1, c2⟩ := c
          dsimp only at *
          go_wp2_with fail
          go_ret2
          rw [HR2.out]
          exact ⟨rfl, rfl⟩
end Go.Proofs.YtmapjahpjolmnaaGreatDoor
namespace Go.Proofs.YtmapjahpjolmnaaGreatDoor
open Go.RowKit Tr
set_option maxRecDepth 20000
theorem info_text : (Tryz.prog.info? 9).map (fun i => (i.zero, i.size, i.bytes)) = some (some (.string e0), 1, 16) := by kernel_rfl
theorem info_expr : (Tryz.prog.info? 29).map (fun i => (i.zero, i.size, i.bytes)) = some (some (.agg #[.int .u8 0, .string e0, .int .u64 0, .slice none 0 0]), 4, 56) := by kernel_rfl
theorem len_numEs (l : List XE) : l.length ≤ numEs l := by
  have := smE_le 0 l 0
  simp at this
  omega
theorem len_numSs (l : List XS) : l.length ≤ numSs l := by
  have := smS_le 0 l 0
  simp at this
  omega
def tvals (l : List ByteArray) : List Value := l.map Value.string
theorem texts_own {w : World} {n k : Nat} {u : Value} {l : List ByteArray} (h : w.ownsRow n 9 1 u k (tvals l)) : TsK w (Nw n w) l u := by
  have hl : l.length = k := by have := h.1; simpa [tvals] using this
  rcases h.2 with ⟨h1, h0⟩ | ⟨g, cap, cur, h1, hb, hg, h4, h5, _⟩
  · subst h0
    subst h1
    exact ⟨none, 0, by rw [hl], by omega, Nat.zero_le _, fun h => by omega⟩
  · subst h1
    refine ⟨_, cap, by rw [hl], by omega, h5, fun hp => ⟨g, 0, rfl, ⟨hb, (Array.getElem?_eq_some_iff.1 hg).1⟩, fun i hi => ?_⟩⟩
    rw [Nat.zero_add, h.cellAt i (by omega)]
    simp [tvals, hi]
theorem tvals_snoc {l : List ByteArray} {i : Nat} (h : i < l.length) : tvals (l.take (i + 1)) = tvals (l.take i) ++ [.string l[i]] := by
  rw [List.take_succ_eq_append_getElem h]
  unfold tvals
  rw [List.map_append]
  rfl
set_option maxHeartbeats 4000000 in
theorem w_copyT {w : World} {Bd : Nat} {l : List ByteArray} {v : Value} (h : TsAt w Bd l v) (hB : Bd ≤ w.heap.size) (hn : l.length ≤ 1500000) :
    Calls Tryz.prog 18 #[v] w fun e w' => ∃ v', e = .returned v' ∧ TsK w' (Nw w.heap.size w') l v' ∧ Below w.heap.size w w' := by
  obtain ⟨A, cap, rfl, hc, hm, hat⟩ := h.form
  have HAT := Lib.hid hat
  have hcl : cap < 9223372036854775808 := by unfold maxLen at hm; omega
  clear h hat
  go_enter Tryz.func18, Tryz.ntmps18
  go_wp2_with fail
  go_loopw [3, 4] (fun v i0 wr => ∃ k : Nat, k ≤ l.length ∧ i0 = .int .i64 k ∧ wr.ownsRow w.heap.size 9 1 v k (tvals (l.take k)) ∧ Below w.heap.size w wr) (fun v i0 wr => l.length - (intOf i0).toNat)
  case atStart => exact ⟨0, Nat.zero_le _, rfl, ⟨rfl, .inl ⟨rfl, rfl⟩⟩, Below.refl _ _⟩
  case round =>
    obtain ⟨k, hk, rfl, howk, hb⟩ := hrel
    have HB := Lib.hid hb
    have hbs := hb.size
    by_cases hlt : k < l.length
    · obtain ⟨b, o, rfl, hbB, hcells⟩ := HAT.out (by omega)
      have y0 : wr.cell? ⟨b, o + k, none⟩ = some (.string l[k]) := by rw [cell_keep (hb.mono hB) hbB]; exact hcells k hlt
      have HX := Lib.hid (tvals_snoc hlt)
      have hz3 : k + 1 ≤ maxLen := by unfold maxLen; omega
      have hz4 : (k + 1) * 16 ≤ 140737488355328 := by omega
      clear hcells hb
      go_wp2_with (at_builtin; refine wp_app1 rfl _ _ _ rfl 9 1 16 _ Tryz.underlying42 info_text rfl (by decide) w.heap.size _ _ _ rfl howk [_] rfl rfl (fun u hu => by rw [List.mem_singleton.1 hu]; rfl) hz3 hz4 hbs ?_; intro v7 w7 how7 hgrow7 hne7; have hb7 := HB.out.trans (below_grown howk hgrow7 hbs); clear hgrow7 hne7)
      have how8 : w7.ownsRow w.heap.size 9 1 v7 (k + 1) (tvals (l.take (k + 1))) := by
        rw [HX.out]; exact how7
      clear how7 howk
      go_roundw
      case rel => exact ⟨k + 1, by omega, by go_num, how8, hb7⟩
      case measure => simp [intOf]; omega
    · obtain rfl : k = l.length := by omega
      rw [List.take_length] at howk
      have hQ := texts_own howk
      have HQ := Lib.hid hQ
      obtain ⟨AQ, capQ, rfl, -⟩ := hQ.form
      clear howk hb
      go_wp2_with fail
      go_ret
      exact ⟨_, rfl, HQ.out, HB.out⟩
theorem one_four {a b c d : Value} (ha : a.oneCell' = true) (hb : b.oneCell' = true) (hc : c.oneCell' = true) (hd : d.oneCell' = true) : ∀ u ∈ [a, b, c, d], u.oneCell' = true := by
  intro u hu
  simp only [List.mem_cons, List.not_mem_nil, or_false] at hu
  rcases hu with rfl | rfl | rfl | rfl <;> assumption
set_option maxHeartbeats 4000000 in
theorem w_copyE {w0 : World} {Bd : Nat} {l : List XE} {v : Value} (h : EsAt w0 Bd l v) : ∀ (w : World), Below Bd w0 w → Bd ≤ w0.heap.size → numEs l ≤ 1500000 →
    Calls Tryz.prog 19 #[v] w fun e w' => ∃ v', e = .returned v' ∧ EsK w' (Nw w.heap.size w') l v' ∧ Below w.heap.size w w' := by
  induction h with
  | @mk l A cap kv hc hm hat hok hk ih =>
    intro w hbl hB0 hsum
    have HAT := Lib.hid hat
    have HIH := Lib.hid ih
    have HOK := Lib.hid hok
    have HK := Lib.hid hk
    have HBL := Lib.hid hbl
    have HB0 := Lib.hid hB0
    have HSUM := Lib.hid hsum
    have hcl : cap < 9223372036854775808 := by unfold maxLen at hm; omega
    have hll : l.length ≤ 1500000 := by have := len_numEs l; omega
    clear hat ih hok hbl hB0 hk hsum
    go_enter Tryz.func19, Tryz.ntmps19
    go_wp2_with fail
    go_loopw [3, 4] (fun v i0 wr => ∃ ps : List (XE × Value), ps.length ≤ l.length ∧ i0 = .int .i64 ps.length ∧ ps.map Prod.fst = l.take ps.length ∧ CpE w.heap.size wr v ps ∧ Below w.heap.size w wr) (fun v i0 wr => l.length - (intOf i0).toNat)
    case atStart => exact ⟨[], Nat.zero_le _, rfl, rfl, CpE.nil _ _, Below.refl _ _⟩
    case round =>
      obtain ⟨ps, hpl, rfl, hpm, hcp, hbr⟩ := hrel
      have HBR := Lib.hid hbr
      have HCP := Lib.hid hcp
      have HPM := Lib.hid hpm
      have HV := Lib.hid hcp.own.lt
      clear hbr hcp hpm
      by_cases hlt : ps.length < l.length
      · have HBW : Hid (Below Bd w0 wr) := HBL.out.trans (HBR.out.mono (Nat.le_trans HB0.out HBL.out.size))
        obtain ⟨b, o, rfl, hbB, hcells⟩ := HAT.out (by omega)
        have hcc := (hcells _ hlt).keep HBW.out hbB
        have hkk := HK.out _ hlt
        obtain ⟨A1, c1, e1, hq1, hq2⟩ := hkk.form
        have hnum : numEs l[ps.length].kids ≤ 1500000 := Nat.le_trans (numEs_K1 l _ hlt) HSUM.out
        have HCALL := Lib.hid (fun wb (hb : Below Bd w0 wb) => HIH.out _ hlt wb hb HB0.out hnum)
        have HOX := Lib.hid (HOK.out _ hlt)
        have HPN : Hid ((ps.map Prod.fst) ++ [l[ps.length]] = l.take (ps.length + 1)) := by unfold Hid; rw [HPM.out, List.take_succ_eq_append_getElem hlt]
        rw [e1] at hcc HCALL
        unfold ecells at hcc
        generalize l[ps.length] = x at *
        have hb := (Below.refl wr.heap.size wr).alloc (Nat.le_refl _) (.cells #[.int .u8 x.k, .string x.s, .int .u64 x.n, .slice A1 x.kids.length c1] 29)
        have HXB := Lib.hid (Blk.new wr 29 #[.int .u8 x.k, .string x.s, .int .u64 x.n, .slice A1 x.kids.length c1])
        obtain ⟨y0, y1, y2, y3⟩ := hcc
        have HA := Lib.hid hb
        have HSZ : Hid ((wr.alloc (.cells #[.int .u8 x.k, .string x.s, .int .u64 x.n, .slice A1 x.kids.length c1] 29)).heap.size = wr.heap.size + 1) := World.size_alloc ..
        clear hb hcells hkk e1 hq1 hnum HPM
        go_upto_region 6 with (fail)
        clear y0 y1 y2 y3
        generalize wr.alloc (.cells #[.int .u8 x.k, .string x.s, .int .u64 x.n, .slice A1 x.kids.length c1] 29) = wa at *
        obtain ⟨X, hX⟩ : ∃ X, X = wr.heap.size := ⟨_, rfl⟩
        have HXW := Lib.hid hX
        rw [← hX] at HXB ⊢
        clear hX
        have x3 : wa.cell? ⟨X, 3, none⟩ = some (.slice A1 x.kids.length c1) := HXB.out.cell 3
        go_wp2_with fail
        refine (HCALL.out wa (HBW.out.trans (HA.out.mono (Nat.le_trans HB0.out HBW.out.size)))).mono ?_
        rintro en w5 ⟨v5, rfl, hk5, hb5⟩
        obtain ⟨A5, c5, rfl, -⟩ := hk5.form
        have hx5 : Blk w5 X 29 #[.int .u8 x.k, .string x.s, .int .u64 x.n, .slice A1 x.kids.length c1] := HXB.out.keep (Tur.of_gr (F := fun _ => False) hb5) (fun h => h)
        have f3 := hx5.free 3
        have y3 : w5.cell? ⟨X, 3, none⟩ = some (.slice A1 x.kids.length c1) := hx5.cell 3
        have hx6 : Blk (w5.setCell ⟨X, 3, none⟩ (.slice A5 x.kids.length c5)) X 29 #[.int .u8 x.k, .string x.s, .int .u64 x.n, .slice A5 x.kids.length c5] := by simpa using hx5.set 3 (.slice A5 x.kids.length c5)
        have hsx : X < wa.heap.size := HXB.out.lt
        have hsw := HXW.out
        have ht6 : Tur (· = X) w5 (w5.setCell ⟨X, 3, none⟩ (.slice A5 x.kids.length c5)) := Tur.of_set ⟨X, 3, none⟩ _
        have hb6 : Below wr.heap.size wr (w5.setCell ⟨X, 3, none⟩ (.slice A5 x.kids.length c5)) := (HA.out.trans (hb5.mono HA.out.size)).trans (ht6.below _ (Nat.le_trans HA.out.size hb5.size) (fun k hk e => by omega))
        have hk6 : EsK (w5.setCell ⟨X, 3, none⟩ (.slice A5 x.kids.length c5)) (NwR w.heap.size (w5.setCell ⟨X, 3, none⟩ (.slice A5 x.kids.length c5)) u3) x.kids (.slice A5 x.kids.length c5) :=
          hk5.keep (fun b h => ⟨by have := h.1; have := HBR.out.size; omega, Nat.lt_of_lt_of_le h.2 ht6.size, fun e => by have := (HV.out b e).2; have := h.1; omega⟩) (fun b h => ht6.block b h.2 (fun e => by have := h.1; omega))
        have hcp6 := HCP.out.call hb6
        have HX6 := Lib.hid hx6
        have HB6 := Lib.hid hb6
        have HK6 := Lib.hid hk6
        have HCP6 := Lib.hid hcp6
        clear hk5 hb5 hx5 hx6 ht6 hb6 hk6 hcp6 x3 hsx hsw HXW HSZ HCP HXB
        go_upto_region 7 with (fail)
        clear f3 y3
        generalize w5.setCell ⟨X, 3, none⟩ (.slice A5 x.kids.length c5) = w6 at *
        have x0 : w6.cell? ⟨X, 0, none⟩ = some (.int .u8 x.k) := HX6.out.cell 0
        have x1 : w6.cell? ⟨X, 1, none⟩ = some (.string x.s) := HX6.out.cell 1
        have x2 : w6.cell? ⟨X, 2, none⟩ = some (.int .u64 x.n) := HX6.out.cell 2
        have x3 : w6.cell? ⟨X, 3, none⟩ = some (.slice A5 x.kids.length c5) := HX6.out.cell 3
        have hz3 : ps.length + 1 ≤ maxLen := by unfold maxLen; omega
        have hz4 : (ps.length + 1) * 56 ≤ 140737488355328 := by omega
        have hbs : w.heap.size ≤ w6.heap.size := Nat.le_trans HBR.out.size HB6.out.size
        have hown := HCP6.out.own
        go_wp2_with (at_builtin; refine wp_app1_at rfl _ _ _ rfl 29 4 56 _ Tryz.underlying27 info_expr rfl (by decide) w.heap.size _ _ _ rfl hown [_, _, _, _] _ rfl rfl rfl ?hone hz3 hz4 hbs ?_; (case hone => exact one_four rfl rfl rfl rfl); intro g c7 w7 hc7 hm7 how7 hgrow7 hne7; have HCP7 := Lib.hid (HCP6.out.push (x := x) (u := .slice A5 x.kids.length c5) HK6.out HOX.out how7 hgrow7 hne7); have HB7 := Lib.hid ((HBR.out.trans (HB6.out.mono HBR.out.size)).trans (below_grown hown hgrow7 hbs)); clear hgrow7 hne7 how7 x0 x1 x2 x3)
        go_roundw
        case rel => exact ⟨ps ++ [(x, .slice A5 x.kids.length c5)], by rw [List.length_append]; exact hlt, by rw [List.length_append]; go_num, by rw [List.map_append, List.length_append]; exact HPN.out, HCP7.out, HB7.out⟩
        case measure => simp [intOf]; omega
      · have HE := Lib.hid (HCP.out.done (by rw [HPM.out, List.take_of_length_le (by omega)]))
        obtain ⟨AQ, cQ, rfl, -⟩ := HE.out.form
        clear HCP HV HPM
        go_wp2_with fail
        go_ret
        exact ⟨_, rfl, HE.out, HBR.out⟩
end Go.Proofs.YtmapjahpjolmnaaGreatDoor
