/- A reader over the input of a world: until. -/
import Derived.Test.YtdbdmgmenojcaaaDoorG17
import Derived.Test.YtdbdmgmenojcaaaDoorShelf
import Derived.Laws.EntriesVeiled
import Derived.StillTailTactics
import Derived.Test.YtdbdmgmenojcaaaDoorG16
set_option linter.unusedVariables false
set_option linter.unusedSimpArgs false
namespace Go.Proofs.YtdbdmgmenojcaaaDoor
open Go.RowKit Wd
def strAt (w : World) (b i : Nat) : Nat := match w.cell? ⟨b, i, none⟩ with
  | some (.string s) => s.size
  | _ => 0
def boolAt (w : World) (b i : Nat) : Nat := match w.cell? ⟨b, i, none⟩ with
  | some (.bool true) => 0
  | _ => 1
def meas (w : World) (rb pb : Nat) : Nat := 2 * strAt w pb 9 + boolAt w rb 4
section
variable {X : Nat → Prop} {w0 w w' : World} {rb pb : Nat} {left stdin : ByteArray} {fin ended : Bool}
theorem RdS.meas (h : RdS X w0 w rb pb left stdin fin ended) : meas w rb pb = 2 * stdin.size + if fin then 0 else 1 := by
  obtain ⟨M, F, st, h1, h2, h3, h4, rfl, h5⟩ := h.wat
  have c9 : w.cell? ⟨pb, 9, none⟩ = some (.string st.stdin) := h1.cell 9
  have c4 := h.cells.1.2.2.2.2.1
  unfold Proofs.YtdbdmgmenojcaaaDoor.meas strAt boolAt
  rw [c9, c4]
  cases fin <;> rfl
theorem cat_size {a b c d : ByteArray} (h : a ++ b = c ++ d) : a.size + b.size = c.size + d.size := by
  have := congrArg ByteArray.size h
  simpa [ByteArray.size_append] using this
set_option maxRecDepth 100000 in
set_option maxHeartbeats 4000000 in
theorem rd_until (h : RdS X w0 w rb pb left stdin fin ended) (f : Nat) (caps : Array Value) (so : List UInt8 → Bool) (hc : ∀ (args : Array Value) (w : World), (callFunc f args).run Tryd.prog w = .ok (.enter f args) w)
    (hs : ∀ wr l s fn, RdS X w0 wr rb pb l s fn ended → Tur (fun g => ¬ X g) w wr → Calls Tryd.prog f caps wr fun e w' => e = .returned (.bool (so l.data.toList)) ∧ Below wr.heap.size wr w') :
    Calls Tryd.prog 61 #[.pointer (some ⟨rb, 0, none⟩), .func (.func f) #[] caps] w fun e w' => ∃ l' s' fn', e = .returned (.int .i64 0) ∧ RdS X w0 w' rb pb l' s' fn' ended ∧ l' ++ s' = left ++ stdin ∧ (fn' = true ∨ so l'.data.toList = true) ∧ Tur (fun g => ¬ X g) w w' := by
  have HS := Lib.hid hs
  have HH := Lib.hid h
  clear hs h
  go_enter Tryd.func61, Tryd.ntmps61
  go_wp2_with fail
  go_loopw [4] (fun v wr => v = .int .i64 0 ∧ ∃ l s fn, RdS X w0 wr rb pb l s fn ended ∧ l ++ s = left ++ stdin ∧ Tur (fun g => ¬ X g) w wr) (fun _ wr => meas wr rb pb)
  case atStart => exact ⟨rfl, left, stdin, fin, HH.out, rfl, Tur.refl _ _⟩
  case round =>
    obtain ⟨rfl, l, s, fn, hr, hcat, ht⟩ := hrel
    have HR := Lib.hid hr
    have HC := Lib.hid hcat
    have HT := Lib.hid ht
    clear hr hcat ht
    obtain ⟨⟨y0, y1, y2, y3, y4, y5⟩, z3, z4, z5⟩ := HR.out.cells
    cases fn
    · go_wp2_with fail
      refine (HS.out wr l s false HR.out HT.out).mono ?_
      rintro e w2 ⟨rfl, hb2⟩
      have HR2 := Lib.hid (HR.out.pure hb2)
      have HT2 := Lib.hid (HT.out.trans (Tur.of_gr (F := fun g => ¬ X g) hb2) (fun i _ hi => hi))
      have HM := Lib.hid HR.out.meas
      clear y0 y1 y2 y3 y4 y5 z3 z4 z5 hb2
      obtain ⟨⟨y0, y1, y2, y3, y4, y5⟩, z3, z4, z5⟩ := HR2.out.cells
      cases hso : so l.data.toList
      · go_wp2_with fail
        go_region_held3 (fun w' => w'.cell? ⟨rb, 0, none⟩ = some (.pointer (some ⟨pb, 0, none⟩)) ∧ w'.cell? ⟨rb, 1, none⟩ = some (.int .u8 1) ∧ w'.cell? ⟨rb, 2, none⟩ = some (.string minus)) (first | exact ⟨y0, y1, y2⟩ | exact hy3 | go_keep) (first | (go_at_call 18; refine (rd_read (by first | exact HR2.out.drew | exact HR2.out)).mono ?_; rintro e w3 ⟨s1, s2, rfl, hcat3, hz3, hr3, ht3⟩; have hy3 : w3.cell? ⟨rb, 0, none⟩ = some (.pointer (some ⟨pb, 0, none⟩)) ∧ w3.cell? ⟨rb, 1, none⟩ = some (.int .u8 1) ∧ w3.cell? ⟨rb, 2, none⟩ = some (.string minus) := ⟨hr3.cells.1.1, hr3.cells.1.2.1, hr3.cells.1.2.2.1⟩; have hT3 : Tur (fun g => ¬ X g) w2 w3 := (by first | exact ⟨ht3.os, ht3.tape, ht3.output, ht3.size, ht3.block⟩ | exact ht3)))
        have HR3 := Lib.hid hr3
        have HZ3 := Lib.hid hz3
        have HC3 := Lib.hid hcat3
        have HT3 := Lib.hid (HT2.out.trans hT3 (fun i _ hi => hi))
        clear hr3 hz3 hcat3 ht3 hT3 hy3 y0 y1 y2 y3 y4 y5 z3 z4 z5
        obtain ⟨⟨y0, y1, y2, y3, y4, y5⟩, z3, z4, z5⟩ := HR3.out.cells
        have hsz := congrArg ByteArray.size HC3.out
        rw [ByteArray.size_append] at hsz
        have hsz1 := HR2.out.size
        have hsz2 : l.size + s1.size ≤ 9223372036854775807 := by omega
        have HL := Lib.hid (HR3.out.setLeft (l ++ s1) (by rw [ByteArray.size_append]; omega))
        have HTL := Lib.hid (HT3.out.trans (HR3.out.turSet 3 (.string (l ++ s1))) (fun i _ hi => hi))
        have HCL : Hid ((l ++ s1) ++ s2 = left ++ stdin) := by unfold Hid; rw [ByteArray.append_assoc, HC3.out, HC.out]
        have HMZ : Hid (2 * s2.size + 2 * s1.size = 2 * s.size) := by unfold Hid; omega
        clear hsz hsz1
        by_cases h0 : s1.size = 0
        · have e1 : s1.toList.isEmpty = true := by rw [Lib.toList_data, data_nil h0]; rfl
          have HF := Lib.hid (HL.out.setFin true (fun _ => by have := HZ3.out h0; have := HMZ.out; omega))
          have HTF := Lib.hid (HTL.out.trans (HL.out.turSet 4 (.bool true)) (fun i _ hi => hi))
          have HMS : Hid (meas ((w3.setCell ⟨rb, 3, none⟩ (.string (l ++ s1))).setCell ⟨rb, 4, none⟩ (.bool true)) rb pb < meas wr rb pb) := by unfold Hid; rw [HF.out.meas, HM.out]; have := HZ3.out h0; have := HMZ.out; simp; omega
          clear h0
          go_wp2_with fail
          go_roundw
          case rel => exact ⟨rfl, _, _, _, HF.out, HCL.out, HTF.out⟩
          case measure => exact HMS.out
        · have e1 : s1.toList.isEmpty = false := by
            rw [Lib.toList_data]
            have := data_ne h0
            cases hl : s1.data.toList with
            | nil => exact absurd hl this
            | cons a b => rfl
          have HF := Lib.hid (HL.out.setFin false (fun e => by cases e))
          have HTF := Lib.hid (HTL.out.trans (HL.out.turSet 4 (.bool false)) (fun i _ hi => hi))
          have HMS : Hid (meas ((w3.setCell ⟨rb, 3, none⟩ (.string (l ++ s1))).setCell ⟨rb, 4, none⟩ (.bool false)) rb pb < meas wr rb pb) := by unfold Hid; rw [HF.out.meas, HM.out]; have := HMZ.out; simp; omega
          clear h0
          go_wp2_with fail
          go_roundw
          case rel => exact ⟨rfl, _, _, _, HF.out, HCL.out, HTF.out⟩
          case measure => exact HMS.out
      · have HSO := Lib.hid hso
        clear hso
        go_wp2_with fail
        go_ret
        exact ⟨l, s, false, rfl, HR2.out, HC.out, .inr HSO.out, HT2.out⟩
    · go_wp2_with fail
      go_ret
      exact ⟨l, s, true, rfl, HR.out, HC.out, .inl rfl, HT.out⟩
end
end Go.Proofs.YtdbdmgmenojcaaaDoor
namespace Go.Proofs.YtdbdmgmenojcaaaDoor
open Go.RowKit Wd
set_option maxRecDepth 100000 in
theorem enters_nx1 : ∀ (args : Array Value) (w : World), (callFunc 62 args).run Tryd.prog w = .ok (.enter 62 args) w := fun _ _ => rfl
set_option maxRecDepth 20000 in
theorem nx_so {w : World} {rb rc sc : Nat} {l rs : ByteArray} {b : UInt8} (hrc : w.cell? ⟨rc, 0, none⟩ = some (.pointer (some ⟨rb, 0, none⟩))) (hsc : w.cell? ⟨sc, 0, none⟩ = some (.string rs)) (h3 : w.cell? ⟨rb, 3, none⟩ = some (.string l)) (hn : 0 < rs.size) (hb : rs[0] = b) :
    Calls Tryd.prog 62 #[.pointer (some ⟨rc, 0, none⟩), .pointer (some ⟨sc, 0, none⟩)] w fun e w' => e = .returned (.bool (decide (b ∈ l.data.toList))) ∧ Below w.heap.size w w' := by
  have hc : ((b.toNat : Int)).toNat.toUInt8 = b := by simp
  have HI := Lib.hid (fun w : World => Tryd.strings_IndexByte l (b.toNat : Int) w)
  rw [hc] at HI
  have HD := Lib.hid (Rd.indexByte_one b l.data.toList)
  subst hb
  clear hc
  go_enter Tryd.func62, Tryd.ntmps62
  go_wp2_with fail
  go_quiet ((go_at_call 63; exact Calls.quiet_of_same (HI.out _)))
  go_wp2_with fail
  go_ret
  exact ⟨ret_bool HD.out, below_drew w nq⟩
theorem data_app (a b : ByteArray) : (a ++ b).data.toList = a.data.toList ++ b.data.toList := by simp [ByteArray.data_append]
theorem isEmpty_ne {s : ByteArray} (h : s.size ≠ 0) : s.toList.isEmpty = false := by
  rw [Lib.toList_data]
  have := data_ne h
  cases hl : s.data.toList with
  | nil => exact absurd hl this
  | cons a b => rfl
theorem isEmpty_eq {s : ByteArray} (h : s.size = 0) : s.toList.isEmpty = true := by rw [Lib.toList_data, data_nil h]; rfl
theorem head_byte {rs : ByteArray} (hn : 0 < rs.size) : (rs.extract 0 1).data.toList = [rs[0]] := by
  rw [Lib.extract_data]
  obtain ⟨⟨l⟩⟩ := rs
  cases l with
  | nil => exact absurd hn (by simp [ByteArray.size])
  | cons x l => rfl
/-- What is told of T by one byte. -/
def Told1 (b : UInt8) (T t : List UInt8) (ok : Bool) (T' : List UInt8) : Prop := (T = [] ∧ t = [] ∧ ok = false ∧ T' = []) ∨ (T ≠ [] ∧ t = Rd.tw b T ∧ ok = true ∧ T' = Rd.rest1 b T)
theorem told_cut {b : UInt8} {l s : List UInt8} (hl : l ≠ []) (h : s = [] ∨ b ∈ l) : Told1 b (l ++ s) (Lib.cut l [b]).1 true ((Lib.cut l [b]).2.1 ++ s) := by
  right
  refine ⟨by simp [hl], ?_, rfl, ?_⟩
  · by_cases hb : b ∈ l
    · rw [Rd.cut_in hb, (Rd.tw_app s hb).1]
    · have : s = [] := by rcases h with h | h; exact h; exact absurd h hb
      subst this
      rw [Rd.cut_out hb, List.append_nil, (Rd.tw_all hb).1]
  · by_cases hb : b ∈ l
    · rw [Rd.cut_in hb, (Rd.tw_app s hb).2]
    · have : s = [] := by rcases h with h | h; exact h; exact absurd h hb
      subst this
      rw [Rd.cut_out hb, List.append_nil, List.append_nil, (Rd.tw_all hb).2]
theorem cut_len (s sep : List UInt8) : (Lib.cut s sep).2.1.length ≤ s.length := by
  unfold Lib.cut
  split
  · simp
  · simp
section
variable {X : Nat → Prop} {w0 w : World} {rb pb : Nat} {left stdin : ByteArray} {fin ended : Bool}
set_option maxRecDepth 100000 in
set_option maxHeartbeats 4000000 in
theorem rd_next1 (h : RdS X w0 w rb pb left stdin fin ended) (hsh : w0.ShapedOpen Tryd.prog) (rs : ByteArray) (b : UInt8) (hn : 0 < rs.size) (hb : rs[0] = b) :
    Calls Tryd.prog 30 #[.pointer (some ⟨rb, 0, none⟩), .string rs] w fun e w' => ∃ l' s' fn' t ok, e = .returned (.tuple #[.string ⟨t.toArray⟩, .bool ok, .int .i64 0]) ∧ RdS X w0 w' rb pb l' s' fn' ended ∧ Tur (fun g => ¬ X g) w w' ∧ Told1 b (left.data.toList ++ stdin.data.toList) t ok (l'.data.toList ++ s'.data.toList) := by
  have hb1 : Below w.heap.size w ((w.alloc (.cells #[.pointer (some ⟨rb, 0, none⟩)] 22)).alloc (.cells #[.string rs] 9)) := ((Below.refl _ _).alloc (Nat.le_refl _) _).alloc (by simp) _
  have HB1 := Lib.hid hb1
  have HC0 := Lib.hid ((Blk.new w 22 #[.pointer (some ⟨rb, 0, none⟩)]).keep (Tur.of_alloc (F := fun _ => False) _ (.cells #[.string rs] 9)) (fun h => h))
  have hc1 := Blk.new (w.alloc (.cells #[.pointer (some ⟨rb, 0, none⟩)] 22)) 9 #[.string rs]
  rw [show (w.alloc (.cells #[.pointer (some ⟨rb, 0, none⟩)] 22)).heap.size = w.heap.size + 1 by simp] at hc1
  have HC1 := Lib.hid hc1
  have HR1 := Lib.hid (h.grow hb1)
  have hz : ((w.alloc (.cells #[.pointer (some ⟨rb, 0, none⟩)] 22)).alloc (.cells #[.string rs] 9)).heap.size = w.heap.size + 2 := by simp
  rw [hz] at HR1
  have hne : rs.toList.isEmpty = false := isEmpty_ne (by omega)
  have HN := Lib.hid (And.intro hn trivial)
  have HBB : Hid (∃ hn : 0 < rs.size, rs[0] = b) := ⟨hn, hb⟩
  clear hb1 hc1 h hz hn hb
  go_enter Tryd.func30, Tryd.ntmps30
  go_wp2_with fail
  obtain ⟨rc, hrc⟩ : ∃ x, x = w.heap.size := ⟨_, rfl⟩
  rw [← hrc] at HC0 HC1 HR1 HB1 ⊢
  obtain ⟨sc, hsc⟩ : ∃ x, x = rc + 1 := ⟨_, rfl⟩
  rw [← hsc] at HC1 ⊢
  have HRC := Lib.hid hrc
  have HSC := Lib.hid hsc
  clear hrc hsc
  generalize (w.alloc (.cells #[.pointer (some ⟨rb, 0, none⟩)] 22)).alloc (.cells #[.string rs] 9) = w1 at *
  have c0 : w1.cell? ⟨rc, 0, none⟩ = some (.pointer (some ⟨rb, 0, none⟩)) := HC0.out.cell 0
  have c1 : w1.cell? ⟨sc, 0, none⟩ = some (.string rs) := HC1.out.cell 0
  have HK : Hid (∀ wr, Tur (fun g => ¬ (X g ∨ (rc ≤ g ∧ g < rc + 2))) w1 wr → wr.cell? ⟨rc, 0, none⟩ = some (.pointer (some ⟨rb, 0, none⟩)) ∧ wr.cell? ⟨sc, 0, none⟩ = some (.string rs)) := by
    intro wr ht
    exact ⟨(HC0.out.keep ht (fun hx => hx (.inr (by omega)))).cell 0, (HC1.out.keep ht (fun hx => hx (.inr (by have := HSC.out; omega)))).cell 0⟩
  go_wp2_with fail
  refine (rd_until HR1.out 62 _ (fun l => decide (b ∈ l)) enters_nx1 (fun wr l s fn hr ht => nx_so (HK.out wr ht).1 (HK.out wr ht).2 hr.cells.1.2.2.2.1 HBB.out.choose HBB.out.choose_spec)).mono ?_
  rintro e w2 ⟨l', s', fn', rfl, hr2, hcat, hor, ht2⟩
  have HR2 := Lib.hid hr2
  have HT2 := Lib.hid ht2
  have HX2 : Hid (RdS X w0 w2 rb pb l' s' fn' ended) := hr2.less (fun g hg => .inl hg)
  have HTX : Hid (Tur (fun g => ¬ X g) w w2) := (Tur.of_gr (F := fun g => ¬ X g) (by have := HB1.out; rw [HRC.out] at this; exact this)).trans (ht2.mono (G := fun g => ¬ X g) (fun i _ hi hx => hi (.inl hx))) (fun i _ hi => hi)
  have HCAT : Hid (left.data.toList ++ stdin.data.toList = l'.data.toList ++ s'.data.toList) := by
    unfold Hid; rw [← data_app, ← data_app, hcat]
  have HOR : Hid (s'.data.toList = [] ∨ b ∈ l'.data.toList) := by
    rcases hor with h | h
    · left; exact data_nil (hr2.fin0 h)
    · right; simpa using h
  clear hr2 hcat hor c0 c1
  obtain ⟨c0, c1⟩ := HK.out w2 ht2
  clear ht2
  obtain ⟨⟨y0, y1, y2, y3, y4, y5⟩, z3, z4, z5⟩ := HX2.out.cells
  clear y0 y1 y2 y4 y5 z4 z5
  by_cases h0 : l'.size = 0
  · have e0 := isEmpty_eq h0
    have HD0 := Lib.hid (data_nil h0)
    clear h0
    go_wp2_with fail
    go_ret3
    refine ⟨l', s', fn', [], false, rfl, HX2.out, HTX.out, .inl ?_⟩
    have hs : s'.data.toList = [] := by
      rcases HOR.out with h | h
      · exact h
      · rw [HD0.out] at h; cases h
    rw [HCAT.out, HD0.out, hs]
    exact ⟨rfl, rfl, rfl, rfl⟩
  · have e0 := isEmpty_ne h0
    have HL0 := Lib.hid (data_ne h0)
    have hs1 : (1 : Nat) ≤ rs.size := HN.out.1
    have HBD : Hid ((rs.extract 0 1).data.toList = [b]) := by
      obtain ⟨hn, hb⟩ := HBB.out
      unfold Hid; rw [head_byte hn, hb]
    have hlsz := HX2.out.size
    have HCUT : Hid (∀ n, Calls Tryd.prog 64 #[.string l', .string (rs.extract 0 1)] (w2.drewN n) fun e w' => e = .returned (.tuple #[.string ⟨(Lib.cut l'.data.toList [b]).1.toArray⟩, .string ⟨(Lib.cut l'.data.toList [b]).2.1.toArray⟩, .bool (Lib.cut l'.data.toList [b]).2.2]) ∧ ∃ m, w' = (w2.drewN n).drewN m) := by
      intro n
      have := Tryd.strings_Cut_shaped l' (rs.extract 0 1) (w2.drewN n) (shaped_below hsh (HX2.out.drewN n).below) (by omega)
      rw [HBD.out] at this
      exact this
    clear h0
    go_wp2_with fail
    go_quiet ((go_at_call 64; exact Calls.quiet_of (HCUT.out _)))
    have HX3 := Lib.hid (HX2.out.drewN nq)
    have HT3 : Hid (Tur (fun g => ¬ X g) w (w2.drewN nq)) := ⟨HTX.out.os, HTX.out.tape, HTX.out.output, HTX.out.size, HTX.out.block⟩
    have c0' : (w2.drewN nq).cell? ⟨rc, 0, none⟩ = some (.pointer (some ⟨rb, 0, none⟩)) := c0
    clear c0 c1 y3 z3
    generalize w2.drewN nq = w3 at *
    obtain ⟨⟨y0, y1, y2, y3, y4, y5⟩, z3, z4, z5⟩ := HX3.out.cells
    clear y0 y1 y2 y4 y5 z4 z5
    have HTOLD := Lib.hid (told_cut HL0.out HOR.out)
    have hcl := cut_len l'.data.toList [b]
    have hll : l'.data.toList.length = l'.size := rfl
    have HL3 := Lib.hid (HX3.out.setLeft ⟨(Lib.cut l'.data.toList [b]).2.1.toArray⟩ (by rw [Lib.size_mk]; omega))
    have HTL3 := Lib.hid (HT3.out.trans (HX3.out.turSet 3 (.string ⟨(Lib.cut l'.data.toList [b]).2.1.toArray⟩)) (fun i _ hi => hi))
    clear hcl hll
    go_wp2_with fail
    go_ret3
    refine ⟨_, s', fn', _, true, rfl, HL3.out, HTL3.out, ?_⟩
    rw [HCAT.out]
    exact HTOLD.out
end
end Go.Proofs.YtdbdmgmenojcaaaDoor
namespace Go.Proofs.YtdbdmgmenojcaaaDoor
open Go.RowKit Wd
set_option maxRecDepth 100000 in
theorem enters_pa1 : ∀ (args : Array Value) (w : World), (callFunc 83 args).run Tryd.prog w = .ok (.enter 83 args) w := fun _ _ => rfl
set_option maxRecDepth 100000 in
theorem enters_pa2 : ∀ (args : Array Value) (w : World), (callFunc 85 args).run Tryd.prog w = .ok (.enter 85 args) w := fun _ _ => rfl
def pBareS (l : ByteArray) : ByteArray := ⟨(Rd.pBare l.data.toList).toArray⟩
theorem pBareS_data (l : ByteArray) : (pBareS l).data.toList = Rd.pBare l.data.toList := by simp [pBareS]
theorem pBareS_size (l : ByteArray) : (pBareS l).size ≤ l.size := by
  unfold pBareS
  rw [Lib.size_mk]
  obtain ⟨p, h, -⟩ := Rd.trim_split l.data.toList
  have := congrArg List.length h
  have hl : l.data.toList.length = l.size := rfl
  simp at this
  omega
theorem trimLeft_ten (s : ByteArray) (w : World) : Calls Tryd.prog 84 #[.string s, .string ⟨#[10]⟩] w fun e w' => e = .returned (.string ⟨(Lib.trimLeftB s.data.toList 10).toArray⟩) ∧ w' = w := Tryd.strings_TrimLeft_one s 10 (by decide) w
theorem pa_bare {w : World} {rb rc : Nat} {l : ByteArray} (hrc : w.cell? ⟨rc, 0, none⟩ = some (.pointer (some ⟨rb, 0, none⟩))) (h3 : w.cell? ⟨rb, 3, none⟩ = some (.string l)) :
    Calls Tryd.prog 83 #[.pointer (some ⟨rc, 0, none⟩)] w fun e w' => e = .returned (.string (pBareS l)) ∧ w' = w := by
  go_enter Tryd.func83, Tryd.ntmps83
  go_wp2_with fail
  refine (trimLeft_ten l _).mono ?_
  rintro e w2 ⟨rfl, hw⟩
  obtain rfl : w = w2 := hw.symm
  go_wp2_with fail
  go_ret
  exact ⟨rfl, rfl⟩
def tenten : ByteArray := ⟨#[10, 10]⟩
def pCutV (l : ByteArray) : Value := .tuple #[.string ⟨(Lib.cut (Rd.pBare l.data.toList) [10, 10]).1.toArray⟩, .string ⟨(Lib.cut (Rd.pBare l.data.toList) [10, 10]).2.1.toArray⟩, .bool (Rd.pHas l.data.toList)]
theorem pa_cut {w0 w : World} (hsh : w0.ShapedOpen Tryd.prog) (hb : Below w0.heap.size w0 w) (l : ByteArray) (hl : l.size ≤ 1000000) :
    Calls Tryd.prog 64 #[.string (pBareS l), .string ⟨#[10, 10]⟩] w fun e w' => e = .returned (.tuple #[.string ⟨(Lib.cut (Rd.pBare l.data.toList) [10, 10]).1.toArray⟩, .string ⟨(Lib.cut (Rd.pBare l.data.toList) [10, 10]).2.1.toArray⟩, .bool (Rd.pHas l.data.toList)]) ∧ ∃ n, w' = w.drewN n := by
  have := Tryd.strings_Cut_shaped (pBareS l) ⟨#[10, 10]⟩ w (shaped_below hsh hb) (by have := pBareS_size l; omega)
  rw [pBareS_data] at this
  exact this
set_option maxRecDepth 20000 in
theorem pa_so {w0 w : World} {rb rc fc : Nat} {l : ByteArray} (hsh : w0.ShapedOpen Tryd.prog) (hb : Below w0.heap.size w0 w) (hl : l.size ≤ 1000000) (hfc : w.cell? ⟨fc, 0, none⟩ = some (.func (.func 83) #[] #[.pointer (some ⟨rc, 0, none⟩)])) (hrc : w.cell? ⟨rc, 0, none⟩ = some (.pointer (some ⟨rb, 0, none⟩))) (h3 : w.cell? ⟨rb, 3, none⟩ = some (.string l)) :
    Calls Tryd.prog 85 #[.pointer (some ⟨fc, 0, none⟩)] w fun e w' => e = .returned (.bool (Rd.pSo l.data.toList)) ∧ Below w.heap.size w w' := by
  have HPB := Lib.hid (pa_bare hrc h3)
  have HCUT := Lib.hid (pa_cut hsh hb l hl)
  have HEN := Lib.hid enters_pa1
  have HSO : Hid (Rd.pSo l.data.toList = (Rd.pHas l.data.toList && !decide (Lib.trimLeftB (Lib.cut (Rd.pBare l.data.toList) [10, 10]).2.1 10 = []))) := rfl
  obtain ⟨o, ho⟩ : ∃ o, o = Rd.pSo l.data.toList := ⟨_, rfl⟩
  rw [← ho]
  rw [← ho] at HSO
  clear hrc h3 hb ho
  have hen := enters_pa1
  go_enter Tryd.func85, Tryd.ntmps85
  go_wp2_with fail
  refine HPB.out.mono ?_
  rintro e w2 ⟨rfl, hw⟩
  obtain rfl : w = w2 := hw.symm
  go_wp2_with fail
  refine HCUT.out.mono ?_
  rintro e w2 ⟨rfl, nq, rfl⟩
  have HB := Lib.hid (below_drew w nq)
  clear HPB HCUT
  cases hh : Rd.pHas l.data.toList
  · rw [hh] at HSO
    clear hh
    go_wp2_with fail
    go_ret
    exact ⟨ret_bool HSO.out.symm, HB.out⟩
  · rw [hh] at HSO
    clear hh
    generalize (Lib.cut (Rd.pBare l.data.toList) [10, 10]).2.1 = r at *
    generalize w.drewN nq = w3 at *
    go_wp2_with fail
    refine (trimLeft_ten _ _).mono ?_
    rintro e w4 ⟨rfl, hw⟩
    obtain rfl : w3 = w4 := hw.symm
    rw [show (⟨r.toArray⟩ : ByteArray).data.toList = r by simp]
    generalize Lib.trimLeftB r 10 = q at *
    cases q with
    | nil =>
      go_wp2_with fail
      go_ret
      exact ⟨ret_bool HSO.out.symm, HB.out⟩
    | cons x q =>
      have e1 : (⟨(x :: q).toArray⟩ : ByteArray).toList.isEmpty = false := isEmpty_ne (by rw [Lib.size_mk]; simp)
      go_wp2_with fail
      go_ret
      exact ⟨ret_bool HSO.out.symm, HB.out⟩
/-- What is told of T between empty lines. -/
def Told2 (T t : List UInt8) (ok : Bool) (T' : List UInt8) : Prop := t = Rd.pRec T ∧ ok = !decide (t = []) ∧ T' = Rd.pRest T
theorem told_para {l s : List UInt8} (h : s = [] ∨ Rd.pSo l = true) : Told2 (l ++ s) (Rd.pRec l) (!decide (Rd.pRec l = [])) (Rd.pRest l ++ s) := by
  rcases h with rfl | h
  · exact ⟨by rw [List.append_nil], rfl, by rw [List.append_nil, List.append_nil]⟩
  · obtain ⟨h1, h2, -⟩ := Rd.so_app s h
    exact ⟨h1.symm, rfl, h2.symm⟩
/-- What a call that tells a record leaves. -/
def NextPost (X : Nat → Prop) (w0 : World) (rb pb : Nat) (ended : Bool → Bool) (w : World) (P : List UInt8 → Bool → List UInt8 → Prop) (e : Ending) (w' : World) : Prop :=
  ∃ (l' s' : ByteArray) (fn' : Bool) (t : List UInt8) (ok : Bool), e = .returned (.tuple #[.string ⟨t.toArray⟩, .bool ok, .int .i64 0]) ∧ RdS X w0 w' rb pb l' s' fn' (ended ok) ∧ Tur (fun g => ¬ X g) w w' ∧ P t ok (l'.data.toList ++ s'.data.toList)
section
variable {X : Nat → Prop} {w0 w : World} {rb pb : Nat} {left stdin : ByteArray} {fin ended : Bool}
set_option maxRecDepth 100000 in
set_option maxHeartbeats 4000000 in
theorem rd_para (h : RdS X w0 w rb pb left stdin fin ended) (hsh : w0.ShapedOpen Tryd.prog) :
    Calls Tryd.prog 60 #[.pointer (some ⟨rb, 0, none⟩)] w (NextPost X w0 rb pb (fun _ => ended) w (Told2 (left.data.toList ++ stdin.data.toList))) := by
  have hb1 : Below w.heap.size w ((w.alloc (.cells #[.pointer (some ⟨rb, 0, none⟩)] 22)).alloc (.cells #[.func (.func 83) #[] #[.pointer (some ⟨w.heap.size, 0, none⟩)]] 128)) := ((Below.refl _ _).alloc (Nat.le_refl _) _).alloc (by simp) _
  have HB1 := Lib.hid hb1
  have HC0 := Lib.hid ((Blk.new w 22 #[.pointer (some ⟨rb, 0, none⟩)]).keep (Tur.of_alloc (F := fun _ => False) _ (.cells #[.func (.func 83) #[] #[.pointer (some ⟨w.heap.size, 0, none⟩)]] 128)) (fun h => h))
  have hc1 := Blk.new (w.alloc (.cells #[.pointer (some ⟨rb, 0, none⟩)] 22)) 128 #[.func (.func 83) #[] #[.pointer (some ⟨w.heap.size, 0, none⟩)]]
  rw [show (w.alloc (.cells #[.pointer (some ⟨rb, 0, none⟩)] 22)).heap.size = w.heap.size + 1 by simp] at hc1
  have HC1 := Lib.hid hc1
  have HR1 := Lib.hid (h.grow hb1)
  have hz : ((w.alloc (.cells #[.pointer (some ⟨rb, 0, none⟩)] 22)).alloc (.cells #[.func (.func 83) #[] #[.pointer (some ⟨w.heap.size, 0, none⟩)]] 128)).heap.size = w.heap.size + 2 := by simp
  rw [hz] at HR1
  have HSH := Lib.hid hsh
  have hen := enters_pa1
  clear hb1 hc1 h hz hsh
  go_enter Tryd.func60, Tryd.ntmps60
  go_wp2_with fail
  obtain ⟨rc, hrc⟩ : ∃ x, x = w.heap.size := ⟨_, rfl⟩
  rw [← hrc] at HC0 HC1 HR1 HB1 ⊢
  obtain ⟨fc, hfc⟩ : ∃ x, x = rc + 1 := ⟨_, rfl⟩
  rw [← hfc] at HC1 ⊢
  have HRC := Lib.hid hrc
  have HFC := Lib.hid hfc
  clear hrc hfc
  generalize (w.alloc (.cells #[.pointer (some ⟨rb, 0, none⟩)] 22)).alloc (.cells #[.func (.func 83) #[] #[.pointer (some ⟨rc, 0, none⟩)]] 128) = w1 at *
  have HK : Hid (∀ wr, Tur (fun g => ¬ (X g ∨ (rc ≤ g ∧ g < rc + 2))) w1 wr → wr.cell? ⟨rc, 0, none⟩ = some (.pointer (some ⟨rb, 0, none⟩)) ∧ wr.cell? ⟨fc, 0, none⟩ = some (.func (.func 83) #[] #[.pointer (some ⟨rc, 0, none⟩)])) := by
    intro wr ht
    exact ⟨(HC0.out.keep ht (fun hx => hx (.inr (by omega)))).cell 0, (HC1.out.keep ht (fun hx => hx (.inr (by have := HFC.out; omega)))).cell 0⟩
  refine (rd_until HR1.out 85 _ Rd.pSo enters_pa2 (fun wr l s fn hr ht => pa_so HSH.out hr.below (by have := hr.size; omega) (HK.out wr ht).2 (HK.out wr ht).1 hr.cells.1.2.2.2.1)).mono ?_
  rintro e w2 ⟨l', s', fn', rfl, hr2, hcat, hor, ht2⟩
  have HX2 : Hid (RdS X w0 w2 rb pb l' s' fn' ended) := hr2.less (fun g hg => .inl hg)
  have HTX : Hid (Tur (fun g => ¬ X g) w w2) := (Tur.of_gr (F := fun g => ¬ X g) (by have := HB1.out; rw [HRC.out] at this; exact this)).trans (ht2.mono (G := fun g => ¬ X g) (fun i _ hi hx => hi (.inl hx))) (fun i _ hi => hi)
  have HCAT : Hid (left.data.toList ++ stdin.data.toList = l'.data.toList ++ s'.data.toList) := by
    unfold Hid; rw [← data_app, ← data_app, hcat]
  have HOR : Hid (s'.data.toList = [] ∨ Rd.pSo l'.data.toList = true) := by
    rcases hor with h | h
    · left; exact data_nil (hr2.fin0 h)
    · right; exact h
  have HTOLD := Lib.hid (told_para HOR.out)
  obtain ⟨c0, c1⟩ := HK.out w2 ht2
  have hlsz := HX2.out.size
  have h3 := HX2.out.cells.1.2.2.2.1
  have HPB := Lib.hid (pa_bare c0 h3)
  have HCUT := Lib.hid (pa_cut HSH.out HX2.out.below l' (by omega))
  have HREST : Hid (Rd.pRest l'.data.toList = Lib.trimLeftB (Lib.cut (Rd.pBare l'.data.toList) [10, 10]).2.1 10) := rfl
  have HREC : Hid (Rd.pRec l'.data.toList = if Rd.pHas l'.data.toList then (Lib.cut (Rd.pBare l'.data.toList) [10, 10]).1 else Lib.trimSuffix (Lib.cut (Rd.pBare l'.data.toList) [10, 10]).1 [10]) := rfl
  have HLR := Lib.hid (show (Lib.trimLeftB (Lib.cut (Rd.pBare l'.data.toList) [10, 10]).2.1 10).length ≤ l'.size by
    have h1 := Rd.rec_len l'.data.toList
    rw [HREST.out] at h1
    have hl : l'.data.toList.length = l'.size := rfl
    omega)
  have HLC := Lib.hid (show (Lib.cut (Rd.pBare l'.data.toList) [10, 10]).1.length ≤ 5000 by
    have h1 := pBareS_size l'
    have h2 : (Rd.pBare l'.data.toList).length = (pBareS l').size := by unfold pBareS; rw [Lib.size_mk]
    have h4 : (Lib.cut (Rd.pBare l'.data.toList) [10, 10]).1.length ≤ (Rd.pBare l'.data.toList).length := by
      unfold Lib.cut; split
      · show (List.take _ _).length ≤ _
        rw [List.length_take]; exact Nat.min_le_right _ _
      · exact Nat.le_refl _
    omega)
  clear hr2 hcat hor ht2 h3 hlsz
  go_wp2_with fail
  refine HPB.out.mono ?_
  rintro e w3 ⟨rfl, hw⟩
  obtain rfl : w2 = w3 := hw.symm
  go_wp2_with fail
  refine HCUT.out.mono ?_
  rintro e w3 ⟨rfl, nq, rfl⟩
  clear HPB HCUT
  have HX3 := Lib.hid (HX2.out.drewN nq)
  have HT3 : Hid (Tur (fun g => ¬ X g) w (w2.drewN nq)) := ⟨HTX.out.os, HTX.out.tape, HTX.out.output, HTX.out.size, HTX.out.block⟩
  have c0' : (w2.drewN nq).cell? ⟨rc, 0, none⟩ = some (.pointer (some ⟨rb, 0, none⟩)) := c0
  clear c0 c1
  generalize w2.drewN nq = w3 at *
  obtain ⟨⟨y0, y1, y2, y3, y4, y5⟩, z3, z4, z5⟩ := HX3.out.cells
  clear y0 y1 y2 y4 y5 z4 z5
  generalize (Lib.cut (Rd.pBare l'.data.toList) [10, 10]).2.1 = r at *
  generalize (Lib.cut (Rd.pBare l'.data.toList) [10, 10]).1 = c at *
  obtain ⟨q, hq⟩ : ∃ q, q = Lib.trimLeftB r 10 := ⟨_, rfl⟩
  have HTL : Hid (∀ w : World, Calls Tryd.prog 84 #[.string ⟨r.toArray⟩, .string ⟨#[10]⟩] w fun e w' => e = .returned (.string ⟨q.toArray⟩) ∧ w' = w) := by
    intro w
    have := trimLeft_ten ⟨r.toArray⟩ w
    rw [hq]
    simpa using this
  have HTS : Hid (∀ w : World, Calls Tryd.prog 86 #[.string ⟨c.toArray⟩, .string ⟨#[10]⟩] w fun e w' => e = .returned (.string ⟨(Lib.trimSuffix c [10]).toArray⟩) ∧ w' = w) := by
    intro w
    have := Tryd.strings_TrimSuffix ⟨c.toArray⟩ ⟨#[10]⟩ w (by rw [Lib.size_mk]; have := HLC.out; omega)
    simpa using this
  rw [← hq] at HLR HREST
  clear hq
  have HL3 := Lib.hid (HX3.out.drew.setLeft ⟨q.toArray⟩ (by rw [Lib.size_mk]; have := HX3.out.size; have := HLR.out; omega))
  have HTL3 := Lib.hid ((Tur.drew HT3.out).trans (HX3.out.drew.turSet 3 (.string ⟨q.toArray⟩)) (fun i _ hi => hi))
  cases hh : Rd.pHas l'.data.toList
  · rw [hh, if_neg (by decide)] at HREC
    clear hh
    go_wp2_with fail
    refine (HTS.out _).mono ?_
    rintro e w4 ⟨rfl, hw⟩
    obtain rfl : w3 = w4 := hw.symm
    go_wp2_with fail
    refine wp_region_still_tail 5 (by kernel_rfl) (by kernel_rfl) ?_
    simp only [List.take_succ_cons, List.take_zero, List.drop_succ_cons, List.drop_zero]
    repeat (first | still_step | still_call (HTL.out _))
    refine wpStill_nil ?_
    change wpList _ _ _ _ _ w3.drew
    have y3' : w3.drew.cell? ⟨rb, 3, none⟩ = some (.string l') := y3
    have z3' : w3.drew.frozen? ⟨rb, 3, none⟩ = false := z3
    clear y3 z3 c0'
    generalize w3.drew = w4 at *
    rw [HREST.out, HREC.out] at HTOLD
    generalize Lib.trimSuffix c [10] = t at *
    cases t with
    | nil =>
      go_wp2_with fail
      go_ret3
      exact ⟨_, s', fn', [], false, rfl, HL3.out, HTL3.out, by rw [HCAT.out]; simpa using HTOLD.out⟩
    | cons x t =>
      have e1 : (⟨(x :: t).toArray⟩ : ByteArray).toList.isEmpty = false := isEmpty_ne (by rw [Lib.size_mk]; simp)
      go_wp2_with fail
      go_ret3
      exact ⟨_, s', fn', x :: t, true, rfl, HL3.out, HTL3.out, by rw [HCAT.out]; simpa using HTOLD.out⟩
  · rw [hh, if_pos rfl] at HREC
    clear hh HTS
    go_wp2_with fail
    refine wp_region_still_tail 5 (by kernel_rfl) (by kernel_rfl) ?_
    simp only [List.take_succ_cons, List.take_zero, List.drop_succ_cons, List.drop_zero]
    repeat (first | still_step | still_call (HTL.out _))
    refine wpStill_nil ?_
    change wpList _ _ _ _ _ w3.drew
    have y3' : w3.drew.cell? ⟨rb, 3, none⟩ = some (.string l') := y3
    have z3' : w3.drew.frozen? ⟨rb, 3, none⟩ = false := z3
    clear y3 z3 c0'
    generalize w3.drew = w4 at *
    rw [HREST.out, HREC.out] at HTOLD
    cases c with
    | nil =>
      go_wp2_with fail
      go_ret3
      exact ⟨_, s', fn', [], false, rfl, HL3.out, HTL3.out, by rw [HCAT.out]; simpa using HTOLD.out⟩
    | cons x t =>
      have e1 : (⟨(x :: t).toArray⟩ : ByteArray).toList.isEmpty = false := isEmpty_ne (by rw [Lib.size_mk]; simp)
      go_wp2_with fail
      go_ret3
      exact ⟨_, s', fn', x :: t, true, rfl, HL3.out, HTL3.out, by rw [HCAT.out]; simpa using HTOLD.out⟩
end
end Go.Proofs.YtdbdmgmenojcaaaDoor
namespace Go.Proofs.YtdbdmgmenojcaaaDoor
open Go.RowKit Wd
def rcl (pb : Nat) (k : Int) (name left : ByteArray) (fin ended : Bool) : Array Value := #[.pointer (some ⟨pb, 0, none⟩), .int .u8 k, .string name, .string left, .bool fin, .bool ended]
structure RdX (F : Nat → Prop) (w : World) (rb pb : Nat) (M : Mem) (st : St) (k : Int) (name left : ByteArray) (fin ended : Bool) : Prop where
  wat : WAt w F pb M st
  rd : Blk w rb 26 (rcl pb k name left fin ended)
  nf : ¬ F rb
/-- A world's blocks, and a reader's. -/
def FR (F : Nat → Prop) (rb : Nat) : Nat → Prop := fun g => F g ∨ g = rb
section
variable {F : Nat → Prop} {w w' : World} {rb pb : Nat} {M : Mem} {st : St} {k : Int} {name left : ByteArray} {fin ended : Bool}
theorem RdX.pure (h : RdX F w rb pb M st k name left fin ended) (hb : Below w.heap.size w w') : RdX F w' rb pb M st k name left fin ended := ⟨h.wat.pure hb, below_blk h.rd hb h.rd.lt, h.nf⟩
theorem RdX.drew (h : RdX F w rb pb M st k name left fin ended) : RdX F w.drew rb pb M st k name left fin ended := h.pure (Below.refl _ _).drew
theorem RdX.drewN (h : RdX F w rb pb M st k name left fin ended) (n : Nat) : RdX F (w.drewN n) rb pb M st k name left fin ended := h.pure (below_drew w n)
theorem RdX.setCell (h : RdX F w rb pb M st k name left fin ended) (i : Nat) (u : Value) (left' : ByteArray) (fin' ended' : Bool) (hc : (rcl pb k name left fin ended).setIfInBounds i u = rcl pb k name left' fin' ended') : RdX F (w.setCell ⟨rb, i, none⟩ u) rb pb M st k name left' fin' ended' :=
  ⟨h.wat.tur (Tur.of_set ⟨rb, i, none⟩ u) (fun g hg e => h.nf (by rw [show rb = g from e.symm]; exact hg)), by rw [← hc]; exact h.rd.set i u, h.nf⟩
theorem RdX.turSet (h : RdX F w rb pb M st k name left fin ended) (i : Nat) (u : Value) : Tur (FR F rb) w (w.setCell ⟨rb, i, none⟩ u) := (Tur.of_set ⟨rb, i, none⟩ u).mono (fun g _ e => .inr e)
theorem RdX.setLeft (h : RdX F w rb pb M st k name left fin ended) (l : ByteArray) : RdX F (w.setCell ⟨rb, 3, none⟩ (.string l)) rb pb M st k name l fin ended := h.setCell 3 _ l fin ended rfl
theorem RdX.setFin (h : RdX F w rb pb M st k name left fin ended) (b : Bool) : RdX F (w.setCell ⟨rb, 4, none⟩ (.bool b)) rb pb M st k name left b ended := h.setCell 4 _ left b ended rfl
theorem RdX.setEnded (h : RdX F w rb pb M st k name left fin ended) (b : Bool) : RdX F (w.setCell ⟨rb, 5, none⟩ (.bool b)) rb pb M st k name left fin b := h.setCell 5 _ left fin b rfl
theorem RdX.cells (h : RdX F w rb pb M st k name left fin ended) : (w.cell? ⟨rb, 0, none⟩ = some (.pointer (some ⟨pb, 0, none⟩)) ∧ w.cell? ⟨rb, 1, none⟩ = some (.int .u8 k) ∧ w.cell? ⟨rb, 2, none⟩ = some (.string name) ∧ w.cell? ⟨rb, 3, none⟩ = some (.string left) ∧ w.cell? ⟨rb, 4, none⟩ = some (.bool fin) ∧ w.cell? ⟨rb, 5, none⟩ = some (.bool ended)) ∧
    (w.frozen? ⟨rb, 3, none⟩ = false ∧ w.frozen? ⟨rb, 4, none⟩ = false ∧ w.frozen? ⟨rb, 5, none⟩ = false) :=
  ⟨⟨h.rd.cell 0, h.rd.cell 1, h.rd.cell 2, h.rd.cell 3, h.rd.cell 4, h.rd.cell 5⟩, h.rd.free 3, h.rd.free 4, h.rd.free 5⟩
theorem rx_read {z : Nat} (h : RdX F w rb pb M st k name left fin ended) (hl : Lim z st) (hz : z ≤ 100000) :
    Calls Tryd.prog 18 #[.pointer (some ⟨pb, 0, none⟩), .int .u8 k, .string name, .int .i64 512] w fun e w' => e = .returned (.tuple #[.string (readL st k name 512).2.1, .int .i64 (readL st k name 512).2.2]) ∧ RdX F w' rb pb M (readL st k name 512).1 k name left fin ended ∧ Tur F w w' := by
  refine (wo_read h.wat k name 512 (by decide) (by have := hl.inp; omega) (fun s hs => by have := hl.op s hs; omega) (by have := hl.no; omega) (by have := hl.nf; omega)).mono ?_
  rintro e w2 ⟨rfl, hW, ht⟩
  exact ⟨rfl, ⟨hW, h.rd.keep ht h.nf, h.nf⟩, ht⟩
/-- How far a reader is: what is left, and whether it is at its end. -/
def measX (Z : Nat) (w : World) (rb : Nat) : Nat := 2 * (Z - strAt w rb 3) + boolAt w rb 4
theorem RdX.meas (h : RdX F w rb pb M st k name left fin ended) (Z : Nat) : measX Z w rb = 2 * (Z - left.size) + if fin then 0 else 1 := by
  have c3 := h.cells.1.2.2.2.1
  have c4 := h.cells.1.2.2.2.2.1
  unfold measX strAt boolAt
  rw [c3, c4]
  cases fin <;> rfl
set_option maxRecDepth 100000 in
set_option maxHeartbeats 4000000 in
theorem rp_until {z : Nat} (h : RdX F w rb pb M st k name left fin ended) (hl : Lim z st) (hz : z ≤ 100000) (hls : left.size ≤ 200000) (f : Nat) (caps : Array Value) (so : List UInt8 → Bool) (hc : ∀ (args : Array Value) (w : World), (callFunc f args).run Tryd.prog w = .ok (.enter f args) w)
    (hs : ∀ wr l s fn, RdX F wr rb pb M s k name l fn ended → Tur (FR F rb) w wr → l.size ≤ 300000 → Calls Tryd.prog f caps wr fun e w' => e = .returned (.bool (so l.data.toList)) ∧ Below wr.heap.size wr w') :
    Calls Tryd.prog 61 #[.pointer (some ⟨rb, 0, none⟩), .func (.func f) #[] caps] w fun e w' => ∃ st' l' fn' er, e = .returned (.int .i64 er) ∧ PullL so k name st left fin st' l' fn' er ∧ RdX F w' rb pb M st' k name l' fn' ended ∧ Tur (FR F rb) w w' := by
  have HS := Lib.hid hs
  have HH := Lib.hid h
  have HLM := Lib.hid hl
  obtain ⟨Z, hZ⟩ : ∃ Z, Z = left.size + remL st k name := ⟨_, rfl⟩
  have HZ2 : Hid (Z ≤ 300000) := by have := rem_le hl k name; unfold Hid; omega
  have HZ := Lib.hid hZ
  have HZZ := Lib.hid hz
  clear hs h hl hZ hls hz
  go_enter Tryd.func61, Tryd.ntmps61
  go_wp2_with fail
  go_loopw [4] (fun v wr => v = .int .i64 0 ∧ ∃ s l fn, RdX F wr rb pb M s k name l fn ended ∧ Lim z s ∧ l.size + remL s k name ≤ Z ∧ (∀ st' l' fn' er, PullL so k name s l fn st' l' fn' er → PullL so k name st left fin st' l' fn' er) ∧ Tur (FR F rb) w wr) (fun _ wr => measX Z wr rb)
  case atStart => exact ⟨rfl, st, left, fin, HH.out, HLM.out, by rw [HZ.out]; exact Nat.le_refl _, fun _ _ _ _ h => h, Tur.refl _ _⟩
  case round =>
    obtain ⟨rfl, s, l, fn, hr, hlm, hlz, hp, ht⟩ := hrel
    have HR := Lib.hid hr
    have HT := Lib.hid ht
    have HP := Lib.hid hp
    have HLS := Lib.hid hlm
    have HLZ := Lib.hid hlz
    clear hr hp ht hlm hlz HLM
    obtain ⟨⟨y0, y1, y2, y3, y4, y5⟩, z3, z4, z5⟩ := HR.out.cells
    cases fn
    · go_wp2_with fail
      refine (HS.out wr l s false HR.out HT.out (by have := HLZ.out; have := HZ2.out; omega)).mono ?_
      rintro e w2 ⟨rfl, hb2⟩
      have HR2 := Lib.hid (HR.out.pure hb2)
      have HT2 := Lib.hid (HT.out.trans (Tur.of_gr (F := FR F rb) hb2) (fun i _ hi => hi))
      have HM := Lib.hid (HR.out.meas Z)
      clear y0 y1 y2 y3 y4 y5 z3 z4 z5 hb2
      obtain ⟨⟨y0, y1, y2, y3, y4, y5⟩, z3, z4, z5⟩ := HR2.out.cells
      cases hso : so l.data.toList
      · go_wp2_with fail
        have HSO := Lib.hid hso
        clear hso
        go_region_held3 (fun w' => w'.cell? ⟨rb, 0, none⟩ = some (.pointer (some ⟨pb, 0, none⟩)) ∧ w'.cell? ⟨rb, 1, none⟩ = some (.int .u8 k) ∧ w'.cell? ⟨rb, 2, none⟩ = some (.string name)) (first | exact ⟨y0, y1, y2⟩ | exact hy3 | go_keep) (first | (go_at_call 18; refine (rx_read (by first | exact HR2.out.drew | exact HR2.out) HLS.out HZZ.out).mono ?_; rintro e w3 ⟨rfl, hr3, ht3⟩; have hy3 : w3.cell? ⟨rb, 0, none⟩ = some (.pointer (some ⟨pb, 0, none⟩)) ∧ w3.cell? ⟨rb, 1, none⟩ = some (.int .u8 k) ∧ w3.cell? ⟨rb, 2, none⟩ = some (.string name) := ⟨hr3.cells.1.1, hr3.cells.1.2.1, hr3.cells.1.2.2.1⟩; have hT3 : Tur F w2 w3 := (by first | exact ⟨ht3.os, ht3.tape, ht3.output, ht3.size, ht3.block⟩ | exact ht3)))
        have HR3 := Lib.hid hr3
        have HT3 := Lib.hid (HT2.out.trans (hT3.mono (G := FR F rb) (fun _ _ h => .inl h)) (fun i _ hi => hi))
        clear hr3 ht3 hT3 hy3 y0 y1 y2 y3 y4 y5 z3 z4 z5
        have HRM := Lib.hid (readL_rem (st := s) k name 512)
        have HLM3 := Lib.hid (readL_lim HLS.out k name 512)
        have HST := Lib.hid (fun st' l' fn' er (h0 : (readL s k name 512).2.2 = 0) (h : PullL so k name (readL s k name 512).1 (l ++ (readL s k name 512).2.1) (decide ((readL s k name 512).2.1.size = 0)) st' l' fn' er) => HP.out st' l' fn' er (.step HSO.out h0 h))
        have HFL := Lib.hid (fun (h0 : (readL s k name 512).2.2 ≠ 0) => HP.out _ _ _ _ (PullL.fail (k := k) (name := name) HSO.out h0))
        generalize (readL s k name 512).1 = s3 at *
        generalize (readL s k name 512).2.1 = s1 at *
        generalize (readL s k name 512).2.2 = er at *
        obtain ⟨⟨y0, y1, y2, y3, y4, y5⟩, z3, z4, z5⟩ := HR3.out.cells
        by_cases he : er = 0
        · subst he
          have hrm := HRM.out rfl
          have hlz := HLZ.out
          have hz2 := HZ2.out
          have hsz2 : l.size + s1.size ≤ 9223372036854775807 := by omega
          have HL := Lib.hid (HR3.out.setLeft (l ++ s1))
          have HTL := Lib.hid (HT3.out.trans (HR3.out.turSet 3 (.string (l ++ s1))) (fun i _ hi => hi))
          have HLZ3 : Hid ((l ++ s1).size + remL s3 k name ≤ Z) := by unfold Hid; rw [ByteArray.size_append]; omega
          clear hrm hlz hz2
          by_cases h0 : s1.size = 0
          · have e1 : s1.toList.isEmpty = true := by rw [Lib.toList_data, data_nil h0]; rfl
            have HF := Lib.hid (HL.out.setFin true)
            have HTF := Lib.hid (HTL.out.trans (HL.out.turSet 4 (.bool true)) (fun i _ hi => hi))
            have HMS : Hid (measX Z ((w3.setCell ⟨rb, 3, none⟩ (.string (l ++ s1))).setCell ⟨rb, 4, none⟩ (.bool true)) rb < measX Z wr rb) := by unfold Hid; rw [HF.out.meas, HM.out, ByteArray.size_append]; simp; omega
            have HPN : Hid (∀ st' l' fn' er, PullL so k name s3 (l ++ s1) true st' l' fn' er → PullL so k name st left fin st' l' fn' er) := fun a b c d h => HST.out a b c d rfl (by rw [decide_eq_true h0]; exact h)
            clear h0
            go_wp2_with fail
            go_roundw
            case rel => exact ⟨rfl, _, _, _, HF.out, HLM3.out, HLZ3.out, HPN.out, HTF.out⟩
            case measure => exact HMS.out
          · have e1 : s1.toList.isEmpty = false := isEmpty_ne h0
            have HF := Lib.hid (HL.out.setFin false)
            have HTF := Lib.hid (HTL.out.trans (HL.out.turSet 4 (.bool false)) (fun i _ hi => hi))
            have HMS : Hid (measX Z ((w3.setCell ⟨rb, 3, none⟩ (.string (l ++ s1))).setCell ⟨rb, 4, none⟩ (.bool false)) rb < measX Z wr rb) := by unfold Hid; rw [HF.out.meas, HM.out]; have h2 := HLZ3.out; rw [ByteArray.size_append] at h2 ⊢; simp; omega
            have HPN : Hid (∀ st' l' fn' er, PullL so k name s3 (l ++ s1) false st' l' fn' er → PullL so k name st left fin st' l' fn' er) := fun a b c d h => HST.out a b c d rfl (by rw [decide_eq_false h0]; exact h)
            clear h0
            go_wp2_with fail
            go_roundw
            case rel => exact ⟨rfl, _, _, _, HF.out, HLM3.out, HLZ3.out, HPN.out, HTF.out⟩
            case measure => exact HMS.out
        · go_wp2_with fail
          go_ret
          exact ⟨_, _, _, _, rfl, HFL.out he, HR3.out, HT3.out⟩
      · have HSO := Lib.hid hso
        clear hso
        go_wp2_with fail
        go_ret
        exact ⟨_, _, _, _, rfl, HP.out _ _ _ _ (.stop (.inr HSO.out)), HR2.out, HT2.out⟩
    · go_wp2_with fail
      go_ret
      exact ⟨_, _, _, _, rfl, HP.out _ _ _ _ (.stop (.inl rfl)), HR.out, HT.out⟩
end
end Go.Proofs.YtdbdmgmenojcaaaDoor
namespace Go.Proofs.YtdbdmgmenojcaaaDoor
open Go.RowKit Wd
namespace Wd
theorem dist_spec {l : List ByteArray} (h : distB l = true) : ∀ k, k < l.length → dupAt l k = false := by
  unfold distB at h
  rw [List.all_eq_true] at h
  intro k hk
  have := h k (List.mem_range.2 hk)
  simpa using this
theorem files0 {l : List (ByteArray × ByteArray)} (h : distB (l.map (·.1)) = true) : ∀ k, k ≤ l.length → (∀ x : ByteArray, filesOf (l.take k) x.data.toList = ((l.take k).find? (isFile x)).map (·.2)) ∧ ((l.take k).map (·.1)).Nodup := by
  intro k
  induction k with
  | zero => intro _; exact ⟨fun x => by simp [filesOf], by simp⟩
  | succ k ih =>
    intro hk
    obtain ⟨h1, h2⟩ := ih (by omega)
    have hd := dist_spec h k (by rw [List.length_map]; exact hk)
    rw [← dup_file hk] at hd
    have hnone : filesOf (l.take k) l[k].1.data.toList = none := by simpa using hd
    have hf : (l.take k).find? (isFile l[k].1) = none := by
      have := (h1 l[k].1).symm.trans hnone
      simpa using this
    have hall : ∀ p ∈ l.take k, isFile l[k].1 p = false := by
      intro p hp
      have := List.find?_eq_none.1 hf p hp
      simpa using this
    have hw : l.take (k + 1) = withL (l.take k) l[k].1 l[k].2 := by
      rw [List.take_succ_eq_append_getElem hk]
      unfold withL
      have e1 : (l.take k).map (withP l[k].1 l[k].2) = l.take k := by
        conv => rhs; rw [← List.map_id (l.take k)]
        apply List.map_congr_left
        intro p hp
        have := hall p hp
        unfold isFile at this
        unfold withP
        rw [if_neg (of_decide_eq_false this)]
        rfl
      have e2 : (l.take k).any (isFile l[k].1) = false := by
        rw [List.any_eq_false]
        intro p hp
        rw [hall p hp]; decide
      rw [e1, e2]
      rfl
    rw [hw]
    refine ⟨fun x => ?_, names_with _ _ _ h2⟩
    rw [find_with, ← h1 x, ← hw, filesOf_succ hk]
    unfold setF
    by_cases hx : x = l[k].1
    · rw [if_pos hx, if_pos (key_inj.2 hx)]
    · rw [if_neg hx, if_neg (fun e => hx (key_inj.1 e))]
theorem corr0 {l : List (ByteArray × ByteArray)} {lr : List Rp} {lf : List Fl} {stdin : ByteArray} {lim clock ch : Int} (h : distB (l.map (·.1)) = true) : Corr ⟨lim, clock, filesOf l, stdin, [], ch, [], lr, lf⟩ (rst0 l lr lf stdin lim clock ch) := by
  have h0 := files0 h l.length (Nat.le_refl _)
  rw [List.take_length] at h0
  exact ⟨rfl, rfl, rfl, rfl, rfl, rfl, Nat.zero_le _, by show stdin = stdin.extract 0 stdin.size; rw [ByteArray.extract_zero_size], rfl, fun s hs => (by cases hs), h0.1, h0.2⟩
end Wd
namespace Wd
def newL (st : St) (k : Int) (name : ByteArray) : St × Int := if k ≠ 1 ∧ k ≠ 2 then (st, 2) else openL st k name
def newD (rs : RSt) (k : Int) (name : ByteArray) : RSt × Int := if k ≠ 1 ∧ k ≠ 2 then (rs, 2) else openD rs k name
theorem Corr.new {st : St} {rs : RSt} (h : Corr st rs) (k : Int) (name : ByteArray) : (newL st k name).2 = (newD rs k name).2 ∧ Corr (newL st k name).1 (newD rs k name).1 := by
  unfold newL newD
  split
  · exact ⟨rfl, h⟩
  · exact h.open k name
structure Bq (t m : Nat) (rs : RSt) : Prop where
  t40 : t ≤ 40
  opn : rs.opn.length ≤ t
  ev : rs.events.length ≤ 300 * t
  fl : rs.files.length ≤ 6 + t
  fs : ∀ p ∈ rs.files, p.2.size ≤ 3000
  st : rs.stdin.size ≤ 3000
  src : ∀ s ∈ rs.opn, s.src.size ≤ 3000
  rep : rs.replies.length ≤ 6
  outs : ∀ r ∈ rs.replies, r.out.size ≤ 3000
  fails : rs.fails.length ≤ 6
  m : m ≤ 6 + t
variable {t m m' : Nat} {st : St} {rs rs' : RSt}
theorem Bq.next (h : Bq t m rs) (ht : t < 40) (k : Kept rs rs') (h1 : rs'.opn.length ≤ t + 1) (h2 : rs'.events.length ≤ rs.events.length + 300) (h3 : rs'.files.length ≤ rs.files.length + 1) (h4 : ∀ p ∈ rs'.files, p.2.size ≤ 3000) (h5 : ∀ s ∈ rs'.opn, s.src.size ≤ 3000) (hm : m' ≤ m + 1) : Bq (t + 1) m' rs' where
  t40 := ht
  opn := h1
  ev := by have := h.ev; omega
  fl := by have := h.fl; omega
  fs := h4
  st := by rw [k.st]; exact h.st
  src := h5
  rep := by rw [k.rep]; exact h.rep
  outs := by rw [k.rep]; exact h.outs
  fails := by rw [k.fails]; exact h.fails
  m := by have := h.m; omega
theorem Bq.file (h : Bq t m rs) (name : ByteArray) : ((fileF rs name).getD (⟨#[]⟩, ⟨#[]⟩)).2.size ≤ 3000 := by
  unfold fileF
  cases hf : rs.files.find? (isFile name) with
  | none => exact Nat.zero_le _
  | some p => exact h.fs p (List.mem_of_find?_eq_some hf)
theorem Bq.out (h : Bq t m rs) (name : ByteArray) : ((replyF rs name).getD rpZero).out.size ≤ 3000 := by
  unfold replyF
  cases hf : rs.replies.find? (isRp name) with
  | none => exact Nat.zero_le _
  | some p => exact h.outs p (List.mem_of_find?_eq_some hf)
theorem Bq.same (h : Bq t m rs) (ht : t < 40) (hs : Same rs rs') (hm : m' ≤ m + 1) : Bq (t + 1) m' rs' :=
  h.next ht hs.kept (by rw [hs.opn]; have := h.opn; omega) (by rw [hs.ev]; omega) (by rw [hs.fl]; omega) (by rw [hs.fl]; exact h.fs) (hs.src 3000 h.src) hm
theorem Bq.new (h : Bq t m rs) (ht : t < 40) (k : Int) (name : ByteArray) (hm : m' ≤ m + 1) : Bq (t + 1) m' (newD rs k name).1 := by
  unfold newD
  split
  · exact h.same ht (.refl _) hm
  unfold openD
  split
  · exact h.same ht (.refl _) hm
  split
  · exact h.same ht (.refl _) hm
  split
  · exact h.same ht (.refl _) hm
  split
  · exact h.same ht (.refl _) hm
  refine h.next ht ⟨rfl, rfl, rfl⟩ ?_ ?_ ?_ ?_ ?_ hm
  · show (rs.opn ++ [_]).length ≤ _
    have := h.opn
    rw [List.length_append]; simp; omega
  · show (rs.events ++ [_]).length ≤ _
    rw [List.length_append]; simp
  · show (openF rs k name).length ≤ _
    unfold openF
    split
    · exact with_len _ _ _
    split
    · exact with_len _ _ _
    · omega
  · intro p hp
    have hp : p ∈ openF rs k name := hp
    unfold openF at hp
    have hf := h.file name
    split at hp
    · rcases with_mem hp with h1 | h1
      · exact h.fs p h1
      · rw [h1]; exact Nat.zero_le _
    split at hp
    · rcases with_mem hp with h1 | h1
      · exact h.fs p h1
      · rw [h1]; exact hf
    · exact h.fs p hp
  · intro s hs
    have hs : s ∈ rs.opn ++ [_] := hs
    rcases List.mem_append.1 hs with h1 | h1
    · exact h.src s h1
    · simp at h1
      subst h1
      show (openS rs k name).size ≤ _
      unfold openS
      split
      · exact h.file name
      split
      · exact h.out name
      · exact Nat.zero_le _
theorem Bq.close (h : Bq t m rs) (ht : t < 40) (name : ByteArray) (hm : m' ≤ m + 1) : Bq (t + 1) m' (closeD rs name).1 := by
  obtain ⟨h1, h2, h3⟩ := closeD_kept rs name
  refine h.next ht h1 ?_ ?_ (by rw [h2]; omega) (by rw [h2]; exact h.fs) ?_ hm
  · rw [h3]; have := List.length_filter_le (keptR name) rs.opn; have := h.opn; omega
  · have := (closeRK_same rs name 5).2
    show (closeRK rs name 5).1.events.length ≤ _
    omega
  · rw [h3]; exact fun s hs => h.src s (List.mem_filter.1 hs).1
theorem bq0 {l : List (ByteArray × ByteArray)} {lr : List Rp} {lf : List Fl} {stdin : ByteArray} {lim clock ch : Int} {m : Nat} (h : shortB l lr lf stdin 6 3000 = true) (hm : m ≤ l.length) : Bq 0 m (rst0 l lr lf stdin lim clock ch) := by
  unfold shortB at h
  simp only [Bool.and_eq_true, decide_eq_true_eq, List.all_eq_true] at h
  obtain ⟨⟨⟨⟨h1, h2, h3, h4⟩, h5⟩, h6⟩, h7⟩ := h
  refine ⟨by omega, Nat.le_refl _, Nat.zero_le _, by show l.length ≤ _; omega, fun p hp => ?_, h4, fun s hs => (by cases hs), h2, fun r hr => ?_, h3, by omega⟩
  · have := h5 p hp
    unfold shF at this
    simp only [Bool.and_eq_true, decide_eq_true_eq] at this
    omega
  · have := h6 r hr
    unfold shR at this
    simp only [Bool.and_eq_true, decide_eq_true_eq] at this
    omega
theorem lim_of (hc : Corr st rs) (h : Bq t m rs) : Lim 3000 st where
  inp := by rw [hc.stdin, ByteArray.size_extract]; have := h.st; omega
  op := fun s hs => by
    rw [hc.opn] at hs
    obtain ⟨x, hx, rfl⟩ := List.mem_map.1 hs
    show (x.src.extract x.tk x.src.size).size ≤ 3000
    rw [ByteArray.size_extract]
    have := h.src x hx
    omega
  no := by rw [hc.opn, List.length_map]; have := h.opn; have := h.t40; omega
  nf := by rw [hc.fails]; have := h.fails; omega
/-- A reader, plain. -/
structure RdV where
  k : Int
  name : ByteArray
  left : ByteArray
  fin : Bool
  ended : Bool
def mv5 (r : RdV) : List Value := [.int .u8 r.k, .string r.name, .string r.left, .bool r.fin, .bool r.ended]
def mvals (l : List RdV) : List Value := l.flatMap mv5
theorem mvals_len (l : List RdV) : (mvals l).length = l.length * 5 := by
  induction l with
  | nil => rfl
  | cons x l ih => rw [show mvals (x :: l) = mv5 x ++ mvals l from rfl, List.length_append, ih, List.length_cons]; simp [mv5]; omega
theorem mvals_get (l : List RdV) (i j : Nat) (h : i < l.length) (hj : j < 5) : (mvals l)[i * 5 + j]? = (mv5 l[i])[j]? := flat_get mv5 5 (fun _ => rfl) l i j h hj
theorem mvals_snoc (l : List RdV) (r : RdV) : mvals l ++ mv5 r = mvals (l ++ [r]) := by simp [mvals]
theorem mvals_put : ∀ (l : List RdV) (i : Nat) (r : RdV), i < l.length → (((((mvals l).set (i * 5) (.int .u8 r.k)).set (i * 5 + 1) (.string r.name)).set (i * 5 + 2) (.string r.left)).set (i * 5 + 3) (.bool r.fin)).set (i * 5 + 4) (.bool r.ended) = mvals (l.set i r)
  | [], _, _, h => absurd h (by simp)
  | x :: l, 0, r, _ => rfl
  | x :: l, i + 1, r, h => by
    have ih := mvals_put l i r (by simpa using h)
    have e : (i + 1) * 5 = i * 5 + 5 := by omega
    rw [e, List.set_cons_succ, show mvals (x :: l.set i r) = mv5 x ++ mvals (l.set i r) from rfl, ← ih]
    rfl
end Wd
end Go.Proofs.YtdbdmgmenojcaaaDoor
