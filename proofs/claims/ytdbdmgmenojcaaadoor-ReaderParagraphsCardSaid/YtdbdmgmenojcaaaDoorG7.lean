/- A reader over the input of a world: until. -/
import Derived.Test.YtdbdmgmenojcaaaDoorG6
import Derived.Test.YtdbdmgmenojcaaaDoorShelf
import Derived.Laws.EntriesVeiled
import Derived.StillTailTactics
import Derived.Test.YtdbdmgmenojcaaaDoorG4
import Derived.Calls
import Derived.Below
import Derived.Laws.Sem
import Derived.Laws.World
set_option linter.unusedVariables false
set_option linter.unusedSimpArgs false
namespace Go.Proofs.YtdbdmgmenojcaaaDoor
open Go.RowKit Wd
def strAt (w : World) (b i : Nat) : Nat := match w.cell? ⟨b, i, none⟩ with
  | some (.string s) => s.size
  | _ => 0
def boolAt (w : World) (b i : Nat) : Nat := match w.cell? ⟨b, i, none⟩ with
  | some (.bool true) => 0
  | _ => 1
def meas (w : World) (rb pb : Nat) : Nat := 2 * strAt w pb 9 + boolAt w rb 4
section
variable {X : Nat → Prop} {w0 w w' : World} {rb pb : Nat} {left stdin : ByteArray} {fin ended : Bool}
theorem RdS.meas (h : RdS X w0 w rb pb left stdin fin ended) : meas w rb pb = 2 * stdin.size + if fin then 0 else 1 := by
  obtain ⟨M, F, st, h1, h2, h3, h4, rfl, h5⟩ := h.wat
  have c9 : w.cell? ⟨pb, 9, none⟩ = some (.string st.stdin) := h1.cell 9
  have c4 := h.cells.1.2.2.2.2.1
  unfold Proofs.YtdbdmgmenojcaaaDoor.meas strAt boolAt
  rw [c9, c4]
  cases fin <;> rfl
theorem cat_size {a b c d : ByteArray} (h : a ++ b = c ++ d) : a.size + b.size = c.size + d.size := by
  have := congrArg ByteArray.size h
  simpa [ByteArray.size_append] using this
set_option maxRecDepth 100000 in
set_option maxHeartbeats 4000000 in
theorem rd_until (h : RdS X w0 w rb pb left stdin fin ended) (f : Nat) (caps : Array Value) (so : List UInt8 → Bool) (hc : ∀ (args : Array Value) (w : World), (callFunc f args).run Tryd.prog w = .ok (.enter f args) w)
    (hs : ∀ wr l s fn, RdS X w0 wr rb pb l s fn ended → Tur (fun g => ¬ X g) w wr → Calls Tryd.prog f caps wr fun e w' => e = .returned (.bool (so l.data.toList)) ∧ Below wr.heap.size wr w') :
    Calls Tryd.prog 61 #[.pointer (some ⟨rb, 0, none⟩), .func (.func f) #[] caps] w fun e w' => ∃ l' s' fn', e = .returned (.int .i64 0) ∧ RdS X w0 w' rb pb l' s' fn' ended ∧ l' ++ s' = left ++ stdin ∧ (fn' = true ∨ so l'.data.toList = true) ∧ Tur (fun g => ¬ X g) w w' := by
  have HS := Lib.hid hs
  have HH := Lib.hid h
  clear hs h
  go_enter Tryd.func61, Tryd.ntmps61
  go_wp2_with fail
  go_loopw [4] (fun v wr => v = .int .i64 0 ∧ ∃ l s fn, RdS X w0 wr rb pb l s fn ended ∧ l ++ s = left ++ stdin ∧ Tur (fun g => ¬ X g) w wr) (fun _ wr => meas wr rb pb)
  case atStart => exact ⟨rfl, left, stdin, fin, HH.out, rfl, Tur.refl _ _⟩
  case round =>
    obtain ⟨rfl, l, s, fn, hr, hcat, ht⟩ := hrel
    have HR := Lib.hid hr
    have HC := Lib.hid hcat
    have HT := Lib.hid ht
    clear hr hcat ht
    obtain ⟨⟨y0, y1, y2, y3, y4, y5⟩, z3, z4, z5⟩ := HR.out.cells
    cases fn
    · go_wp2_with fail
      refine (HS.out wr l s false HR.out HT.out).mono ?_
      rintro e w2 ⟨rfl, hb2⟩
      have HR2 := Lib.hid (HR.out.pure hb2)
      have HT2 := Lib.hid (HT.out.trans (Tur.of_gr (F := fun g => ¬ X g) hb2) (fun i _ hi => hi))
      have HM := Lib.hid HR.out.meas
      clear y0 y1 y2 y3 y4 y5 z3 z4 z5 hb2
      obtain ⟨⟨y0, y1, y2, y3, y4, y5⟩, z3, z4, z5⟩ := HR2.out.cells
      cases hso : so l.data.toList
      · go_wp2_with fail
        go_region_held3 (fun w' => w'.cell? ⟨rb, 0, none⟩ = some (.pointer (some ⟨pb, 0, none⟩)) ∧ w'.cell? ⟨rb, 1, none⟩ = some (.int .u8 1) ∧ w'.cell? ⟨rb, 2, none⟩ = some (.string minus)) (first | exact ⟨y0, y1, y2⟩ | exact hy3 | go_keep) (first | (go_at_call 18; refine (rd_read (by first | exact HR2.out.drew | exact HR2.out)).mono ?_; rintro e w3 ⟨s1, s2, rfl, hcat3, hz3, hr3, ht3⟩; have hy3 : w3.cell? ⟨rb, 0, none⟩ = some (.pointer (some ⟨pb, 0, none⟩)) ∧ w3.cell? ⟨rb, 1, none⟩ = some (.int .u8 1) ∧ w3.cell? ⟨rb, 2, none⟩ = some (.string minus) := ⟨hr3.cells.1.1, hr3.cells.1.2.1, hr3.cells.1.2.2.1⟩; have hT3 : Tur (fun g => ¬ X g) w2 w3 := (by first | exact ⟨ht3.os, ht3.tape, ht3.output, ht3.size, ht3.block⟩ | exact ht3)))
        have HR3 := Lib.hid hr3
        have HZ3 := Lib.hid hz3
        have HC3 := Lib.hid hcat3
        have HT3 := Lib.hid (HT2.out.trans hT3 (fun i _ hi => hi))
        clear hr3 hz3 hcat3 ht3 hT3 hy3 y0 y1 y2 y3 y4 y5 z3 z4 z5
        obtain ⟨⟨y0, y1, y2, y3, y4, y5⟩, z3, z4, z5⟩ := HR3.out.cells
        have hsz := congrArg ByteArray.size HC3.out
        rw [ByteArray.size_append] at hsz
        have hsz1 := HR2.out.size
        have hsz2 : l.size + s1.size ≤ 9223372036854775807 := by omega
        have HL := Lib.hid (HR3.out.setLeft (l ++ s1) (by rw [ByteArray.size_append]; omega))
        have HTL := Lib.hid (HT3.out.trans (HR3.out.turSet 3 (.string (l ++ s1))) (fun i _ hi => hi))
        have HCL : Hid ((l ++ s1) ++ s2 = left ++ stdin) := by unfold Hid; rw [ByteArray.append_assoc, HC3.out, HC.out]
        have HMZ : Hid (2 * s2.size + 2 * s1.size = 2 * s.size) := by unfold Hid; omega
        clear hsz hsz1
        by_cases h0 : s1.size = 0
        · have e1 : s1.toList.isEmpty = true := by rw [Lib.toList_data, data_nil h0]; rfl
          have HF := Lib.hid (HL.out.setFin true (fun _ => by have := HZ3.out h0; have := HMZ.out; omega))
          have HTF := Lib.hid (HTL.out.trans (HL.out.turSet 4 (.bool true)) (fun i _ hi => hi))
          have HMS : Hid (meas ((w3.setCell ⟨rb, 3, none⟩ (.string (l ++ s1))).setCell ⟨rb, 4, none⟩ (.bool true)) rb pb < meas wr rb pb) := by unfold Hid; rw [HF.out.meas, HM.out]; have := HZ3.out h0; have := HMZ.out; simp; omega
          clear h0
          go_wp2_with fail
          go_roundw
          case rel => exact ⟨rfl, _, _, _, HF.out, HCL.out, HTF.out⟩
          case measure => exact HMS.out
        · have e1 : s1.toList.isEmpty = false := by
            rw [Lib.toList_data]
            have := data_ne h0
            cases hl : s1.data.toList with
            | nil => exact absurd hl this
            | cons a b => rfl
          have HF := Lib.hid (HL.out.setFin false (fun e => by cases e))
          have HTF := Lib.hid (HTL.out.trans (HL.out.turSet 4 (.bool false)) (fun i _ hi => hi))
          have HMS : Hid (meas ((w3.setCell ⟨rb, 3, none⟩ (.string (l ++ s1))).setCell ⟨rb, 4, none⟩ (.bool false)) rb pb < meas wr rb pb) := by unfold Hid; rw [HF.out.meas, HM.out]; have := HMZ.out; simp; omega
          clear h0
          go_wp2_with fail
          go_roundw
          case rel => exact ⟨rfl, _, _, _, HF.out, HCL.out, HTF.out⟩
          case measure => exact HMS.out
      · have HSO := Lib.hid hso
        clear hso
        go_wp2_with fail
        go_ret
        exact ⟨l, s, false, rfl, HR2.out, HC.out, .inr HSO.out, HT2.out⟩
    · go_wp2_with fail
      go_ret
      exact ⟨l, s, true, rfl, HR.out, HC.out, .inl rfl, HT.out⟩
end
end Go.Proofs.YtdbdmgmenojcaaaDoor
namespace Go.Proofs.YtdbdmgmenojcaaaDoor
open Go.RowKit Wd
set_option maxRecDepth 100000 in
theorem enters_nx1 : ∀ (args : Array Value) (w : World), (callFunc 62 args).run Tryd.prog w = .ok (.enter 62 args) w := fun _ _ => rfl
set_option maxRecDepth 20000 in
theorem nx_so {w : World} {rb rc sc : Nat} {l rs : ByteArray} {b : UInt8} (hrc : w.cell? ⟨rc, 0, none⟩ = some (.pointer (some ⟨rb, 0, none⟩))) (hsc : w.cell? ⟨sc, 0, none⟩ = some (.string rs)) (h3 : w.cell? ⟨rb, 3, none⟩ = some (.string l)) (hn : 0 < rs.size) (hb : rs[0] = b) :
    Calls Tryd.prog 62 #[.pointer (some ⟨rc, 0, none⟩), .pointer (some ⟨sc, 0, none⟩)] w fun e w' => e = .returned (.bool (decide (b ∈ l.data.toList))) ∧ Below w.heap.size w w' := by
  have hc : ((b.toNat : Int)).toNat.toUInt8 = b := by simp
  have HI := Lib.hid (fun w : World => Tryd.strings_IndexByte l (b.toNat : Int) w)
  rw [hc] at HI
  have HD := Lib.hid (Rd.indexByte_one b l.data.toList)
  subst hb
  clear hc
  go_enter Tryd.func62, Tryd.ntmps62
  go_wp2_with fail
  go_quiet ((go_at_call 63; exact Calls.quiet_of_same (HI.out _)))
  go_wp2_with fail
  go_ret
  exact ⟨ret_bool HD.out, below_drew w nq⟩
theorem data_app (a b : ByteArray) : (a ++ b).data.toList = a.data.toList ++ b.data.toList := by simp [ByteArray.data_append]
theorem isEmpty_ne {s : ByteArray} (h : s.size ≠ 0) : s.toList.isEmpty = false := by
  rw [Lib.toList_data]
  have := data_ne h
  cases hl : s.data.toList with
  | nil => exact absurd hl this
  | cons a b => rfl
theorem isEmpty_eq {s : ByteArray} (h : s.size = 0) : s.toList.isEmpty = true := by rw [Lib.toList_data, data_nil h]; rfl
theorem head_byte {rs : ByteArray} (hn : 0 < rs.size) : (rs.extract 0 1).data.toList = [rs[0]] := by
  rw [Lib.extract_data]
  obtain ⟨⟨l⟩⟩ := rs
  cases l with
  | nil => exact absurd hn (by simp [ByteArray.size])
  | cons x l => rfl
/-- What is told of T by one byte. -/
def Told1 (b : UInt8) (T t : List UInt8) (ok : Bool) (T' : List UInt8) : Prop := (T = [] ∧ t = [] ∧ ok = false ∧ T' = []) ∨ (T ≠ [] ∧ t = Rd.tw b T ∧ ok = true ∧ T' = Rd.rest1 b T)
theorem told_cut {b : UInt8} {l s : List UInt8} (hl : l ≠ []) (h : s = [] ∨ b ∈ l) : Told1 b (l ++ s) (Lib.cut l [b]).1 true ((Lib.cut l [b]).2.1 ++ s) := by
  right
  refine ⟨by simp [hl], ?_, rfl, ?_⟩
  · by_cases hb : b ∈ l
    · rw [Rd.cut_in hb, (Rd.tw_app s hb).1]
    · have : s = [] := by rcases h with h | h; exact h; exact absurd h hb
      subst this
      rw [Rd.cut_out hb, List.append_nil, (Rd.tw_all hb).1]
  · by_cases hb : b ∈ l
    · rw [Rd.cut_in hb, (Rd.tw_app s hb).2]
    · have : s = [] := by rcases h with h | h; exact h; exact absurd h hb
      subst this
      rw [Rd.cut_out hb, List.append_nil, List.append_nil, (Rd.tw_all hb).2]
theorem cut_len (s sep : List UInt8) : (Lib.cut s sep).2.1.length ≤ s.length := by
  unfold Lib.cut
  split
  · simp
  · simp
section
variable {X : Nat → Prop} {w0 w : World} {rb pb : Nat} {left stdin : ByteArray} {fin ended : Bool}
set_option maxRecDepth 100000 in
set_option maxHeartbeats 4000000 in
theorem rd_next1 (h : RdS X w0 w rb pb left stdin fin ended) (hsh : w0.ShapedOpen Tryd.prog) (rs : ByteArray) (b : UInt8) (hn : 0 < rs.size) (hb : rs[0] = b) :
    Calls Tryd.prog 30 #[.pointer (some ⟨rb, 0, none⟩), .string rs] w fun e w' => ∃ l' s' fn' t ok, e = .returned (.tuple #[.string ⟨t.toArray⟩, .bool ok, .int .i64 0]) ∧ RdS X w0 w' rb pb l' s' fn' ended ∧ Tur (fun g => ¬ X g) w w' ∧ Told1 b (left.data.toList ++ stdin.data.toList) t ok (l'.data.toList ++ s'.data.toList) := by
  have hb1 : Below w.heap.size w ((w.alloc (.cells #[.pointer (some ⟨rb, 0, none⟩)] 22)).alloc (.cells #[.string rs] 9)) := ((Below.refl _ _).alloc (Nat.le_refl _) _).alloc (by simp) _
  have HB1 := Lib.hid hb1
  have HC0 := Lib.hid ((Blk.new w 22 #[.pointer (some ⟨rb, 0, none⟩)]).keep (Tur.of_alloc (F := fun _ => False) _ (.cells #[.string rs] 9)) (fun h => h))
  have hc1 := Blk.new (w.alloc (.cells #[.pointer (some ⟨rb, 0, none⟩)] 22)) 9 #[.string rs]
  rw [show (w.alloc (.cells #[.pointer (some ⟨rb, 0, none⟩)] 22)).heap.size = w.heap.size + 1 by simp] at hc1
  have HC1 := Lib.hid hc1
  have HR1 := Lib.hid (h.grow hb1)
  have hz : ((w.alloc (.cells #[.pointer (some ⟨rb, 0, none⟩)] 22)).alloc (.cells #[.string rs] 9)).heap.size = w.heap.size + 2 := by simp
  rw [hz] at HR1
  have hne : rs.toList.isEmpty = false := isEmpty_ne (by omega)
  have HN := Lib.hid (And.intro hn trivial)
  have HBB : Hid (∃ hn : 0 < rs.size, rs[0] = b) := ⟨hn, hb⟩
  clear hb1 hc1 h hz hn hb
  go_enter Tryd.func30, Tryd.ntmps30
  go_wp2_with fail
  obtain ⟨rc, hrc⟩ : ∃ x, x = w.heap.size := ⟨_, rfl⟩
  rw [← hrc] at HC0 HC1 HR1 HB1 ⊢
  obtain ⟨sc, hsc⟩ : ∃ x, x = rc + 1 := ⟨_, rfl⟩
  rw [← hsc] at HC1 ⊢
  have HRC := Lib.hid hrc
  have HSC := Lib.hid hsc
  clear hrc hsc
  generalize (w.alloc (.cells #[.pointer (some ⟨rb, 0, none⟩)] 22)).alloc (.cells #[.string rs] 9) = w1 at *
  have c0 : w1.cell? ⟨rc, 0, none⟩ = some (.pointer (some ⟨rb, 0, none⟩)) := HC0.out.cell 0
  have c1 : w1.cell? ⟨sc, 0, none⟩ = some (.string rs) := HC1.out.cell 0
  have HK : Hid (∀ wr, Tur (fun g => ¬ (X g ∨ (rc ≤ g ∧ g < rc + 2))) w1 wr → wr.cell? ⟨rc, 0, none⟩ = some (.pointer (some ⟨rb, 0, none⟩)) ∧ wr.cell? ⟨sc, 0, none⟩ = some (.string rs)) := by
    intro wr ht
    exact ⟨(HC0.out.keep ht (fun hx => hx (.inr (by omega)))).cell 0, (HC1.out.keep ht (fun hx => hx (.inr (by have := HSC.out; omega)))).cell 0⟩
  go_wp2_with fail
  refine (rd_until HR1.out 62 _ (fun l => decide (b ∈ l)) enters_nx1 (fun wr l s fn hr ht => nx_so (HK.out wr ht).1 (HK.out wr ht).2 hr.cells.1.2.2.2.1 HBB.out.choose HBB.out.choose_spec)).mono ?_
  rintro e w2 ⟨l', s', fn', rfl, hr2, hcat, hor, ht2⟩
  have HR2 := Lib.hid hr2
  have HT2 := Lib.hid ht2
  have HX2 : Hid (RdS X w0 w2 rb pb l' s' fn' ended) := hr2.less (fun g hg => .inl hg)
  have HTX : Hid (Tur (fun g => ¬ X g) w w2) := (Tur.of_gr (F := fun g => ¬ X g) (by have := HB1.out; rw [HRC.out] at this; exact this)).trans (ht2.mono (G := fun g => ¬ X g) (fun i _ hi hx => hi (.inl hx))) (fun i _ hi => hi)
  have HCAT : Hid (left.data.toList ++ stdin.data.toList = l'.data.toList ++ s'.data.toList) := by
    unfold Hid; rw [← data_app, ← data_app, hcat]
  have HOR : Hid (s'.data.toList = [] ∨ b ∈ l'.data.toList) := by
    rcases hor with h | h
    · left; exact data_nil (hr2.fin0 h)
    · right; simpa using h
  clear hr2 hcat hor c0 c1
  obtain ⟨c0, c1⟩ := HK.out w2 ht2
  clear ht2
  obtain ⟨⟨y0, y1, y2, y3, y4, y5⟩, z3, z4, z5⟩ := HX2.out.cells
  clear y0 y1 y2 y4 y5 z4 z5
  by_cases h0 : l'.size = 0
  · have e0 := isEmpty_eq h0
    have HD0 := Lib.hid (data_nil h0)
    clear h0
    go_wp2_with fail
    go_ret3
    refine ⟨l', s', fn', [], false, rfl, HX2.out, HTX.out, .inl ?_⟩
    have hs : s'.data.toList = [] := by
      rcases HOR.out with h | h
      · exact h
      · rw [HD0.out] at h; cases h
    rw [HCAT.out, HD0.out, hs]
    exact ⟨rfl, rfl, rfl, rfl⟩
  · have e0 := isEmpty_ne h0
    have HL0 := Lib.hid (data_ne h0)
    have hs1 : (1 : Nat) ≤ rs.size := HN.out.1
    have HBD : Hid ((rs.extract 0 1).data.toList = [b]) := by
      obtain ⟨hn, hb⟩ := HBB.out
      unfold Hid; rw [head_byte hn, hb]
    have hlsz := HX2.out.size
    have HCUT : Hid (∀ n, Calls Tryd.prog 64 #[.string l', .string (rs.extract 0 1)] (w2.drewN n) fun e w' => e = .returned (.tuple #[.string ⟨(Lib.cut l'.data.toList [b]).1.toArray⟩, .string ⟨(Lib.cut l'.data.toList [b]).2.1.toArray⟩, .bool (Lib.cut l'.data.toList [b]).2.2]) ∧ ∃ m, w' = (w2.drewN n).drewN m) := by
      intro n
      have := Tryd.strings_Cut_shaped l' (rs.extract 0 1) (w2.drewN n) (shaped_below hsh (HX2.out.drewN n).below) (by omega)
      rw [HBD.out] at this
      exact this
    clear h0
    go_wp2_with fail
    go_quiet ((go_at_call 64; exact Calls.quiet_of (HCUT.out _)))
    have HX3 := Lib.hid (HX2.out.drewN nq)
    have HT3 : Hid (Tur (fun g => ¬ X g) w (w2.drewN nq)) := ⟨HTX.out.os, HTX.out.tape, HTX.out.output, HTX.out.size, HTX.out.block⟩
    have c0' : (w2.drewN nq).cell? ⟨rc, 0, none⟩ = some (.pointer (some ⟨rb, 0, none⟩)) := c0
    clear c0 c1 y3 z3
    generalize w2.drewN nq = w3 at *
    obtain ⟨⟨y0, y1, y2, y3, y4, y5⟩, z3, z4, z5⟩ := HX3.out.cells
    clear y0 y1 y2 y4 y5 z4 z5
    have HTOLD := Lib.hid (told_cut HL0.out HOR.out)
    have hcl := cut_len l'.data.toList [b]
    have hll : l'.data.toList.length = l'.size := rfl
    have HL3 := Lib.hid (HX3.out.setLeft ⟨(Lib.cut l'.data.toList [b]).2.1.toArray⟩ (by rw [Lib.size_mk]; omega))
    have HTL3 := Lib.hid (HT3.out.trans (HX3.out.turSet 3 (.string ⟨(Lib.cut l'.data.toList [b]).2.1.toArray⟩)) (fun i _ hi => hi))
    clear hcl hll
    go_wp2_with fail
    go_ret3
    refine ⟨_, s', fn', _, true, rfl, HL3.out, HTL3.out, ?_⟩
    rw [HCAT.out]
    exact HTOLD.out
end
end Go.Proofs.YtdbdmgmenojcaaaDoor
namespace Go.Proofs.YtdbdmgmenojcaaaDoor
open Go.RowKit Wd
set_option maxRecDepth 100000 in
theorem enters_pa1 : ∀ (args : Array Value) (w : World), (callFunc 83 args).run Tryd.prog w = .ok (.enter 83 args) w := fun _ _ => rfl
set_option maxRecDepth 100000 in
theorem enters_pa2 : ∀ (args : Array Value) (w : World), (callFunc 85 args).run Tryd.prog w = .ok (.enter 85 args) w := fun _ _ => rfl
def pBareS (l : ByteArray) : ByteArray := ⟨(Rd.pBare l.data.toList).toArray⟩
theorem pBareS_data (l : ByteArray) : (pBareS l).data.toList = Rd.pBare l.data.toList := by simp [pBareS]
theorem pBareS_size (l : ByteArray) : (pBareS l).size ≤ l.size := by
  unfold pBareS
  rw [Lib.size_mk]
  obtain ⟨p, h, -⟩ := Rd.trim_split l.data.toList
  have := congrArg List.length h
  have hl : l.data.toList.length = l.size := rfl
  simp at this
  omega
theorem trimLeft_ten (s : ByteArray) (w : World) : Calls Tryd.prog 84 #[.string s, .string ⟨#[10]⟩] w fun e w' => e = .returned (.string ⟨(Lib.trimLeftB s.data.toList 10).toArray⟩) ∧ w' = w := Tryd.strings_TrimLeft_one s 10 (by decide) w
theorem pa_bare {w : World} {rb rc : Nat} {l : ByteArray} (hrc : w.cell? ⟨rc, 0, none⟩ = some (.pointer (some ⟨rb, 0, none⟩))) (h3 : w.cell? ⟨rb, 3, none⟩ = some (.string l)) :
    Calls Tryd.prog 83 #[.pointer (some ⟨rc, 0, none⟩)] w fun e w' => e = .returned (.string (pBareS l)) ∧ w' = w := by
  go_enter Tryd.func83, Tryd.ntmps83
  go_wp2_with fail
  refine (trimLeft_ten l _).mono ?_
  rintro e w2 ⟨rfl, hw⟩
  obtain rfl : w = w2 := hw.symm
  go_wp2_with fail
  go_ret
  exact ⟨rfl, rfl⟩
def tenten : ByteArray := ⟨#[10, 10]⟩
def pCutV (l : ByteArray) : Value := .tuple #[.string ⟨(Lib.cut (Rd.pBare l.data.toList) [10, 10]).1.toArray⟩, .string ⟨(Lib.cut (Rd.pBare l.data.toList) [10, 10]).2.1.toArray⟩, .bool (Rd.pHas l.data.toList)]
theorem pa_cut {w0 w : World} (hsh : w0.ShapedOpen Tryd.prog) (hb : Below w0.heap.size w0 w) (l : ByteArray) (hl : l.size ≤ 5000) :
    Calls Tryd.prog 64 #[.string (pBareS l), .string ⟨#[10, 10]⟩] w fun e w' => e = .returned (.tuple #[.string ⟨(Lib.cut (Rd.pBare l.data.toList) [10, 10]).1.toArray⟩, .string ⟨(Lib.cut (Rd.pBare l.data.toList) [10, 10]).2.1.toArray⟩, .bool (Rd.pHas l.data.toList)]) ∧ ∃ n, w' = w.drewN n := by
  have := Tryd.strings_Cut_shaped (pBareS l) ⟨#[10, 10]⟩ w (shaped_below hsh hb) (by have := pBareS_size l; omega)
  rw [pBareS_data] at this
  exact this
set_option maxRecDepth 20000 in
theorem pa_so {w0 w : World} {rb rc fc : Nat} {l : ByteArray} (hsh : w0.ShapedOpen Tryd.prog) (hb : Below w0.heap.size w0 w) (hl : l.size ≤ 5000) (hfc : w.cell? ⟨fc, 0, none⟩ = some (.func (.func 83) #[] #[.pointer (some ⟨rc, 0, none⟩)])) (hrc : w.cell? ⟨rc, 0, none⟩ = some (.pointer (some ⟨rb, 0, none⟩))) (h3 : w.cell? ⟨rb, 3, none⟩ = some (.string l)) :
    Calls Tryd.prog 85 #[.pointer (some ⟨fc, 0, none⟩)] w fun e w' => e = .returned (.bool (Rd.pSo l.data.toList)) ∧ Below w.heap.size w w' := by
  have HPB := Lib.hid (pa_bare hrc h3)
  have HCUT := Lib.hid (pa_cut hsh hb l hl)
  have HEN := Lib.hid enters_pa1
  have HSO : Hid (Rd.pSo l.data.toList = (Rd.pHas l.data.toList && !decide (Lib.trimLeftB (Lib.cut (Rd.pBare l.data.toList) [10, 10]).2.1 10 = []))) := rfl
  obtain ⟨o, ho⟩ : ∃ o, o = Rd.pSo l.data.toList := ⟨_, rfl⟩
  rw [← ho]
  rw [← ho] at HSO
  clear hrc h3 hb ho
  have hen := enters_pa1
  go_enter Tryd.func85, Tryd.ntmps85
  go_wp2_with fail
  refine HPB.out.mono ?_
  rintro e w2 ⟨rfl, hw⟩
  obtain rfl : w = w2 := hw.symm
  go_wp2_with fail
  refine HCUT.out.mono ?_
  rintro e w2 ⟨rfl, nq, rfl⟩
  have HB := Lib.hid (below_drew w nq)
  clear HPB HCUT
  cases hh : Rd.pHas l.data.toList
  · rw [hh] at HSO
    clear hh
    go_wp2_with fail
    go_ret
    exact ⟨ret_bool HSO.out.symm, HB.out⟩
  · rw [hh] at HSO
    clear hh
    generalize (Lib.cut (Rd.pBare l.data.toList) [10, 10]).2.1 = r at *
    generalize w.drewN nq = w3 at *
    go_wp2_with fail
    refine (trimLeft_ten _ _).mono ?_
    rintro e w4 ⟨rfl, hw⟩
    obtain rfl : w3 = w4 := hw.symm
    rw [show (⟨r.toArray⟩ : ByteArray).data.toList = r by simp]
    generalize Lib.trimLeftB r 10 = q at *
    cases q with
    | nil =>
      go_wp2_with fail
      go_ret
      exact ⟨ret_bool HSO.out.symm, HB.out⟩
    | cons x q =>
      have e1 : (⟨(x :: q).toArray⟩ : ByteArray).toList.isEmpty = false := isEmpty_ne (by rw [Lib.size_mk]; simp)
      go_wp2_with fail
      go_ret
      exact ⟨ret_bool HSO.out.symm, HB.out⟩
/-- What is told of T between empty lines. -/
def Told2 (T t : List UInt8) (ok : Bool) (T' : List UInt8) : Prop := t = Rd.pRec T ∧ ok = !decide (t = []) ∧ T' = Rd.pRest T
theorem told_para {l s : List UInt8} (h : s = [] ∨ Rd.pSo l = true) : Told2 (l ++ s) (Rd.pRec l) (!decide (Rd.pRec l = [])) (Rd.pRest l ++ s) := by
  rcases h with rfl | h
  · exact ⟨by rw [List.append_nil], rfl, by rw [List.append_nil, List.append_nil]⟩
  · obtain ⟨h1, h2, -⟩ := Rd.so_app s h
    exact ⟨h1.symm, rfl, h2.symm⟩
/-- What a call that tells a record leaves. -/
def NextPost (X : Nat → Prop) (w0 : World) (rb pb : Nat) (ended : Bool → Bool) (w : World) (P : List UInt8 → Bool → List UInt8 → Prop) (e : Ending) (w' : World) : Prop :=
  ∃ (l' s' : ByteArray) (fn' : Bool) (t : List UInt8) (ok : Bool), e = .returned (.tuple #[.string ⟨t.toArray⟩, .bool ok, .int .i64 0]) ∧ RdS X w0 w' rb pb l' s' fn' (ended ok) ∧ Tur (fun g => ¬ X g) w w' ∧ P t ok (l'.data.toList ++ s'.data.toList)
section
variable {X : Nat → Prop} {w0 w : World} {rb pb : Nat} {left stdin : ByteArray} {fin ended : Bool}
set_option maxRecDepth 100000 in
set_option maxHeartbeats 4000000 in
theorem rd_para (h : RdS X w0 w rb pb left stdin fin ended) (hsh : w0.ShapedOpen Tryd.prog) :
    Calls Tryd.prog 60 #[.pointer (some ⟨rb, 0, none⟩)] w (NextPost X w0 rb pb (fun _ => ended) w (Told2 (left.data.toList ++ stdin.data.toList))) := by
  have hb1 : Below w.heap.size w ((w.alloc (.cells #[.pointer (some ⟨rb, 0, none⟩)] 22)).alloc (.cells #[.func (.func 83) #[] #[.pointer (some ⟨w.heap.size, 0, none⟩)]] 128)) := ((Below.refl _ _).alloc (Nat.le_refl _) _).alloc (by simp) _
  have HB1 := Lib.hid hb1
  have HC0 := Lib.hid ((Blk.new w 22 #[.pointer (some ⟨rb, 0, none⟩)]).keep (Tur.of_alloc (F := fun _ => False) _ (.cells #[.func (.func 83) #[] #[.pointer (some ⟨w.heap.size, 0, none⟩)]] 128)) (fun h => h))
  have hc1 := Blk.new (w.alloc (.cells #[.pointer (some ⟨rb, 0, none⟩)] 22)) 128 #[.func (.func 83) #[] #[.pointer (some ⟨w.heap.size, 0, none⟩)]]
  rw [show (w.alloc (.cells #[.pointer (some ⟨rb, 0, none⟩)] 22)).heap.size = w.heap.size + 1 by simp] at hc1
  have HC1 := Lib.hid hc1
  have HR1 := Lib.hid (h.grow hb1)
  have hz : ((w.alloc (.cells #[.pointer (some ⟨rb, 0, none⟩)] 22)).alloc (.cells #[.func (.func 83) #[] #[.pointer (some ⟨w.heap.size, 0, none⟩)]] 128)).heap.size = w.heap.size + 2 := by simp
  rw [hz] at HR1
  have HSH := Lib.hid hsh
  have hen := enters_pa1
  clear hb1 hc1 h hz hsh
  go_enter Tryd.func60, Tryd.ntmps60
  go_wp2_with fail
  obtain ⟨rc, hrc⟩ : ∃ x, x = w.heap.size := ⟨_, rfl⟩
  rw [← hrc] at HC0 HC1 HR1 HB1 ⊢
  obtain ⟨fc, hfc⟩ : ∃ x, x = rc + 1 := ⟨_, rfl⟩
  rw [← hfc] at HC1 ⊢
  have HRC := Lib.hid hrc
  have HFC := Lib.hid hfc
  clear hrc hfc
  generalize (w.alloc (.cells #[.pointer (some ⟨rb, 0, none⟩)] 22)).alloc (.cells #[.func (.func 83) #[] #[.pointer (some ⟨rc, 0, none⟩)]] 128) = w1 at *
  have HK : Hid (∀ wr, Tur (fun g => ¬ (X g ∨ (rc ≤ g ∧ g < rc + 2))) w1 wr → wr.cell? ⟨rc, 0, none⟩ = some (.pointer (some ⟨rb, 0, none⟩)) ∧ wr.cell? ⟨fc, 0, none⟩ = some (.func (.func 83) #[] #[.pointer (some ⟨rc, 0, none⟩)])) := by
    intro wr ht
    exact ⟨(HC0.out.keep ht (fun hx => hx (.inr (by omega)))).cell 0, (HC1.out.keep ht (fun hx => hx (.inr (by have := HFC.out; omega)))).cell 0⟩
  refine (rd_until HR1.out 85 _ Rd.pSo enters_pa2 (fun wr l s fn hr ht => pa_so HSH.out hr.below (by have := hr.size; omega) (HK.out wr ht).2 (HK.out wr ht).1 hr.cells.1.2.2.2.1)).mono ?_
  rintro e w2 ⟨l', s', fn', rfl, hr2, hcat, hor, ht2⟩
  have HX2 : Hid (RdS X w0 w2 rb pb l' s' fn' ended) := hr2.less (fun g hg => .inl hg)
  have HTX : Hid (Tur (fun g => ¬ X g) w w2) := (Tur.of_gr (F := fun g => ¬ X g) (by have := HB1.out; rw [HRC.out] at this; exact this)).trans (ht2.mono (G := fun g => ¬ X g) (fun i _ hi hx => hi (.inl hx))) (fun i _ hi => hi)
  have HCAT : Hid (left.data.toList ++ stdin.data.toList = l'.data.toList ++ s'.data.toList) := by
    unfold Hid; rw [← data_app, ← data_app, hcat]
  have HOR : Hid (s'.data.toList = [] ∨ Rd.pSo l'.data.toList = true) := by
    rcases hor with h | h
    · left; exact data_nil (hr2.fin0 h)
    · right; exact h
  have HTOLD := Lib.hid (told_para HOR.out)
  obtain ⟨c0, c1⟩ := HK.out w2 ht2
  have hlsz := HX2.out.size
  have h3 := HX2.out.cells.1.2.2.2.1
  have HPB := Lib.hid (pa_bare c0 h3)
  have HCUT := Lib.hid (pa_cut HSH.out HX2.out.below l' (by omega))
  have HREST : Hid (Rd.pRest l'.data.toList = Lib.trimLeftB (Lib.cut (Rd.pBare l'.data.toList) [10, 10]).2.1 10) := rfl
  have HREC : Hid (Rd.pRec l'.data.toList = if Rd.pHas l'.data.toList then (Lib.cut (Rd.pBare l'.data.toList) [10, 10]).1 else Lib.trimSuffix (Lib.cut (Rd.pBare l'.data.toList) [10, 10]).1 [10]) := rfl
  have HLR := Lib.hid (show (Lib.trimLeftB (Lib.cut (Rd.pBare l'.data.toList) [10, 10]).2.1 10).length ≤ l'.size by
    have h1 := Rd.rec_len l'.data.toList
    rw [HREST.out] at h1
    have hl : l'.data.toList.length = l'.size := rfl
    omega)
  have HLC := Lib.hid (show (Lib.cut (Rd.pBare l'.data.toList) [10, 10]).1.length ≤ 5000 by
    have h1 := pBareS_size l'
    have h2 : (Rd.pBare l'.data.toList).length = (pBareS l').size := by unfold pBareS; rw [Lib.size_mk]
    have h4 : (Lib.cut (Rd.pBare l'.data.toList) [10, 10]).1.length ≤ (Rd.pBare l'.data.toList).length := by
      unfold Lib.cut; split
      · show (List.take _ _).length ≤ _
        rw [List.length_take]; exact Nat.min_le_right _ _
      · exact Nat.le_refl _
    omega)
  clear hr2 hcat hor ht2 h3 hlsz
  go_wp2_with fail
  refine HPB.out.mono ?_
  rintro e w3 ⟨rfl, hw⟩
  obtain rfl : w2 = w3 := hw.symm
  go_wp2_with fail
  refine HCUT.out.mono ?_
  rintro e w3 ⟨rfl, nq, rfl⟩
  clear HPB HCUT
  have HX3 := Lib.hid (HX2.out.drewN nq)
  have HT3 : Hid (Tur (fun g => ¬ X g) w (w2.drewN nq)) := ⟨HTX.out.os, HTX.out.tape, HTX.out.output, HTX.out.size, HTX.out.block⟩
  have c0' : (w2.drewN nq).cell? ⟨rc, 0, none⟩ = some (.pointer (some ⟨rb, 0, none⟩)) := c0
  clear c0 c1
  generalize w2.drewN nq = w3 at *
  obtain ⟨⟨y0, y1, y2, y3, y4, y5⟩, z3, z4, z5⟩ := HX3.out.cells
  clear y0 y1 y2 y4 y5 z4 z5
  generalize (Lib.cut (Rd.pBare l'.data.toList) [10, 10]).2.1 = r at *
  generalize (Lib.cut (Rd.pBare l'.data.toList) [10, 10]).1 = c at *
  obtain ⟨q, hq⟩ : ∃ q, q = Lib.trimLeftB r 10 := ⟨_, rfl⟩
  have HTL : Hid (∀ w : World, Calls Tryd.prog 84 #[.string ⟨r.toArray⟩, .string ⟨#[10]⟩] w fun e w' => e = .returned (.string ⟨q.toArray⟩) ∧ w' = w) := by
    intro w
    have := trimLeft_ten ⟨r.toArray⟩ w
    rw [hq]
    simpa using this
  have HTS : Hid (∀ w : World, Calls Tryd.prog 86 #[.string ⟨c.toArray⟩, .string ⟨#[10]⟩] w fun e w' => e = .returned (.string ⟨(Lib.trimSuffix c [10]).toArray⟩) ∧ w' = w) := by
    intro w
    have := Tryd.strings_TrimSuffix ⟨c.toArray⟩ ⟨#[10]⟩ w (by rw [Lib.size_mk]; have := HLC.out; omega)
    simpa using this
  rw [← hq] at HLR HREST
  clear hq
  have HL3 := Lib.hid (HX3.out.drew.setLeft ⟨q.toArray⟩ (by rw [Lib.size_mk]; have := HX3.out.size; have := HLR.out; omega))
  have HTL3 := Lib.hid ((Tur.drew HT3.out).trans (HX3.out.drew.turSet 3 (.string ⟨q.toArray⟩)) (fun i _ hi => hi))
  cases hh : Rd.pHas l'.data.toList
  · rw [hh, if_neg (by decide)] at HREC
    clear hh
    go_wp2_with fail
    refine (HTS.out _).mono ?_
    rintro e w4 ⟨rfl, hw⟩
    obtain rfl : w3 = w4 := hw.symm
    go_wp2_with fail
    refine wp_region_still_tail 5 (by kernel_rfl) (by kernel_rfl) ?_
    simp only [List.take_succ_cons, List.take_zero, List.drop_succ_cons, List.drop_zero]
    repeat (first | still_step | still_call (HTL.out _))
    refine wpStill_nil ?_
    change wpList _ _ _ _ _ w3.drew
    have y3' : w3.drew.cell? ⟨rb, 3, none⟩ = some (.string l') := y3
    have z3' : w3.drew.frozen? ⟨rb, 3, none⟩ = false := z3
    clear y3 z3 c0'
    generalize w3.drew = w4 at *
    rw [HREST.out, HREC.out] at HTOLD
    generalize Lib.trimSuffix c [10] = t at *
    cases t with
    | nil =>
      go_wp2_with fail
      go_ret3
      exact ⟨_, s', fn', [], false, rfl, HL3.out, HTL3.out, by rw [HCAT.out]; simpa using HTOLD.out⟩
    | cons x t =>
      have e1 : (⟨(x :: t).toArray⟩ : ByteArray).toList.isEmpty = false := isEmpty_ne (by rw [Lib.size_mk]; simp)
      go_wp2_with fail
      go_ret3
      exact ⟨_, s', fn', x :: t, true, rfl, HL3.out, HTL3.out, by rw [HCAT.out]; simpa using HTOLD.out⟩
  · rw [hh, if_pos rfl] at HREC
    clear hh HTS
    go_wp2_with fail
    refine wp_region_still_tail 5 (by kernel_rfl) (by kernel_rfl) ?_
    simp only [List.take_succ_cons, List.take_zero, List.drop_succ_cons, List.drop_zero]
    repeat (first | still_step | still_call (HTL.out _))
    refine wpStill_nil ?_
    change wpList _ _ _ _ _ w3.drew
    have y3' : w3.drew.cell? ⟨rb, 3, none⟩ = some (.string l') := y3
    have z3' : w3.drew.frozen? ⟨rb, 3, none⟩ = false := z3
    clear y3 z3 c0'
    generalize w3.drew = w4 at *
    rw [HREST.out, HREC.out] at HTOLD
    cases c with
    | nil =>
      go_wp2_with fail
      go_ret3
      exact ⟨_, s', fn', [], false, rfl, HL3.out, HTL3.out, by rw [HCAT.out]; simpa using HTOLD.out⟩
    | cons x t =>
      have e1 : (⟨(x :: t).toArray⟩ : ByteArray).toList.isEmpty = false := isEmpty_ne (by rw [Lib.size_mk]; simp)
      go_wp2_with fail
      go_ret3
      exact ⟨_, s', fn', x :: t, true, rfl, HL3.out, HTL3.out, by rw [HCAT.out]; simpa using HTOLD.out⟩
end
end Go.Proofs.YtdbdmgmenojcaaaDoor
namespace Go.Proofs.YtdbdmgmenojcaaaDoor
open Go.RowKit Wd
section
variable {X : Nat → Prop} {w0 w : World} {rb pb : Nat} {left stdin : ByteArray} {fin ended : Bool}
set_option maxRecDepth 20000 in
theorem rd_next2 (h : RdS X w0 w rb pb left stdin fin ended) (hsh : w0.ShapedOpen Tryd.prog) :
    Calls Tryd.prog 30 #[.pointer (some ⟨rb, 0, none⟩), .string ⟨#[]⟩] w (NextPost X w0 rb pb (fun _ => ended) w (Told2 (left.data.toList ++ stdin.data.toList))) := by
  have hb1 : Below w.heap.size w ((w.alloc (.cells #[.pointer (some ⟨rb, 0, none⟩)] 22)).alloc (.cells #[.string ⟨#[]⟩] 9)) := ((Below.refl _ _).alloc (Nat.le_refl _) _).alloc (by simp) _
  have HB1 := Lib.hid hb1
  have HR1 := Lib.hid (h.pure hb1)
  have HSH := Lib.hid hsh
  clear hb1 h hsh
  go_enter Tryd.func30, Tryd.ntmps30
  go_wp2_with fail
  generalize (w.alloc (.cells #[.pointer (some ⟨rb, 0, none⟩)] 22)).alloc (.cells #[.string ⟨#[]⟩] 9) = w1 at *
  refine (rd_para HR1.out HSH.out).mono ?_
  rintro e w2 ⟨l', s', fn', t, ok, rfl, hr, ht, hp⟩
  have HR := Lib.hid hr
  have HT := Lib.hid ((Tur.of_gr (F := fun g => ¬ X g) HB1.out).trans ht (fun i _ hi => hi))
  have HP := Lib.hid hp
  clear hr ht hp
  go_wp2_with fail
  go_ret3
  exact ⟨l', s', fn', t, ok, rfl, HR.out, HT.out, HP.out⟩
set_option maxRecDepth 20000 in
theorem rd_Next {rs : ByteArray} {P : List UInt8 → Bool → List UInt8 → Prop} (h : RdS X w0 w rb pb left stdin fin ended) (hn : Calls Tryd.prog 30 #[.pointer (some ⟨rb, 0, none⟩), .string rs] w (NextPost X w0 rb pb (fun _ => ended) w P)) :
    Calls Tryd.prog 8 #[.pointer (some ⟨rb, 0, none⟩), .string rs] w (NextPost X w0 rb pb (fun ok => !ok) w P) := by
  obtain ⟨⟨y0, y1, y2, y3, y4, y5⟩, z3, z4, z5⟩ := h.cells
  have HN := Lib.hid hn
  clear y1 y2 y3 y4 y5 z3 z4 z5 h hn
  go_enter Tryd.func8, Tryd.ntmps8
  go_wp2_with fail
  refine HN.out.mono ?_
  rintro e w2 ⟨l', s', fn', t, ok, rfl, hr, ht, hp⟩
  obtain ⟨⟨y0', y1, y2, y3, y4, y5⟩, z3, z4, z5⟩ := hr.cells
  have HR := Lib.hid (hr.setEnded (!ok))
  have HT := Lib.hid (ht.trans (hr.turSet 5 (.bool (!ok))) (fun i _ hi => hi))
  have HP := Lib.hid hp
  clear y0' y1 y2 y3 y4 z3 z4 hr ht hp
  go_wp2_with fail
  go_ret3
  exact ⟨l', s', fn', t, ok, rfl, HR.out, HT.out, HP.out⟩
theorem rd_Next2 (h : RdS X w0 w rb pb left stdin fin ended) (hsh : w0.ShapedOpen Tryd.prog) :
    Calls Tryd.prog 8 #[.pointer (some ⟨rb, 0, none⟩), .string ⟨#[]⟩] w (NextPost X w0 rb pb (fun ok => !ok) w (Told2 (left.data.toList ++ stdin.data.toList))) := rd_Next h (rd_next2 h hsh)
theorem rd_Next1 (h : RdS X w0 w rb pb left stdin fin ended) (hsh : w0.ShapedOpen Tryd.prog) (rs : ByteArray) (b : UInt8) (hn : 0 < rs.size) (hb : rs[0] = b) :
    Calls Tryd.prog 8 #[.pointer (some ⟨rb, 0, none⟩), .string rs] w (NextPost X w0 rb pb (fun ok => !ok) w (Told1 b (left.data.toList ++ stdin.data.toList))) := rd_Next h (rd_next1 h hsh rs b hn hb)
theorem rd_Ended (h : RdS X w0 w rb pb left stdin fin ended) :
    Calls Tryd.prog 9 #[.pointer (some ⟨rb, 0, none⟩)] w fun e w' => e = .returned (.bool ended) ∧ w' = w := by
  obtain ⟨⟨y0, y1, y2, y3, y4, y5⟩, z3, z4, z5⟩ := h.cells
  clear y0 y1 y2 y3 y4 z3 z4 z5 h
  go_enter Tryd.func9, Tryd.ntmps9
  go_wp2_with fail
  go_ret
  exact ⟨rfl, rfl⟩
end
def ofSt (s : ByteArray) : St := ⟨4, 0, filesOf [], s, [], 0, [], [], []⟩
theorem of_open (s : ByteArray) : openL (ofSt s) 1 minus = (okSt (ofSt s) 1 minus, 0) := rfl
set_option maxRecDepth 20000 in
theorem rd_new {w0 w : World} {F : Nat → Prop} {pb : Nat} {M : Mem} {s : ByteArray} (h : WAt w F pb M (ofSt s)) (hb : Below w0.heap.size w0 w) (hF : ∀ g, F g → w0.heap.size ≤ g) (hm : M.m ≤ 9) (hs : s.size ≤ 5000) :
    Calls Tryd.prog 14 #[.pointer (some ⟨pb, 0, none⟩), .int .u8 1, .string minus] w fun e w' => ∃ rb, e = .returned (.tuple #[.pointer (some ⟨rb, 0, none⟩), .int .i64 0]) ∧ RdS (fun _ => False) w0 w' rb pb ⟨#[]⟩ s false false := by
  have HH := Lib.hid h
  have HB := Lib.hid hb
  have HF := Lib.hid hF
  clear h hb hF
  go_enter Tryd.func14, Tryd.ntmps14
  go_wp2_with fail
  refine (wo_open HH.out 1 minus (by decide) (by exact Nat.zero_le _) (by exact Nat.zero_le _) (by exact Nat.zero_le _) (by exact Nat.zero_le _) (by omega)).mono ?_
  rintro e w2 ⟨M', F', rfl, hW, ht, hF', hm'⟩
  rw [of_open] at hW
  rw [of_open]
  have HW := Lib.hid hW
  have HB2 := Lib.hid (HB.out.trans (ht.below w0.heap.size HB.out.size (fun k hk e => by have := HF.out k e; omega)))
  have HF2 : Hid (∀ g, F' g → w0.heap.size ≤ g) := fun g hg => by
    rcases hF' g hg with e | e
    · exact HF.out g e
    · have := HB.out.size; omega
  clear hW ht hF' hm'
  go_wp2_with fail
  go_ret2
  refine ⟨w2.heap.size, rfl, ?_⟩
  have hb3 : Below w2.heap.size w2 (w2.alloc (.cells (rcells pb ⟨#[]⟩ false false) 26)) := (Below.refl _ _).alloc (Nat.le_refl _) _
  exact {
    wat := ⟨M', F', _, HW.out.pure hb3, HF2.out, fun _ _ h => h, fun e => by have := HW.out.flt _ e; omega, rfl, rfl, rfl, Nat.le_of_ble_eq_true rfl, Nat.zero_le _⟩
    below := HB2.out.trans (hb3.mono HB2.out.size)
    rd := Blk.new w2 _ _
    rb0 := HB2.out.size
    rbx := fun h => h
    xs := fun _ h => h.elim
    size := by show 0 + s.size ≤ 5000; omega
    fin0 := fun h => by cases h }
set_option maxRecDepth 20000 in
theorem rd_of {w : World} {s : ByteArray} (hs : s.size ≤ 5000) :
    Calls Tryd.prog 22 #[.string s] w fun e w' => ∃ rb pb, e = .returned (.tuple #[.pointer (some ⟨pb, 0, none⟩), .pointer (some ⟨rb, 0, none⟩)]) ∧ RdS (fun _ => False) w w' rb pb ⟨#[]⟩ s false false := by
  go_enter Tryd.func22, Tryd.ntmps22
  go_wp2_with fail
  refine (wo_newE s 4 (by omega)).mono ?_
  rintro e w2 ⟨pb, M, F, rfl, h2, hb2, hF2, hm2⟩
  have H2 : Hid (WAt w2 F pb M (ofSt s)) := h2
  have HB2 := Lib.hid hb2
  have HF2 := Lib.hid hF2
  clear h2 hb2 hF2
  go_wp2_with fail
  refine (rd_new H2.out HB2.out HF2.out (by omega) hs).mono ?_
  rintro e w3 ⟨rb, rfl, hr⟩
  have HR := Lib.hid hr
  clear hr
  go_wp2_with fail
  go_ret2
  exact ⟨rb, pb, rfl, HR.out⟩
end Go.Proofs.YtdbdmgmenojcaaaDoor
namespace Go.Proofs.YtdbdmgmenojcaaaDoor
namespace Vm
set_option linter.unusedSimpArgs false
set_option linter.unusedVariables false
open Go.RowKit

/-- What may be done to a block: ro: it came in; ex: its row is just so long; tip: the youngest of its line; old: a younger one has been made of it; dead: nobody may look at it any more. -/
inductive Fl where
  | ro | ex | tip | old | dead
  deriving DecidableEq, Inhabited
structure Blk where
  cells : Array Value
  elem : TypeId
  fl : Fl
  kin : Bool
  root : Nat
  esz : Nat
  deriving Inhabited
inductive VObj where
  | cells (b : Blk)
  | map (es : Array MapEntry) (clock : Nat)
  | iter (s : ByteArray) (pos : Nat)
  | rmap (es : Array MapEntry) (clock : Nat)
  deriving Inhabited
abbrev VHeap := Array VObj

def VObj.live : VObj → Bool
  | .cells b => b.fl != .dead
  | _ => true
def VObj.own : VObj → Bool
  | .cells b => b.fl != .dead && b.fl != .ro
  | .rmap _ _ => false
  | _ => true

def cell? (σ : VHeap) (a : Addr) : Option Value :=
  match a.spot, σ[a.block]? with
  | none, some (.cells b) => if b.fl = .dead then none else b.cells[a.off]?
  | _, _ => none
/-- The elders of a line are looked at no more. -/
def killed (r : Nat) : VObj → VObj
  | .cells b => if b.root = r ∧ b.fl = .old then .cells { b with fl := .dead } else .cells b
  | o => o
def kill (σ : VHeap) (r : Nat) : VHeap := σ.map (killed r)
def Blk.put (b : Blk) (i : Nat) (v : Value) : Blk := { b with cells := b.cells.setIfInBounds i v, kin := false }
def setCell (σ : VHeap) (a : Addr) (v : Value) : Option VHeap :=
  match a.spot, σ[a.block]? with
  | none, some (.cells b) =>
    if a.off < b.cells.size then
      match b.fl with
      | .ex => some (σ.setIfInBounds a.block (.cells (b.put a.off v)))
      | .tip => some ((bif b.kin then kill σ b.root else σ).setIfInBounds a.block (.cells (b.put a.off v)))
      | _ => none
    else none
  | _, _ => none

/-- The machine's own code, run over virtual memory: what has no virtual answer ends it. -/
def vrun {α : Type} (P : Program) : Sem α → VHeap → Option (α × VHeap)
  | .pure a, σ => some (a, σ)
  | .load .plain a k, σ => match cell? σ a with
    | some v => vrun P (k v) σ
    | none => none
  | .store .plain a v k, σ => match v.oneCell', setCell σ a v with
    | true, some σ' => vrun P k σ'
    | _, _ => none
  | .new (.cells c e (0, 0)) k, σ => vrun P (k σ.size) (σ.push (.cells ⟨c, e, .ex, false, σ.size, 0⟩))
  | .new (.map es 0) k, σ => match es with
    | ⟨[]⟩ => vrun P (k σ.size) (σ.push (.map #[] 0))
    | _ => none
  | .new (.stringIter s p) k, σ => vrun P (k σ.size) (σ.push (.iter s p))
  | .getObj r k, σ => match σ[r]? with
    | some (.map es c) => vrun P (k (.map es c)) σ
    | some (.rmap es c) => vrun P (k (.map es c)) σ
    | some (.iter s p) => vrun P (k (.stringIter s p)) σ
    | _ => none
  | .setObj r o k, σ => match σ[r]?, o with
    | some (.map _ _), .map es c => vrun P k (σ.setIfInBounds r (.map es c))
    | some (.iter _ _), .stringIter s p => vrun P k (σ.setIfInBounds r (.iter s p))
    | _, _ => none
  | .program k, σ => vrun P (k P) σ
  | .mark _ k, σ => vrun P k σ
  | _, _ => none

def andThen {α β : Type} (r : Option (α × VHeap)) (f : α → VHeap → Option (β × VHeap)) : Option (β × VHeap) :=
  match r with
  | some (a, σ) => f a σ
  | none => none

theorem vrun_bind {α β : Type} (P : Program) (x : Sem α) (f : α → Sem β) (σ : VHeap) :
    vrun P (x.bind f) σ = andThen (vrun P x σ) fun a σ' => vrun P (f a) σ' := by
  induction x generalizing σ with
  | pure a => rfl
  | load m a k ih =>
    cases m <;> simp only [Sem.bind, vrun]
    · split <;> simp [ih, andThen]
    · rfl
  | store m a v k ih =>
    cases m <;> simp only [Sem.bind, vrun]
    · split <;> simp [ih, andThen]
    · rfl
  | new o k ih =>
    unfold Sem.bind
    cases o with
    | cells c e f =>
      obtain ⟨lo, hi⟩ := f
      cases lo <;> cases hi <;> first | exact ih _ _ | rfl
    | map es c =>
      cases c with
      | zero =>
        obtain ⟨l⟩ := es
        cases l with
        | nil => exact ih _ _
        | cons a l => rfl
      | succ n => rfl
    | stringIter s p => exact ih _ _
    | _ => rfl
  | shape r k ih => rfl
  | freeze a n k ih => rfl
  | frozen a k ih => rfl
  | getObj r k ih =>
    simp only [Sem.bind, vrun]
    split <;> simp [ih, andThen]
  | setObj r o k ih =>
    simp only [Sem.bind, vrun]
    split <;> simp [ih, andThen]
  | choose q k ih => rfl
  | sys c k ih => rfl
  | program k ih => simp [Sem.bind, vrun, ih]
  | mark m k ih => simp [Sem.bind, vrun, ih]
  | halt h => rfl

/-- What a virtual block is in the real memory: the row, the place of its first cell there, the cells of an element and of the whole row; what is known of capacities. -/
inductive Kind where
  | ex | gr | ro
  deriving DecidableEq
structure Info where
  b : Nat
  o : Nat
  esz : Nat
  tot : Nat
  kind : Kind
abbrev Rho := Nat → Option Info
def Rho.le (ρ ρ' : Rho) : Prop := ∀ id i, ρ id = some i → ρ' id = some i
theorem Rho.le_refl (ρ : Rho) : ρ.le ρ := fun _ _ h => h
theorem Rho.le_trans {a b c : Rho} (h : a.le b) (k : b.le c) : a.le c := fun _ _ x => k _ _ (h _ _ x)

def CapOk (i : Info) (off c c' : Nat) : Prop :=
  match i.kind with
  | .ex => c = c'
  | .gr => c ≤ c' ∧ i.o + off + c' * i.esz ≤ i.tot
  | .ro => c ≤ c'

inductive VRel (ρ : Rho) : Value → Value → Prop where
  | bool (b : Bool) : VRel ρ (.bool b) (.bool b)
  | int (k : IntKind) (n : Int) : VRel ρ (.int k n) (.int k n)
  | float (k : FloatKind) (n : Nat) : VRel ρ (.float k n) (.float k n)
  | complex (k : FloatKind) (a b : Nat) : VRel ρ (.complex k a b) (.complex k a b)
  | string (s : ByteArray) : VRel ρ (.string s) (.string s)
  | ptrNil : VRel ρ (.pointer none) (.pointer none)
  | ptr {id off : Nat} {i : Info} (h : ρ id = some i) : VRel ρ (.pointer (some ⟨id, off, none⟩)) (.pointer (some ⟨i.b, i.o + off, none⟩))
  | sliceNil (n c : Nat) : VRel ρ (.slice none n c) (.slice none n c)
  | slice {id off n c c' : Nat} {i : Info} (h : ρ id = some i) (hc : CapOk i off c c') : VRel ρ (.slice (some ⟨id, off, none⟩) n c) (.slice (some ⟨i.b, i.o + off, none⟩) n c')
  | sliceOff (id off : Nat) (a : Addr) (c' : Nat) : VRel ρ (.slice (some ⟨id, off, some 0⟩) 0 0) (.slice (some a) 0 c')
  | glob (g : Nat) : VRel ρ (.chan (some g)) (.pointer (some ⟨g, 0, none⟩))
  | mapNil : VRel ρ (.map none) (.map none)
  | map {id : Nat} {i : Info} (h : ρ id = some i) : VRel ρ (.map (some id)) (.map (some i.b))
  | func (fn : Fn) {xs ys us vs : Array Value} (h1 : xs.size = ys.size) (h2 : ∀ (k : Nat) (h : k < xs.size) (h' : k < ys.size), VRel ρ xs[k] ys[k])
      (g1 : us.size = vs.size) (g2 : ∀ (k : Nat) (h : k < us.size) (h' : k < vs.size), VRel ρ us[k] vs[k]) : VRel ρ (.func fn xs us) (.func fn ys vs)
  | nilFunc : VRel ρ .nilFunc .nilFunc
  | iface (t : TypeId) {v v' : Value} (h : VRel ρ v v') : VRel ρ (.iface t v) (.iface t v')
  | nilIface : VRel ρ .nilIface .nilIface
  | agg {xs ys : Array Value} (h1 : xs.size = ys.size) (h2 : ∀ (k : Nat) (h : k < xs.size) (h' : k < ys.size), VRel ρ xs[k] ys[k]) : VRel ρ (.agg xs) (.agg ys)
  | tuple {xs ys : Array Value} (h1 : xs.size = ys.size) (h2 : ∀ (k : Nat) (h : k < xs.size) (h' : k < ys.size), VRel ρ xs[k] ys[k]) : VRel ρ (.tuple xs) (.tuple ys)

theorem VRel.mono {ρ ρ' : Rho} (hle : ρ.le ρ') {v v' : Value} (h : VRel ρ v v') : VRel ρ' v v' := by
  induction h with
  | bool b => exact .bool b
  | int k n => exact .int k n
  | float k n => exact .float k n
  | complex k a b => exact .complex k a b
  | string s => exact .string s
  | ptrNil => exact .ptrNil
  | ptr h => exact .ptr (hle _ _ h)
  | sliceNil n c => exact .sliceNil n c
  | slice h hc => exact .slice (hle _ _ h) hc
  | sliceOff id off a c' => exact .sliceOff id off a c'
  | glob g => exact .glob g
  | mapNil => exact .mapNil
  | map h => exact .map (hle _ _ h)
  | func fn h1 _ g1 _ ih ih' => exact .func fn h1 ih g1 ih'
  | nilFunc => exact .nilFunc
  | iface t _ ih => exact .iface t ih
  | nilIface => exact .nilIface
  | agg h1 _ ih => exact .agg h1 ih
  | tuple h1 _ ih => exact .tuple h1 ih

/-- Arrays of values, place by place. -/
def ARel (ρ : Rho) (xs ys : Array Value) : Prop := xs.size = ys.size ∧ ∀ (k : Nat) (h : k < xs.size) (h' : k < ys.size), VRel ρ xs[k] ys[k]
theorem ARel.mono {ρ ρ' : Rho} (hle : ρ.le ρ') {xs ys : Array Value} (h : ARel ρ xs ys) : ARel ρ' xs ys := ⟨h.1, fun k a b => (h.2 k a b).mono hle⟩
theorem ARel.nil (ρ : Rho) : ARel ρ #[] #[] := ⟨rfl, fun k h => by simp at h⟩
theorem ARel.push {ρ : Rho} {xs ys : Array Value} {v v' : Value} (h : ARel ρ xs ys) (hv : VRel ρ v v') : ARel ρ (xs.push v) (ys.push v') := by
  refine ⟨by simp [h.1], fun k a b => ?_⟩
  simp only [Array.getElem_push]
  by_cases hk : k < xs.size
  · rw [dif_pos hk, dif_pos (h.1 ▸ hk)]; exact h.2 k hk _
  · rw [dif_neg hk, dif_neg (h.1 ▸ hk)]; exact hv
theorem ARel.append {ρ : Rho} {xs ys us vs : Array Value} (h : ARel ρ xs ys) (g : ARel ρ us vs) : ARel ρ (xs ++ us) (ys ++ vs) := by
  refine ⟨by simp [h.1, g.1], fun k a b => ?_⟩
  simp only [Array.getElem_append]
  by_cases hk : k < xs.size
  · rw [dif_pos hk, dif_pos (h.1 ▸ hk)]; exact h.2 k hk _
  · rw [dif_neg hk, dif_neg (h.1 ▸ hk)]
    simp only [Array.size_append] at a b
    have h1 := h.1
    have g1 := g.1
    have e : vs[k - ys.size]'(by omega) = vs[k - xs.size]'(by omega) := getElem_congr_idx (by rw [h1])
    rw [e]
    exact g.2 _ _ _
theorem ARel.set {ρ : Rho} {xs ys : Array Value} {v v' : Value} (h : ARel ρ xs ys) (i : Nat) (hv : VRel ρ v v') : ARel ρ (xs.setIfInBounds i v) (ys.setIfInBounds i v') := by
  refine ⟨by simp [h.1], fun k a b => ?_⟩
  have a' : k < xs.size := by simpa using a
  have b' : k < ys.size := by simpa using b
  rw [Array.getElem_setIfInBounds a', Array.getElem_setIfInBounds b']
  by_cases hk : i = k
  · rw [if_pos hk, if_pos hk]; exact hv
  · rw [if_neg hk, if_neg hk]; exact h.2 k _ _
theorem ARel.extract {ρ : Rho} {xs ys : Array Value} (h : ARel ρ xs ys) (i j : Nat) : ARel ρ (xs.extract i j) (ys.extract i j) := by
  refine ⟨by simp [h.1], fun k a b => ?_⟩
  simp only [Array.getElem_extract]
  exact h.2 _ _ _
theorem ARel.get? {ρ : Rho} {xs ys : Array Value} (h : ARel ρ xs ys) {i : Nat} {v : Value} (hv : xs[i]? = some v) : ∃ v', ys[i]? = some v' ∧ VRel ρ v v' := by
  obtain ⟨hi, rfl⟩ := Array.getElem?_eq_some_iff.1 hv
  exact ⟨ys[i]'(h.1 ▸ hi), Array.getElem?_eq_getElem _, h.2 i hi _⟩
theorem ARel.get_none {ρ : Rho} {xs ys : Array Value} (h : ARel ρ xs ys) {i : Nat} (hv : xs[i]? = none) : ys[i]? = none := by
  rw [Array.getElem?_eq_none_iff] at hv ⊢; rw [← h.1]; exact hv
theorem ARel.map {ρ : Rho} {α : Type} (l : Array α) (f g : α → Value) (h : ∀ x ∈ l, VRel ρ (f x) (g x)) : ARel ρ (l.map f) (l.map g) :=
  ⟨by simp, fun k a b => by simp only [Array.getElem_map]; exact h _ (Array.getElem_mem _)⟩

theorem VRel.cells {ρ : Rho} {v v' : Value} (h : VRel ρ v v') : ARel ρ v.cells v'.cells := by
  cases h with
  | agg h1 h2 => exact ⟨h1, h2⟩
  | _ => refine ⟨rfl, fun k a b => ?_⟩; (simp only [Value.cells, List.size_toArray, List.length_singleton] at a; obtain rfl : k = 0 := by omega); simp only [Value.cells, List.getElem_toArray, List.getElem_cons_zero]; constructor <;> assumption
theorem VRel.one {ρ : Rho} {v v' : Value} (h : VRel ρ v v') : v.oneCell' = v'.oneCell' := by cases h <;> rfl

def cleanC : Value → Bool
  | .bool _ | .int _ _ | .float _ _ | .complex _ _ _ | .string _ | .pointer none | .slice none _ _ | .map none | .nilFunc | .nilIface => true
  | _ => false
/-- The entries of a map, one by one: keys without addresses. -/
def ERel (ρ : Rho) (es fs : Array MapEntry) : Prop :=
  es.size = fs.size ∧ ∀ (k : Nat) (h : k < es.size) (h' : k < fs.size), es[k].key = fs[k].key ∧ cleanC es[k].key = true ∧ VRel ρ es[k].val fs[k].val ∧ es[k].born = fs[k].born
theorem ERel.mono {ρ ρ' : Rho} (hle : ρ.le ρ') {es fs : Array MapEntry} (h : ERel ρ es fs) : ERel ρ' es fs :=
  ⟨h.1, fun k a b => ⟨(h.2 k a b).1, (h.2 k a b).2.1, (h.2 k a b).2.2.1.mono hle, (h.2 k a b).2.2.2⟩⟩

/-- Real blocks that nothing may turn, and virtual ones that have no real block yet. -/
structure Base where
  U : Nat → Prop
  H : Nat → Prop
  Ro : Nat → Prop
structure Keeps (U : Nat → Prop) (w w' : World) : Prop where
  os : w'.os = w.os
  tape : w'.tape = w.tape
  output : w'.output = w.output
  size : w.heap.size ≤ w'.heap.size
  block : ∀ k, U k → w'.heap[k]? = w.heap[k]?
theorem Keeps.refl (U : Nat → Prop) (w : World) : Keeps U w w := ⟨rfl, rfl, rfl, Nat.le_refl _, fun _ _ => rfl⟩
theorem Keeps.trans {U : Nat → Prop} {a b c : World} (h : Keeps U a b) (k : Keeps U b c) : Keeps U a c :=
  ⟨k.os.trans h.os, k.tape.trans h.tape, k.output.trans h.output, Nat.le_trans h.size k.size, fun i hi => (k.block i hi).trans (h.block i hi)⟩
theorem Keeps.mono {U V : Nat → Prop} {a b : World} (h : Keeps U a b) (hUV : ∀ k, V k → U k) : Keeps V a b := ⟨h.os, h.tape, h.output, h.size, fun k hk => h.block k (hUV k hk)⟩
theorem Keeps.of_below {U : Nat → Prop} {n : Nat} {a b : World} (h : Below n a b) (hU : ∀ k, U k → k < n) : Keeps U a b := ⟨h.os, h.tape, h.output, h.size, fun k hk => h.block k (hU k hk)⟩
theorem Keeps.setCell {U : Nat → Prop} {a w : World} (h : Keeps U a w) {p : Addr} (hp : ¬ U p.block) (u : Value) : Keeps U a (w.setCell p u) :=
  h.trans ⟨rfl, rfl, rfl, by simp [World.setCell], fun k hk => Below.heap_setCell _ _ _ _ (fun e => hp (e ▸ hk))⟩
structure BlkRel (ρ : Rho) (w : World) (B0 : Base) (b : Blk) (i : Info) (cs : Array Value) (fz : Nat × Nat) : Prop where
  at_ : w.heap[i.b]? = some (.cells cs b.elem fz)
  len : i.o + b.cells.size ≤ cs.size
  cells : ∀ (k : Nat) (h : k < b.cells.size) (h' : i.o + k < cs.size), VRel ρ b.cells[k] cs[i.o + k]
  ro : b.fl = .ro → (B0.U i.b ∧ B0.Ro i.b) ∧ i.kind = .ro ∧ (b.kin = true → i.b = b.root ∧ i.o = 0)
  mine : b.fl ≠ .ro → ¬ B0.U i.b ∧ i.tot = cs.size ∧ (b.fl ≠ .old → ∀ k, k < cs.size → ¬ (fz.1 ≤ k ∧ k < fz.2))
  ex : b.fl = .ex → i.kind = .ex ∧ i.o = 0 ∧ b.cells.size = cs.size
  gr : b.fl = .tip ∨ b.fl = .old → i.kind = .gr ∧ i.esz = b.esz

def Kin (o1 o2 : VObj) (i1 i2 : Info) : Prop :=
  match o1, o2 with
  | .cells b1, .cells b2 => b1.root = b2.root ∧ b1.fl ≠ .ex ∧ b2.fl ≠ .ex ∧ (b1.fl = .tip → b2.fl = .old ∧ b1.kin = true ∧ i2.o + b2.cells.size ≤ i1.o + b1.cells.size)
  | _, _ => False

structure WRel (ρ : Rho) (σ : VHeap) (w0 w : World) (B0 : Base) : Prop where
  dom : ∀ id, σ.size ≤ id → ρ id = none
  blk : ∀ id b, σ[id]? = some (.cells b) → b.fl ≠ .dead → ∃ i cs fz, ρ id = some i ∧ BlkRel ρ w B0 b i cs fz
  map : ∀ id es c, σ[id]? = some (.map es c) → ∃ i fs, ρ id = some i ∧ i.o = 0 ∧ ¬ B0.U i.b ∧ w.heap[i.b]? = some (.map fs c) ∧ ERel ρ es fs
  rmap : ∀ id es c, σ[id]? = some (.rmap es c) → ∃ i fs, ρ id = some i ∧ i.o = 0 ∧ (B0.U i.b ∧ B0.Ro i.b) ∧ w.heap[i.b]? = some (.map fs c) ∧ ERel ρ es fs
  iter : ∀ id s p, σ[id]? = some (.iter s p) → ∃ i, ρ id = some i ∧ i.o = 0 ∧ ¬ B0.U i.b ∧ w.heap[i.b]? = some (.stringIter s p)
  sep : ∀ id1 id2 o1 o2 i1 i2, id1 ≠ id2 → σ[id1]? = some o1 → σ[id2]? = some o2 → o1.own = true → o2.own = true → ρ id1 = some i1 → ρ id2 = some i2 → i1.b = i2.b → Kin o1 o2 i1 i2
  base : ∀ k, B0.U k → k < w.heap.size
  below : Keeps B0.U w0 w
  hole : ∀ id, B0.H id → ρ id = none ∧ id < σ.size
end Vm
end Go.Proofs.YtdbdmgmenojcaaaDoor
