/- A reader over the input of a world: Next, Ended, New; the law's reader of a text. -/
import Derived.Test.YtdbdmgmenojcaaaDoorG18
import Derived.Test.YtdbdmgmenojcaaaDoorG5
import Derived.Test.YtdbdmgmenojcaaaDoorG17
import Derived.Test.YtdbdmgmenojcaaaDoorG23
set_option linter.unusedVariables false
set_option linter.unusedSimpArgs false
namespace Go.Proofs.YtdbdmgmenojcaaaDoor
open Go.RowKit Wd
section
variable {X : Nat → Prop} {w0 w : World} {rb pb : Nat} {left stdin : ByteArray} {fin ended : Bool}
set_option maxRecDepth 20000 in
theorem rd_next2 (h : RdS X w0 w rb pb left stdin fin ended) (hsh : w0.ShapedOpen Tryd.prog) :
    Calls Tryd.prog 30 #[.pointer (some ⟨rb, 0, none⟩), .string ⟨#[]⟩] w (NextPost X w0 rb pb (fun _ => ended) w (Told2 (left.data.toList ++ stdin.data.toList))) := by
  have hb1 : Below w.heap.size w ((w.alloc (.cells #[.pointer (some ⟨rb, 0, none⟩)] 22)).alloc (.cells #[.string ⟨#[]⟩] 9)) := ((Below.refl _ _).alloc (Nat.le_refl _) _).alloc (by simp) _
  have HB1 := Lib.hid hb1
  have HR1 := Lib.hid (h.pure hb1)
  have HSH := Lib.hid hsh
  clear hb1 h hsh
  go_enter Tryd.func30, Tryd.ntmps30
  go_wp2_with fail
  generalize (w.alloc (.cells #[.pointer (some ⟨rb, 0, none⟩)] 22)).alloc (.cells #[.string ⟨#[]⟩] 9) = w1 at *
  refine (rd_para HR1.out HSH.out).mono ?_
  rintro e w2 ⟨l', s', fn', t, ok, rfl, hr, ht, hp⟩
  have HR := Lib.hid hr
  have HT := Lib.hid ((Tur.of_gr (F := fun g => ¬ X g) HB1.out).trans ht (fun i _ hi => hi))
  have HP := Lib.hid hp
  clear hr ht hp
  go_wp2_with fail
  go_ret3
  exact ⟨l', s', fn', t, ok, rfl, HR.out, HT.out, HP.out⟩
set_option maxRecDepth 20000 in
theorem rd_Next {rs : ByteArray} {P : List UInt8 → Bool → List UInt8 → Prop} (h : RdS X w0 w rb pb left stdin fin ended) (hn : Calls Tryd.prog 30 #[.pointer (some ⟨rb, 0, none⟩), .string rs] w (NextPost X w0 rb pb (fun _ => ended) w P)) :
    Calls Tryd.prog 8 #[.pointer (some ⟨rb, 0, none⟩), .string rs] w (NextPost X w0 rb pb (fun ok => !ok) w P) := by
  obtain ⟨⟨y0, y1, y2, y3, y4, y5⟩, z3, z4, z5⟩ := h.cells
  have HN := Lib.hid hn
  clear y1 y2 y3 y4 y5 z3 z4 z5 h hn
  go_enter Tryd.func8, Tryd.ntmps8
  go_wp2_with fail
  refine HN.out.mono ?_
  rintro e w2 ⟨l', s', fn', t, ok, rfl, hr, ht, hp⟩
  obtain ⟨⟨y0', y1, y2, y3, y4, y5⟩, z3, z4, z5⟩ := hr.cells
  have HR := Lib.hid (hr.setEnded (!ok))
  have HT := Lib.hid (ht.trans (hr.turSet 5 (.bool (!ok))) (fun i _ hi => hi))
  have HP := Lib.hid hp
  clear y0' y1 y2 y3 y4 z3 z4 hr ht hp
  go_wp2_with fail
  go_ret3
  exact ⟨l', s', fn', t, ok, rfl, HR.out, HT.out, HP.out⟩
theorem rd_Next2 (h : RdS X w0 w rb pb left stdin fin ended) (hsh : w0.ShapedOpen Tryd.prog) :
    Calls Tryd.prog 8 #[.pointer (some ⟨rb, 0, none⟩), .string ⟨#[]⟩] w (NextPost X w0 rb pb (fun ok => !ok) w (Told2 (left.data.toList ++ stdin.data.toList))) := rd_Next h (rd_next2 h hsh)
theorem rd_Next1 (h : RdS X w0 w rb pb left stdin fin ended) (hsh : w0.ShapedOpen Tryd.prog) (rs : ByteArray) (b : UInt8) (hn : 0 < rs.size) (hb : rs[0] = b) :
    Calls Tryd.prog 8 #[.pointer (some ⟨rb, 0, none⟩), .string rs] w (NextPost X w0 rb pb (fun ok => !ok) w (Told1 b (left.data.toList ++ stdin.data.toList))) := rd_Next h (rd_next1 h hsh rs b hn hb)
theorem rd_Ended (h : RdS X w0 w rb pb left stdin fin ended) :
    Calls Tryd.prog 9 #[.pointer (some ⟨rb, 0, none⟩)] w fun e w' => e = .returned (.bool ended) ∧ w' = w := by
  obtain ⟨⟨y0, y1, y2, y3, y4, y5⟩, z3, z4, z5⟩ := h.cells
  clear y0 y1 y2 y3 y4 z3 z4 z5 h
  go_enter Tryd.func9, Tryd.ntmps9
  go_wp2_with fail
  go_ret
  exact ⟨rfl, rfl⟩
end
def ofSt (s : ByteArray) : St := ⟨4, 0, filesOf [], s, [], 0, [], [], []⟩
theorem of_open (s : ByteArray) : openL (ofSt s) 1 minus = (okSt (ofSt s) 1 minus, 0) := rfl
set_option maxRecDepth 20000 in
theorem rd_new {w0 w : World} {F : Nat → Prop} {pb : Nat} {M : Mem} {s : ByteArray} (h : WAt w F pb M (ofSt s)) (hb : Below w0.heap.size w0 w) (hF : ∀ g, F g → w0.heap.size ≤ g) (hm : M.m ≤ 9) (hs : s.size ≤ 5000) :
    Calls Tryd.prog 14 #[.pointer (some ⟨pb, 0, none⟩), .int .u8 1, .string minus] w fun e w' => ∃ rb, e = .returned (.tuple #[.pointer (some ⟨rb, 0, none⟩), .int .i64 0]) ∧ RdS (fun _ => False) w0 w' rb pb ⟨#[]⟩ s false false := by
  have HH := Lib.hid h
  have HB := Lib.hid hb
  have HF := Lib.hid hF
  clear h hb hF
  go_enter Tryd.func14, Tryd.ntmps14
  go_wp2_with fail
  refine (wo_open HH.out 1 minus (by decide) (by exact Nat.zero_le _) (by exact Nat.zero_le _) (by exact Nat.zero_le _) (by exact Nat.zero_le _) (by omega)).mono ?_
  rintro e w2 ⟨M', F', rfl, hW, ht, hF', hm'⟩
  rw [of_open] at hW
  rw [of_open]
  have HW := Lib.hid hW
  have HB2 := Lib.hid (HB.out.trans (ht.below w0.heap.size HB.out.size (fun k hk e => by have := HF.out k e; omega)))
  have HF2 : Hid (∀ g, F' g → w0.heap.size ≤ g) := fun g hg => by
    rcases hF' g hg with e | e
    · exact HF.out g e
    · have := HB.out.size; omega
  clear hW ht hF' hm'
  go_wp2_with fail
  go_ret2
  refine ⟨w2.heap.size, rfl, ?_⟩
  have hb3 : Below w2.heap.size w2 (w2.alloc (.cells (rcells pb ⟨#[]⟩ false false) 26)) := (Below.refl _ _).alloc (Nat.le_refl _) _
  exact {
    wat := ⟨M', F', _, HW.out.pure hb3, HF2.out, fun _ _ h => h, fun e => by have := HW.out.flt _ e; omega, rfl, rfl, rfl, Nat.le_of_ble_eq_true rfl, Nat.zero_le _⟩
    below := HB2.out.trans (hb3.mono HB2.out.size)
    rd := Blk.new w2 _ _
    rb0 := HB2.out.size
    rbx := fun h => h
    xs := fun _ h => h.elim
    size := by show 0 + s.size ≤ 5000; omega
    fin0 := fun h => by cases h }
set_option maxRecDepth 20000 in
theorem rd_of {w : World} {s : ByteArray} (hs : s.size ≤ 5000) :
    Calls Tryd.prog 22 #[.string s] w fun e w' => ∃ rb pb, e = .returned (.tuple #[.pointer (some ⟨pb, 0, none⟩), .pointer (some ⟨rb, 0, none⟩)]) ∧ RdS (fun _ => False) w w' rb pb ⟨#[]⟩ s false false := by
  go_enter Tryd.func22, Tryd.ntmps22
  go_wp2_with fail
  refine (wo_newE s 4 (by omega)).mono ?_
  rintro e w2 ⟨pb, M, F, rfl, h2, hb2, hF2, hm2⟩
  have H2 : Hid (WAt w2 F pb M (ofSt s)) := h2
  have HB2 := Lib.hid hb2
  have HF2 := Lib.hid hF2
  clear h2 hb2 hF2
  go_wp2_with fail
  refine (rd_new H2.out HB2.out HF2.out (by omega) hs).mono ?_
  rintro e w3 ⟨rb, rfl, hr⟩
  have HR := Lib.hid hr
  clear hr
  go_wp2_with fail
  go_ret2
  exact ⟨rb, pb, rfl, HR.out⟩
end Go.Proofs.YtdbdmgmenojcaaaDoor
namespace Go.Proofs.YtdbdmgmenojcaaaDoor
open Go.RowKit Wd
theorem told_of1 {b : UInt8} {r T t T' : List UInt8} {ok : Bool} (h : Told1 b T t ok T') : (t, ok, T') = tellT (b :: r) T := by
  rcases h with ⟨rfl, rfl, rfl, rfl⟩ | ⟨h, rfl, rfl, rfl⟩
  · rfl
  · unfold tellT
    simp only
    rw [if_neg h]
theorem told_of2 {T t T' : List UInt8} {ok : Bool} (h : Told2 T t ok T') : (t, ok, T') = tellT [] T := by
  obtain ⟨rfl, rfl, rfl⟩ := h
  rfl
theorem rd_NextT {X : Nat → Prop} {w0 w : World} {rb pb : Nat} {left stdin : ByteArray} {fin ended : Bool} (h : RdS X w0 w rb pb left stdin fin ended) (hsh : w0.ShapedOpen Tryd.prog) (rs : ByteArray) :
    Calls Tryd.prog 8 #[.pointer (some ⟨rb, 0, none⟩), .string rs] w (NextPost X w0 rb pb (fun ok => !ok) w (fun t ok T' => (t, ok, T') = tellT rs.data.toList (left.data.toList ++ stdin.data.toList))) := by
  cases hs : rs.data.toList with
  | nil =>
    have e : rs = ⟨#[]⟩ := by apply ByteArray.ext; apply Array.toList_inj.1; exact hs
    rw [e]
    refine (rd_Next2 h hsh).mono ?_
    rintro e w' ⟨l', s', fn', t, ok, h1, h2, h3, h4⟩
    exact ⟨l', s', fn', t, ok, h1, h2, h3, told_of2 h4⟩
  | cons b r =>
    have hz : 0 < rs.size := by
      have := congrArg List.length hs
      have e : rs.data.toList.length = rs.size := rfl
      simp at this
      omega
    have hb : rs[0] = b := by
      have h0 : rs.data.toList[0]? = some b := by rw [hs]; rfl
      rw [Array.getElem?_toList, Array.getElem?_eq_getElem (show 0 < rs.data.size from hz)] at h0
      exact Option.some.inj h0
    refine (rd_Next1 h hsh rs b hz hb).mono ?_
    rintro e w' ⟨l', s', fn', t, ok, h1, h2, h3, h4⟩
    exact ⟨l', s', fn', t, ok, h1, h2, h3, told_of1 h4⟩
def allF (rs : List UInt8) : List ByteArray → List UInt8 → Bool
  | [], T => decide ((tellT rs T).1 = [] ∧ (tellT rs T).2.1 = false)
  | x :: xs, T => decide ((tellT rs T).1 = x.data.toList ∧ (tellT rs T).2.1 = true) && allF rs xs (tellT rs T).2.2
theorem all_one {rs : List UInt8} {want : List ByteArray} {i : Nat} {T t T' : List UInt8} {ok : Bool} (h : allF rs (want.drop i) T = true) (hi : i < want.length) (ht : (t, ok, T') = tellT rs T) : want[i] = ⟨t.toArray⟩ ∧ ok = true ∧ allF rs (want.drop (i + 1)) T' = true := by
  rw [List.drop_eq_getElem_cons hi] at h
  unfold allF at h
  rw [← ht] at h
  simp only [Bool.and_eq_true, decide_eq_true_eq] at h
  refine ⟨?_, h.1.2, h.2⟩
  rw [h.1.1]
theorem all_end {rs : List UInt8} {want : List ByteArray} {i : Nat} {T t T' : List UInt8} {ok : Bool} (h : allF rs (want.drop i) T = true) (hi : ¬ i < want.length) (ht : (t, ok, T') = tellT rs T) : t = [] ∧ ok = false := by
  rw [List.drop_eq_nil_of_le (by omega)] at h
  unfold allF at h
  rw [← ht] at h
  simpa using h
set_option maxRecDepth 20000 in
set_option maxHeartbeats 4000000 in
theorem rd_all {w : World} (s rs : ByteArray) (want : List ByteArray) (g : Nat) (hs : s.size ≤ 5000) (hsh : w.ShapedOpen Tryd.prog) (hg : Blk w g 9 (svals want).toArray) (hn : want.length ≤ 100) (hok : allF rs.data.toList want s.data.toList = true) :
    Calls Tryd.prog 29 #[.string s, .string rs, .slice (some ⟨g, 0, none⟩) want.length want.length] w fun e w' => e = .returned (.bool true) ∧ Below w.heap.size w w' := by
  have HSH := Lib.hid hsh
  have HG := Lib.hid hg
  have HOK := Lib.hid hok
  clear hsh hg hok
  go_enter Tryd.func29, Tryd.ntmps29
  go_wp2_with fail
  refine (rd_of (w := w) hs).mono ?_
  rintro e w2 ⟨rb, pb, rfl, hr⟩
  have HR := Lib.hid hr
  clear hr
  go_wp2_with fail
  go_loopw [9] (fun iv wr => ∃ (i : Nat) (left stdin : ByteArray) (fin ended : Bool), iv = .int .i64 i ∧ i ≤ want.length ∧ RdS (fun _ => False) w wr rb pb left stdin fin ended ∧ allF rs.data.toList (want.drop i) (left.data.toList ++ stdin.data.toList) = true) (fun iv _ => want.length - (intOf iv).toNat)
  case atStart => exact ⟨0, ⟨#[]⟩, s, false, false, rfl, Nat.zero_le _, HR.out, by simpa using HOK.out⟩
  case round =>
    obtain ⟨i, left, stdin, fin, ended, rfl, hi, hr, hok⟩ := hrel
    have HR2 := Lib.hid hr
    have HOK2 := Lib.hid hok
    clear hr hok
    by_cases hlt : i < want.length
    · go_wp2_with fail
      refine (rd_NextT HR2.out HSH.out rs).mono ?_
      rintro e w3 ⟨l', s', fn', t, ok, rfl, hr3, -, htold⟩
      obtain ⟨hx, rfl, hok3⟩ := all_one HOK2.out hlt htold
      have c0 : w3.cell? ⟨g, i, none⟩ = some (.string ⟨t.toArray⟩) := by
        rw [hr3.below.cell (p := ⟨g, i, none⟩) HG.out.lt, HG.out.cell i, ← hx]
        simp [svals, hlt]
      have HR3 := Lib.hid hr3
      have HOK3 := Lib.hid hok3
      clear hr3 hok3 htold hx
      go_wp2_with fail
      go_roundw
      case rel => exact ⟨i + 1, l', s', fn', _, by go_num, by omega, HR3.out, HOK3.out⟩
      case measure => simp [intOf]; omega
    · go_wp2_with fail
      refine (rd_NextT HR2.out HSH.out rs).mono ?_
      rintro e w3 ⟨l', s', fn', t, ok, rfl, hr3, -, htold⟩
      obtain ⟨rfl, rfl⟩ := all_end HOK2.out hlt htold
      have HR3 := Lib.hid hr3
      clear hr3 htold
      go_wp2_with fail
      refine (rd_Ended HR3.out).mono ?_
      rintro e w4 ⟨rfl, rfl⟩
      go_wp2_with fail
      go_ret
      exact ⟨rfl, HR3.out.below⟩
theorem told_is {rs T t T' : List UInt8} {ok : Bool} (h : (t, ok, T') = tellT rs T) {a c : List UInt8} {b : Bool} (h2 : tellT rs T = (a, b, c)) : t = a ∧ ok = b ∧ T' = c := by
  rw [h2] at h
  injection h with h1 h3
  injection h3 with h3 h4
  exact ⟨h1, h3, h4⟩
set_option maxRecDepth 20000 in
set_option maxHeartbeats 4000000 in
theorem l_awake {w : World} (hsh : w.ShapedOpen Tryd.prog) : Calls Tryd.prog 10 #[] w fun e w' => e = .returned (.bool true) ∧ Below w.heap.size w w' := by
  have HSH := Lib.hid hsh
  clear hsh
  go_enter Tryd.func10, Tryd.ntmps10
  go_wp2_with fail
  refine (rd_of (w := w) (s := ⟨#[97, 98, 44, 99, 10, 100]⟩) (by decide)).mono ?_
  rintro e w2 ⟨rb, pb, rfl, hr⟩
  have HR := Lib.hid hr
  clear hr
  go_wp2_with fail
  refine (rd_NextT HR.out HSH.out ⟨#[44]⟩).mono ?_
  rintro e w3 ⟨l1, s1, fn1, t, ok, rfl, hr3, -, htold⟩
  obtain ⟨rfl, rfl, hT1⟩ := told_is htold (a := [97, 98]) (b := true) (c := [99, 10, 100]) (by decide)
  have HR3 := Lib.hid hr3
  have HT1 := Lib.hid hT1
  clear hr3 htold hT1
  go_wp2_with fail
  refine (rd_NextT HR3.out HSH.out ⟨#[10]⟩).mono ?_
  rintro e w4 ⟨l2, s2, fn2, t, ok, rfl, hr4, -, htold⟩
  rw [HT1.out] at htold
  obtain ⟨rfl, rfl, hT2⟩ := told_is htold (a := [99]) (b := true) (c := [100]) (by decide)
  have HR4 := Lib.hid hr4
  have HT2 := Lib.hid hT2
  clear hr4 htold hT2
  go_wp2_with fail
  refine (rd_NextT HR4.out HSH.out ⟨#[10]⟩).mono ?_
  rintro e w5 ⟨l3, s3, fn3, t, ok, rfl, hr5, -, htold⟩
  rw [HT2.out] at htold
  obtain ⟨rfl, rfl, hT3⟩ := told_is htold (a := [100]) (b := true) (c := []) (by decide)
  have HB5 := Lib.hid hr5.below
  clear hr5 htold hT3 HR4 HR3 HR HT1 HT2
  go_wp2_with fail
  have HS6 := Lib.hid (HB5.out.alloc HB5.out.size (.cells #[.string ⟨#[97]⟩, .string ⟨#[98]⟩, .string ⟨#[]⟩, .string ⟨#[99]⟩] 9))
  refine (rd_all ⟨#[97, 58, 98, 58, 58, 99]⟩ ⟨#[58]⟩ [⟨#[97]⟩, ⟨#[98]⟩, ⟨#[]⟩, ⟨#[99]⟩] w5.heap.size (by decide) (shaped_below HSH.out HS6.out) (Blk.new w5 _ _) (by decide) (by decide)).mono ?_
  rintro e w6 ⟨rfl, hb6⟩
  have HB6 := Lib.hid (HS6.out.trans (hb6.mono HS6.out.size))
  clear hb6 HS6 HB5
  go_wp2_with fail
  have HS7 := Lib.hid (HB6.out.alloc HB6.out.size (.cells #[.string ⟨#[120]⟩] 9))
  refine (rd_all ⟨#[120, 10]⟩ ⟨#[10]⟩ [⟨#[120]⟩] w6.heap.size (by decide) (shaped_below HSH.out HS7.out) (Blk.new w6 _ _) (by decide) (by decide)).mono ?_
  rintro e w7 ⟨rfl, hb7⟩
  have HB7 := Lib.hid (HS7.out.trans (hb7.mono HS7.out.size))
  clear hb7 HS7 HB6
  go_wp2_with fail
  have HS8 := Lib.hid (HB7.out.alloc HB7.out.size (.cells #[.string ⟨#[97, 10, 98]⟩, .string ⟨#[99]⟩] 9))
  refine (rd_all ⟨#[10, 10, 97, 10, 98, 10, 10, 10, 99, 10]⟩ ⟨#[]⟩ [⟨#[97, 10, 98]⟩, ⟨#[99]⟩] w7.heap.size (by decide) (shaped_below HSH.out HS8.out) (Blk.new w7 _ _) (by decide) (by decide)).mono ?_
  rintro e w8 ⟨rfl, hb8⟩
  have HB8 := Lib.hid (HS8.out.trans (hb8.mono HS8.out.size))
  clear hb8 HS8 HB7
  go_wp2_with fail
  go_ret
  exact ⟨rfl, HB8.out⟩
end Go.Proofs.YtdbdmgmenojcaaaDoor
namespace Go.Proofs.YtdbdmgmenojcaaaDoor
open Go.RowKit Wd
set_option maxRecDepth 100000 in
theorem l_rplays {H1 H2 : Type} {enc1 : TypeId × Value → H1} {enc2 : TypeId × Value → H2} {base1 base2 : Nat} {d1 : DataW H1} {d2 : DataW H2} {p1 p2 : List MemPlace} {spare1 spare2 : Nat → Bool} {held1 held2 : Bool} {r1 r2} (v0 v1 : Value) (w : World) (hsh : w.ShapedOpen Tryd.prog)
    (hval0 : Value.okWide Tryd.prog w r1 base1 38 v0) (k0 : DataW.Trod enc1 Tryd.prog w 0 spare1 held1 38 v0 d1 p1)
    (hval1 : Value.okWide Tryd.prog w r2 base2 39 v1) (k1 : DataW.Trod enc2 Tryd.prog w 0 spare2 held2 39 v1 d2 p2) :
    Calls Tryd.prog 4 #[v0, v1] w fun e w' => e = .returned (.bool true) ∧ Below w.heap.size w w' := by
  obtain ⟨s, rfl, h⟩ := scr_open hval0 k0
  obtain ⟨A, n, cap, xs, rfl, hx, hc, hcm⟩ := rops_open hval1 k1
  exact l_rplays' (fun wr hb => l_awake (shaped_below hsh hb)) hsh h A n cap xs hx hc hcm
end Go.Proofs.YtdbdmgmenojcaaaDoor
