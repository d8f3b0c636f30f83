/- WorldPlays: the law's own walk. -/
import Derived.Test.YtodjjnklelfgfaaG19
import Derived.Test.YtodjjnklelfgfaaG10
import Derived.Test.YtodjjnklelfgfaaG28
set_option linter.unusedVariables false
set_option linter.unusedSimpArgs false
namespace Go.Proofs.Ytodjjnklelfgfaa
open Go.RowKit Wd
set_option maxRecDepth 100000 in
/-- ShortScript where a row is too long. -/
theorem w_shortL {w : World} {A1 A2 A3 : Option Addr} {n1 n2 n3 cap1 cap2 cap3 : Nat} (stdin : ByteArray) (lim clock ch : Int) (c b : Nat) (hc1 : n1 ≤ cap1) (hc2 : n2 ≤ cap2) (hc3 : n3 ≤ cap3) (hd1 : cap1 ≤ maxLen) (hd2 : cap2 ≤ maxLen) (hd3 : cap3 ≤ maxLen) (hst : stdin.size ≤ maxLen) (hc : c ≤ 1000) (hb : b ≤ 100000) (hl : c < n1 ∨ c < n2 ∨ c < n3) :
    Calls Try.prog 25 #[.agg #[.slice A1 n1 cap1, .string stdin, .slice A2 n2 cap2, .slice A3 n3 cap3, .int .i64 lim, .int .i64 clock, .int .u64 ch], .int .i64 c, .int .i64 b] w fun e w' => e = .returned (.bool false) ∧ Below w.heap.size w w' := by
  have HB := Lib.hid ((Below.refl w.heap.size w).alloc (Nat.le_refl _) (.cells #[.slice A1 n1 cap1, .string stdin, .slice A2 n2 cap2, .slice A3 n3 cap3, .int .i64 lim, .int .i64 clock, .int .u64 ch] 53))
  have k1 : cap1 < 9223372036854775808 := by unfold maxLen at hd1; omega
  have k2 : cap2 < 9223372036854775808 := by unfold maxLen at hd2; omega
  have k3 : cap3 < 9223372036854775808 := by unfold maxLen at hd3; omega
  have hst2 : stdin.size < 9223372036854775808 := by unfold maxLen at hst; omega
  have hways : (c < n1) ∨ (¬ c < n1 ∧ c < n2) ∨ (¬ c < n1 ∧ ¬ c < n2 ∧ c < n3) := by omega
  rcases hways with h1 | ⟨h1, h2⟩ | ⟨h1, h2, h3⟩
  · go_enter Try.func25, Try.ntmps25
    go_wp2_with fail
    go_ret
    exact ⟨rfl, HB.out⟩
  · go_enter Try.func25, Try.ntmps25
    go_wp2_with fail
    go_ret
    exact ⟨rfl, HB.out⟩
  · go_enter Try.func25, Try.ntmps25
    go_wp2_with fail
    go_ret
    exact ⟨rfl, HB.out⟩
def rsOf (s : ScrV) : RSt := rst0 s.files s.reps s.fls s.stdin s.lim s.clock s.ch
/-- ShortScript of any script that came in. -/
theorem w_shortA {w : World} {s : ScrV} (h : ScrAt w s) : Calls Try.prog 25 #[s.val, .int .i64 8, .int .i64 200] w fun e w' => e = .returned (.bool (shortB s.files s.reps s.fls s.stdin 8 200)) ∧ Below w.heap.size w w' := by
  by_cases hl : 8 < s.n1 ∨ 8 < s.n2 ∨ 8 < s.n3
  · have e : shortB s.files s.reps s.fls s.stdin 8 200 = false := by
      unfold shortB
      rw [h.l1, h.l2, h.l3, decide_eq_false (by omega)]
      rfl
    rw [e]
    exact w_shortL s.stdin s.lim s.clock s.ch 8 200 h.r1.2.1 h.r2.2.1 h.r3.2.1 h.r1.2.2.1 h.r2.2.2.1 h.r3.2.2.1 h.zs (by decide) (by decide) hl
  · have r1 := h.r1.row (by omega)
    have r2 := h.r2.row (by omega)
    have r3 := h.r3.row (by omega)
    obtain ⟨A1, n1, c1, A2, n2, c2, A3, n3, c3, fs, rs, ls, stdin, lim, clock, ch⟩ := s
    obtain ⟨l1, l2, l3, -, -, -, z1, z2, z3, zs, -, -, -⟩ := h
    simp only at l1 l2 l3
    subst l1 l2 l3
    exact w_short fs rs ls stdin lim clock ch 8 200 r1 r2 r3 zs z1 z2 z3 (by decide) (by decide)
/-- The program's New of a short script that came in. -/
theorem wo_newS {w : World} {s : ScrV} (h : ScrAt w s) (hs : shortB s.files s.reps s.fls s.stdin 8 200 = true) :
    Calls Try.prog 15 #[s.val] w (NewPP w ⟨s.lim, s.clock, filesOf s.files, s.stdin, [], s.ch, [], s.reps, s.fls⟩ s.n1 (newB s.files s.reps s.lim)) := by
  have hs' := hs
  unfold shortB at hs'
  simp only [Bool.and_eq_true, decide_eq_true_eq] at hs'
  obtain ⟨⟨⟨⟨h1, h2, h3, -⟩, -⟩, -⟩, -⟩ := hs'
  rw [h.l1] at h1
  rw [h.l2] at h2
  rw [h.l3] at h3
  exact wo_newG s.files s.reps s.fls s.stdin s.lim s.clock s.ch h.l1.symm h.l2.symm h.l3.symm (h.r1.row (by omega)) (h.r2.row (by omega)) (h.r3.row (by omega)) h.r2.2.2.2.1 h.r3.2.2.2.1 (by omega) (by omega) (by omega) h.z1
theorem fw_newS {w w0 : World} {s : ScrV} (h : ScrAt w0 s) (hb : Below w0.heap.size w0 w) (hs : shortB s.files s.reps s.fls s.stdin 8 200 = true) :
    Calls Try.prog 26 #[s.val] w (NewRP (fun b => b < w0.heap.size) w (rsOf s) (newB s.files s.reps s.lim)) := by
  have hs' := hs
  unfold shortB at hs'
  simp only [Bool.and_eq_true, decide_eq_true_eq] at hs'
  obtain ⟨⟨⟨⟨h1, h2, h3, -⟩, -⟩, -⟩, -⟩ := hs'
  rw [h.l1] at h1
  rw [h.l2] at h2
  rw [h.l3] at h3
  have hk : ∀ b, b < w0.heap.size → b < w0.heap.size → w.heap[b]? = w0.heap[b]? := fun b hb' _ => hb.block b hb'
  exact fw_new s.files s.reps s.fls s.stdin s.lim s.clock s.ch h.l1.symm h.l2.symm h.l3.symm ((h.r1.row (by omega)).keep hb.size hk) ((h.r2.row (by omega)).keep hb.size hk) ((h.r3.row (by omega)).keep hb.size hk) h.r1.2.2.2.1 (by omega) (by omega) (by omega)
def ScrV.cells (s : ScrV) : Array Value := #[.slice s.A1 s.n1 s.c1, .string s.stdin, .slice s.A2 s.n2 s.c2, .slice s.A3 s.n3 s.c3, .int .i64 s.lim, .int .i64 s.clock, .int .u64 s.ch]
/-- In the law: the script's box at B, the document's world at V. -/
structure LW (w wr : World) (s : ScrV) (B V : Nat) (F : Nat → Prop) (pb : Nat) (M : Mem) (st : St) (K : Nat → Prop) (f : Fm) (rs : RSt) : Prop where
  below : Below w.heap.size w wr
  scr : Blk wr B 53 s.cells
  blk : Blk wr V 73 (fcells f rs)
  fB : ∀ g, F g → w.heap.size ≤ g ∧ g ≠ B ∧ g ≠ V
  kB : ∀ g, K g → g ≠ B ∧ g ≠ V
  hB : w.heap.size ≤ B ∧ w.heap.size ≤ V ∧ B ≠ V
  both : Both wr F pb M st K f rs
section
variable {w wr wx : World} {s : ScrV} {B V : Nat} {F F' K K' : Nat → Prop} {pb : Nat} {M M' : Mem} {st st' : St} {f f' : Fm} {rs rs' : RSt}
theorem LW.pure (h : LW w wr s B V F pb M st K f rs) (hb : Below wr.heap.size wr wx) : LW w wx s B V F pb M st (fun b => K b ∧ b < wr.heap.size) f rs :=
  ⟨h.below.trans (hb.mono h.below.size), below_blk h.scr hb h.scr.lt, below_blk h.blk hb h.blk.lt, h.fB, fun g hg => h.kB g hg.1, h.hB, h.both.pure hb⟩
/-- A call of one, and the store of the world that it hands back. -/
theorem LW.called (h : LW w wr s B V F pb M st K f rs) (hb : Both wx F' pb M' st' K' f' rs') (ht : Tur F wr wx) (hF : ∀ g, F' g → F g ∨ wr.heap.size ≤ g) (hK : ∀ g, K' g → K g ∨ wr.heap.size ≤ g) : LW w (put12 wx V f' rs') s B V F' pb M' st' (fun b => K' b ∧ b < wx.heap.size) f' rs' := by
  have l0 := h.scr.lt
  have l1 := h.blk.lt
  have l2 := h.below.size
  have hh := h.hB
  have hp := put12_tur wx V f' rs'
  have hF2 : ∀ g, F' g → w.heap.size ≤ g ∧ g ≠ B ∧ g ≠ V := fun g hg => by
    rcases hF g hg with h1 | h1
    · exact h.fB g h1
    · refine ⟨?_, ?_, ?_⟩ <;> omega
  have hK2 : ∀ g, K' g → g ≠ B ∧ g ≠ V := fun g hg => by
    rcases hK g hg with h1 | h1
    · exact h.kB g h1
    · refine ⟨?_, ?_⟩ <;> omega
  refine ⟨?_, ?_, ?_, hF2, fun g hg => hK2 g hg.1, h.hB, ?_, ?_, fun b _ hk hf => hb.apart b hk.2 hk.1 hf, hb.corr⟩
  · have h1 : Below w.heap.size w wx := h.below.trans (ht.below _ l2 (fun k hk e => by have := (h.fB k e).1; omega))
    exact h1.trans (hp.below _ h1.size (fun k hk e => by have e : k = V := e; omega))
  · exact (h.scr.keep ht (fun e => (h.fB _ e).2.1 rfl)).keep hp (fun e => hh.2.2 e)
  · exact (h.blk.keep ht (fun e => (h.fB _ e).2.2 rfl)).set12 _ _ _ _ _ _ _ _ _ _ _ _
  · exact hb.wat.keep hp.size (fun k hk e => hp.block k hk (fun e2 => (hF2 k e).2.2 e2))
  · exact RAt.keep (RAt.mono hb.rf (fun b hb hK => ⟨hK, hb⟩)) hp.size (fun b hb hK => hp.block b hb (fun e => (hK2 b hK.1).2 e))
end
theorem LW.start {w w2 w3 w4 : World} {s : ScrV} {B : Nat} {F : Nat → Prop} {pb : Nat} {M : Mem} {st : St} {f : Fm} {rs : RSt} (hB : B = w.heap.size) (hs : Blk w2 B 53 s.cells) (h2 : Below w.heap.size w w2) (h3 : Below w2.heap.size w2 w3) (h4 : Below w3.heap.size w3 w4) (hw : WAt w3 F pb M st) (hF : ∀ g, F g → w2.heap.size ≤ g)
    (hr : RF (Nw (fun b => b < w.heap.size) w3) w4 f rs) (hc : Corr st rs) : LW w (w4.alloc (.cells (fcells f rs) 73)) s B w4.heap.size F pb M st (fun g => Nw (fun b => b < w.heap.size) w3 g ∧ g < w4.heap.size) f rs := by
  have l0 := hs.lt
  have l2 := h2.size
  have l3 := h3.size
  have l4 := h4.size
  have hba := (Below.refl w4.heap.size w4).alloc (Nat.le_refl _) (.cells (fcells f rs) 73)
  have h5 : Below w.heap.size w w4 := (h2.trans (h3.mono l2)).trans (h4.mono (by omega))
  have s3 := below_blk hs h3 l0
  have s4 := below_blk s3 h4 s3.lt
  refine ⟨h5.alloc (by omega) _, below_blk s4 hba s4.lt, Blk.new w4 _ _, fun g hg => ?_, fun g hg => ?_, ⟨by omega, by omega, by omega⟩, (hw.pure h4).pure hba, ?_, fun b _ hK hf => ?_, hc⟩
  · have := hF g hg; have := hw.flt g hg
    refine ⟨?_, ?_, ?_⟩ <;> omega
  · obtain ⟨h1, h2'⟩ := hg
    rcases h1 with h1 | h1
    · refine ⟨?_, ?_⟩ <;> omega
    · refine ⟨?_, ?_⟩ <;> omega
  · exact RAt.pure (RAt.mono hr (fun b hb hK => ⟨hK, hb⟩)) hba
  · have := hF b hf; have := hw.flt b hf
    rcases hK.1 with h1 | h1 <;> omega
theorem RowL.keep {w w' : World} {A : Option Addr} {n cap sz : Nat} {cs : List Value} (h : RowL w A n cap sz cs) (hb : Below w.heap.size w w') : RowL w' A n cap sz cs :=
  ⟨h.1, h.2.1, h.2.2.1, h.2.2.2.1, fun hn => by
    obtain ⟨b, o, e1, e2, e3⟩ := h.2.2.2.2 hn
    exact ⟨b, o, e1, Nat.lt_of_lt_of_le e2 hb.size, fun i hi => (hb.cell (p := ⟨b, o + i, none⟩) e2).trans (e3 i hi)⟩⟩
theorem ScrAt.keep {w w' : World} {s : ScrV} (h : ScrAt w s) (hb : Below w.heap.size w w') : ScrAt w' s :=
  { h with r1 := h.r1.keep hb, r2 := h.r2.keep hb, r3 := h.r3.keep hb }
theorem find_nd : ∀ (l : List (ByteArray × ByteArray)) (_ : (l.map (·.1)).Nodup) (i : Nat) (hi : i < l.length), l.find? (isFile l[i].1) = some l[i]
  | [], _, i, hi => absurd hi (by simp)
  | p :: l, h, 0, _ => by simp [isFile]
  | p :: l, h, i + 1, hi => by
    rw [List.map_cons, List.nodup_cons] at h
    have hi' : i < l.length := by simpa using hi
    have e : (p :: l)[i + 1] = l[i] := rfl
    rw [e, List.find?_cons]
    have e2 : isFile l[i].1 p = false := by
      unfold isFile
      exact decide_eq_false (fun e2 => h.1 (List.mem_map.2 ⟨l[i], List.getElem_mem _, e2.symm⟩))
    rw [e2]
    exact find_nd l h.2 i hi'
theorem mem_ins {H : Type} {x p : Lit × DataW H} : ∀ l : List (Lit × DataW H), p ∈ DataW.insert x l → p = x ∨ p ∈ l
  | [] => fun h => by simp [DataW.insert] at h; exact .inl h
  | y :: r => fun h => by
    unfold DataW.insert at h
    split at h
    · rcases List.mem_cons.1 h with h | h
      · exact .inl h
      · exact .inr h
    · rcases List.mem_cons.1 h with h | h
      · exact .inr (by rw [h]; exact List.mem_cons_self)
      · rcases mem_ins r h with h | h
        · exact .inl h
        · exact .inr (List.mem_cons_of_mem _ h)
theorem mem_ins_all {H : Type} {p : Lit × DataW H} : ∀ l : List (Lit × DataW H), p ∈ l.foldr DataW.insert [] → p ∈ l
  | [] => fun h => h
  | y :: r => fun h => by
    rcases mem_ins _ h with h | h
    · rw [h]; exact List.mem_cons_self
    · exact List.mem_cons_of_mem _ (mem_ins_all r h)
/-- A key of a map is a text that fits. -/
theorem mapS_key {P : Program} {k e : TypeId} {w : World} {b m : Nat} {f : List UInt8 → Option Value} (hk : P.underlying k = some .string) (h : MapS P k e w b m f) {l : List UInt8} {v : Value} (hv : f l = some v) : l.length ≤ maxLen := by
  obtain ⟨D, ⟨es, clock, h1, hF, hn, rfl⟩, -, hh⟩ := h
  have hhas : List.any _ _ = true := ((hh l).2 v hv).1
  rw [List.any_eq_true] at hhas
  obtain ⟨p, hp, hpk⟩ := hhas
  obtain ⟨x, hx, rfl⟩ := List.mem_map.1 (mem_ins_all _ hp)
  obtain ⟨y, hy⟩ := hF.reads x hx
  have h2 := WideElems.rd_key hy
  rw [WideElems.rg_of hy] at hpk
  obtain ⟨s, e1, e2, e3⟩ := WideMaps.string_of_keyOf hk h2
  have e4 := WideAt.sameKey_eq hpk
  rw [e2] at e4
  injection e4 with e4
  rw [← e4]
  simpa using e3
/-- The files of both worlds, one by one. -/
theorem Both.file {w : World} {F : Nat → Prop} {pb : Nat} {M : Mem} {st : St} {K : Nat → Prop} {f : Fm} {rs : RSt} (h : Both w F pb M st K f rs) (i : Nat) (hi : i < rs.files.length) : st.files rs.files[i].1.data.toList = some rs.files[i].2 ∧ rs.files[i].1.size ≤ maxLen := by
  have e : st.files rs.files[i].1.data.toList = some rs.files[i].2 := by
    rw [h.corr.files]
    unfold fileF
    rw [find_nd rs.files h.corr.nodup i hi]
    rfl
  have h2 := mapS_key Try.underlying9 h.wat.map (l := rs.files[i].1.data.toList) (v := .string rs.files[i].2) (by rw [e]; rfl)
  exact ⟨e, by simpa using h2⟩
set_option maxRecDepth 100000 in
set_option maxHeartbeats 4000000 in
theorem l_plays' {w : World} {s : ScrV} (h : ScrAt w s) (A : Option Addr) (n cap : Nat) (ops : List OpV) (hx : Ops w w.heap.size A n ops) (hc : n ≤ cap) (hcm : cap ≤ maxLen) :
    Calls Try.prog 6 #[s.val, .slice A n cap] w fun e w' => e = .returned (.bool true) ∧ Below w.heap.size w w' := by
  have HAW : Hid (∀ w, Calls Try.prog 8 #[] w fun e w' => e = .returned (.bool true) ∧ Below w.heap.size w w') := Awake.walk
  have HX := Lib.hid hx
  have HS := Lib.hid h
  have hcl : cap < 9223372036854775808 := by unfold maxLen at hcm; omega
  have HB1 := Lib.hid ((Below.refl w.heap.size w).alloc (Nat.le_refl _) (.cells s.cells 53))
  have HN1 := Lib.hid (Blk.new w 53 s.cells)
  clear hx h
  rw [show s.val = .agg #[.slice s.A1 s.n1 s.c1, .string s.stdin, .slice s.A2 s.n2 s.c2, .slice s.A3 s.n3 s.c3, .int .i64 s.lim, .int .i64 s.clock, .int .u64 s.ch] from rfl]
  go_enter Try.func6, Try.ntmps6
  go_wp2_with fail
  have HG := Lib.hid (show w.alloc (.cells s.cells 53) = w.alloc (.cells #[.slice s.A1 s.n1 s.c1, .string s.stdin, .slice s.A2 s.n2 s.c2, .slice s.A3 s.n3 s.c3, .int .i64 s.lim, .int .i64 s.clock, .int .u64 s.ch] 53) from rfl)
  rw [← HG.out]
  clear HG
  generalize w.alloc (.cells s.cells 53) = w1 at *
  obtain ⟨B, hB⟩ : ∃ B, B = w.heap.size := ⟨_, rfl⟩
  rw [← hB] at HN1 ⊢
  have HBE := Lib.hid hB
  clear hB
  refine (w_shortA (HS.out.keep HB1.out)).mono ?_
  rintro e w2 ⟨rfl, hb2⟩
  have HB2 := Lib.hid (HB1.out.trans (hb2.mono HB1.out.size))
  have HN2 := Lib.hid (below_blk HN1.out hb2 HN1.out.lt)
  clear hb2
  cases hsh : shortB s.files s.reps s.fls s.stdin 8 200 with
  | false =>
    clear hsh
    go_wp2_with fail
    refine (HAW.out _).mono ?_
    rintro e w3 ⟨rfl, hb3⟩
    go_wp2_with fail
    go_ret
    exact ⟨rfl, HB2.out.trans (hb3.mono HB2.out.size)⟩
  | true =>
    have HSH := Lib.hid hsh
    clear hsh
    have c0 : w2.cell? ⟨B, 0, none⟩ = some (.slice s.A1 s.n1 s.c1) := HN2.out.cell 0
    have c1 : w2.cell? ⟨B, 1, none⟩ = some (.string s.stdin) := HN2.out.cell 1
    have c2 : w2.cell? ⟨B, 2, none⟩ = some (.slice s.A2 s.n2 s.c2) := HN2.out.cell 2
    have c3 : w2.cell? ⟨B, 3, none⟩ = some (.slice s.A3 s.n3 s.c3) := HN2.out.cell 3
    have c4 : w2.cell? ⟨B, 4, none⟩ = some (.int .i64 s.lim) := HN2.out.cell 4
    have c5 : w2.cell? ⟨B, 5, none⟩ = some (.int .i64 s.clock) := HN2.out.cell 5
    have c6 : w2.cell? ⟨B, 6, none⟩ = some (.int .u64 s.ch) := HN2.out.cell 6
    go_wp2_with fail
    refine (wo_newS (HS.out.keep HB2.out) HSH.out).mono ?_
    intro e w3 hp
    cases hnb : newB s.files s.reps s.lim with
    | false =>
      rw [hnb] at hp
      obtain ⟨rfl, hb3⟩ := hp
      have HB3 := Lib.hid (HB2.out.trans (hb3.mono HB2.out.size))
      have HN3 := Lib.hid (below_blk HN2.out hb3 HN2.out.lt)
      have HNB := Lib.hid hnb
      clear hb3 c0 c1 c2 c3 c4 c5 c6 hnb
      have c0 : w3.cell? ⟨B, 0, none⟩ = some (.slice s.A1 s.n1 s.c1) := HN3.out.cell 0
      have c1 : w3.cell? ⟨B, 1, none⟩ = some (.string s.stdin) := HN3.out.cell 1
      have c2 : w3.cell? ⟨B, 2, none⟩ = some (.slice s.A2 s.n2 s.c2) := HN3.out.cell 2
      have c3 : w3.cell? ⟨B, 3, none⟩ = some (.slice s.A3 s.n3 s.c3) := HN3.out.cell 3
      have c4 : w3.cell? ⟨B, 4, none⟩ = some (.int .i64 s.lim) := HN3.out.cell 4
      have c5 : w3.cell? ⟨B, 5, none⟩ = some (.int .i64 s.clock) := HN3.out.cell 5
      have c6 : w3.cell? ⟨B, 6, none⟩ = some (.int .u64 s.ch) := HN3.out.cell 6
      go_wp2_with fail
      refine (fw_newS HS.out HB3.out HSH.out).mono ?_
      rw [HNB.out]
      rintro e w4 ⟨rfl, hb4⟩
      have HB4 := Lib.hid (HB3.out.trans (hb4.mono HB3.out.size))
      clear hb4 c0 c1 c2 c3 c4 c5 c6
      have HB5 := Lib.hid (HB4.out.alloc HB4.out.size (.cells #[.slice none 0 0, .string ⟨#[]⟩, .slice none 0 0, .slice none 0 0, .int .i64 0, .int .i64 0, .int .u64 0, .slice none 0 0, .int .i64 0, .slice none 0 0, .int .u64 0, .slice none 0 0] 73))
      go_wp2_with fail
      generalize w4.alloc (.cells #[.slice none 0 0, .string ⟨#[]⟩, .slice none 0 0, .slice none 0 0, .int .i64 0, .int .i64 0, .int .u64 0, .slice none 0 0, .int .i64 0, .slice none 0 0, .int .u64 0, .slice none 0 0] 73) = w5 at *
      refine (HAW.out _).mono ?_
      rintro e w6 ⟨rfl, hb6⟩
      go_wp2_with fail
      go_ret
      exact ⟨rfl, HB5.out.trans (hb6.mono HB5.out.size)⟩
    | true =>
      rw [hnb] at hp
      obtain ⟨pb, M, F, rfl, hw3, hb3, hF3, hm3⟩ := hp
      have HB3 := Lib.hid (HB2.out.trans (hb3.mono HB2.out.size))
      have HN3 := Lib.hid (below_blk HN2.out hb3 HN2.out.lt)
      have HW3 := Lib.hid hw3
      have HF3 := Lib.hid hF3
      have HM3 := Lib.hid hm3
      have HB23 := Lib.hid hb3
      have HNB := Lib.hid hnb
      clear hb3 c0 c1 c2 c3 c4 c5 c6 hnb hw3 hF3 hm3
      have c0 : w3.cell? ⟨B, 0, none⟩ = some (.slice s.A1 s.n1 s.c1) := HN3.out.cell 0
      have c1 : w3.cell? ⟨B, 1, none⟩ = some (.string s.stdin) := HN3.out.cell 1
      have c2 : w3.cell? ⟨B, 2, none⟩ = some (.slice s.A2 s.n2 s.c2) := HN3.out.cell 2
      have c3 : w3.cell? ⟨B, 3, none⟩ = some (.slice s.A3 s.n3 s.c3) := HN3.out.cell 3
      have c4 : w3.cell? ⟨B, 4, none⟩ = some (.int .i64 s.lim) := HN3.out.cell 4
      have c5 : w3.cell? ⟨B, 5, none⟩ = some (.int .i64 s.clock) := HN3.out.cell 5
      have c6 : w3.cell? ⟨B, 6, none⟩ = some (.int .u64 s.ch) := HN3.out.cell 6
      go_wp2_with fail
      refine (fw_newS HS.out HB3.out HSH.out).mono ?_
      rw [HNB.out]
      rintro e w4 ⟨f, rfl, hr4, hb4⟩
      have hdist : distB (s.files.map (·.1)) = true := by
        have := HNB.out
        unfold newB at this
        simp only [Bool.and_eq_true] at this
        exact this.1
      have HL0 := Lib.hid (LW.start HBE.out HN2.out HB2.out HB23.out hb4 HW3.out HF3.out hr4 (corr0 hdist))
      have HD0 : Hid (Bd 0 M.m (rsOf s)) := bd0 HSH.out (by rw [HS.out.l1]; exact HM3.out)
      have HC0 : Hid ((rsOf s).clock = s.clock) := rfl
      generalize (⟨s.lim, s.clock, filesOf s.files, s.stdin, [], s.ch, [], s.reps, s.fls⟩ : St) = st at *
      have hrs : ∃ rs, rs = rsOf s := ⟨_, rfl⟩
      obtain ⟨rs, hrs⟩ := hrs
      rw [← hrs] at HL0 HD0 HC0 ⊢
      rw [show fcells f rs = #[.slice f.A0 f.n0 f.c0, .string rs.stdin, .slice f.A2 rs.replies.length f.c2, .slice f.A3 rs.fails.length f.c3, .int .i64 rs.lim, .int .i64 rs.clock, .int .u64 rs.ch, .slice f.AF rs.files.length f.cF, .int .i64 rs.taken, .slice f.AO rs.opn.length f.cO, .int .u64 rs.num, .slice f.AE rs.events.length f.cE] from rfl] at HL0 ⊢
      clear hb4 c0 c1 c2 c3 c4 c5 c6 hr4 hdist hrs HW3 HF3 HM3 HB23 HNB HN3 HB3 HN2 HB2 HN1 HB1
      go_wp2_with fail
      generalize w4.alloc (.cells #[.slice f.A0 f.n0 f.c0, .string rs.stdin, .slice f.A2 rs.replies.length f.c2, .slice f.A3 rs.fails.length f.c3, .int .i64 rs.lim, .int .i64 rs.clock, .int .u64 rs.ch, .slice f.AF rs.files.length f.cF, .int .i64 rs.taken, .slice f.AO rs.opn.length f.cO, .int .u64 rs.num, .slice f.AE rs.events.length f.cE] 73) = w5 at *
      obtain ⟨V, hV⟩ : ∃ V, V = w4.heap.size := ⟨_, rfl⟩
      rw [← hV] at HL0 ⊢
      clear hV
      go_loopw [9] (fun iv wr => ∃ (i : Nat) (F : Nat → Prop) (M : Mem) (st : St) (K : Nat → Prop) (f : Fm) (rs : RSt), i ≤ n ∧ i ≤ 50 ∧ iv = .int .i64 i ∧ LW w wr s B V F pb M st K f rs ∧ Bd i M.m rs ∧ rs.clock = s.clock) (fun iv _ => n - (intOf iv).toNat)
      case atStart => exact ⟨0, F, M, st, _, f, rs, Nat.zero_le _, Nat.zero_le _, rfl, HL0.out, HD0.out, HC0.out⟩
      case round =>
        obtain ⟨i, F, M, st, K, f, rs, hin, hi50, rfl, hL, hD, hCk⟩ := hrel
        have HL := Lib.hid hL
        have HD := Lib.hid hD
        have HCk := Lib.hid hCk
        clear hL hD hCk HL0 HD0 HC0
        by_cases hgo : i < n ∧ i < 50
        · have hlt := hgo.1
          have h50 := hgo.2
          clear hgo
          · have hil : i < ops.length := by have := HX.out.1; omega
            obtain ⟨b, o', rfl, hbw, hcell⟩ := HX.out.2.2 (by omega)
            obtain ⟨d0, d1, d2, d3, d4⟩ := hcell i hil
            have hbl : b < wr.heap.size := by have := HL.out.below.size; omega
            have d0 := (HL.out.below.cell (p := ⟨b, o' + i * 5, none⟩) hbw).trans d0
            have d1 := (HL.out.below.cell (p := ⟨b, o' + i * 5 + 1, none⟩) hbw).trans d1
            have d2 := (HL.out.below.cell (p := ⟨b, o' + i * 5 + 2, none⟩) hbw).trans d2
            have d3 := (HL.out.below.cell (p := ⟨b, o' + i * 5 + 3, none⟩) hbw).trans d3
            have d4 := (HL.out.below.cell (p := ⟨b, o' + i * 5 + 4, none⟩) hbw).trans d4
            obtain ⟨w1', w2', w3', w4', w5'⟩ := HX.out.2.1 ops[i] (List.getElem_mem _)
            generalize ops[i].kind = kd at *
            generalize ops[i].k = k at *
            generalize ops[i].name = name at *
            generalize ops[i].data = data at *
            generalize ops[i].n = q at *
            have hni : q ≤ 9223372036854775807 := by
              simp [Lit.wf, IntKind.min, IntKind.max, IntKind.bits, IntKind.signed] at w5'; omega
            have HNI := Lib.hid hni
            have hnz : name.size < 9223372036854775808 := by unfold maxLen at w3'; omega
            have hdz : data.size < 9223372036854775808 := by unfold maxLen at w4'; omega
            clear hcell w1' w2' w3' w4' w5' hni
            have HBA := Lib.hid ((Below.refl wr.heap.size wr).alloc (Nat.le_refl _) (.cells #[.int .i64 kd, .int .u8 k, .string name, .string data, .int .i64 q] 55))
            have HQ := Lib.hid (Blk.new wr 55 #[.int .i64 kd, .int .u8 k, .string name, .string data, .int .i64 q])
            have HL2 := Lib.hid (HL.out.pure HBA.out)
            by_cases hsm : 100 < name.size ∨ 100 < data.size
            · have hsm2 : (100 < name.size) ∨ (¬ 100 < name.size ∧ 100 < data.size) := by omega
              rcases hsm2 with g1 | ⟨g1, g2⟩
              all_goals
                go_wp2_with fail
                go_roundw
                case rel => exact ⟨i + 1, F, M, st, _, f, rs, by omega, by omega, by go_num, HL2.out, HD.out.same h50 (Nat.le_succ _), HCk.out⟩
                case measure => simp [intOf]; omega
            · have g1 : ¬ 100 < name.size := by omega
              have g2 : ¬ 100 < data.size := by omega
              go_upto_region 13 with (fail)
              have HQF : Hid (∀ g, F g → g ≠ wr.heap.size) := fun g hg e => by have := HL.out.both.wat.flt g hg; omega
              have HQV : Hid (wr.heap.size ≠ V) := fun e => by have := HL.out.blk.lt; omega
              generalize wr.alloc (.cells #[.int .i64 kd, .int .u8 k, .string name, .string data, .int .i64 q] 55) = wq at *
              obtain ⟨Q, hQe⟩ : ∃ Q, Q = wr.heap.size := ⟨_, rfl⟩
              rw [← hQe] at HQ HQF HQV ⊢
              clear hQe d0 d1 d2 d3 d4 hbl
              obtain ⟨⟨b0, b1, b2, b3, b4, b5, b6, b7, b8, b9, b10, b11⟩, -⟩ := HL2.out.blk.twelve
              have q0 : wq.cell? ⟨Q, 0, none⟩ = some (.int .i64 kd) := HQ.out.cell 0
              have q1 : wq.cell? ⟨Q, 1, none⟩ = some (.int .u8 k) := HQ.out.cell 1
              have q2 : wq.cell? ⟨Q, 2, none⟩ = some (.string name) := HQ.out.cell 2
              have q3 : wq.cell? ⟨Q, 3, none⟩ = some (.string data) := HQ.out.cell 3
              have q4 : wq.cell? ⟨Q, 4, none⟩ = some (.int .i64 q) := HQ.out.cell 4
              go_wp2_with fail
              refine (w_one HL2.out.both HD.out h50 kd k name data q (by omega) (by omega) HNI.out).mono ?_
              rintro e w6 ⟨F6, M6, st6, K6, f3, rs3, rfl, hB6, hD6, hT6, hF6, hK6, hC6⟩
              have HV6 := Lib.hid (HL2.out.blk.keep hT6 (fun e => (HL2.out.fB _ e).2.2 rfl))
              have HQ6 := Lib.hid ((HQ.out.keep hT6 (fun e => HQF.out _ e rfl)).keep (put12_tur w6 V f3 rs3) HQV.out)
              have HL6 := Lib.hid (HL2.out.called hB6 hT6 hF6 hK6)
              have HD6 := Lib.hid hD6
              have HC6 := Lib.hid (hC6.trans HCk.out)
              clear hB6 hD6 hT6 hF6 hK6 hC6 b0 b1 b2 b3 b4 b5 b6 b7 b8 b9 b10 b11 q0 q1 q2 q3 q4
              rw [show fcells f3 rs3 = #[.slice f3.A0 f3.n0 f3.c0, .string rs3.stdin, .slice f3.A2 rs3.replies.length f3.c2, .slice f3.A3 rs3.fails.length f3.c3, .int .i64 rs3.lim, .int .i64 rs3.clock, .int .u64 rs3.ch, .slice f3.AF rs3.files.length f3.cF, .int .i64 rs3.taken, .slice f3.AO rs3.opn.length f3.cO, .int .u64 rs3.num, .slice f3.AE rs3.events.length f3.cE] from rfl]
              obtain ⟨⟨b0, b1, b2, b3, b4, b5, b6, b7, b8, b9, b10, b11⟩, p0, p1, p2, p3, p4, p5, p6, p7, p8, p9, p10, p11⟩ := HV6.out.twelve
              go_upto_region 14 with (fail)
              clear b0 b1 b2 b3 b4 b5 b6 b7 b8 b9 b10 b11 p0 p1 p2 p3 p4 p5 p6 p7 p8 p9 p10 p11 HV6 HQF HQV
              have HG := Lib.hid (show put12 w6 V f3 rs3 = ((((((((((((w6.setCell ⟨V, 0, none⟩ (.slice f3.A0 f3.n0 f3.c0)).setCell ⟨V, 1, none⟩ (.string rs3.stdin)).setCell ⟨V, 2, none⟩ (.slice f3.A2 rs3.replies.length f3.c2)).setCell ⟨V, 3, none⟩ (.slice f3.A3 rs3.fails.length f3.c3)).setCell ⟨V, 4, none⟩ (.int .i64 rs3.lim)).setCell ⟨V, 5, none⟩ (.int .i64 rs3.clock)).setCell ⟨V, 6, none⟩ (.int .u64 rs3.ch)).setCell ⟨V, 7, none⟩ (.slice f3.AF rs3.files.length f3.cF)).setCell ⟨V, 8, none⟩ (.int .i64 rs3.taken)).setCell ⟨V, 9, none⟩ (.slice f3.AO rs3.opn.length f3.cO)).setCell ⟨V, 10, none⟩ (.int .u64 rs3.num)).setCell ⟨V, 11, none⟩ (.slice f3.AE rs3.events.length f3.cE)) from rfl)
              rw [← HG.out]
              generalize put12 w6 V f3 rs3 = w7 at *
              clear HG
              refine wp_region_noPanic ?_
              refine wp_region_pi (fun wd => Blk wd V 73 #[.slice f3.A0 f3.n0 f3.c0, .string rs3.stdin, .slice f3.A2 rs3.replies.length f3.c2, .slice f3.A3 rs3.fails.length f3.c3, .int .i64 rs3.lim, .int .i64 rs3.clock, .int .u64 rs3.ch, .slice f3.AF rs3.files.length f3.cF, .int .i64 rs3.taken, .slice f3.AO rs3.opn.length f3.cO, .int .u64 rs3.num, .slice f3.AE rs3.events.length f3.cE] ∧ Blk wd Q 55 #[.int .i64 kd, .int .u8 k, .string name, .string data, .int .i64 q]) [(0, true), (1, true), (2, true), (3, true), (5, true), (6, true), (7, true), (4, false), (8, true), (9, true), (10, true), (11, true), (13, true), (14, true), (12, false), (15, false), (16, true), (17, true), (18, true), (19, true), (20, true), (21, true), (22, true), (23, true), (25, true), (26, true), (27, true), (24, false), (28, true), (29, true), (30, true), (31, true), (32, true), (33, true), (34, false), (35, true), (36, true), (37, true), (38, true)] (by kernel_rfl) (by kernel_rfl) (fun _ _ _ _ _ h => h) ⟨HL6.out.blk, HQ6.out⟩ ?_
              simp only [piO, List.filterMap_cons, List.filterMap_nil, List.getElem?_toArray, List.getElem?_cons_zero, List.getElem?_cons_succ, Option.map_some]
              iterate 7 (
                refine pi_read ?_ (fun wd hS M hM => ?_) ?_ ?_
                rotate_left
                · have HM := Lib.hid hM
                  obtain ⟨⟨b0, b1, b2, b3, b4, b5, b6, b7, b8, b9, b10, b11⟩, -⟩ := hS.1.twelve
                  have q1 : wd.cell? ⟨Q, 1, none⟩ = some (.int .u8 k) := hS.2.cell 1
                  have q2 : wd.cell? ⟨Q, 2, none⟩ = some (.string name) := hS.2.cell 2
                  clear hM hS
                  go_wp2_with fail
                  exact HM.out
                · rfl)
              have HL7 := Lib.hid (HL6.out.pure (Below.refl w7.heap.size w7).drew)
              have HQ7 : Hid (Blk w7.drew Q 55 #[.int .i64 kd, .int .u8 k, .string name, .string data, .int .i64 q]) := HQ6.out
              have HOL : Hid (st6.opn.length = rs3.opn.length) := by unfold Hid; rw [HL6.out.both.corr.opn, List.length_map]
              refine pi_alone (fun M hM => ?_)
              have HM := Lib.hid hM
              clear hM
              go_wp2_with (go_at_call 16; refine (wo_streams HL7.out.both.wat).mono ?_; rintro e w8 ⟨rfl, rfl⟩; rw [HOL.out])
              refine HM.out _ _ ⟨HL7.out.blk, HQ7.out⟩ ?_
              clear HM M
              iterate 6 (
                refine pi_read ?_ (fun wd hS M hM => ?_) ?_ ?_
                rotate_left
                · have HM := Lib.hid hM
                  obtain ⟨⟨b0, b1, b2, b3, b4, b5, b6, b7, b8, b9, b10, b11⟩, -⟩ := hS.1.twelve
                  have q1 : wd.cell? ⟨Q, 1, none⟩ = some (.int .u8 k) := hS.2.cell 1
                  have q2 : wd.cell? ⟨Q, 2, none⟩ = some (.string name) := hS.2.cell 2
                  clear hM hS
                  go_wp2_with fail
                  exact HM.out
                · rfl)
              refine pi_alone (fun M hM => ?_)
              have HM := Lib.hid hM
              clear hM
              have hev6 : st6.trace.length ≤ 1000000 := by rw [HL7.out.both.corr.trace]; have := HD6.out.ev; have := HD6.out.t50; omega
              have HE6 := Lib.hid hev6
              have HTR := Lib.hid HL7.out.both.corr.trace
              clear hev6
              go_wp2_with (go_at_call 14; refine (wo_trace HL7.out.both.wat (Nat.le_trans HE6.out (by decide))).mono ?_; rintro e w8 ⟨v8, rfl, hr8, hb8⟩; have HL8 := Lib.hid (HL7.out.pure hb8); have HQ8 := Lib.hid (below_blk HQ7.out hb8 HQ7.out.lt); have HR8 := Lib.hid (Row.of_own (K := fun _ => True) hr8 HE6.out (fun _ _ _ => trivial)); clear hr8 hb8)
              refine HM.out _ _ ⟨HL8.out.blk, HQ8.out⟩ ?_
              clear HM M
              refine pi_alone (fun M hM => ?_)
              have HM := Lib.hid hM
              clear hM
              have HRE := Lib.hid (show Row _ w8 (.slice f3.AE rs3.events.length f3.cE) st6.trace.length 5 (evals st6.trace) by rw [HTR.out]; exact HL8.out.both.rf.oE.row)
              go_wp2_with (go_at_call 28; refine (w_same st6.trace HR8.out HRE.out).mono ?_; rintro e w9 ⟨rfl, hb9⟩; have HL9 := Lib.hid (HL8.out.pure hb9); have HQ9 := Lib.hid (below_blk HQ8.out hb9 HQ8.out.lt); clear hb9)
              refine HM.out _ _ ⟨HL9.out.blk, HQ9.out⟩ ?_
              clear HM M HR8 HRE
              iterate 11 (
                refine pi_read ?_ (fun wd hS M hM => ?_) ?_ ?_
                rotate_left
                · have HM := Lib.hid hM
                  obtain ⟨⟨b0, b1, b2, b3, b4, b5, b6, b7, b8, b9, b10, b11⟩, -⟩ := hS.1.twelve
                  have q1 : wd.cell? ⟨Q, 1, none⟩ = some (.int .u8 k) := hS.2.cell 1
                  have q2 : wd.cell? ⟨Q, 2, none⟩ = some (.string name) := hS.2.cell 2
                  clear hM hS
                  go_wp2_with fail
                  exact HM.out
                · rfl)
              have HNO := Lib.hid (show st6.opn.length ≤ 1000000000 by rw [HOL.out]; have := HD6.out.opn; have := HD6.out.t50; omega)
              refine pi_alone (fun M hM => ?_)
              have HM := Lib.hid hM
              clear hM
              go_wp2_with (go_at_call 18; refine (wo_isopen HL9.out.both.wat k name HNO.out).mono ?_; rintro e w10 ⟨rfl, hb10⟩; have HL10 := Lib.hid (HL9.out.pure hb10); have HQ10 := Lib.hid (below_blk HQ9.out hb10 HQ9.out.lt); clear hb10; rw [HL9.out.both.corr.find])
              refine HM.out _ _ ⟨HL10.out.blk, HQ10.out⟩ ?_
              clear HM M
              have HNM : Hid (name.size ≤ maxLen) := by unfold Hid maxLen; omega
              obtain ⟨o, ho⟩ : ∃ o, o = findF rs3 k name := ⟨_, rfl⟩
              rw [← ho]
              have HO := Lib.hid ho
              clear ho
              have hways : (decide (k = 6) = true ∧ (k == 6) = true ∧ (decide (k = 6) || o.isSome) = true) ∨ (decide (k = 6) = false ∧ (k == 6) = false ∧ o = none) ∨ (decide (k = 6) = false ∧ (k == 6) = false ∧ ∃ j : Nat, o = some j) := by
                by_cases h6 : k = 6
                · left; simp [h6]
                · right
                  cases o with
                  | none => left; simp [h6]
                  | some j => right; exact ⟨by simp [h6], by simp [h6], j, rfl⟩
              rcases hways with ⟨d6, e6, ebo⟩ | ⟨d6, e6, rfl⟩ | ⟨d6, e6, j, rfl⟩
              · rw [ebo]
                simp only [d6, e6]
                iterate 6 (
                  refine pi_read ?_ (fun wd hS M hM => ?_) ?_ ?_
                  rotate_left
                  · have HM := Lib.hid hM
                    obtain ⟨⟨b0, b1, b2, b3, b4, b5, b6, b7, b8, b9, b10, b11⟩, -⟩ := hS.1.twelve
                    have q1 : wd.cell? ⟨Q, 1, none⟩ = some (.int .u8 k) := hS.2.cell 1
                    have q2 : wd.cell? ⟨Q, 2, none⟩ = some (.string name) := hS.2.cell 2
                    clear hM hS
                    go_wp2_with fail
                    exact HM.out
                  · rfl)
                refine pi_alone (fun M hM => ?_)
                have HM := Lib.hid hM
                clear hM
                go_wp2_with fail
                refine HM.out _ _ ⟨HL10.out.blk, HQ10.out⟩ ?_
                clear HM M
                iterate 4 (
                  refine pi_read ?_ (fun wd hS M hM => ?_) ?_ ?_
                  rotate_left
                  · have HM := Lib.hid hM
                    obtain ⟨⟨b0, b1, b2, b3, b4, b5, b6, b7, b8, b9, b10, b11⟩, -⟩ := hS.1.twelve
                    have q1 : wd.cell? ⟨Q, 1, none⟩ = some (.int .u8 k) := hS.2.cell 1
                    have q2 : wd.cell? ⟨Q, 2, none⟩ = some (.string name) := hS.2.cell 2
                    clear hM hS
                    go_wp2_with fail
                    exact HM.out
                  · rfl)
                have HLz := Lib.hid (HL10.out.pure (Below.refl w10.heap.size w10))
                clear HLz
                refine NoPanic.normal (?_ : _)
                obtain ⟨⟨b0, b1, b2, b3, b4, b5, b6, b7, b8, b9, b10, b11⟩, -⟩ := HL10.out.blk.twelve
                have q1 : w10.cell? ⟨Q, 1, none⟩ = some (.int .u8 k) := HQ10.out.cell 1
                have q2 : w10.cell? ⟨Q, 2, none⟩ = some (.string name) := HQ10.out.cell 2
                go_wp2_with fail
                refine (wo_file HL10.out.both.wat name HNM.out).mono ?_
                rintro e wy ⟨rfl, rfl⟩
                rw [HL10.out.both.corr.fileD, HL10.out.both.corr.fileS]
                go_wp2_with fail
                refine (fw_file HL10.out.both.rf name).mono ?_
                rintro e wy ⟨rfl, hby⟩
                have HLY := Lib.hid (HL10.out.pure hby)
                clear hby b0 b1 b2 b3 b4 b5 b6 b7 b8 b9 b10 b11 q1 q2
                generalize ((fileF rs3 name).getD (⟨#[]⟩, ⟨#[]⟩)).2 = fd
                generalize (fileF rs3 name).isSome = fs
                go_wp2_with fail
                go_roundw
                case rel => exact ⟨i + 1, F6, M6, st6, _, f3, rs3, by omega, by omega, by go_num, HLY.out, HD6.out, HC6.out⟩
                case measure => simp [intOf]; omega
              · rw [show (decide (k = 6) || (none : Option Nat).isSome) = false by rw [d6]; rfl]
                simp only [d6, e6]
                iterate 6 (
                  refine pi_read ?_ (fun wd hS M hM => ?_) ?_ ?_
                  rotate_left
                  · have HM := Lib.hid hM
                    obtain ⟨⟨b0, b1, b2, b3, b4, b5, b6, b7, b8, b9, b10, b11⟩, -⟩ := hS.1.twelve
                    have q1 : wd.cell? ⟨Q, 1, none⟩ = some (.int .u8 k) := hS.2.cell 1
                    have q2 : wd.cell? ⟨Q, 2, none⟩ = some (.string name) := hS.2.cell 2
                    clear hM hS
                    go_wp2_with fail
                    exact HM.out
                  · rfl)
                refine pi_alone (fun M hM => ?_)
                have HM := Lib.hid hM
                clear hM
                obtain ⟨⟨b0, b1, b2, b3, b4, b5, b6, b7, b8, b9, b10, b11⟩, -⟩ := HL10.out.blk.twelve
                have q1 : w10.cell? ⟨Q, 1, none⟩ = some (.int .u8 k) := HQ10.out.cell 1
                have q2 : w10.cell? ⟨Q, 2, none⟩ = some (.string name) := HQ10.out.cell 2
                go_wp2_with (go_at_call 29; refine (fw_find HL10.out.both.rf k name).mono ?_; rintro e w11 ⟨rfl, hb11⟩; have HL11 := Lib.hid (HL10.out.pure hb11); have HQ11 := Lib.hid (below_blk HQ10.out hb11 HQ10.out.lt); clear hb11 b0 b1 b2 b3 b4 b5 b6 b7 b8 b9 b10 b11 q1 q2; rw [← HO.out])
                rw [show ixV none = -1 from rfl]
                refine HM.out _ _ ⟨HL11.out.blk, HQ11.out⟩ ?_
                clear HM M
                iterate 4 (
                  refine pi_read ?_ (fun wd hS M hM => ?_) ?_ ?_
                  rotate_left
                  · have HM := Lib.hid hM
                    obtain ⟨⟨b0, b1, b2, b3, b4, b5, b6, b7, b8, b9, b10, b11⟩, -⟩ := hS.1.twelve
                    have q1 : wd.cell? ⟨Q, 1, none⟩ = some (.int .u8 k) := hS.2.cell 1
                    have q2 : wd.cell? ⟨Q, 2, none⟩ = some (.string name) := hS.2.cell 2
                    clear hM hS
                    go_wp2_with fail
                    exact HM.out
                  · rfl)
                have HLz := Lib.hid (HL11.out.pure (Below.refl w11.heap.size w11))
                clear HLz
                refine NoPanic.normal (?_ : _)
                obtain ⟨⟨b0, b1, b2, b3, b4, b5, b6, b7, b8, b9, b10, b11⟩, -⟩ := HL11.out.blk.twelve
                have q1 : w11.cell? ⟨Q, 1, none⟩ = some (.int .u8 k) := HQ11.out.cell 1
                have q2 : w11.cell? ⟨Q, 2, none⟩ = some (.string name) := HQ11.out.cell 2
                go_wp2_with fail
                refine (wo_file HL11.out.both.wat name HNM.out).mono ?_
                rintro e wy ⟨rfl, rfl⟩
                rw [HL11.out.both.corr.fileD, HL11.out.both.corr.fileS]
                go_wp2_with fail
                refine (fw_file HL11.out.both.rf name).mono ?_
                rintro e wy ⟨rfl, hby⟩
                have HLY := Lib.hid (HL11.out.pure hby)
                clear hby b0 b1 b2 b3 b4 b5 b6 b7 b8 b9 b10 b11 q1 q2
                generalize ((fileF rs3 name).getD (⟨#[]⟩, ⟨#[]⟩)).2 = fd
                generalize (fileF rs3 name).isSome = fs
                go_wp2_with fail
                go_roundw
                case rel => exact ⟨i + 1, F6, M6, st6, _, f3, rs3, by omega, by omega, by go_num, HLY.out, HD6.out, HC6.out⟩
                case measure => simp [intOf]; omega
              · rw [show (decide (k = 6) || (some j : Option Nat).isSome) = true by rw [d6]; rfl]
                simp only [d6, e6]
                iterate 6 (
                  refine pi_read ?_ (fun wd hS M hM => ?_) ?_ ?_
                  rotate_left
                  · have HM := Lib.hid hM
                    obtain ⟨⟨b0, b1, b2, b3, b4, b5, b6, b7, b8, b9, b10, b11⟩, -⟩ := hS.1.twelve
                    have q1 : wd.cell? ⟨Q, 1, none⟩ = some (.int .u8 k) := hS.2.cell 1
                    have q2 : wd.cell? ⟨Q, 2, none⟩ = some (.string name) := hS.2.cell 2
                    clear hM hS
                    go_wp2_with fail
                    exact HM.out
                  · rfl)
                refine pi_alone (fun M hM => ?_)
                have HM := Lib.hid hM
                clear hM
                obtain ⟨⟨b0, b1, b2, b3, b4, b5, b6, b7, b8, b9, b10, b11⟩, -⟩ := HL10.out.blk.twelve
                have q1 : w10.cell? ⟨Q, 1, none⟩ = some (.int .u8 k) := HQ10.out.cell 1
                have q2 : w10.cell? ⟨Q, 2, none⟩ = some (.string name) := HQ10.out.cell 2
                go_wp2_with (go_at_call 29; refine (fw_find HL10.out.both.rf k name).mono ?_; rintro e w11 ⟨rfl, hb11⟩; have HL11 := Lib.hid (HL10.out.pure hb11); have HQ11 := Lib.hid (below_blk HQ10.out hb11 HQ10.out.lt); clear hb11 b0 b1 b2 b3 b4 b5 b6 b7 b8 b9 b10 b11 q1 q2; rw [← HO.out])
                rw [show ixV (some j) = (j : Int) from rfl]
                refine HM.out _ _ ⟨HL11.out.blk, HQ11.out⟩ ?_
                clear HM M
                have hj0 : decide ((0 : Int) ≤ (j : Int)) = true := decide_eq_true (by omega)
                iterate 4 (
                  refine pi_read ?_ (fun wd hS M hM => ?_) ?_ ?_
                  rotate_left
                  · have HM := Lib.hid hM
                    obtain ⟨⟨b0, b1, b2, b3, b4, b5, b6, b7, b8, b9, b10, b11⟩, -⟩ := hS.1.twelve
                    have q1 : wd.cell? ⟨Q, 1, none⟩ = some (.int .u8 k) := hS.2.cell 1
                    have q2 : wd.cell? ⟨Q, 2, none⟩ = some (.string name) := hS.2.cell 2
                    clear hM hS
                    go_wp2_with fail
                    exact HM.out
                  · rfl)
                have HLz := Lib.hid (HL11.out.pure (Below.refl w11.heap.size w11))
                clear HLz
                refine NoPanic.normal (?_ : _)
                obtain ⟨⟨b0, b1, b2, b3, b4, b5, b6, b7, b8, b9, b10, b11⟩, -⟩ := HL11.out.blk.twelve
                have q1 : w11.cell? ⟨Q, 1, none⟩ = some (.int .u8 k) := HQ11.out.cell 1
                have q2 : w11.cell? ⟨Q, 2, none⟩ = some (.string name) := HQ11.out.cell 2
                go_wp2_with fail
                refine (wo_file HL11.out.both.wat name HNM.out).mono ?_
                rintro e wy ⟨rfl, rfl⟩
                rw [HL11.out.both.corr.fileD, HL11.out.both.corr.fileS]
                go_wp2_with fail
                refine (fw_file HL11.out.both.rf name).mono ?_
                rintro e wy ⟨rfl, hby⟩
                have HLY := Lib.hid (HL11.out.pure hby)
                clear hby b0 b1 b2 b3 b4 b5 b6 b7 b8 b9 b10 b11 q1 q2
                generalize ((fileF rs3 name).getD (⟨#[]⟩, ⟨#[]⟩)).2 = fd
                generalize (fileF rs3 name).isSome = fs
                go_wp2_with fail
                go_roundw
                case rel => exact ⟨i + 1, F6, M6, st6, _, f3, rs3, by omega, by omega, by go_num, HLY.out, HD6.out, HC6.out⟩
                case measure => simp [intOf]; omega
        · have hex : (¬ i < n) ∨ (i < n ∧ ¬ i < 50) := by omega
          have hnl : rs.files.length ≤ 100 := by have := HD.out.fl; have := HD.out.t50; omega
          have HNL := Lib.hid hnl
          have hnl2 : rs.files.length < 9223372036854775808 := by omega
          clear hgo
          rcases hex with hlt | ⟨hlt, h50⟩
          all_goals (
            obtain ⟨⟨b0, b1, b2, b3, b4, b5, b6, b7, b8, b9, b10, b11⟩, -⟩ := HL.out.blk.twelve
            go_wp2_with fail
            go_loopw [16] (fun iv wr2 => ∃ x : Nat, x ≤ rs.files.length ∧ iv = .int .i64 x ∧ wr2 = wr) (fun iv _ => rs.files.length - (intOf iv).toNat)
            case atStart => exact ⟨0, Nat.zero_le _, rfl, rfl⟩
            case round =>
              obtain ⟨x, hxl, rfl, rfl⟩ := hrel
              by_cases hlx : x < rs.files.length
              · obtain ⟨-, -, Af, cf, hAf, hcf1, hcf2, hcellf⟩ := HL.out.both.rf.oF.row
                obtain ⟨bf, of, rfl, hbf, -, hce⟩ := hcellf (by omega)
                injection hAf with hA1 hA2 hA3
                subst hA3
                rw [hA1] at b7
                have y0 := hce (x * 2) (by omega)
                have y1 := hce (x * 2 + 1) (by omega)
                rw [show x * 2 = x * 2 + 0 from rfl, fvals2_get rs.files x 0 hlx (by decide)] at y0
                rw [fvals2_get rs.files x 1 hlx (by decide)] at y1
                rw [← Nat.add_assoc] at y1
                obtain ⟨hfi, hfz⟩ := HL.out.both.file x hlx
                have HFI := Lib.hid hfi
                have HFZ := Lib.hid hfz
                have x0 : wr.cell? ⟨bf, of + x * 2, none⟩ = some (.string rs.files[x].1) := y0
                have x1 : wr.cell? ⟨bf, of + x * 2 + 1, none⟩ = some (.string rs.files[x].2) := y1
                clear hce hcellf hA1 hA2 hfi hfz y0 y1
                generalize rs.files[x].1 = fnm at *
                generalize rs.files[x].2 = fdt at *
                go_wp2_with fail
                refine (wo_file HL.out.both.wat fnm HFZ.out).mono ?_
                rintro e w2 ⟨rfl, rfl⟩
                rw [HFI.out]
                rw [show (some fdt : Option ByteArray).getD ⟨#[]⟩ = fdt from rfl, show (some fdt : Option ByteArray).isSome = true from rfl]
                go_wp2_with fail
                go_roundw
                case rel => exact ⟨x + 1, by omega, by go_num, trivial⟩
                case measure => simp [intOf]; omega
              · go_upto_region 26 with (fail)
                have HDR := Lib.hid (HL.out.pure (Below.refl wr.heap.size wr).drew)
                clear b0 b1 b2 b3 b4 b5 b6 b7 b8 b9 b10 b11
                refine wp_region_noPanic ?_
                refine wp_region_pi (fun wd => Blk wd B 53 #[.slice s.A1 s.n1 s.c1, .string s.stdin, .slice s.A2 s.n2 s.c2, .slice s.A3 s.n3 s.c3, .int .i64 s.lim, .int .i64 s.clock, .int .u64 s.ch]) [(0, true), (2, true), (3, true), (1, false), (4, true), (5, true), (6, false), (7, true), (8, true)] (by kernel_rfl) (by kernel_rfl) (fun _ _ _ _ _ h => h) HDR.out.scr ?_
                simp only [piO, List.filterMap_cons, List.filterMap_nil, List.getElem?_toArray, List.getElem?_cons_zero, List.getElem?_cons_succ, Option.map_some]
                iterate 3 (
                  refine pi_read ?_ (fun wd hS M hM => ?_) ?_ ?_
                  rotate_left
                  · have HM := Lib.hid hM
                    have c5 : wd.cell? ⟨B, 5, none⟩ = some (.int .i64 s.clock) := hS.cell 5
                    clear hM hS
                    go_wp2_with fail
                    exact HM.out
                  · rfl)
                refine pi_alone (fun M hM => ?_)
                have HM := Lib.hid hM
                clear hM
                go_wp2_with (go_at_call 21; refine (wo_clock HDR.out.both.wat).mono ?_; rintro e w8 ⟨rfl, rfl⟩; rw [HDR.out.both.corr.clock, HCk.out])
                refine HM.out _ _ HDR.out.scr ?_
                clear HM M
                have ecl : (s.clock == s.clock) = true := by simp
                iterate 2 (
                  refine pi_read ?_ (fun wd hS M hM => ?_) ?_ ?_
                  rotate_left
                  · have HM := Lib.hid hM
                    clear hM hS
                    go_wp2_with fail
                    exact HM.out
                  · rfl)
                refine pi_alone (fun M hM => ?_)
                have HM := Lib.hid hM
                clear hM
                go_wp2_with (go_at_call 8; refine (HAW.out _).mono ?_; rintro e w9 ⟨rfl, hb9⟩; have HL9 := Lib.hid (HDR.out.pure hb9); clear hb9)
                refine HM.out _ _ HL9.out.scr ?_
                clear HM M
                iterate 2 (
                  refine pi_read ?_ (fun wd hS M hM => ?_) ?_ ?_
                  rotate_left
                  · have HM := Lib.hid hM
                    clear hM hS
                    go_wp2_with fail
                    exact HM.out
                  · rfl)
                refine NoPanic.normal (?_ : _)
                go_wp2_with fail
                go_ret
                exact ⟨rfl, HL9.out.below⟩)
set_option maxRecDepth 100000 in
theorem l_plays {H1 H2 : Type} {enc1 : TypeId × Value → H1} {enc2 : TypeId × Value → H2} {base1 base2 : Nat} {d1 : DataW H1} {d2 : DataW H2} {p1 p2 : List MemPlace} {spare1 spare2 : Nat → Bool} {held1 held2 : Bool} {r1 r2} (v0 v1 : Value) (w : World) (hsh : w.ShapedOpen Try.prog)
    (hval0 : Value.okWide Try.prog w r1 base1 53 v0) (k0 : DataW.Trod enc1 Try.prog w 0 spare1 held1 53 v0 d1 p1)
    (hval1 : Value.okWide Try.prog w r2 base2 43 v1) (k1 : DataW.Trod enc2 Try.prog w 0 spare2 held2 43 v1 d2 p2) :
    Calls Try.prog 6 #[v0, v1] w fun e w' => e = .returned (.bool true) ∧ Below w.heap.size w w' := by
  obtain ⟨s, rfl, h⟩ := scr_open hval0 k0
  obtain ⟨A, n, cap, xs, rfl, hx, hc, hcm⟩ := ops_open hval1 k1
  exact l_plays' h A n cap xs hx hc hcm
end Go.Proofs.Ytodjjnklelfgfaa
