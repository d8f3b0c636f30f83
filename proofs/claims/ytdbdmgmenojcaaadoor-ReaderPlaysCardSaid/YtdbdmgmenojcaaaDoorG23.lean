/- ReaderPlays: the law's own walk. -/
import Derived.Test.YtdbdmgmenojcaaaDoorG19
import Derived.Test.YtdbdmgmenojcaaaDoorG21
import Derived.Test.YtdbdmgmenojcaaaDoorG22
import Derived.Test.YtdbdmgmenojcaaaDoorG20
set_option linter.unusedVariables false
set_option linter.unusedSimpArgs false
namespace Go.Proofs.YtdbdmgmenojcaaaDoor
open Go.RowKit Wd
theorem LR.start {w w2 w3 w4 : World} {F : Nat → Prop} {pb : Nat} {M : Mem} {st : St} {f : Fm} {rs : RSt} (h2 : Below w.heap.size w w2) (h3 : Below w2.heap.size w2 w3) (h4 : Below w3.heap.size w3 w4) (hw : WAt w3 F pb M st) (hF : ∀ g, F g → w2.heap.size ≤ g)
    (hr : RF (Nw (fun b => b < w.heap.size) w3) w4 f rs) : LR w (w4.alloc (.cells (fcells f rs) 46)) w4.heap.size (.slice none 0 0) (.slice none 0 0) [] [] [] f rs F pb M st (fun g => Nw (fun b => b < w.heap.size) w3 g ∧ g < w4.heap.size) f rs := by
  have l2 := h2.size
  have l3 := h3.size
  have l4 := h4.size
  have hba := (Below.refl w4.heap.size w4).alloc (Nat.le_refl _) (.cells (fcells f rs) 46)
  have h5 : Below w.heap.size w w4 := (h2.trans (h3.mono l2)).trans (h4.mono (by omega))
  refine ⟨h5.alloc (by omega) _, Blk.new w4 _ _, (hw.pure h4).pure hba, RAt.pure (RAt.mono hr (fun b hb hK => ⟨hK, hb⟩)) hba, fun g hg e => ?_, by omega, fun g hg => ?_, fun g hg => ?_, World.ownsRow_nil _ _ _ _, World.ownsRow_nil _ _ _ _, rfl, fun i hi => (by cases hi), List.nodup_nil, fun g hg => ?_⟩
  · have := hF g e
    have := hw.flt g e
    rcases hg.1 with h | h
    · have h : g < w.heap.size := h
      omega
    · omega
  · have := hF g hg
    have := hw.flt g hg
    refine ⟨?_, ?_⟩ <;> omega
  · refine ⟨by have := hg.2; omega, Nat.lt_of_lt_of_le hg.2 (by simp)⟩
  · rcases hg with h | h | h
    · cases h
    · cases h
    · cases h
theorem ownB_form {w : World} {base e size n : Nat} {v : Value} {xs : List Value} (h : w.ownsRow base e size v n xs) (hn : 0 < n) : ∃ g cap, v = .slice (some ⟨g, 0, none⟩) n cap ∧ n ≤ cap ∧ cap ≤ maxLen := by
  rcases h.2 with ⟨_, h0⟩ | ⟨g, cap, cur, h1, _, _, h4, h5, _⟩
  · omega
  · exact ⟨g, cap, h1, h4, h5⟩
def scells (s : ScrV) : Array Value := #[.slice s.A1 s.n1 s.c1, .string s.stdin, .slice s.A2 s.n2 s.c2, .slice s.A3 s.n3 s.c3, .int .i64 s.lim, .int .i64 s.clock, .int .u64 s.ch]
theorem tail_in5 {A : Prop} {G : World → Nat → Nat → Nat → Nat → Prop} (F : World → Nat → Nat → Nat → Nat → Prop) (main : (∀ w a b c d, F w a b c d → G w a b c d) → A) (tail : ∀ w a b c d, F w a b c d → G w a b c d) : A := main tail
/-- What the loop of the law knows. -/
structure LI (w wr : World) (V : Nat) (lv mv : Value) (gs : List Nat) (rl : List RdV) (f : Fm) (rs : RSt) (F : Nat → Prop) (pb : Nat) (M : Mem) (st : St) (K : Nat → Prop) (i : Nat) : Prop where
  lr : LR w wr V lv mv gs rl rl f rs F pb M st K f rs
  corr : Corr st rs
  bd : Bq i M.m rs
  six : rl.length ≤ 6
  left : ∀ r ∈ rl, r.left.size ≤ 3000 * i
theorem LI.same {w wr wx : World} {V : Nat} {lv mv : Value} {gs : List Nat} {rl : List RdV} {f : Fm} {rs : RSt} {F : Nat → Prop} {pb : Nat} {M : Mem} {st : St} {K : Nat → Prop} {i : Nat} (h : LI w wr V lv mv gs rl f rs F pb M st K i) (hi : i < 40) (hb : Below wr.heap.size wr wx) : LI w wx V lv mv gs rl f rs F pb M st (fun b => K b ∧ b < wr.heap.size) (i + 1) :=
  ⟨h.lr.pure hb, h.corr, h.bd.same hi (.refl _) (Nat.le_succ _), h.six, fun r hr => by have := h.left r hr; omega⟩
theorem LI.drew {w wr : World} {V : Nat} {lv mv : Value} {gs : List Nat} {rl : List RdV} {f : Fm} {rs : RSt} {F : Nat → Prop} {pb : Nat} {M : Mem} {st : St} {K : Nat → Prop} {i : Nat} (h : LI w wr V lv mv gs rl f rs F pb M st K i) : LI w wr.drew V lv mv gs rl f rs F pb M st (fun b => K b ∧ b < wr.heap.size) i :=
  ⟨h.lr.drew, h.corr, h.bd, h.six, h.left⟩
set_option maxRecDepth 100000 in
set_option maxHeartbeats 16000000 in
theorem l_rplays' {w : World} (hawake : ∀ wr, Below w.heap.size w wr → Calls Tryd.prog 10 #[] wr fun e w' => e = .returned (.bool true) ∧ Below wr.heap.size wr w') (hsh : w.ShapedOpen Tryd.prog) {s : ScrV} (h : ScrAt w s) (A : Option Addr) (n cap : Nat) (ops : List RopV) (hx : Rops w w.heap.size A n ops) (hc : n ≤ cap) (hcm : cap ≤ maxLen) :
    Calls Tryd.prog 4 #[s.val, .slice A n cap] w fun e w' => e = .returned (.bool true) ∧ Below w.heap.size w w' := by
  have HAW := Lib.hid hawake
  have HSHP := Lib.hid hsh
  have HX := Lib.hid hx
  have HS := Lib.hid h
  have hcl : cap < 9223372036854775808 := by unfold maxLen at hcm; omega
  have HB1 := Lib.hid ((Below.refl w.heap.size w).alloc (Nat.le_refl _) (.cells (scells s) 38))
  have HN1 := Lib.hid (Blk.new w 38 (scells s))
  clear hx h hawake hsh
  rw [show s.val = .agg #[.slice s.A1 s.n1 s.c1, .string s.stdin, .slice s.A2 s.n2 s.c2, .slice s.A3 s.n3 s.c3, .int .i64 s.lim, .int .i64 s.clock, .int .u64 s.ch] from rfl]
  go_enter Tryd.func4, Tryd.ntmps4
  go_wp2_with fail
  have HG := Lib.hid (show w.alloc (.cells (scells s) 38) = w.alloc (.cells #[.slice s.A1 s.n1 s.c1, .string s.stdin, .slice s.A2 s.n2 s.c2, .slice s.A3 s.n3 s.c3, .int .i64 s.lim, .int .i64 s.clock, .int .u64 s.ch] 38) from rfl)
  rw [← HG.out]
  clear HG
  generalize w.alloc (.cells (scells s) 38) = w1 at *
  obtain ⟨B, hB⟩ : ∃ B, B = w.heap.size := ⟨_, rfl⟩
  rw [← hB] at HN1 ⊢
  clear hB
  refine (w_shortA (HS.out.keep HB1.out)).mono ?_
  rintro e w2 ⟨rfl, hb2⟩
  have HB2 := Lib.hid (HB1.out.trans (hb2.mono HB1.out.size))
  have HN2 := Lib.hid (below_blk HN1.out hb2 HN1.out.lt)
  clear hb2
  cases hshb : shortB s.files s.reps s.fls s.stdin 6 3000 with
  | false => as_aux_lemma =>
    clear hshb
    go_wp2_with fail
    refine (HAW.out _ HB2.out).mono ?_
    rintro e w3 ⟨rfl, hb3⟩
    go_wp2_with fail
    go_ret
    exact ⟨rfl, HB2.out.trans (hb3.mono HB2.out.size)⟩
  | true =>
    have HSH := Lib.hid hshb
    clear hshb
    have c0 : w2.cell? ⟨B, 0, none⟩ = some (.slice s.A1 s.n1 s.c1) := HN2.out.cell 0
    have c1 : w2.cell? ⟨B, 1, none⟩ = some (.string s.stdin) := HN2.out.cell 1
    have c2 : w2.cell? ⟨B, 2, none⟩ = some (.slice s.A2 s.n2 s.c2) := HN2.out.cell 2
    have c3 : w2.cell? ⟨B, 3, none⟩ = some (.slice s.A3 s.n3 s.c3) := HN2.out.cell 3
    have c4 : w2.cell? ⟨B, 4, none⟩ = some (.int .i64 s.lim) := HN2.out.cell 4
    have c5 : w2.cell? ⟨B, 5, none⟩ = some (.int .i64 s.clock) := HN2.out.cell 5
    have c6 : w2.cell? ⟨B, 6, none⟩ = some (.int .u64 s.ch) := HN2.out.cell 6
    go_wp2_with fail
    refine (wo_newS (HS.out.keep HB2.out) HSH.out).mono ?_
    intro e w3 hp
    cases hnb : newB s.files s.reps s.lim with
    | false => as_aux_lemma =>
      rw [hnb] at hp
      obtain ⟨rfl, hb3⟩ := hp
      have HB3 := Lib.hid (HB2.out.trans (hb3.mono HB2.out.size))
      have HN3 := Lib.hid (below_blk HN2.out hb3 HN2.out.lt)
      have HNB := Lib.hid hnb
      clear hb3 c0 c1 c2 c3 c4 c5 c6 hnb
      have c0 : w3.cell? ⟨B, 0, none⟩ = some (.slice s.A1 s.n1 s.c1) := HN3.out.cell 0
      have c1 : w3.cell? ⟨B, 1, none⟩ = some (.string s.stdin) := HN3.out.cell 1
      have c2 : w3.cell? ⟨B, 2, none⟩ = some (.slice s.A2 s.n2 s.c2) := HN3.out.cell 2
      have c3 : w3.cell? ⟨B, 3, none⟩ = some (.slice s.A3 s.n3 s.c3) := HN3.out.cell 3
      have c4 : w3.cell? ⟨B, 4, none⟩ = some (.int .i64 s.lim) := HN3.out.cell 4
      have c5 : w3.cell? ⟨B, 5, none⟩ = some (.int .i64 s.clock) := HN3.out.cell 5
      have c6 : w3.cell? ⟨B, 6, none⟩ = some (.int .u64 s.ch) := HN3.out.cell 6
      go_wp2_with fail
      refine (fw_newS HS.out HB3.out HSH.out).mono ?_
      rw [HNB.out]
      rintro e w4 ⟨rfl, hb4⟩
      have HB4 := Lib.hid (HB3.out.trans (hb4.mono HB3.out.size))
      clear hb4 c0 c1 c2 c3 c4 c5 c6
      have HB5 := Lib.hid (HB4.out.alloc HB4.out.size (.cells #[.slice none 0 0, .string ⟨#[]⟩, .slice none 0 0, .slice none 0 0, .int .i64 0, .int .i64 0, .int .u64 0, .slice none 0 0, .int .i64 0, .slice none 0 0, .int .u64 0, .slice none 0 0] 46))
      go_wp2_with fail
      generalize w4.alloc (.cells #[.slice none 0 0, .string ⟨#[]⟩, .slice none 0 0, .slice none 0 0, .int .i64 0, .int .i64 0, .int .u64 0, .slice none 0 0, .int .i64 0, .slice none 0 0, .int .u64 0, .slice none 0 0] 46) = w5 at *
      refine (HAW.out _ HB5.out).mono ?_
      rintro e w6 ⟨rfl, hb6⟩
      go_wp2_with fail
      go_ret
      exact ⟨rfl, HB5.out.trans (hb6.mono HB5.out.size)⟩
    | true =>
      rw [hnb] at hp
      obtain ⟨pb, M, F, rfl, hw3, hb3, hF3, hm3⟩ := hp
      have HB3 := Lib.hid (HB2.out.trans (hb3.mono HB2.out.size))
      have HN3 := Lib.hid (below_blk HN2.out hb3 HN2.out.lt)
      have HW3 := Lib.hid hw3
      have HF3 := Lib.hid hF3
      have HM3 := Lib.hid hm3
      have HB23 := Lib.hid hb3
      have HNB := Lib.hid hnb
      clear hb3 c0 c1 c2 c3 c4 c5 c6 hnb hw3 hF3 hm3
      have c0 : w3.cell? ⟨B, 0, none⟩ = some (.slice s.A1 s.n1 s.c1) := HN3.out.cell 0
      have c1 : w3.cell? ⟨B, 1, none⟩ = some (.string s.stdin) := HN3.out.cell 1
      have c2 : w3.cell? ⟨B, 2, none⟩ = some (.slice s.A2 s.n2 s.c2) := HN3.out.cell 2
      have c3 : w3.cell? ⟨B, 3, none⟩ = some (.slice s.A3 s.n3 s.c3) := HN3.out.cell 3
      have c4 : w3.cell? ⟨B, 4, none⟩ = some (.int .i64 s.lim) := HN3.out.cell 4
      have c5 : w3.cell? ⟨B, 5, none⟩ = some (.int .i64 s.clock) := HN3.out.cell 5
      have c6 : w3.cell? ⟨B, 6, none⟩ = some (.int .u64 s.ch) := HN3.out.cell 6
      go_wp2_with fail
      refine (fw_newS HS.out HB3.out HSH.out).mono ?_
      rw [HNB.out]
      rintro e w4 ⟨f, rfl, hr4, hb4⟩
      have hdist : distB (s.files.map (·.1)) = true := by
        have := HNB.out
        unfold newB at this
        simp only [Bool.and_eq_true] at this
        exact this.1
      have HL0 := Lib.hid (LR.start HB2.out HB23.out hb4 HW3.out HF3.out hr4)
      have HD0 : Hid (Bq 0 M.m (rsOf s)) := bq0 HSH.out (by rw [HS.out.l1]; exact HM3.out)
      have HC0 : Hid (Corr ⟨s.lim, s.clock, filesOf s.files, s.stdin, [], s.ch, [], s.reps, s.fls⟩ (rsOf s)) := corr0 hdist
      generalize (⟨s.lim, s.clock, filesOf s.files, s.stdin, [], s.ch, [], s.reps, s.fls⟩ : St) = st at *
      have hrs : ∃ rs, rs = rsOf s := ⟨_, rfl⟩
      obtain ⟨rs, hrs⟩ := hrs
      rw [← hrs] at HL0 HD0 HC0 ⊢
      rw [show fcells f rs = #[.slice f.A0 f.n0 f.c0, .string rs.stdin, .slice f.A2 rs.replies.length f.c2, .slice f.A3 rs.fails.length f.c3, .int .i64 rs.lim, .int .i64 rs.clock, .int .u64 rs.ch, .slice f.AF rs.files.length f.cF, .int .i64 rs.taken, .slice f.AO rs.opn.length f.cO, .int .u64 rs.num, .slice f.AE rs.events.length f.cE] from rfl] at HL0 ⊢
      clear hb4 c0 c1 c2 c3 c4 c5 c6 hr4 hdist hrs HW3 HF3 HM3 HB23 HNB HN3 HB3 HN2 HB2 HN1 HB1
      go_wp2_with fail
      generalize w4.alloc (.cells #[.slice f.A0 f.n0 f.c0, .string rs.stdin, .slice f.A2 rs.replies.length f.c2, .slice f.A3 rs.fails.length f.c3, .int .i64 rs.lim, .int .i64 rs.clock, .int .u64 rs.ch, .slice f.AF rs.files.length f.cF, .int .i64 rs.taken, .slice f.AO rs.opn.length f.cO, .int .u64 rs.num, .slice f.AE rs.events.length f.cE] 46) = w5 at *
      obtain ⟨V, hV⟩ : ∃ V, V = w4.heap.size := ⟨_, rfl⟩
      rw [← hV] at HL0 ⊢
      clear hV
      go_loopw [9, 10, 11] (fun lv mv iv wr => ∃ (i : Nat) (gs : List Nat) (rl : List RdV) (f : Fm) (rs : RSt) (F : Nat → Prop) (M : Mem) (st : St) (K : Nat → Prop), i ≤ n ∧ i ≤ 40 ∧ iv = .int .i64 i ∧ LI w wr V lv mv gs rl f rs F pb M st K i) (fun _ _ iv _ => n - (intOf iv).toNat)
      case atStart => exact ⟨0, [], [], f, rs, F, M, st, _, Nat.zero_le _, Nat.zero_le _, rfl, HL0.out, HC0.out, HD0.out, Nat.zero_le _, fun r hr => by cases hr⟩
      case round =>
        obtain ⟨i, gs, rl, f, rs, F, M, st, K, hin, hi40, rfl, hL⟩ := hrel
        have HL := Lib.hid hL
        clear hL HL0 HD0 HC0
        by_cases hgo : i < n ∧ i < 40
        · have hlt := hgo.1
          have h40 := hgo.2
          clear hgo
          have hil : i < ops.length := by have := HX.out.1; omega
          obtain ⟨b, o', rfl, hbw, hcell⟩ := HX.out.2.2 (by omega)
          obtain ⟨d0, d1, d2, d3, d4, d5⟩ := hcell i hil
          have d0 := (HL.out.lr.below.cell (p := ⟨b, o' + i * 6, none⟩) hbw).trans d0
          have d1 := (HL.out.lr.below.cell (p := ⟨b, o' + i * 6 + 1, none⟩) hbw).trans d1
          have d2 := (HL.out.lr.below.cell (p := ⟨b, o' + i * 6 + 2, none⟩) hbw).trans d2
          have d3 := (HL.out.lr.below.cell (p := ⟨b, o' + i * 6 + 3, none⟩) hbw).trans d3
          have d4 := (HL.out.lr.below.cell (p := ⟨b, o' + i * 6 + 4, none⟩) hbw).trans d4
          have d5 := (HL.out.lr.below.cell (p := ⟨b, o' + i * 6 + 5, none⟩) hbw).trans d5
          obtain ⟨w1', w2', w3', w4', w5', w6'⟩ := HX.out.2.1 ops[i] (List.getElem_mem _)
          generalize ops[i].kind = kd at *
          generalize ops[i].r = r at *
          generalize ops[i].n = q at *
          generalize ops[i].k = k at *
          generalize ops[i].rs = sep at *
          generalize ops[i].name = name at *
          have HQI := Lib.hid (show q ≤ 9223372036854775807 by
            simp [Lit.wf, IntKind.min, IntKind.max, IntKind.bits, IntKind.signed] at w3'; omega)
          have HRI := Lib.hid (show -9223372036854775808 ≤ r ∧ r ≤ 9223372036854775807 by
            simp [Lit.wf, IntKind.min, IntKind.max, IntKind.bits, IntKind.signed] at w2'; omega)
          have hsz1 : sep.size < 9223372036854775808 := by unfold maxLen at w5'; omega
          have hnz : name.size < 9223372036854775808 := by unfold maxLen at w6'; omega
          clear hcell w1' w2' w3' w4' w5' w6'
          have HBA := Lib.hid ((Below.refl wr.heap.size wr).alloc (Nat.le_refl _) (.cells #[.int .i64 kd, .int .i64 r, .int .i64 q, .int .u8 k, .string sep, .string name] 51))
          have HQ := Lib.hid (HL.out.lr.box 51 #[.int .i64 kd, .int .i64 r, .int .i64 q, .int .u8 k, .string sep, .string name])
          have HL2 := Lib.hid (HL.out.lr.pure HBA.out)
          have HLS := Lib.hid (HL.out.same h40 HBA.out)
          obtain ⟨LA, lcap, hlv, hlc1, hlc2⟩ := own_form HL.out.lr.rowL
          obtain ⟨MA, mcap, hmv, hmc1, hmc2⟩ := own_form HL.out.lr.rowM
          have hlc3 : lcap < 9223372036854775808 := by unfold maxLen at hlc2; omega
          have hmc3 : mcap < 9223372036854775808 := by unfold maxLen at hmc2; omega
          subst hlv hmv
          have hgl : gs.length = rl.length := HL.out.lr.gl
          have hg6 : gs.length ≤ 6 := by have := HL.out.six; omega
          clear hgl
          by_cases hsm : 20 < sep.size ∨ 100 < name.size
          · have hsm2 : (20 < sep.size) ∨ (¬ 20 < sep.size ∧ 100 < name.size) := by omega
            rcases hsm2 with g1 | ⟨g1, g2⟩
            all_goals as_aux_lemma =>
              go_wp2_with fail
              go_roundw
              case rel => exact ⟨i + 1, gs, rl, f, rs, F, M, st, _, by omega, by omega, by go_num, HLS.out⟩
              case measure => simp [intOf]; omega
          · have g1 : ¬ 20 < sep.size := by omega
            have g2 : ¬ 100 < name.size := by omega
            have hways : (kd = 6 ∧ gs.length < 6) ∨ (kd = 7 ∨ (kd = 8 ∨ ((1 ≤ kd ∧ kd ≤ 5 ∧ 0 < gs.length) ∨ ((kd = 6 ∧ ¬ gs.length < 6) ∨ (kd < 1 ∨ (8 < kd ∨ (1 ≤ kd ∧ kd ≤ 5 ∧ ¬ 0 < gs.length))))))) := by omega
            rcases hways with ⟨hkd, hg⟩ | hkd | hkd | ⟨hk1, hk5, hg⟩ | ⟨rfl, hg⟩ | hk1 | hk8 | ⟨hk1, hk5, hg⟩
            · skip
              have e6 : (kd == 6) = true := beq_iff_eq.2 hkd
              clear hkd
              go_upto_region 15 with (fail)
              obtain ⟨T, hT⟩ : ∃ T, T = wr.heap.size := ⟨_, rfl⟩
              rw [← hT] at HQ ⊢
              clear hT d0 d1 d2 d3 d4 d5
              generalize wr.alloc (.cells #[.int .i64 kd, .int .i64 r, .int .i64 q, .int .u8 k, .string sep, .string name] 51) = wq at *
              have q3 : wq.cell? ⟨T, 3, none⟩ = some (.int .u8 k) := HQ.out.blk.cell 3
              have q5 : wq.cell? ⟨T, 5, none⟩ = some (.string name) := HQ.out.blk.cell 5
              have HBQ := Lib.hid HL.out.bd
              have HNO : Hid (st.opn.length ≤ 1000 ∧ st.trace.length ≤ 100000 ∧ st.replies.length ≤ 1000 ∧ st.fails.length ≤ 1000 ∧ M.m ≤ 1000) := by
                have h1 := HL.out.bd.opn; have h2 := HL.out.bd.t40; have h3 := HL.out.bd.ev; have h4 := HL.out.bd.rep; have h5 := HL.out.bd.fails; have h6 := HL.out.bd.m
                unfold Hid
                rw [HL.out.corr.opn, List.length_map, HL.out.corr.trace, HL.out.corr.reps, HL.out.corr.fails]
                omega
              have HNM : Hid (name.size ≤ maxLen) := by unfold Hid maxLen; omega
              go_wp2_with fail
              refine (rp_new HL2.out.wat k name HNM.out (by have := HNO.out; omega) (by have := HNO.out; omega) (by have := HNO.out; omega) (by have := HNO.out; omega) (by have := HNO.out; omega)).mono ?_
              rintro e w5 ⟨M', F', hW5, ht5, hF5, hM5, hcase⟩
              obtain ⟨hcr, hcc⟩ := HL.out.corr.new k name
              have HCR := Lib.hid hcr
              have HCC := Lib.hid hcc
              have HBD := Lib.hid (HL.out.bd.new h40 k name hM5)
              have HL5 := Lib.hid (HL2.out.mine hW5 ht5 hF5)
              have HQ5 := Lib.hid (HQ.out.mine (F' := F') ht5 (fun g hg => .inl hg) hF5)
              have HSZ := Lib.hid ht5.size
              clear hcr hcc hM5 hF5 ht5 hW5 q3 q5
              have q3 : w5.cell? ⟨T, 3, none⟩ = some (.int .u8 k) := HQ5.out.blk.cell 3
              have q5 : w5.cell? ⟨T, 5, none⟩ = some (.string name) := HQ5.out.blk.cell 5
              rcases hcase with ⟨ho0, rb, rfl, hrb1, hrb2, hrb3⟩ | ⟨ho1, rfl⟩
              · have HR5 : Hid (NewR w w5 gs F' (fun b => (K b ∧ b < wr.heap.size) ∧ b < wq.heap.size) rb (rcellsV pb ⟨k, name, ⟨#[]⟩, false, false⟩)) := ⟨hrb3, by have := HL2.out.below.size; omega, hrb2, fun e => by have := e.2; omega, fun e => by have := (HL2.out.xlt (.inl e)).1; omega⟩
                clear hrb1 hrb2 hrb3
                dsimp only
                go_upto_region 99 with ((with_reducible refine gs12 f rs ?_ HL5.out.blk ?_); rfl)
                refine (q_new HL5.out.rf k name (by have := HBQ.out.ev; have := HBQ.out.t40; omega) (by have := HBQ.out.opn; have := HBQ.out.t40; omega) (by have := HBQ.out.fl; have := HBQ.out.t40; omega)).mono ?_
                rintro e wv ⟨f3, k2, name2, rfl, hr3, hb3, hkn⟩
                have HL6 := Lib.hid (HL5.out.doc hb3 hr3)
                have HR6 := Lib.hid (HR5.out.doc hb3)
                have HKN0 := Lib.hid hkn
                clear hr3 hb3 hkn q3 q5
                rw [← HCR.out]
                rw [← HCR.out] at HKN0
                generalize (newL st k name).1 = st3 at *
                generalize (newD rs k name).1 = rs3 at *
                generalize (newL st k name).2 = er at *
                rw [show fcells f3 rs3 = #[.slice f3.A0 f3.n0 f3.c0, .string rs3.stdin, .slice f3.A2 rs3.replies.length f3.c2, .slice f3.A3 rs3.fails.length f3.c3, .int .i64 rs3.lim, .int .i64 rs3.clock, .int .u64 rs3.ch, .slice f3.AF rs3.files.length f3.cF, .int .i64 rs3.taken, .slice f3.AO rs3.opn.length f3.cO, .int .u64 rs3.num, .slice f3.AE rs3.events.length f3.cE] from rfl]
                dsimp only
                have hba := ((Below.refl wv.heap.size wv).alloc (Nat.le_refl _) (.cells #[.slice f3.A0 f3.n0 f3.c0, .string rs3.stdin, .slice f3.A2 rs3.replies.length f3.c2, .slice f3.A3 rs3.fails.length f3.c3, .int .i64 rs3.lim, .int .i64 rs3.clock, .int .u64 rs3.ch, .slice f3.AF rs3.files.length f3.cF, .int .i64 rs3.taken, .slice f3.AO rs3.opn.length f3.cO, .int .u64 rs3.num, .slice f3.AE rs3.events.length f3.cE] 46)).alloc (by simp) (.cells #[.int .u8 k2, .string name2, .string ⟨#[]⟩, .bool false, .bool false] 55)
                have HL7 := Lib.hid (HL6.out.pure hba)
                have HR7 := Lib.hid (HR6.out.pure hba)
                have HT7 : Hid (Blk ((wv.alloc (.cells #[.slice f3.A0 f3.n0 f3.c0, .string rs3.stdin, .slice f3.A2 rs3.replies.length f3.c2, .slice f3.A3 rs3.fails.length f3.c3, .int .i64 rs3.lim, .int .i64 rs3.clock, .int .u64 rs3.ch, .slice f3.AF rs3.files.length f3.cF, .int .i64 rs3.taken, .slice f3.AO rs3.opn.length f3.cO, .int .u64 rs3.num, .slice f3.AE rs3.events.length f3.cE] 46)).alloc (.cells #[.int .u8 k2, .string name2, .string ⟨#[]⟩, .bool false, .bool false] 55)) wv.heap.size 46 #[.slice f3.A0 f3.n0 f3.c0, .string rs3.stdin, .slice f3.A2 rs3.replies.length f3.c2, .slice f3.A3 rs3.fails.length f3.c3, .int .i64 rs3.lim, .int .i64 rs3.clock, .int .u64 rs3.ch, .slice f3.AF rs3.files.length f3.cF, .int .i64 rs3.taken, .slice f3.AO rs3.opn.length f3.cO, .int .u64 rs3.num, .slice f3.AE rs3.events.length f3.cE]) := (Blk.new wv _ _).keep (Tur.of_alloc (F := fun _ => False) _ _) (fun h => h)
                have hla := (Below.refl wv.heap.size wv).alloc (Nat.le_refl _) (.cells #[.slice f3.A0 f3.n0 f3.c0, .string rs3.stdin, .slice f3.A2 rs3.replies.length f3.c2, .slice f3.A3 rs3.fails.length f3.c3, .int .i64 rs3.lim, .int .i64 rs3.clock, .int .u64 rs3.ch, .slice f3.AF rs3.files.length f3.cF, .int .i64 rs3.taken, .slice f3.AO rs3.opn.length f3.cO, .int .u64 rs3.num, .slice f3.AE rs3.events.length f3.cE] 46)
                have hx3 := (HL6.out.pure hla).box 55 #[.int .u8 k2, .string name2, .string ⟨#[]⟩, .bool false, .bool false]
                rw [World.size_alloc] at hx3
                have HX3 := Lib.hid hx3
                clear hba hla hx3
                go_upto_region 17 with (fail)
                obtain ⟨T2, hT2⟩ : ∃ T2, T2 = wv.heap.size := ⟨_, rfl⟩
                rw [← hT2] at HT7 HX3 ⊢
                obtain ⟨T3, hT3⟩ : ∃ T3, T3 = T2 + 1 := ⟨_, rfl⟩
                rw [← hT3] at HX3 ⊢
                clear hT2 hT3
                generalize (wv.alloc (.cells #[.slice f3.A0 f3.n0 f3.c0, .string rs3.stdin, .slice f3.A2 rs3.replies.length f3.c2, .slice f3.A3 rs3.fails.length f3.c3, .int .i64 rs3.lim, .int .i64 rs3.clock, .int .u64 rs3.ch, .slice f3.AF rs3.files.length f3.cF, .int .i64 rs3.taken, .slice f3.AO rs3.opn.length f3.cO, .int .u64 rs3.num, .slice f3.AE rs3.events.length f3.cE] 46)).alloc (.cells #[.int .u8 k2, .string name2, .string ⟨#[]⟩, .bool false, .bool false] 55) = wz at *
                go_upto_region 18 with (first | ((with_reducible refine gs12 f3 rs3 ?_ HT7.out ?_); rfl) | ((with_reducible refine ps12 f3 rs3 ?_ ?_ HL7.out.blk ?_ ?_); rfl; rfl; rfl))
                have HL8 := Lib.hid HL7.out.stored
                have HT8 := Lib.hid (HX3.out.stored f3 rs3)
                have HR8 := Lib.hid (HR7.out.keep (put12_tur wz V f3 rs3) (fun e => cells_ne HR7.out.blk HL7.out.blk (by decide) e))
                generalize put12 wz V f3 rs3 = w8 at *
                subst ho0
                have HKN := Lib.hid (HKN0.out rfl)
                go_upto_region 21 with (fail)
                have hdr := (Below.refl w8.heap.size w8).drew
                have HL9 := Lib.hid (HL8.out.pure hdr)
                have HT9 := Lib.hid (HT8.out.pure hdr)
                have HR9 := Lib.hid (HR8.out.pure hdr)
                clear hdr
                refine wp_region_noPanic ?_
                refine wp_region_ord (fun wd => Blk wd T3 55 #[.int .u8 k2, .string name2, .string ⟨#[]⟩, .bool false, .bool false]) (.read 0 (.read 1 (.read 4 (.read 5 (.fork 2 (.fork 3 (.alone 6 (.alone 7 (.read 8 (.read 9 .done)))) 6 (.alone 3 (.alone 7 (.read 8 (.read 9 .done))))) 6 (.alone 2 (.alone 3 (.alone 7 (.read 8 (.read 9 .done)))))))))) (by kernel_rfl) (by kernel_rfl) (fun _ _ _ _ _ h => h) HT9.out.blk ?_
                simp only [Ord.ops, List.getElem?_toArray, List.getElem?_cons_zero, List.getElem?_cons_succ]
                generalize w8.drew = w9 at *
                iterate 4 (
                  refine ord_read ?_ (fun wd hS M hM => ?_) ?_ ?_
                  rotate_left
                  · have HM := Lib.hid hM
                    obtain ⟨⟨r0, r1, r2, r3, r4⟩, -⟩ := hS.five
                    clear hM hS
                    repeat (first | go_values | go_skip | go_guarded | go_step | go_upon)
                    exact HM.out
                  · rfl)
                apply tail_in5 (fun wz na nb gz cap2 => ∃ K4 K5, LR w wz V (.slice (some ⟨gz, 0, none⟩) (gs.length + 1) cap2) (.slice MA rl.length mcap) (gs ++ [rb]) (rl ++ [(⟨k, name, ⟨#[]⟩, false, false⟩ : RdV)]) rl f3 rs3 F' pb M' st3 K4 f3 rs3 ∧ Bx w wz V (.slice (some ⟨gz, 0, none⟩) (gs.length + 1) cap2) (.slice MA rl.length mcap) (gs ++ [rb]) F' K5 T3 55 #[.int .u8 k2, .string name2, .string ⟨#[]⟩, .bool false, .bool false] ∧ Blk wz nb 55 #[.int .u8 k2, .string name2, .string ⟨#[]⟩, .bool false, .bool false])
                · intro TAIL
                  refine ord_fork ?_ ?_
                  · refine ord_alone (fun M hM => ?_)
                    have HM := Lib.hid hM
                    clear hM
                    have hbx := (Below.refl w9.heap.size w9).alloc (Nat.le_refl _) (.cells #[.pointer (some ⟨rb, 0, none⟩)] 22)
                    have HLa1 := Lib.hid (HL9.out.pure hbx)
                    have HTa1 := Lib.hid (HT9.out.pure hbx)
                    have HRa1 := Lib.hid (HR9.out.pure hbx)
                    have HNa1 := Lib.hid (HL9.out.box 22 #[.pointer (some ⟨rb, 0, none⟩)])
                    clear hbx
                    repeat (first | go_values | go_skip | go_guarded | go_step | go_upon)
                    refine HM.out _ _ HTa1.out.blk ?_
                    clear HM M
                    obtain ⟨Na1, hNa1⟩ : ∃ x, x = w9.heap.size := ⟨_, rfl⟩
                    rw [← hNa1] at HNa1 ⊢
                    clear hNa1
                    generalize w9.alloc (.cells #[.pointer (some ⟨rb, 0, none⟩)] 22) = wa1 at *
                    refine ord_fork ?_ ?_
                    · refine ord_alone (fun M hM => ?_)
                      have HM := Lib.hid hM
                      clear hM
                      have hz1 : gs.length + 1 ≤ maxLen := by unfold maxLen; omega
                      have hz2 : (gs.length + 1) * 8 ≤ 140737488355328 := by omega
                      have HBS := Lib.hid HLa1.out.below.size
                      repeat (first | (at_builtin; refine wp_app_cells rfl _ _ _ rfl 22 1 8 (.pointer none) Tryd.underlying27 info_prd rfl (by decide) w.heap.size (.slice LA gs.length lcap) gs.length _ rfl HLa1.out.rowL [.pointer (some ⟨rb, 0, none⟩)] Na1 rfl rfl HNa1.out.blk one_ptr hz1 hz2 HBS.out ?_; intro g2c2 cap2c2 wc2 hlc2 hcm2 hown2 hgrow2 hat2) | go_values | go_skip | go_guarded | go_step | go_upon)
                      have HOWc2 : Hid (wc2.ownsRow w.heap.size 22 1 (.slice (some ⟨g2c2, 0, none⟩) (gs.length + 1) cap2c2) (gs ++ [rb]).length (ptrs (gs ++ [rb]))) := by
                        have e : ptrs gs ++ [.pointer (some ⟨rb, 0, none⟩)] = ptrs (gs ++ [rb]) := by simp [ptrs]
                        unfold Hid
                        rw [← e, List.length_append]
                        exact hown2
                      have hatc : ∀ g, (.slice (some ⟨g2c2, 0, none⟩) (gs.length + 1) cap2c2 : Value).ownBlock = some g → (.slice LA gs.length lcap : Value).ownBlock = some g ∨ wa1.heap.size ≤ g := fun g e => by
                        have e2 : g2c2 = g := by injection e
                        subst e2
                        exact hat2
                      have HLc2 := Lib.hid (HLa1.out.moreL rb ⟨k, name, ⟨#[]⟩, false, false⟩ HRa1.out.blk HRa1.out.nG ⟨HRa1.out.nF, HRa1.out.nK, HRa1.out.old⟩ hgrow2 HOWc2.out hatc)
                      have HTc2 := Lib.hid (HTa1.out.moreL rb (fun e => cells_ne HTa1.out.blk HRa1.out.blk (by decide) e) hgrow2 hatc)
                      clear hz1 hz2 hgrow2 hatc hown2 hat2 hlc2 hcm2
                      refine HM.out _ _ HTc2.out.blk ?_
                      clear HM M
                      refine ord_alone (fun M hM => ?_)
                      have HM := Lib.hid hM
                      clear hM
                      have hbx := (Below.refl wc2.heap.size wc2).alloc (Nat.le_refl _) (.cells #[.int .u8 k2, .string name2, .string ⟨#[]⟩, .bool false, .bool false] 55)
                      have HLb3 := Lib.hid (HLc2.out.pure hbx)
                      have HTb3 := Lib.hid (HTc2.out.pure hbx)
                      have HNb3 := Lib.hid (HLc2.out.box 55 #[.int .u8 k2, .string name2, .string ⟨#[]⟩, .bool false, .bool false])
                      clear hbx
                      repeat (first | go_values | go_skip | go_guarded | go_step | go_upon)
                      refine HM.out _ _ HTb3.out.blk ?_
                      clear HM M
                      obtain ⟨Nb3, hNb3⟩ : ∃ x, x = wc2.heap.size := ⟨_, rfl⟩
                      rw [← hNb3] at HNb3 ⊢
                      clear hNb3
                      generalize wc2.alloc (.cells #[.int .u8 k2, .string name2, .string ⟨#[]⟩, .bool false, .bool false] 55) = wb3 at *
                      exact TAIL wb3 Na1 Nb3 g2c2 cap2c2 ⟨_, _, HLb3.out, HTb3.out, HNb3.out.blk⟩
                    · refine ord_alone (fun M hM => ?_)
                      have HM := Lib.hid hM
                      clear hM
                      have hbx := (Below.refl wa1.heap.size wa1).alloc (Nat.le_refl _) (.cells #[.int .u8 k2, .string name2, .string ⟨#[]⟩, .bool false, .bool false] 55)
                      have HLb5 := Lib.hid (HLa1.out.pure hbx)
                      have HTb5 := Lib.hid (HTa1.out.pure hbx)
                      have HRb5 := Lib.hid (HRa1.out.pure hbx)
                      have HNAb5 := Lib.hid (HNa1.out.pure hbx)
                      have HNb5 := Lib.hid (HLa1.out.box 55 #[.int .u8 k2, .string name2, .string ⟨#[]⟩, .bool false, .bool false])
                      clear hbx
                      repeat (first | go_values | go_skip | go_guarded | go_step | go_upon)
                      refine HM.out _ _ HTb5.out.blk ?_
                      clear HM M
                      obtain ⟨Nb5, hNb5⟩ : ∃ x, x = wa1.heap.size := ⟨_, rfl⟩
                      rw [← hNb5] at HNb5 ⊢
                      clear hNb5
                      generalize wa1.alloc (.cells #[.int .u8 k2, .string name2, .string ⟨#[]⟩, .bool false, .bool false] 55) = wb5 at *
                      refine ord_alone (fun M hM => ?_)
                      have HM := Lib.hid hM
                      clear hM
                      have hz1 : gs.length + 1 ≤ maxLen := by unfold maxLen; omega
                      have hz2 : (gs.length + 1) * 8 ≤ 140737488355328 := by omega
                      have HBS := Lib.hid HLb5.out.below.size
                      repeat (first | (at_builtin; refine wp_app_cells rfl _ _ _ rfl 22 1 8 (.pointer none) Tryd.underlying27 info_prd rfl (by decide) w.heap.size (.slice LA gs.length lcap) gs.length _ rfl HLb5.out.rowL [.pointer (some ⟨rb, 0, none⟩)] Na1 rfl rfl HNAb5.out.blk one_ptr hz1 hz2 HBS.out ?_; intro g2c6 cap2c6 wc6 hlc2 hcm2 hown2 hgrow2 hat2) | go_values | go_skip | go_guarded | go_step | go_upon)
                      have HOWc6 : Hid (wc6.ownsRow w.heap.size 22 1 (.slice (some ⟨g2c6, 0, none⟩) (gs.length + 1) cap2c6) (gs ++ [rb]).length (ptrs (gs ++ [rb]))) := by
                        have e : ptrs gs ++ [.pointer (some ⟨rb, 0, none⟩)] = ptrs (gs ++ [rb]) := by simp [ptrs]
                        unfold Hid
                        rw [← e, List.length_append]
                        exact hown2
                      have hatc : ∀ g, (.slice (some ⟨g2c6, 0, none⟩) (gs.length + 1) cap2c6 : Value).ownBlock = some g → (.slice LA gs.length lcap : Value).ownBlock = some g ∨ wb5.heap.size ≤ g := fun g e => by
                        have e2 : g2c6 = g := by injection e
                        subst e2
                        exact hat2
                      have HLc6 := Lib.hid (HLb5.out.moreL rb ⟨k, name, ⟨#[]⟩, false, false⟩ HRb5.out.blk HRb5.out.nG ⟨HRb5.out.nF, HRb5.out.nK, HRb5.out.old⟩ hgrow2 HOWc6.out hatc)
                      have HTc6 := Lib.hid (HTb5.out.moreL rb (fun e => cells_ne HTb5.out.blk HRb5.out.blk (by decide) e) hgrow2 hatc)
                      have HNBc6 := Lib.hid (HNb5.out.moreL rb (fun e => cells_ne HNb5.out.blk HRb5.out.blk (by decide) e) hgrow2 hatc)
                      clear hz1 hz2 hgrow2 hatc hown2 hat2 hlc2 hcm2
                      refine HM.out _ _ HTc6.out.blk ?_
                      clear HM M
                      exact TAIL wc6 Na1 Nb5 g2c6 cap2c6 ⟨_, _, HLc6.out, HTc6.out, HNBc6.out.blk⟩
                  · refine ord_alone (fun M hM => ?_)
                    have HM := Lib.hid hM
                    clear hM
                    have hbx := (Below.refl w9.heap.size w9).alloc (Nat.le_refl _) (.cells #[.int .u8 k2, .string name2, .string ⟨#[]⟩, .bool false, .bool false] 55)
                    have HLb8 := Lib.hid (HL9.out.pure hbx)
                    have HTb8 := Lib.hid (HT9.out.pure hbx)
                    have HRb8 := Lib.hid (HR9.out.pure hbx)
                    have HNb8 := Lib.hid (HL9.out.box 55 #[.int .u8 k2, .string name2, .string ⟨#[]⟩, .bool false, .bool false])
                    clear hbx
                    repeat (first | go_values | go_skip | go_guarded | go_step | go_upon)
                    refine HM.out _ _ HTb8.out.blk ?_
                    clear HM M
                    obtain ⟨Nb8, hNb8⟩ : ∃ x, x = w9.heap.size := ⟨_, rfl⟩
                    rw [← hNb8] at HNb8 ⊢
                    clear hNb8
                    generalize w9.alloc (.cells #[.int .u8 k2, .string name2, .string ⟨#[]⟩, .bool false, .bool false] 55) = wb8 at *
                    refine ord_alone (fun M hM => ?_)
                    have HM := Lib.hid hM
                    clear hM
                    have hbx := (Below.refl wb8.heap.size wb8).alloc (Nat.le_refl _) (.cells #[.pointer (some ⟨rb, 0, none⟩)] 22)
                    have HLa9 := Lib.hid (HLb8.out.pure hbx)
                    have HTa9 := Lib.hid (HTb8.out.pure hbx)
                    have HRa9 := Lib.hid (HRb8.out.pure hbx)
                    have HNBa9 := Lib.hid (HNb8.out.pure hbx)
                    have HNa9 := Lib.hid (HLb8.out.box 22 #[.pointer (some ⟨rb, 0, none⟩)])
                    clear hbx
                    repeat (first | go_values | go_skip | go_guarded | go_step | go_upon)
                    refine HM.out _ _ HTa9.out.blk ?_
                    clear HM M
                    obtain ⟨Na9, hNa9⟩ : ∃ x, x = wb8.heap.size := ⟨_, rfl⟩
                    rw [← hNa9] at HNa9 ⊢
                    clear hNa9
                    generalize wb8.alloc (.cells #[.pointer (some ⟨rb, 0, none⟩)] 22) = wa9 at *
                    refine ord_alone (fun M hM => ?_)
                    have HM := Lib.hid hM
                    clear hM
                    have hz1 : gs.length + 1 ≤ maxLen := by unfold maxLen; omega
                    have hz2 : (gs.length + 1) * 8 ≤ 140737488355328 := by omega
                    have HBS := Lib.hid HLa9.out.below.size
                    repeat (first | (at_builtin; refine wp_app_cells rfl _ _ _ rfl 22 1 8 (.pointer none) Tryd.underlying27 info_prd rfl (by decide) w.heap.size (.slice LA gs.length lcap) gs.length _ rfl HLa9.out.rowL [.pointer (some ⟨rb, 0, none⟩)] Na9 rfl rfl HNa9.out.blk one_ptr hz1 hz2 HBS.out ?_; intro g2c10 cap2c10 wc10 hlc2 hcm2 hown2 hgrow2 hat2) | go_values | go_skip | go_guarded | go_step | go_upon)
                    have HOWc10 : Hid (wc10.ownsRow w.heap.size 22 1 (.slice (some ⟨g2c10, 0, none⟩) (gs.length + 1) cap2c10) (gs ++ [rb]).length (ptrs (gs ++ [rb]))) := by
                      have e : ptrs gs ++ [.pointer (some ⟨rb, 0, none⟩)] = ptrs (gs ++ [rb]) := by simp [ptrs]
                      unfold Hid
                      rw [← e, List.length_append]
                      exact hown2
                    have hatc : ∀ g, (.slice (some ⟨g2c10, 0, none⟩) (gs.length + 1) cap2c10 : Value).ownBlock = some g → (.slice LA gs.length lcap : Value).ownBlock = some g ∨ wa9.heap.size ≤ g := fun g e => by
                      have e2 : g2c10 = g := by injection e
                      subst e2
                      exact hat2
                    have HLc10 := Lib.hid (HLa9.out.moreL rb ⟨k, name, ⟨#[]⟩, false, false⟩ HRa9.out.blk HRa9.out.nG ⟨HRa9.out.nF, HRa9.out.nK, HRa9.out.old⟩ hgrow2 HOWc10.out hatc)
                    have HTc10 := Lib.hid (HTa9.out.moreL rb (fun e => cells_ne HTa9.out.blk HRa9.out.blk (by decide) e) hgrow2 hatc)
                    have HNBc10 := Lib.hid (HNBa9.out.moreL rb (fun e => cells_ne HNBa9.out.blk HRa9.out.blk (by decide) e) hgrow2 hatc)
                    clear hz1 hz2 hgrow2 hatc hown2 hat2 hlc2 hcm2
                    refine HM.out _ _ HTc10.out.blk ?_
                    clear HM M
                    exact TAIL wc10 Na9 Nb8 g2c10 cap2c10 ⟨_, _, HLc10.out, HTc10.out, HNBc10.out.blk⟩
                · intro wz na nb gz cap2 hT
                  obtain ⟨K4, K5, hlz, htz, hnz⟩ := hT
                  have HLZ := Lib.hid hlz
                  have HTZ := Lib.hid htz
                  have HNB := Lib.hid hnz
                  clear hlz htz hnz
                  refine ord_alone (fun M hM => ?_)
                  have HM := Lib.hid hM
                  clear hM
                  have hz1 : rl.length + 1 ≤ maxLen := by unfold maxLen; have := HL.out.six; omega
                  have hz2 : (rl.length + 1) * 48 ≤ 140737488355328 := by have := HL.out.six; omega
                  have HBS := Lib.hid HLZ.out.below.size
                  repeat (first | (at_builtin; refine wp_app_cells rfl _ _ _ rfl 55 5 48 (.agg #[.int .u8 0, .string ⟨#[]⟩, .string ⟨#[]⟩, .bool false, .bool false]) Tryd.underlying49 info_qrd rfl (by decide) w.heap.size (.slice MA rl.length mcap) rl.length _ rfl HLZ.out.rowM (mv5 ⟨k2, name2, ⟨#[]⟩, false, false⟩) nb rfl rfl HNB.out (one_rd _) hz1 hz2 HBS.out ?_; intro g2d4 cap2d4 wd4 hlc2 hcm2 hown2 hgrow2 hat2) | go_values | go_skip | go_guarded | go_step | go_upon)
                  have HOWd4 : Hid (wd4.ownsRow w.heap.size 55 5 (.slice (some ⟨g2d4, 0, none⟩) (rl.length + 1) cap2d4) (rl ++ [(⟨k2, name2, ⟨#[]⟩, false, false⟩ : RdV)]).length (mvals (rl ++ [(⟨k2, name2, ⟨#[]⟩, false, false⟩ : RdV)]))) := by
                    unfold Hid
                    rw [← mvals_snoc, List.length_append]
                    exact hown2
                  have hatd : ∀ g, (.slice (some ⟨g2d4, 0, none⟩) (rl.length + 1) cap2d4 : Value).ownBlock = some g → (.slice MA rl.length mcap : Value).ownBlock = some g ∨ wz.heap.size ≤ g := fun g e => by
                    have e2 : g2d4 = g := by injection e
                    subst e2
                    exact hat2
                  have HLd4 := Lib.hid (HLZ.out.turnM (rl ++ [(⟨k2, name2, ⟨#[]⟩, false, false⟩ : RdV)]) (Tur.of_grown hgrow2) HOWd4.out hatd)
                  have HTd4 := Lib.hid (HTZ.out.turnM (Tur.of_grown hgrow2) hatd)
                  clear hz1 hz2 hgrow2 hatd hown2 hat2 hlc2 hcm2
                  refine HM.out _ _ HTd4.out.blk ?_
                  clear HM M
                  iterate 2 (
                    refine ord_read ?_ (fun wd hS M hM => ?_) ?_ ?_
                    rotate_left
                    · have HM := Lib.hid hM
                      obtain ⟨⟨r0, r1, r2, r3, r4⟩, -⟩ := hS.five
                      clear hM hS
                      repeat (first | go_values | go_skip | go_guarded | go_step | go_upon)
                      exact HM.out
                    · rfl)
                  refine NoPanic.normal (?_ : _)
                  obtain ⟨ek, en⟩ := HKN.out
                  subst ek en
                  have HFIN : Hid (LI w wd4 V (.slice (some ⟨gz, 0, none⟩) (gs.length + 1) cap2) (.slice (some ⟨g2d4, 0, none⟩) (rl.length + 1) cap2d4) (gs ++ [rb]) (rl ++ [(⟨k2, name2, ⟨#[]⟩, false, false⟩ : RdV)]) f3 rs3 F' pb M' st3 _ (i + 1)) := ⟨HLd4.out, HCC.out, HBD.out, by rw [List.length_append]; simp; have := HL.out.lr.gl; omega, fun x hx => by
                    rcases List.mem_append.1 hx with hx | hx
                    · have := HL.out.left x hx; omega
                    · rw [List.mem_singleton.1 hx]; exact Nat.zero_le _⟩
                  repeat (first | go_values | go_skip | go_guarded | go_step | go_upon)
                  go_roundw
                  case rel => exact ⟨i + 1, _, _, f3, rs3, F', M', st3, _, by omega, by omega, by go_num, HFIN.out⟩
                  case measure => simp [intOf]; omega
              · dsimp only
                go_upto_region 99 with ((with_reducible refine gs12 f rs ?_ HL5.out.blk ?_); rfl)
                refine (q_new HL5.out.rf k name (by have := HBQ.out.ev; have := HBQ.out.t40; omega) (by have := HBQ.out.opn; have := HBQ.out.t40; omega) (by have := HBQ.out.fl; have := HBQ.out.t40; omega)).mono ?_
                rintro e wv ⟨f3, k2, name2, rfl, hr3, hb3, hkn⟩
                have HL6 := Lib.hid (HL5.out.doc hb3 hr3)
                have HKN0 := Lib.hid hkn
                clear hr3 hb3 hkn q3 q5
                rw [← HCR.out]
                rw [← HCR.out] at HKN0
                generalize (newL st k name).1 = st3 at *
                generalize (newD rs k name).1 = rs3 at *
                generalize (newL st k name).2 = er at *
                rw [show fcells f3 rs3 = #[.slice f3.A0 f3.n0 f3.c0, .string rs3.stdin, .slice f3.A2 rs3.replies.length f3.c2, .slice f3.A3 rs3.fails.length f3.c3, .int .i64 rs3.lim, .int .i64 rs3.clock, .int .u64 rs3.ch, .slice f3.AF rs3.files.length f3.cF, .int .i64 rs3.taken, .slice f3.AO rs3.opn.length f3.cO, .int .u64 rs3.num, .slice f3.AE rs3.events.length f3.cE] from rfl]
                dsimp only
                have hba := ((Below.refl wv.heap.size wv).alloc (Nat.le_refl _) (.cells #[.slice f3.A0 f3.n0 f3.c0, .string rs3.stdin, .slice f3.A2 rs3.replies.length f3.c2, .slice f3.A3 rs3.fails.length f3.c3, .int .i64 rs3.lim, .int .i64 rs3.clock, .int .u64 rs3.ch, .slice f3.AF rs3.files.length f3.cF, .int .i64 rs3.taken, .slice f3.AO rs3.opn.length f3.cO, .int .u64 rs3.num, .slice f3.AE rs3.events.length f3.cE] 46)).alloc (by simp) (.cells #[.int .u8 k2, .string name2, .string ⟨#[]⟩, .bool false, .bool false] 55)
                have HL7 := Lib.hid (HL6.out.pure hba)
                have HT7 : Hid (Blk ((wv.alloc (.cells #[.slice f3.A0 f3.n0 f3.c0, .string rs3.stdin, .slice f3.A2 rs3.replies.length f3.c2, .slice f3.A3 rs3.fails.length f3.c3, .int .i64 rs3.lim, .int .i64 rs3.clock, .int .u64 rs3.ch, .slice f3.AF rs3.files.length f3.cF, .int .i64 rs3.taken, .slice f3.AO rs3.opn.length f3.cO, .int .u64 rs3.num, .slice f3.AE rs3.events.length f3.cE] 46)).alloc (.cells #[.int .u8 k2, .string name2, .string ⟨#[]⟩, .bool false, .bool false] 55)) wv.heap.size 46 #[.slice f3.A0 f3.n0 f3.c0, .string rs3.stdin, .slice f3.A2 rs3.replies.length f3.c2, .slice f3.A3 rs3.fails.length f3.c3, .int .i64 rs3.lim, .int .i64 rs3.clock, .int .u64 rs3.ch, .slice f3.AF rs3.files.length f3.cF, .int .i64 rs3.taken, .slice f3.AO rs3.opn.length f3.cO, .int .u64 rs3.num, .slice f3.AE rs3.events.length f3.cE]) := (Blk.new wv _ _).keep (Tur.of_alloc (F := fun _ => False) _ _) (fun h => h)
                have hla := (Below.refl wv.heap.size wv).alloc (Nat.le_refl _) (.cells #[.slice f3.A0 f3.n0 f3.c0, .string rs3.stdin, .slice f3.A2 rs3.replies.length f3.c2, .slice f3.A3 rs3.fails.length f3.c3, .int .i64 rs3.lim, .int .i64 rs3.clock, .int .u64 rs3.ch, .slice f3.AF rs3.files.length f3.cF, .int .i64 rs3.taken, .slice f3.AO rs3.opn.length f3.cO, .int .u64 rs3.num, .slice f3.AE rs3.events.length f3.cE] 46)
                have hx3 := (HL6.out.pure hla).box 55 #[.int .u8 k2, .string name2, .string ⟨#[]⟩, .bool false, .bool false]
                rw [World.size_alloc] at hx3
                have HX3 := Lib.hid hx3
                clear hba hla hx3
                go_upto_region 17 with (fail)
                obtain ⟨T2, hT2⟩ : ∃ T2, T2 = wv.heap.size := ⟨_, rfl⟩
                rw [← hT2] at HT7 HX3 ⊢
                obtain ⟨T3, hT3⟩ : ∃ T3, T3 = T2 + 1 := ⟨_, rfl⟩
                rw [← hT3] at HX3 ⊢
                clear hT2 hT3
                generalize (wv.alloc (.cells #[.slice f3.A0 f3.n0 f3.c0, .string rs3.stdin, .slice f3.A2 rs3.replies.length f3.c2, .slice f3.A3 rs3.fails.length f3.c3, .int .i64 rs3.lim, .int .i64 rs3.clock, .int .u64 rs3.ch, .slice f3.AF rs3.files.length f3.cF, .int .i64 rs3.taken, .slice f3.AO rs3.opn.length f3.cO, .int .u64 rs3.num, .slice f3.AE rs3.events.length f3.cE] 46)).alloc (.cells #[.int .u8 k2, .string name2, .string ⟨#[]⟩, .bool false, .bool false] 55) = wz at *
                have HLS7 := Lib.hid HL7.out.stored
                have HFIN : Hid (LI w (put12 wz V f3 rs3) V _ _ gs rl f3 rs3 F' pb M' st3 _ (i + 1)) := ⟨HLS7.out, HCC.out, HBD.out, HL.out.six, fun r hr => by have := HL.out.left r hr; omega⟩
                clear HLS7
                have eer : (er == 0) = false := beq_eq_false_iff_ne.2 ho1
                go_upto_region 18 with (first | ((with_reducible refine gs12 f3 rs3 ?_ HT7.out ?_); rfl) | ((with_reducible refine ps12 f3 rs3 ?_ ?_ HL7.out.blk ?_ ?_); rfl; rfl; rfl))
                generalize put12 wz V f3 rs3 = w8 at *
                go_wp2_with fail
                go_roundw
                case rel => exact ⟨i + 1, gs, rl, f3, rs3, F', M', st3, _, by omega, by omega, by go_num, HFIN.out⟩
                case measure => simp [intOf]; omega
            · as_aux_lemma =>
              have e6 : (kd == 6) = false := beq_eq_false_iff_ne.2 (by omega)
              have e7 : (kd == 7) = true := beq_iff_eq.2 hkd
              clear hkd
              go_upto_region 23 with (fail)
              obtain ⟨T, hT⟩ : ∃ T, T = wr.heap.size := ⟨_, rfl⟩
              rw [← hT] at HQ ⊢
              clear hT d0 d1 d2 d3 d4 d5
              generalize wr.alloc (.cells #[.int .i64 kd, .int .i64 r, .int .i64 q, .int .u8 k, .string sep, .string name] 51) = wq at *
              have q5 : wq.cell? ⟨T, 5, none⟩ = some (.string name) := HQ.out.blk.cell 5
              have hno : st.opn.length ≤ 1000 := by rw [HL.out.corr.opn, List.length_map]; have := HL.out.bd.opn; have := HL.out.bd.t40; omega
              have hnt : st.trace.length ≤ 100000 := by rw [HL.out.corr.trace]; have := HL.out.bd.ev; have := HL.out.bd.t40; omega
              have hnr : st.replies.length ≤ 1000 := by rw [HL.out.corr.reps]; have := HL.out.bd.rep; omega
              go_wp2_with fail
              refine (wo_close HL2.out.wat name (by omega) (by omega) (by omega)).mono ?_
              rintro e w5 ⟨M', F', rfl, hW5, ht5, hF5, hM5⟩
              have HL5 := Lib.hid (HL2.out.mine hW5 ht5 hF5)
              have HQ5 := Lib.hid (HQ.out.mine (F' := F') ht5 (fun g hg => .inl hg) hF5)
              have HM5 := Lib.hid hM5
              clear hW5 ht5 hF5 hM5 q5
              have q5 : w5.cell? ⟨T, 5, none⟩ = some (.string name) := HQ5.out.blk.cell 5
              dsimp only
              go_upto_region 99 with ((with_reducible refine gs12 f rs ?_ HL5.out.blk ?_); rfl)
              refine (fw_close HL5.out.rf name (by have := HL.out.bd.ev; have := HL.out.bd.t40; omega) (by have := HL.out.bd.opn; have := HL.out.bd.t40; omega)).mono ?_
              rintro e wv ⟨f3, rfl, hr3, hb3⟩
              have HL6 := Lib.hid (HL5.out.doc hb3 hr3)
              obtain ⟨hcr, hcc⟩ := HL.out.corr.close name
              have HBD := Lib.hid (HL.out.bd.close h40 name (m' := M'.m) (by have := HM5.out; omega))
              have HCC := Lib.hid hcc
              clear hr3 hb3 q5 hcr hcc
              generalize (closeL st name).1 = st3 at *
              generalize (closeD rs name).1 = rs3 at *
              have HLS7 := Lib.hid HL6.out.stored
              have HFIN : Hid (LI w (put12 wv V f3 rs3) V _ _ gs rl f3 rs3 F' pb M' st3 _ (i + 1)) := ⟨HLS7.out, HCC.out, HBD.out, HL.out.six, fun r hr => by have := HL.out.left r hr; omega⟩
              clear HLS7
              dsimp only
              go_upto_region 99 with ((with_reducible refine ps12 f3 rs3 ?_ ?_ HL6.out.blk ?_ ?_); rfl; rfl; rfl)
              go_roundw
              case rel => exact ⟨i + 1, gs, rl, f3, rs3, F', M', st3, _, by omega, by omega, by go_num, HFIN.out⟩
              case measure => simp [intOf]; omega
            · as_aux_lemma =>
              have e6 : (kd == 6) = false := beq_eq_false_iff_ne.2 (by omega)
              have e7 : (kd == 7) = false := beq_eq_false_iff_ne.2 (by omega)
              have e8 : (kd == 8) = true := beq_iff_eq.2 hkd
              clear hkd
              go_upto_region 26 with (fail)
              obtain ⟨T, hT⟩ : ∃ T, T = wr.heap.size := ⟨_, rfl⟩
              rw [← hT] at HQ ⊢
              clear hT d0 d1 d2 d3 d4 d5
              generalize wr.alloc (.cells #[.int .i64 kd, .int .i64 r, .int .i64 q, .int .u8 k, .string sep, .string name] 51) = wq at *
              have q2 : wq.cell? ⟨T, 2, none⟩ = some (.int .i64 q) := HQ.out.blk.cell 2
              have q3 : wq.cell? ⟨T, 3, none⟩ = some (.int .u8 k) := HQ.out.blk.cell 3
              have q5 : wq.cell? ⟨T, 5, none⟩ = some (.string name) := HQ.out.blk.cell 5
              have HLM := Lib.hid (lim_of HL.out.corr HL.out.bd)
              go_wp2_with fail
              refine (wo_read HL2.out.wat k name q HQI.out (by have := HLM.out.inp; omega) (fun s hs => by have := HLM.out.op s hs; omega) (by have := HLM.out.no; omega) (by have := HLM.out.nf; omega)).mono ?_
              rintro e w5 ⟨rfl, hW5, ht5⟩
              have HL5 := Lib.hid (HL2.out.mine hW5 ht5 (fun g hg => .inl hg))
              have HQ5 := Lib.hid (HQ.out.mine (F' := F) ht5 (fun g hg => .inl hg) (fun g hg => .inl hg))
              clear hW5 ht5 q2 q3 q5
              have q2 : w5.cell? ⟨T, 2, none⟩ = some (.int .i64 q) := HQ5.out.blk.cell 2
              have q3 : w5.cell? ⟨T, 3, none⟩ = some (.int .u8 k) := HQ5.out.blk.cell 3
              have q5 : w5.cell? ⟨T, 5, none⟩ = some (.string name) := HQ5.out.blk.cell 5
              obtain ⟨hcr, hcc⟩ := HL.out.corr.read k name q
              rw [hcr]
              have HCC := Lib.hid hcc
              have HBD := Lib.hid (HL.out.bd.same h40 (readD_same rs k name q) (m' := M.m) (Nat.le_succ _))
              clear hcr hcc
              dsimp only
              go_upto_region 99 with ((with_reducible refine gs12 f rs ?_ HL5.out.blk ?_); rfl)
              refine (fw_read HL5.out.rf k name q HQI.out (by have := HL.out.bd.opn; have := HL.out.bd.t40; omega) HL.out.corr.tk (by have := HL.out.bd.st; omega) (fun s hs => ⟨HL.out.corr.tks s hs, by have := HL.out.bd.src s hs; omega⟩)).mono ?_
              rintro e wv ⟨f3, rfl, hr3, hb3⟩
              have HL6 := Lib.hid (HL5.out.doc hb3 hr3)
              clear hr3 hb3 q2 q3 q5
              generalize (readL st k name q).1 = st3 at *
              generalize (readD rs k name q).1 = rs3 at *
              generalize (readD rs k name q).2.1 = s1 at *
              generalize (readD rs k name q).2.2 = er at *
              dsimp only
              have hba := (Below.refl wv.heap.size wv).alloc (Nat.le_refl _) (.cells #[.slice none 0 0, .string ⟨#[]⟩, .slice none 0 0, .slice none 0 0, .int .i64 0, .int .i64 0, .int .u64 0, .slice none 0 0, .int .i64 0, .slice none 0 0, .int .u64 0, .slice none 0 0] 46)
              have hbx := HL6.out.box 46 #[.slice none 0 0, .string ⟨#[]⟩, .slice none 0 0, .slice none 0 0, .int .i64 0, .int .i64 0, .int .u64 0, .slice none 0 0, .int .i64 0, .slice none 0 0, .int .u64 0, .slice none 0 0]
              have HL7 := Lib.hid ((HL6.out.pure hba).boxed hbx (put12_tur _ _ f3 rs3))
              have HT7 := Lib.hid (hbx.fill12 f3 rs3)
              clear hba hbx
              go_upto_region 28 with ((with_reducible refine ps12 f3 rs3 ?_ ?_ (Blk.new wv _ _) ?_ ?_); rfl; rfl; rfl)
              obtain ⟨T2, hT2⟩ : ∃ T2, T2 = wv.heap.size := ⟨_, rfl⟩
              rw [← hT2] at HT7 HL7 ⊢
              clear hT2
              generalize put12 (wv.alloc (.cells #[.slice none 0 0, .string ⟨#[]⟩, .slice none 0 0, .slice none 0 0, .int .i64 0, .int .i64 0, .int .u64 0, .slice none 0 0, .int .i64 0, .slice none 0 0, .int .u64 0, .slice none 0 0] 46)) T2 f3 rs3 = wz at *
              have HLS7 := Lib.hid HL7.out.stored
              have HFIN : Hid (LI w (put12 wz V f3 rs3) V _ _ gs rl f3 rs3 F pb M st3 _ (i + 1)) := ⟨HLS7.out, HCC.out, HBD.out, HL.out.six, fun r hr => by have := HL.out.left r hr; omega⟩
              clear HLS7
              go_upto_region 29 with (first | ((with_reducible refine gs12 f3 rs3 ?_ HT7.out.blk ?_); rfl) | ((with_reducible refine ps12 f3 rs3 ?_ ?_ HL7.out.blk ?_ ?_); rfl; rfl; rfl))
              generalize put12 wz V f3 rs3 = w8 at *
              go_wp2_with fail
              go_roundw
              case rel => exact ⟨i + 1, gs, rl, f3, rs3, F, M, st3, _, by omega, by omega, by go_num, HFIN.out⟩
              case measure => simp [intOf]; omega
            · skip
              have e6 : (kd == 6) = false := beq_eq_false_iff_ne.2 (by omega)
              have e7 : (kd == 7) = false := beq_eq_false_iff_ne.2 (by omega)
              have e8 : (kd == 8) = false := beq_eq_false_iff_ne.2 (by omega)
              go_upto_region 32 with (fail)
              obtain ⟨T, hT⟩ : ∃ T, T = wr.heap.size := ⟨_, rfl⟩
              rw [← hT] at HQ HL2 ⊢
              clear hT d0 d1 d2 d3 d4 d5
              generalize wr.alloc (.cells #[.int .i64 kd, .int .i64 r, .int .i64 q, .int .u8 k, .string sep, .string name] 51) = wq at *
              have q1 : wq.cell? ⟨T, 1, none⟩ = some (.int .i64 r) := HQ.out.blk.cell 1
              have HRW : Hid ((Lit.int .i64 r).wf = true) := by have := HRI.out; unfold Hid; simp [Lit.wf, IntKind.min, IntKind.max, IntKind.bits, IntKind.signed]; omega
              go_wp2_with fail
              refine (w_pick r gs.length _ HRW.out (by omega) (by omega)).mono ?_
              rintro e w4 ⟨rfl, rfl⟩
              have hp0 := Int.emod_nonneg r (show (gs.length : Int) ≠ 0 by omega)
              have hp1 := Int.emod_lt_of_pos r (show (0 : Int) < (gs.length : Int) by omega)
              obtain ⟨x, hx⟩ : ∃ x : Nat, r % (gs.length : Int) = x := ⟨(r % (gs.length : Int)).toNat, by omega⟩
              rw [hx] at hp0 hp1 ⊢
              have hxg : x < gs.length := by omega
              have hxr : x < rl.length := by have := HL.out.lr.gl; omega
              have hx63 : x ≤ 9223372036854775807 := by omega
              clear hx hp0 hp1 q1
              obtain ⟨g, hgx, hgb⟩ := HL2.out.rds x hxr
              have HGX := Lib.hid hgx
              have HGB := Lib.hid hgb
              have HXR := Lib.hid hxr
              clear hgx hgb
              obtain ⟨gb, gcap, hgv, -, -⟩ := ownB_form HL2.out.rowL (by omega)
              injection hgv with hga hgn hgc
              subst hga hgc
              have HPC : Hid (wq.cell? ⟨gb, x, none⟩ = some (.pointer (some ⟨g, 0, none⟩))) := by
                have h1 := HL2.out.rowL.cellAt x (by rw [Nat.mul_one]; exact hxg)
                unfold Hid
                rw [h1]
                simp only [ptrs, List.getElem?_map, HGX.out]
                rfl
              clear hgn
              go_upto_region 33 with (fail)
              have hdr := (Below.refl wq.heap.size wq).drew
              have HL3 := Lib.hid (HL2.out.pure hdr)
              have HQ3 := Lib.hid (HQ.out.pure hdr)
              have HG3 := Lib.hid (below_blk HGB.out hdr HGB.out.lt)
              have HPC3 : Hid (wq.drew.cell? ⟨gb, x, none⟩ = some (.pointer (some ⟨g, 0, none⟩))) := HPC.out
              clear hdr
              refine wp_region_noPanic ?_
              refine wp_region_ord (fun wd => wd.cell? ⟨gb, x, none⟩ = some (.pointer (some ⟨g, 0, none⟩)) ∧ Blk wd T 51 #[.int .i64 kd, .int .i64 r, .int .i64 q, .int .u8 k, .string sep, .string name]) (.read 0 (.read 1 (.read 2 (.read 3 (.read 4 (.read 5 (.alone 6 (.read 7 (.read 8 (.read 9 (.read 10 (.read 11 (.read 12 (.read 13 .done)))))))))))))) (by kernel_rfl) (by kernel_rfl) (fun _ _ _ _ _ h => h) ⟨HPC3.out, HQ3.out.blk⟩ ?_
              simp only [Ord.ops, List.getElem?_toArray, List.getElem?_cons_zero, List.getElem?_cons_succ]
              generalize wq.drew = w5 at *
              iterate 6 (
                refine ord_read ?_ (fun wd hS M hM => ?_) ?_ ?_
                rotate_left
                · have HM := Lib.hid hM
                  have q4 : wd.cell? ⟨T, 4, none⟩ = some (.string sep) := hS.2.cell 4
                  have qx := hS.1
                  clear hM hS
                  repeat (first | go_values | go_skip | go_guarded | go_step | go_upon)
                  exact HM.out
                · rfl)
              obtain ⟨rv, hrv⟩ : ∃ rv, rv = rl[x] := ⟨_, rfl⟩
              have HRV := Lib.hid hrv
              clear hrv
              have HGF := Lib.hid (HL3.out.x g (.inl (List.mem_of_getElem? HGX.out)))
              have HRX3 : Hid (RdX F w5 g pb M st rv.k rv.name rv.left rv.fin rv.ended) := ⟨HL3.out.wat, by have := HG3.out; rw [HRV.out]; exact this, HGF.out.1⟩
              have HLM := Lib.hid (lim_of HL.out.corr HL.out.bd)
              have HLFT : Hid (rv.left.size ≤ 3000 * i) := HL.out.left rv (by rw [HRV.out]; exact List.getElem_mem _)
              refine ord_alone (fun M0 hM => ?_)
              have HM := Lib.hid hM
              clear hM
              have q4 : w5.cell? ⟨T, 4, none⟩ = some (.string sep) := HQ3.out.blk.cell 4
              repeat (first | (go_at_call 8; refine (rp_Next HRX3.out HL3.out.below (fun g hg => (HL3.out.fw g hg).1) HGF.out.2.2 HLM.out (by decide) (by have := HLFT.out; omega) HSHP.out sep).mono ?_; rintro e w6 ⟨st3, l3, fn3, er, tt, ok, rfl, hNL, hRX, ht6⟩; dsimp only) | go_values | go_skip | go_guarded | go_step | go_upon)
              have HNL := Lib.hid hNL
              have HL6 := Lib.hid (HL3.out.nexted x g hxr HGX.out ⟨rv.k, rv.name, l3, fn3, !ok⟩ hRX.rd hRX.wat ht6)
              have HQ6 := Lib.hid (HQ3.out.mine (F' := F) ht6 (fun j hj => hj.elim .inl (fun e => .inr (by rw [e]; exact List.mem_of_getElem? HGX.out))) (fun g hg => .inl hg))
              have HPC6 : Hid (w6.cell? ⟨gb, x, none⟩ = some (.pointer (some ⟨g, 0, none⟩))) := by
                have h1 := HL6.out.rowL.cellAt x (by rw [Nat.mul_one]; exact hxg)
                unfold Hid
                rw [h1]
                simp only [ptrs, List.getElem?_map, HGX.out]
                rfl
              clear hNL hRX ht6 q4
              refine HM.out _ _ ⟨HPC6.out, HQ6.out.blk⟩ ?_
              clear HM M0
              iterate 7 (
                refine ord_read ?_ (fun wd hS M hM => ?_) ?_ ?_
                rotate_left
                · have HM := Lib.hid hM
                  clear hM hS
                  repeat (first | go_values | go_skip | go_guarded | go_step | go_upon)
                  exact HM.out
                · rfl)
              refine NoPanic.normal (?_ : _)
              go_upto_region 34 with (fail)
              have HMR := Lib.hid (HL6.out.rowM)
              obtain ⟨mb, mcap2, hmv, -, -⟩ := ownB_form HL6.out.rowM (by omega)
              injection hmv with hma hmn hmc
              subst hma hmc
              clear hmn
              have HBQ := Lib.hid HL.out.bd
              have HCO := Lib.hid HL.out.corr
              have hdr := (Below.refl w6.heap.size w6).drew
              have HL7 := Lib.hid (HL6.out.pure hdr)
              have HQ7 := Lib.hid (HQ6.out.pure hdr)
              clear hdr
              refine wp_region_noPanic ?_
              refine wp_region_ord (fun wd => Blk wd T 51 #[.int .i64 kd, .int .i64 r, .int .i64 q, .int .u8 k, .string sep, .string name] ∧ Blk wd V 46 (fcells f rs) ∧ wd.ownsRow w.heap.size 55 5 (.slice (some ⟨mb, 0, none⟩) rl.length mcap) rl.length (mvals rl)) (.read 0 (.read 1 (.read 2 (.read 3 (.read 4 (.read 5 (.read 6 (.fork3 7 (.read 8 (.read 9 (.read 10 (.read 11 (.read 12 (.read 13 (.fork 14 (.alone 15 (.alone 16 (.alone 17 (.read 18 (.read 19 (.read 20 .done)))))) 15 (.alone 14 (.alone 16 (.alone 17 (.read 18 (.read 19 (.read 20 .done))))))))))))) 14 (.fork 7 (.read 8 (.read 9 (.read 10 (.read 11 (.read 12 (.read 13 (.alone 15 (.alone 16 (.alone 17 (.read 18 (.read 19 (.read 20 .done)))))))))))) 15 (.alone 7 (.read 8 (.read 9 (.read 10 (.read 11 (.read 12 (.read 13 (.alone 16 (.alone 17 (.read 18 (.read 19 (.read 20 .done))))))))))))) 15 (.fork 7 (.read 8 (.read 9 (.read 10 (.read 11 (.read 12 (.read 13 (.alone 14 (.alone 16 (.alone 17 (.read 18 (.read 19 (.read 20 .done)))))))))))) 14 (.alone 7 (.read 8 (.read 9 (.read 10 (.read 11 (.read 12 (.read 13 (.alone 16 (.alone 17 (.read 18 (.read 19 (.read 20 .done))))))))))))))))))))) (by kernel_rfl) (by kernel_rfl) (fun _ _ _ _ _ h => h) ⟨HQ7.out.blk, HL7.out.blk, HL7.out.rowM⟩ ?_
              simp only [Ord.ops, List.getElem?_toArray, List.getElem?_cons_zero, List.getElem?_cons_succ]
              generalize w6.drew = w7 at *
              iterate 7 (
                refine ord_read ?_ (fun wd hS M hM => ?_) ?_ ?_
                rotate_left
                · have HM := Lib.hid hM
                  obtain ⟨m0, m1, m2, m3, m4⟩ := row_five hS.2.2 x hxr HRV.out
                  have hSV := Lib.hid hS.2.1
                  have q4 : wd.cell? ⟨T, 4, none⟩ = some (.string sep) := hS.1.cell 4
                  clear hM hS
                  repeat (first | (refine wp_get12 rfl _ rfl f rs rfl hSV.out ?_) | go_values | go_skip | go_guarded | go_step | go_upon)
                  exact HM.out
                · rfl)
              apply tail_in (fun wz T2 T3 f3 rs3 => ∃ K4, LR w wz V (.slice (some ⟨gb, 0, none⟩) gs.length lcap) (.slice (some ⟨mb, 0, none⟩) rl.length mcap) gs (rl.set x ⟨rv.k, rv.name, l3, fn3, !ok⟩) rl f rs F pb M st3 K4 f3 rs3 ∧ Bx w wz V (.slice (some ⟨gb, 0, none⟩) gs.length lcap) (.slice (some ⟨mb, 0, none⟩) rl.length mcap) gs F K4 T 51 #[.int .i64 kd, .int .i64 r, .int .i64 q, .int .u8 k, .string sep, .string name] ∧ Bx w wz V (.slice (some ⟨gb, 0, none⟩) gs.length lcap) (.slice (some ⟨mb, 0, none⟩) rl.length mcap) gs F K4 T2 46 #[.slice none 0 0, .string ⟨#[]⟩, .slice none 0 0, .slice none 0 0, .int .i64 0, .int .i64 0, .int .u64 0, .slice none 0 0, .int .i64 0, .slice none 0 0, .int .u64 0, .slice none 0 0] ∧ Bx w wz V (.slice (some ⟨gb, 0, none⟩) gs.length lcap) (.slice (some ⟨mb, 0, none⟩) rl.length mcap) gs F K4 T3 55 #[.int .u8 0, .string ⟨#[]⟩, .string ⟨#[]⟩, .bool false, .bool false] ∧ Corr st3 rs3 ∧ Bq (i + 1) M.m rs3)
              · intro TAIL
                refine ord_fork3 ?_ ?_ ?_
                · refine ord_alone (fun M0 hM => ?_)
                  have HM := Lib.hid hM
                  clear hM
                  repeat (first | go_values | go_skip | go_guarded | go_step | go_upon)
                  go_at_call 21
                  refine (q_next HL7.out.rf HCO.out HLM.out (by decide) rv.k rv.name rv.left rv.fin rv.ended (by have := HLFT.out; omega) (by have := HBQ.out.opn; have := HBQ.out.t40; omega) (by have := HBQ.out.st; omega) (fun s hs => by have := HBQ.out.src s hs; omega) sep (by omega)).mono ?_
                  rintro e wn1 ⟨f3, rs3, l4, fn4, er4, tt4, ok4, rfl, hnr, hr3, hb3⟩
                  obtain ⟨rfl, rfl, rfl, rfl, rfl, hcc⟩ := next_corr HNL.out HCO.out hnr
                  dsimp only
                  have HCC := Lib.hid hcc
                  obtain ⟨l5, hl5, -⟩ := hnr
                  have HBD := Lib.hid (HBQ.out.same h40 (pullR_same hl5) (m' := M.m) (Nat.le_succ _))
                  have HHL1 := Lib.hid (HL7.out.doc hb3 hr3)
                  have HHQ1 := Lib.hid (HQ7.out.doc hb3)
                  clear hcc hl5 hr3 hb3
                  repeat (first | go_values | go_skip | go_guarded | go_step | go_upon)
                  refine HM.out _ _ ⟨HHQ1.out.blk, HHL1.out.blk, HHL1.out.rowM⟩ ?_
                  clear HM M0
                  iterate 6 (
                    refine ord_read ?_ (fun wd hS M hM => ?_) ?_ ?_
                    rotate_left
                    · have HM := Lib.hid hM
                      clear hM hS
                      repeat (first | go_values | go_skip | go_guarded | go_step | go_upon)
                      exact HM.out
                    · rfl)
                  refine ord_fork ?_ ?_
                  · refine ord_alone (fun M0 hM => ?_)
                    have HM := Lib.hid hM
                    clear hM
                    have hbx := (Below.refl wn1.heap.size wn1).alloc (Nat.le_refl _) (.cells #[.slice none 0 0, .string ⟨#[]⟩, .slice none 0 0, .slice none 0 0, .int .i64 0, .int .i64 0, .int .u64 0, .slice none 0 0, .int .i64 0, .slice none 0 0, .int .u64 0, .slice none 0 0] 46)
                    have HHL2 := Lib.hid (HHL1.out.pure hbx)
                    have HHQ2 := Lib.hid (HHQ1.out.pure hbx)
                    have HT22 := Lib.hid (HHL1.out.box 46 #[.slice none 0 0, .string ⟨#[]⟩, .slice none 0 0, .slice none 0 0, .int .i64 0, .int .i64 0, .int .u64 0, .slice none 0 0, .int .i64 0, .slice none 0 0, .int .u64 0, .slice none 0 0])
                    clear hbx
                    repeat (first | go_values | go_skip | go_guarded | go_step | go_upon)
                    refine HM.out _ _ ⟨HHQ2.out.blk, HHL2.out.blk, HHL2.out.rowM⟩ ?_
                    clear HM M0
                    obtain ⟨N2, hN2⟩ : ∃ x, x = wn1.heap.size := ⟨_, rfl⟩
                    rw [← hN2] at HHL2 HHQ2 HT22 ⊢
                    clear hN2
                    generalize wn1.alloc (.cells #[.slice none 0 0, .string ⟨#[]⟩, .slice none 0 0, .slice none 0 0, .int .i64 0, .int .i64 0, .int .u64 0, .slice none 0 0, .int .i64 0, .slice none 0 0, .int .u64 0, .slice none 0 0] 46) = wn2 at *
                    refine ord_alone (fun M0 hM => ?_)
                    have HM := Lib.hid hM
                    clear hM
                    have hbx := (Below.refl wn2.heap.size wn2).alloc (Nat.le_refl _) (.cells #[.int .u8 0, .string ⟨#[]⟩, .string ⟨#[]⟩, .bool false, .bool false] 55)
                    have HHL3 := Lib.hid (HHL2.out.pure hbx)
                    have HHQ3 := Lib.hid (HHQ2.out.pure hbx)
                    have HT23 := Lib.hid (HT22.out.pure hbx)
                    have HT33 := Lib.hid (HHL2.out.box 55 #[.int .u8 0, .string ⟨#[]⟩, .string ⟨#[]⟩, .bool false, .bool false])
                    clear hbx
                    repeat (first | go_values | go_skip | go_guarded | go_step | go_upon)
                    refine HM.out _ _ ⟨HHQ3.out.blk, HHL3.out.blk, HHL3.out.rowM⟩ ?_
                    clear HM M0
                    obtain ⟨N3, hN3⟩ : ∃ x, x = wn2.heap.size := ⟨_, rfl⟩
                    rw [← hN3] at HHL3 HHQ3 HT23 HT33 ⊢
                    clear hN3
                    generalize wn2.alloc (.cells #[.int .u8 0, .string ⟨#[]⟩, .string ⟨#[]⟩, .bool false, .bool false] 55) = wn3 at *
                    exact TAIL wn3 N2 N3 f3 rs3 ⟨_, HHL3.out, HHQ3.out, HT23.out, HT33.out, HCC.out, HBD.out⟩
                  · refine ord_alone (fun M0 hM => ?_)
                    have HM := Lib.hid hM
                    clear hM
                    have hbx := (Below.refl wn1.heap.size wn1).alloc (Nat.le_refl _) (.cells #[.int .u8 0, .string ⟨#[]⟩, .string ⟨#[]⟩, .bool false, .bool false] 55)
                    have HHL4 := Lib.hid (HHL1.out.pure hbx)
                    have HHQ4 := Lib.hid (HHQ1.out.pure hbx)
                    have HT34 := Lib.hid (HHL1.out.box 55 #[.int .u8 0, .string ⟨#[]⟩, .string ⟨#[]⟩, .bool false, .bool false])
                    clear hbx
                    repeat (first | go_values | go_skip | go_guarded | go_step | go_upon)
                    refine HM.out _ _ ⟨HHQ4.out.blk, HHL4.out.blk, HHL4.out.rowM⟩ ?_
                    clear HM M0
                    obtain ⟨N4, hN4⟩ : ∃ x, x = wn1.heap.size := ⟨_, rfl⟩
                    rw [← hN4] at HHL4 HHQ4 HT34 ⊢
                    clear hN4
                    generalize wn1.alloc (.cells #[.int .u8 0, .string ⟨#[]⟩, .string ⟨#[]⟩, .bool false, .bool false] 55) = wn4 at *
                    refine ord_alone (fun M0 hM => ?_)
                    have HM := Lib.hid hM
                    clear hM
                    have hbx := (Below.refl wn4.heap.size wn4).alloc (Nat.le_refl _) (.cells #[.slice none 0 0, .string ⟨#[]⟩, .slice none 0 0, .slice none 0 0, .int .i64 0, .int .i64 0, .int .u64 0, .slice none 0 0, .int .i64 0, .slice none 0 0, .int .u64 0, .slice none 0 0] 46)
                    have HHL5 := Lib.hid (HHL4.out.pure hbx)
                    have HHQ5 := Lib.hid (HHQ4.out.pure hbx)
                    have HT35 := Lib.hid (HT34.out.pure hbx)
                    have HT25 := Lib.hid (HHL4.out.box 46 #[.slice none 0 0, .string ⟨#[]⟩, .slice none 0 0, .slice none 0 0, .int .i64 0, .int .i64 0, .int .u64 0, .slice none 0 0, .int .i64 0, .slice none 0 0, .int .u64 0, .slice none 0 0])
                    clear hbx
                    repeat (first | go_values | go_skip | go_guarded | go_step | go_upon)
                    refine HM.out _ _ ⟨HHQ5.out.blk, HHL5.out.blk, HHL5.out.rowM⟩ ?_
                    clear HM M0
                    obtain ⟨N5, hN5⟩ : ∃ x, x = wn4.heap.size := ⟨_, rfl⟩
                    rw [← hN5] at HHL5 HHQ5 HT25 HT35 ⊢
                    clear hN5
                    generalize wn4.alloc (.cells #[.slice none 0 0, .string ⟨#[]⟩, .slice none 0 0, .slice none 0 0, .int .i64 0, .int .i64 0, .int .u64 0, .slice none 0 0, .int .i64 0, .slice none 0 0, .int .u64 0, .slice none 0 0] 46) = wn5 at *
                    exact TAIL wn5 N5 N4 f3 rs3 ⟨_, HHL5.out, HHQ5.out, HT25.out, HT35.out, HCC.out, HBD.out⟩
                · as_aux_lemma =>
                  refine ord_alone (fun M0 hM => ?_)
                  have HM := Lib.hid hM
                  clear hM
                  have hbx := (Below.refl w7.heap.size w7).alloc (Nat.le_refl _) (.cells #[.slice none 0 0, .string ⟨#[]⟩, .slice none 0 0, .slice none 0 0, .int .i64 0, .int .i64 0, .int .u64 0, .slice none 0 0, .int .i64 0, .slice none 0 0, .int .u64 0, .slice none 0 0] 46)
                  have HHL6 := Lib.hid (HL7.out.pure hbx)
                  have HHQ6 := Lib.hid (HQ7.out.pure hbx)
                  have HT26 := Lib.hid (HL7.out.box 46 #[.slice none 0 0, .string ⟨#[]⟩, .slice none 0 0, .slice none 0 0, .int .i64 0, .int .i64 0, .int .u64 0, .slice none 0 0, .int .i64 0, .slice none 0 0, .int .u64 0, .slice none 0 0])
                  clear hbx
                  repeat (first | go_values | go_skip | go_guarded | go_step | go_upon)
                  refine HM.out _ _ ⟨HHQ6.out.blk, HHL6.out.blk, HHL6.out.rowM⟩ ?_
                  clear HM M0
                  obtain ⟨N6, hN6⟩ : ∃ x, x = w7.heap.size := ⟨_, rfl⟩
                  rw [← hN6] at HHL6 HHQ6 HT26 ⊢
                  clear hN6
                  generalize w7.alloc (.cells #[.slice none 0 0, .string ⟨#[]⟩, .slice none 0 0, .slice none 0 0, .int .i64 0, .int .i64 0, .int .u64 0, .slice none 0 0, .int .i64 0, .slice none 0 0, .int .u64 0, .slice none 0 0] 46) = wn6 at *
                  refine ord_fork ?_ ?_
                  · refine ord_alone (fun M0 hM => ?_)
                    have HM := Lib.hid hM
                    clear hM
                    repeat (first | go_values | go_skip | go_guarded | go_step | go_upon)
                    go_at_call 21
                    refine (q_next HHL6.out.rf HCO.out HLM.out (by decide) rv.k rv.name rv.left rv.fin rv.ended (by have := HLFT.out; omega) (by have := HBQ.out.opn; have := HBQ.out.t40; omega) (by have := HBQ.out.st; omega) (fun s hs => by have := HBQ.out.src s hs; omega) sep (by omega)).mono ?_
                    rintro e wn7 ⟨f3, rs3, l4, fn4, er4, tt4, ok4, rfl, hnr, hr3, hb3⟩
                    obtain ⟨rfl, rfl, rfl, rfl, rfl, hcc⟩ := next_corr HNL.out HCO.out hnr
                    dsimp only
                    have HCC := Lib.hid hcc
                    obtain ⟨l5, hl5, -⟩ := hnr
                    have HBD := Lib.hid (HBQ.out.same h40 (pullR_same hl5) (m' := M.m) (Nat.le_succ _))
                    have HHL7 := Lib.hid (HHL6.out.doc hb3 hr3)
                    have HHQ7 := Lib.hid (HHQ6.out.doc hb3)
                    have HT27 := Lib.hid (HT26.out.doc hb3)
                    clear hcc hl5 hr3 hb3
                    repeat (first | go_values | go_skip | go_guarded | go_step | go_upon)
                    refine HM.out _ _ ⟨HHQ7.out.blk, HHL7.out.blk, HHL7.out.rowM⟩ ?_
                    clear HM M0
                    iterate 6 (
                      refine ord_read ?_ (fun wd hS M hM => ?_) ?_ ?_
                      rotate_left
                      · have HM := Lib.hid hM
                        clear hM hS
                        repeat (first | go_values | go_skip | go_guarded | go_step | go_upon)
                        exact HM.out
                      · rfl)
                    refine ord_alone (fun M0 hM => ?_)
                    have HM := Lib.hid hM
                    clear hM
                    have hbx := (Below.refl wn7.heap.size wn7).alloc (Nat.le_refl _) (.cells #[.int .u8 0, .string ⟨#[]⟩, .string ⟨#[]⟩, .bool false, .bool false] 55)
                    have HHL8 := Lib.hid (HHL7.out.pure hbx)
                    have HHQ8 := Lib.hid (HHQ7.out.pure hbx)
                    have HT28 := Lib.hid (HT27.out.pure hbx)
                    have HT38 := Lib.hid (HHL7.out.box 55 #[.int .u8 0, .string ⟨#[]⟩, .string ⟨#[]⟩, .bool false, .bool false])
                    clear hbx
                    repeat (first | go_values | go_skip | go_guarded | go_step | go_upon)
                    refine HM.out _ _ ⟨HHQ8.out.blk, HHL8.out.blk, HHL8.out.rowM⟩ ?_
                    clear HM M0
                    obtain ⟨N8, hN8⟩ : ∃ x, x = wn7.heap.size := ⟨_, rfl⟩
                    rw [← hN8] at HHL8 HHQ8 HT28 HT38 ⊢
                    clear hN8
                    generalize wn7.alloc (.cells #[.int .u8 0, .string ⟨#[]⟩, .string ⟨#[]⟩, .bool false, .bool false] 55) = wn8 at *
                    exact TAIL wn8 N6 N8 f3 rs3 ⟨_, HHL8.out, HHQ8.out, HT28.out, HT38.out, HCC.out, HBD.out⟩
                  · refine ord_alone (fun M0 hM => ?_)
                    have HM := Lib.hid hM
                    clear hM
                    have hbx := (Below.refl wn6.heap.size wn6).alloc (Nat.le_refl _) (.cells #[.int .u8 0, .string ⟨#[]⟩, .string ⟨#[]⟩, .bool false, .bool false] 55)
                    have HHL9 := Lib.hid (HHL6.out.pure hbx)
                    have HHQ9 := Lib.hid (HHQ6.out.pure hbx)
                    have HT29 := Lib.hid (HT26.out.pure hbx)
                    have HT39 := Lib.hid (HHL6.out.box 55 #[.int .u8 0, .string ⟨#[]⟩, .string ⟨#[]⟩, .bool false, .bool false])
                    clear hbx
                    repeat (first | go_values | go_skip | go_guarded | go_step | go_upon)
                    refine HM.out _ _ ⟨HHQ9.out.blk, HHL9.out.blk, HHL9.out.rowM⟩ ?_
                    clear HM M0
                    obtain ⟨N9, hN9⟩ : ∃ x, x = wn6.heap.size := ⟨_, rfl⟩
                    rw [← hN9] at HHL9 HHQ9 HT29 HT39 ⊢
                    clear hN9
                    generalize wn6.alloc (.cells #[.int .u8 0, .string ⟨#[]⟩, .string ⟨#[]⟩, .bool false, .bool false] 55) = wn9 at *
                    refine ord_alone (fun M0 hM => ?_)
                    have HM := Lib.hid hM
                    clear hM
                    repeat (first | go_values | go_skip | go_guarded | go_step | go_upon)
                    go_at_call 21
                    refine (q_next HHL9.out.rf HCO.out HLM.out (by decide) rv.k rv.name rv.left rv.fin rv.ended (by have := HLFT.out; omega) (by have := HBQ.out.opn; have := HBQ.out.t40; omega) (by have := HBQ.out.st; omega) (fun s hs => by have := HBQ.out.src s hs; omega) sep (by omega)).mono ?_
                    rintro e wn10 ⟨f3, rs3, l4, fn4, er4, tt4, ok4, rfl, hnr, hr3, hb3⟩
                    obtain ⟨rfl, rfl, rfl, rfl, rfl, hcc⟩ := next_corr HNL.out HCO.out hnr
                    dsimp only
                    have HCC := Lib.hid hcc
                    obtain ⟨l5, hl5, -⟩ := hnr
                    have HBD := Lib.hid (HBQ.out.same h40 (pullR_same hl5) (m' := M.m) (Nat.le_succ _))
                    have HHL10 := Lib.hid (HHL9.out.doc hb3 hr3)
                    have HHQ10 := Lib.hid (HHQ9.out.doc hb3)
                    have HT210 := Lib.hid (HT29.out.doc hb3)
                    have HT310 := Lib.hid (HT39.out.doc hb3)
                    clear hcc hl5 hr3 hb3
                    repeat (first | go_values | go_skip | go_guarded | go_step | go_upon)
                    refine HM.out _ _ ⟨HHQ10.out.blk, HHL10.out.blk, HHL10.out.rowM⟩ ?_
                    clear HM M0
                    iterate 6 (
                      refine ord_read ?_ (fun wd hS M hM => ?_) ?_ ?_
                      rotate_left
                      · have HM := Lib.hid hM
                        clear hM hS
                        repeat (first | go_values | go_skip | go_guarded | go_step | go_upon)
                        exact HM.out
                      · rfl)
                    exact TAIL wn10 N6 N9 f3 rs3 ⟨_, HHL10.out, HHQ10.out, HT210.out, HT310.out, HCC.out, HBD.out⟩
                · as_aux_lemma =>
                  refine ord_alone (fun M0 hM => ?_)
                  have HM := Lib.hid hM
                  clear hM
                  have hbx := (Below.refl w7.heap.size w7).alloc (Nat.le_refl _) (.cells #[.int .u8 0, .string ⟨#[]⟩, .string ⟨#[]⟩, .bool false, .bool false] 55)
                  have HHL11 := Lib.hid (HL7.out.pure hbx)
                  have HHQ11 := Lib.hid (HQ7.out.pure hbx)
                  have HT311 := Lib.hid (HL7.out.box 55 #[.int .u8 0, .string ⟨#[]⟩, .string ⟨#[]⟩, .bool false, .bool false])
                  clear hbx
                  repeat (first | go_values | go_skip | go_guarded | go_step | go_upon)
                  refine HM.out _ _ ⟨HHQ11.out.blk, HHL11.out.blk, HHL11.out.rowM⟩ ?_
                  clear HM M0
                  obtain ⟨N11, hN11⟩ : ∃ x, x = w7.heap.size := ⟨_, rfl⟩
                  rw [← hN11] at HHL11 HHQ11 HT311 ⊢
                  clear hN11
                  generalize w7.alloc (.cells #[.int .u8 0, .string ⟨#[]⟩, .string ⟨#[]⟩, .bool false, .bool false] 55) = wn11 at *
                  refine ord_fork ?_ ?_
                  · refine ord_alone (fun M0 hM => ?_)
                    have HM := Lib.hid hM
                    clear hM
                    repeat (first | go_values | go_skip | go_guarded | go_step | go_upon)
                    go_at_call 21
                    refine (q_next HHL11.out.rf HCO.out HLM.out (by decide) rv.k rv.name rv.left rv.fin rv.ended (by have := HLFT.out; omega) (by have := HBQ.out.opn; have := HBQ.out.t40; omega) (by have := HBQ.out.st; omega) (fun s hs => by have := HBQ.out.src s hs; omega) sep (by omega)).mono ?_
                    rintro e wn12 ⟨f3, rs3, l4, fn4, er4, tt4, ok4, rfl, hnr, hr3, hb3⟩
                    obtain ⟨rfl, rfl, rfl, rfl, rfl, hcc⟩ := next_corr HNL.out HCO.out hnr
                    dsimp only
                    have HCC := Lib.hid hcc
                    obtain ⟨l5, hl5, -⟩ := hnr
                    have HBD := Lib.hid (HBQ.out.same h40 (pullR_same hl5) (m' := M.m) (Nat.le_succ _))
                    have HHL12 := Lib.hid (HHL11.out.doc hb3 hr3)
                    have HHQ12 := Lib.hid (HHQ11.out.doc hb3)
                    have HT312 := Lib.hid (HT311.out.doc hb3)
                    clear hcc hl5 hr3 hb3
                    repeat (first | go_values | go_skip | go_guarded | go_step | go_upon)
                    refine HM.out _ _ ⟨HHQ12.out.blk, HHL12.out.blk, HHL12.out.rowM⟩ ?_
                    clear HM M0
                    iterate 6 (
                      refine ord_read ?_ (fun wd hS M hM => ?_) ?_ ?_
                      rotate_left
                      · have HM := Lib.hid hM
                        clear hM hS
                        repeat (first | go_values | go_skip | go_guarded | go_step | go_upon)
                        exact HM.out
                      · rfl)
                    refine ord_alone (fun M0 hM => ?_)
                    have HM := Lib.hid hM
                    clear hM
                    have hbx := (Below.refl wn12.heap.size wn12).alloc (Nat.le_refl _) (.cells #[.slice none 0 0, .string ⟨#[]⟩, .slice none 0 0, .slice none 0 0, .int .i64 0, .int .i64 0, .int .u64 0, .slice none 0 0, .int .i64 0, .slice none 0 0, .int .u64 0, .slice none 0 0] 46)
                    have HHL13 := Lib.hid (HHL12.out.pure hbx)
                    have HHQ13 := Lib.hid (HHQ12.out.pure hbx)
                    have HT313 := Lib.hid (HT312.out.pure hbx)
                    have HT213 := Lib.hid (HHL12.out.box 46 #[.slice none 0 0, .string ⟨#[]⟩, .slice none 0 0, .slice none 0 0, .int .i64 0, .int .i64 0, .int .u64 0, .slice none 0 0, .int .i64 0, .slice none 0 0, .int .u64 0, .slice none 0 0])
                    clear hbx
                    repeat (first | go_values | go_skip | go_guarded | go_step | go_upon)
                    refine HM.out _ _ ⟨HHQ13.out.blk, HHL13.out.blk, HHL13.out.rowM⟩ ?_
                    clear HM M0
                    obtain ⟨N13, hN13⟩ : ∃ x, x = wn12.heap.size := ⟨_, rfl⟩
                    rw [← hN13] at HHL13 HHQ13 HT213 HT313 ⊢
                    clear hN13
                    generalize wn12.alloc (.cells #[.slice none 0 0, .string ⟨#[]⟩, .slice none 0 0, .slice none 0 0, .int .i64 0, .int .i64 0, .int .u64 0, .slice none 0 0, .int .i64 0, .slice none 0 0, .int .u64 0, .slice none 0 0] 46) = wn13 at *
                    exact TAIL wn13 N13 N11 f3 rs3 ⟨_, HHL13.out, HHQ13.out, HT213.out, HT313.out, HCC.out, HBD.out⟩
                  · refine ord_alone (fun M0 hM => ?_)
                    have HM := Lib.hid hM
                    clear hM
                    have hbx := (Below.refl wn11.heap.size wn11).alloc (Nat.le_refl _) (.cells #[.slice none 0 0, .string ⟨#[]⟩, .slice none 0 0, .slice none 0 0, .int .i64 0, .int .i64 0, .int .u64 0, .slice none 0 0, .int .i64 0, .slice none 0 0, .int .u64 0, .slice none 0 0] 46)
                    have HHL14 := Lib.hid (HHL11.out.pure hbx)
                    have HHQ14 := Lib.hid (HHQ11.out.pure hbx)
                    have HT314 := Lib.hid (HT311.out.pure hbx)
                    have HT214 := Lib.hid (HHL11.out.box 46 #[.slice none 0 0, .string ⟨#[]⟩, .slice none 0 0, .slice none 0 0, .int .i64 0, .int .i64 0, .int .u64 0, .slice none 0 0, .int .i64 0, .slice none 0 0, .int .u64 0, .slice none 0 0])
                    clear hbx
                    repeat (first | go_values | go_skip | go_guarded | go_step | go_upon)
                    refine HM.out _ _ ⟨HHQ14.out.blk, HHL14.out.blk, HHL14.out.rowM⟩ ?_
                    clear HM M0
                    obtain ⟨N14, hN14⟩ : ∃ x, x = wn11.heap.size := ⟨_, rfl⟩
                    rw [← hN14] at HHL14 HHQ14 HT214 HT314 ⊢
                    clear hN14
                    generalize wn11.alloc (.cells #[.slice none 0 0, .string ⟨#[]⟩, .slice none 0 0, .slice none 0 0, .int .i64 0, .int .i64 0, .int .u64 0, .slice none 0 0, .int .i64 0, .slice none 0 0, .int .u64 0, .slice none 0 0] 46) = wn14 at *
                    refine ord_alone (fun M0 hM => ?_)
                    have HM := Lib.hid hM
                    clear hM
                    repeat (first | go_values | go_skip | go_guarded | go_step | go_upon)
                    go_at_call 21
                    refine (q_next HHL14.out.rf HCO.out HLM.out (by decide) rv.k rv.name rv.left rv.fin rv.ended (by have := HLFT.out; omega) (by have := HBQ.out.opn; have := HBQ.out.t40; omega) (by have := HBQ.out.st; omega) (fun s hs => by have := HBQ.out.src s hs; omega) sep (by omega)).mono ?_
                    rintro e wn15 ⟨f3, rs3, l4, fn4, er4, tt4, ok4, rfl, hnr, hr3, hb3⟩
                    obtain ⟨rfl, rfl, rfl, rfl, rfl, hcc⟩ := next_corr HNL.out HCO.out hnr
                    dsimp only
                    have HCC := Lib.hid hcc
                    obtain ⟨l5, hl5, -⟩ := hnr
                    have HBD := Lib.hid (HBQ.out.same h40 (pullR_same hl5) (m' := M.m) (Nat.le_succ _))
                    have HHL15 := Lib.hid (HHL14.out.doc hb3 hr3)
                    have HHQ15 := Lib.hid (HHQ14.out.doc hb3)
                    have HT215 := Lib.hid (HT214.out.doc hb3)
                    have HT315 := Lib.hid (HT314.out.doc hb3)
                    clear hcc hl5 hr3 hb3
                    repeat (first | go_values | go_skip | go_guarded | go_step | go_upon)
                    refine HM.out _ _ ⟨HHQ15.out.blk, HHL15.out.blk, HHL15.out.rowM⟩ ?_
                    clear HM M0
                    iterate 6 (
                      refine ord_read ?_ (fun wd hS M hM => ?_) ?_ ?_
                      rotate_left
                      · have HM := Lib.hid hM
                        clear hM hS
                        repeat (first | go_values | go_skip | go_guarded | go_step | go_upon)
                        exact HM.out
                      · rfl)
                    exact TAIL wn15 N14 N11 f3 rs3 ⟨_, HHL15.out, HHQ15.out, HT215.out, HT315.out, HCC.out, HBD.out⟩
              · intro wz T2 T3 f3 rs3 hT
                obtain ⟨K4, hl8, hq8, ht2, ht3, hcc, hbd⟩ := hT
                have HL8 := Lib.hid hl8
                have HQ8 := Lib.hid hq8
                have HT2 := Lib.hid ht2
                have HT3 := Lib.hid ht3
                have HCC := Lib.hid hcc
                have HBD := Lib.hid hbd
                have HNE : Hid (T3 ≠ T2 ∧ T ≠ T2 ∧ T ≠ T3) := ⟨cells_ne ht3.blk ht2.blk (by decide), cells_ne hq8.blk ht2.blk (by decide), cells_ne hq8.blk ht3.blk (by decide)⟩
                clear hl8 hq8 ht2 ht3 hcc hbd HL7 HQ7 HL6 HQ6 HL3 HQ3 HL2 HQ
                refine ord_alone (fun M0 hM => ?_)
                have HM := Lib.hid hM
                clear hM
                have HL9 := Lib.hid (HL8.out.boxed HT2.out (put12_tur wz T2 f3 rs3))
                have HQ9 := Lib.hid (HQ8.out.boxed HNE.out.2.1 (put12_tur wz T2 f3 rs3))
                have HT29 := Lib.hid (HT2.out.fill12 f3 rs3)
                have HT39 := Lib.hid (HT3.out.boxed HNE.out.1 (put12_tur wz T2 f3 rs3))
                refine wp_put12 rfl _ _ rfl f3 rs3 rfl rfl HT2.out.blk rfl ?_
                repeat (first | go_values | go_skip | go_guarded | go_step | go_upon)
                generalize put12 wz T2 f3 rs3 = w9 at *
                refine HM.out _ _ ⟨HQ9.out.blk, HL9.out.blk, HL9.out.rowM⟩ ?_
                clear HM M0 HL8 HQ8 HT2 HT3
                refine ord_alone (fun M0 hM => ?_)
                have HM := Lib.hid hM
                clear hM
                obtain ⟨⟨t0, t1, t2, t3, t4⟩, p0, p1, p2, p3, p4⟩ := HT39.out.blk.five
                have HL10 := Lib.hid (HL9.out.boxed HT39.out (put5_tur w9 T3 0 ⟨rv.k, rv.name, l3, fn3, !ok⟩))
                have HQ10 := Lib.hid (HQ9.out.boxed HNE.out.2.2 (put5_tur w9 T3 0 ⟨rv.k, rv.name, l3, fn3, !ok⟩))
                have HT210 := Lib.hid (HT29.out.boxed (fun e => HNE.out.1 e.symm) (put5_tur w9 T3 0 ⟨rv.k, rv.name, l3, fn3, !ok⟩))
                have HT310 := Lib.hid (HT39.out.fill5 ⟨rv.k, rv.name, l3, fn3, !ok⟩)
                repeat (first | go_values | go_skip | go_guarded | go_step | go_upon)
                clear p0 p1 p2 p3 p4 t0 t1 t2 t3 t4
                have HG := Lib.hid (show put5 w9 T3 0 ⟨rv.k, rv.name, l3, fn3, !ok⟩ = (((((w9.setCell ⟨T3, 0, none⟩ (.int .u8 rv.k)).setCell ⟨T3, 1, none⟩ (.string rv.name)).setCell ⟨T3, 2, none⟩ (.string l3)).setCell ⟨T3, 3, none⟩ (.bool fn3)).setCell ⟨T3, 4, none⟩ (.bool (!ok))) from rfl)
                rw [← HG.out]
                clear HG
                generalize put5 w9 T3 0 ⟨rv.k, rv.name, l3, fn3, !ok⟩ = w10 at *
                refine HM.out _ _ ⟨HQ10.out.blk, HL10.out.blk, HL10.out.rowM⟩ ?_
                clear HM M0 HL9 HQ9 HT29 HT39
                iterate 3 (
                  refine ord_read ?_ (fun wd hS M hM => ?_) ?_ ?_
                  rotate_left
                  · have HM := Lib.hid hM
                    clear hM hS
                    repeat (first | go_values | go_skip | go_guarded | go_step | go_upon)
                    exact HM.out
                  · rfl)
                refine NoPanic.normal (?_ : _)
                have HL11 := Lib.hid HL10.out.stored
                have HT311 := Lib.hid (HT310.out.stored f3 rs3)
                go_upto_region 35 with (fail)
                go_step
                refine wp_get12 rfl _ rfl f3 rs3 rfl HT210.out.blk ?_
                refine wp_put12 rfl _ _ rfl f3 rs3 rfl rfl HL10.out.blk rfl ?_
                generalize put12 w10 V f3 rs3 = w11 at *
                clear HL10 HQ10 HT210 HT310
                as_aux_lemma =>
                  obtain ⟨⟨t0, t1, t2, t3, t4⟩, -⟩ := HT311.out.blk.five
                  obtain ⟨m0, m1, m2, m3, m4⟩ := row_five HL11.out.rowM x hxr HRV.out
                  have p0 := own_freeAt HL11.out.rowM (x * 5)
                  have p1 := own_freeAt HL11.out.rowM (x * 5 + 1)
                  have p2 := own_freeAt HL11.out.rowM (x * 5 + 2)
                  have p3 := own_freeAt HL11.out.rowM (x * 5 + 3)
                  have p4 := own_freeAt HL11.out.rowM (x * 5 + 4)
                  have HL12 := Lib.hid (HL11.out.putM x hxr ⟨rv.k, rv.name, l3, fn3, !ok⟩)
                  have HT312 := Lib.hid (HT311.out.turnM ((put5_tur w11 mb (x * 5) ⟨rv.k, rv.name, l3, fn3, !ok⟩).mono (fun k _ e => by rw [show k = mb from e]; rfl)) (fun g e => .inl e))
                  go_upto_region 37 with (fail)
                  clear t0 t1 t2 t3 t4 m0 m1 m2 m3 m4 p0 p1 p2 p3 p4
                  have HG := Lib.hid (show put5 w11 mb (x * 5) ⟨rv.k, rv.name, l3, fn3, !ok⟩ = ((((w11.setCell ⟨mb, x * 5, none⟩ (.int .u8 rv.k)).setCell ⟨mb, x * 5 + 1, none⟩ (.string rv.name)).setCell ⟨mb, x * 5 + 2, none⟩ (.string l3)).setCell ⟨mb, x * 5 + 3, none⟩ (.bool fn3)).setCell ⟨mb, x * 5 + 4, none⟩ (.bool (!ok)) from rfl)
                  rw [← HG.out]
                  clear HG
                  generalize put5 w11 mb (x * 5) ⟨rv.k, rv.name, l3, fn3, !ok⟩ = w12 at *
                  clear HL11 HT311
                  have HGK : Hid (Blk w12 g 26 (rcellsV pb ⟨rv.k, rv.name, l3, fn3, !ok⟩)) := by
                    obtain ⟨g2, hg2, hgb⟩ := HL12.out.rds x (by rw [List.length_set]; exact hxr)
                    rw [HGX.out] at hg2
                    rw [List.getElem_set_self] at hgb
                    rw [Option.some.inj hg2]
                    exact hgb
                  have HPC12 : Hid (w12.cell? ⟨gb, x, none⟩ = some (.pointer (some ⟨g, 0, none⟩))) := by
                    have h1 := HL12.out.rowL.cellAt x (by rw [Nat.mul_one]; exact hxg)
                    unfold Hid
                    rw [h1]
                    simp only [ptrs, List.getElem?_map, HGX.out]
                    rfl
                  have HFIN : Hid (LI w w12 V _ _ gs (rl.set x ⟨rv.k, rv.name, l3, fn3, !ok⟩) f3 rs3 F pb M st3 _ (i + 1)) := ⟨HL12.out, HCC.out, HBD.out, by rw [List.length_set]; exact HL.out.six, fun r hr => by
                    rcases List.mem_or_eq_of_mem_set hr with h1 | h1
                    · have := HL.out.left r h1; omega
                    · subst h1
                      have h2 := next_size HNL.out HLM.out
                      have h3 := HLFT.out
                      show l3.size ≤ 3000 * (i + 1)
                      omega⟩
                  have hdr := (Below.refl w12.heap.size w12).drew
                  have HGD := Lib.hid (below_blk HGK.out hdr HGK.out.lt)
                  have HTD := Lib.hid (below_blk HT312.out.blk hdr HT312.out.blk.lt)
                  have HPCD : Hid (w12.drew.cell? ⟨gb, x, none⟩ = some (.pointer (some ⟨g, 0, none⟩))) := HPC12.out
                  have HLID := Lib.hid (HFIN.out.drew)
                  clear hdr
                  refine wp_region_noPanic ?_
                  refine wp_region_ord (fun wd => wd.cell? ⟨gb, x, none⟩ = some (.pointer (some ⟨g, 0, none⟩)) ∧ Blk wd T3 55 #[.int .u8 rv.k, .string rv.name, .string l3, .bool fn3, .bool (!ok)]) (.read 0 (.read 1 (.read 2 (.read 3 (.read 4 (.read 5 (.read 6 (.read 7 (.read 8 (.read 9 (.read 10 (.read 11 (.read 12 (.read 13 (.read 14 (.read 15 (.read 16 (.read 17 (.read 19 (.read 20 (.alone 18 (.read 21 (.read 22 .done))))))))))))))))))))))) (by kernel_rfl) (by kernel_rfl) (fun _ _ _ _ _ h => h) ⟨HPCD.out, HTD.out⟩ ?_
                  simp only [Ord.ops, List.getElem?_toArray, List.getElem?_cons_zero, List.getElem?_cons_succ]
                  generalize w12.drew = w13 at *
                  iterate 20 (
                    refine ord_read ?_ (fun wd hS M hM => ?_) ?_ ?_
                    rotate_left
                    · have HM := Lib.hid hM
                      have m4 := hS.2.five.1.2.2.2.2
                      have qx := hS.1
                      clear hM hS
                      repeat (first | go_values | go_skip | go_guarded | go_step | go_upon)
                      exact HM.out
                    · rfl)
                  refine ord_alone (fun M0 hM => ?_)
                  have HM := Lib.hid hM
                  clear hM
                  repeat (first | (go_at_call 9; refine (rp_Ended HGD.out rfl).mono ?_; rintro e wy ⟨rfl, rfl⟩; dsimp only) | go_values | go_skip | go_guarded | go_step | go_upon)
                  refine HM.out _ _ ⟨HPCD.out, HTD.out⟩ ?_
                  clear HM M0
                  iterate 2 (
                    refine ord_read ?_ (fun wd hS M hM => ?_) ?_ ?_
                    rotate_left
                    · have HM := Lib.hid hM
                      clear hM hS
                      repeat (first | go_values | go_skip | go_guarded | go_step | go_upon)
                      exact HM.out
                    · rfl)
                  refine NoPanic.normal (?_ : _)
                  repeat (first | go_values | go_skip | go_guarded | go_step | go_upon)
                  go_roundw
                  case rel => exact ⟨i + 1, gs, _, f3, rs3, F, M, st3, _, by omega, by omega, by go_num, HLID.out⟩
                  case measure => simp [intOf]; omega
            · as_aux_lemma =>
              go_wp2_with fail
              go_roundw
              case rel => exact ⟨i + 1, gs, rl, f, rs, F, M, st, _, by omega, by omega, by go_num, HLS.out⟩
              case measure => simp [intOf]; omega
            · as_aux_lemma =>
              have e6 : (kd == 6) = false := beq_eq_false_iff_ne.2 (by omega)
              have e7 : (kd == 7) = false := beq_eq_false_iff_ne.2 (by omega)
              have e8 : (kd == 8) = false := beq_eq_false_iff_ne.2 (by omega)
              go_wp2_with fail
              go_roundw
              case rel => exact ⟨i + 1, gs, rl, f, rs, F, M, st, _, by omega, by omega, by go_num, HLS.out⟩
              case measure => simp [intOf]; omega
            · as_aux_lemma =>
              have e6 : (kd == 6) = false := beq_eq_false_iff_ne.2 (by omega)
              have e7 : (kd == 7) = false := beq_eq_false_iff_ne.2 (by omega)
              have e8 : (kd == 8) = false := beq_eq_false_iff_ne.2 (by omega)
              have h1 : 1 ≤ kd := by omega
              have h5 : ¬ kd ≤ 5 := by omega
              go_wp2_with fail
              go_roundw
              case rel => exact ⟨i + 1, gs, rl, f, rs, F, M, st, _, by omega, by omega, by go_num, HLS.out⟩
              case measure => simp [intOf]; omega
            · as_aux_lemma =>
              have e6 : (kd == 6) = false := beq_eq_false_iff_ne.2 (by omega)
              have e7 : (kd == 7) = false := beq_eq_false_iff_ne.2 (by omega)
              have e8 : (kd == 8) = false := beq_eq_false_iff_ne.2 (by omega)
              go_wp2_with fail
              go_roundw
              case rel => exact ⟨i + 1, gs, rl, f, rs, F, M, st, _, by omega, by omega, by go_num, HLS.out⟩
              case measure => simp [intOf]; omega
        · have hex : (¬ i < n) ∨ (i < n ∧ ¬ i < 40) := by omega
          have HBL := Lib.hid HL.out.lr.below
          clear hgo
          rcases hex with hlt | ⟨hlt, h50⟩
          all_goals as_aux_lemma =>
            go_wp2_with fail
            refine (HAW.out _ HBL.out).mono ?_
            rintro e w6 ⟨rfl, hb6⟩
            go_wp2_with fail
            go_ret
            exact ⟨rfl, HBL.out.trans (hb6.mono HBL.out.size)⟩
end Go.Proofs.YtdbdmgmenojcaaaDoor
