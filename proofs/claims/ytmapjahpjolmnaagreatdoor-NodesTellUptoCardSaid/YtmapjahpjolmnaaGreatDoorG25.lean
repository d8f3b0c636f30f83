/- The walk of the reference's Next. -/
import Derived.Test.YtmapjahpjolmnaaGreatDoorG16
import Derived.Test.YtmapjahpjolmnaaGreatDoorG17
import Derived.Test.YtmapjahpjolmnaaGreatDoorG19
set_option linter.unusedVariables false
set_option linter.unusedSimpArgs false
namespace Go.Proofs.YtmapjahpjolmnaaGreatDoor
open Go.RowKit
theorem fin3 (w : World) (a b c d e f g a' b' c' d' e' : Value) : let W := ((w.alloc (.cells #[a, b, c, d, e] 91)).alloc (.cells #[f, g] 94)).alloc (.cells #[a', b', c', d', e'] 91)
    Blk W w.heap.size 91 #[a, b, c, d, e] ∧ Blk W (w.heap.size + 1) 94 #[f, g] ∧ Blk W (w.heap.size + 2) 91 #[a', b', c', d', e'] ∧ Below w.heap.size w W := by
  obtain ⟨hR, hF, hB⟩ := fin2 w a b c d e f g
  intro W
  have hsz : ((w.alloc (.cells #[a, b, c, d, e] 91)).alloc (.cells #[f, g] 94)).heap.size = w.heap.size + 2 := by simp
  have hT := Blk.new ((w.alloc (.cells #[a, b, c, d, e] 91)).alloc (.cells #[f, g] 94)) 91 #[a', b', c', d', e']
  have hb := (Below.refl (w.heap.size + 2) ((w.alloc (.cells #[a, b, c, d, e] 91)).alloc (.cells #[f, g] 94))).alloc (by rw [hsz]; exact Nat.le_refl _) (.cells #[a', b', c', d', e'] 91)
  rw [hsz] at hT
  exact ⟨below_blk hR hb (by omega), below_blk hF hb (by omega), hT, hB.trans (hb.mono (by omega))⟩
set_option maxHeartbeats 4000000 in
theorem r_Next (s : ByteArray) (at_ : Int) (re : Bool) (w : World) (hs : s.size ≤ 4294967296) :
    Calls Tryz.prog 62 #[.string s, .int .i64 at_, .bool re] w fun e w' => e = .returned (.tuple #[(Lex.nextL Lex.oneL s.data.toList at_ re).tok, (Lex.nextL Lex.oneL s.data.toList at_ re).fault]) ∧ Below w.heap.size w w' := by
  obtain ⟨l, hl⟩ : ∃ l, l = s.data.toList := ⟨_, rfl⟩
  have hl' : l.length = s.size := by subst hl; rfl
  rw [← hl]
  have HL := Lib.hid hl
  have HLL := Lib.hid hl'
  clear hl hl'
  have hsl : s.size < 9223372036854775808 := by omega
  by_cases hA : s.size ≤ 65536
  · by_cases hB : at_ < 0 ∨ (s.size : Int) < at_
    · have HN : Hid (Lex.nextL Lex.oneL l at_ re = Lex.none_ 2 0) := by unfold Hid Lex.nextL; rw [if_neg (by rw [HLL.out]; omega), if_pos (by rw [HLL.out]; exact hB)]
      rw [HN.out]
      by_cases hB1 : at_ < 0
      · go_enter Tryz.func62, Tryz.ntmps62
        go_wp2_with fail
        have hfin := fin2 w (.int .u8 0) (.string ⟨#[]⟩) (.int .i64 0) (.int .i64 0) (.int .i64 0) (.int .i64 2) (.int .i64 0)
        obtain ⟨hR, hF, hB'⟩ := hfin
        obtain ⟨⟨c0, c1, c2, c3, c4⟩, -⟩ := hR.five
        obtain ⟨⟨d0, d1⟩, -⟩ := hF.two
        refine bodyPost_ret (v := .tuple #[(Lex.none_ 2 0).tok, (Lex.none_ 2 0).fault]) (by simp [results, Tryz.results62, go_sem, c0, c1, c2, c3, c4, d0, d1, Lex.Out.tok, Lex.Out.fault, Lex.none_]) rfl ⟨rfl, hB'⟩
      · have hB2 : (s.size : Int) < at_ := by omega
        clear hB
        go_enter Tryz.func62, Tryz.ntmps62
        go_wp2_with fail
        have hfin := fin2 w (.int .u8 0) (.string ⟨#[]⟩) (.int .i64 0) (.int .i64 0) (.int .i64 0) (.int .i64 2) (.int .i64 0)
        obtain ⟨hR, hF, hB'⟩ := hfin
        obtain ⟨⟨c0, c1, c2, c3, c4⟩, -⟩ := hR.five
        obtain ⟨⟨d0, d1⟩, -⟩ := hF.two
        refine bodyPost_ret (v := .tuple #[(Lex.none_ 2 0).tok, (Lex.none_ 2 0).fault]) (by simp [results, Tryz.results62, go_sem, c0, c1, c2, c3, c4, d0, d1, Lex.Out.tok, Lex.Out.fault, Lex.none_]) rfl ⟨rfl, hB'⟩
    · obtain ⟨n, rfl⟩ : ∃ n : Nat, at_ = n := ⟨at_.toNat, by omega⟩
      have hn : n ≤ s.size := by omega
      have hn1 : (n : Int) ≤ (s.size : Int) := by omega
      have hple : Lex.passL (l.drop n) ≤ (l.drop n).length := Lex.passM_le false (l.drop n)
      rw [List.length_drop, HLL.out] at hple
      obtain ⟨o, ho⟩ : ∃ o, o = Lex.nextL Lex.oneL l n re := ⟨_, rfl⟩
      rw [← ho]
      have HN : Hid (o = if n + Lex.passL (l.drop n) = l.length then ⟨9, ⟨#[]⟩, Lex.lineL l ((n + Lex.passL (l.drop n) : Nat) : Int), ((n + Lex.passL (l.drop n) : Nat) : Int), ((n + Lex.passL (l.drop n) : Nat) : Int), 0, 0⟩
          else if (Lex.oneL (l.drop (n + Lex.passL (l.drop n))) re).2.2 = 0 then Lex.none_ 100 (Lex.lineL l ((n + Lex.passL (l.drop n) : Nat) : Int)) else ⟨(Lex.oneL (l.drop (n + Lex.passL (l.drop n))) re).1, (Lex.oneL (l.drop (n + Lex.passL (l.drop n))) re).2.1, Lex.lineL l ((n + Lex.passL (l.drop n) : Nat) : Int), ((n + Lex.passL (l.drop n) : Nat) : Int), ((n + Lex.passL (l.drop n) : Nat) : Int) + (Lex.oneL (l.drop (n + Lex.passL (l.drop n))) re).2.2, 0, 0⟩) := by
        rw [ho]; unfold Hid Lex.nextL; rw [if_neg (by rw [HLL.out]; omega), if_neg (by rw [HLL.out]; omega)]; simp only [Int.toNat_natCast]
      clear ho
      clear hB
      go_enter Tryz.func62, Tryz.ntmps62
      go_wp2_with fail
      refine (r_passed s n _ hs hn).mono ?_
      rintro e w2 ⟨rfl, rfl⟩
      rw [← HL.out]
      have hnm : n + Lex.passL (l.drop n) ≤ s.size := by omega
      clear hn hn1 hple
      generalize n + Lex.passL (l.drop n) = q at *
      by_cases hq : q = s.size
      · have Ho := HN.out
        rw [if_pos (by rw [HLL.out]; exact hq)] at Ho
        subst hq
        have HO := Lib.hid Ho
        clear Ho HN
        obtain ⟨hR, hF, hT, hB⟩ := fin3 w (.int .u8 0) (.string ⟨#[]⟩) (.int .i64 0) (.int .i64 0) (.int .i64 0) (.int .i64 0) (.int .i64 0) (.int .u8 9) (.string ⟨#[]⟩) (.int .i64 0) (.int .i64 s.size) (.int .i64 s.size)
        obtain ⟨⟨c0, c1, c2, c3, c4⟩, f0, f1, f2, f3, f4⟩ := hR.five
        obtain ⟨⟨d0, d1⟩, g0, g1⟩ := hF.two
        obtain ⟨⟨t0, t1, t2, t3, t4⟩, h0, h1, h2, h3, h4⟩ := hT.five
        go_wp2_with fail
        refine (r_line s s.size _ hs).mono ?_
        rintro e w2 ⟨rfl, rfl⟩
        rw [← HL.out]
        generalize Lex.lineL l (s.size : Int) = ln at *
        go_wp2_with fail
        obtain ⟨hR9, hF9, -, hB9⟩ := fin3 w (.int .u8 9) (.string ⟨#[]⟩) (.int .i64 ln) (.int .i64 (s.size : Nat)) (.int .i64 (s.size : Nat)) (.int .i64 0) (.int .i64 0) (.int .u8 9) (.string ⟨#[]⟩) (.int .i64 ln) (.int .i64 (s.size : Nat)) (.int .i64 (s.size : Nat))
        obtain ⟨⟨s0, s1, s2, s3, s4⟩, -⟩ := hR9.five
        obtain ⟨⟨e0, e1⟩, -⟩ := hF9.two
        clear c0 c1 c2 c3 c4 d0 d1 t0 t1 t2 t3 t4 f0 f1 f2 f3 f4 g0 g1 h0 h1 h2 h3 h4 hR hF hT hB
        refine bodyPost_ret (v := .tuple #[(Lex.Out.mk 9 ⟨#[]⟩ ln (s.size : Nat) (s.size : Nat) 0 0).tok, (Lex.Out.mk 9 ⟨#[]⟩ ln (s.size : Nat) (s.size : Nat) 0 0).fault]) (by simp [results, Tryz.results62, go_sem, s0, s1, s2, s3, s4, e0, e1, Lex.Out.tok, Lex.Out.fault]) rfl ⟨by rw [HO.out], hB9⟩
      · have Ho := HN.out
        rw [if_neg (by rw [HLL.out]; exact hq)] at Ho
        have HO0 := Lib.hid Ho
        clear Ho HN
        have hq1 : q < s.size := by omega
        have hq2 : (q : Int) < (s.size : Int) := by omega
        have hq3 : ¬ ((q : Int) = (s.size : Int)) := by omega
        have hc : ((s[q]'hq1).toNat : Int) = Lex.byteN l q := by rw [HL.out, Lex.byteN_in (by exact hq1)]; rfl
        have HC := Lib.hid hc
        clear hc
        obtain ⟨hR, hF, hT, hB⟩ := fin3 w (.int .u8 0) (.string ⟨#[]⟩) (.int .i64 0) (.int .i64 0) (.int .i64 0) (.int .i64 0) (.int .i64 0) (.int .u8 9) (.string ⟨#[]⟩) (.int .i64 0) (.int .i64 q) (.int .i64 q)
        by_cases h10 : Lex.byteN l q = 10
        · have ho1 : Lex.oneL (l.drop q) re = (8, ⟨#[]⟩, 1) := Lex.oneL_line (by rw [Lex.byteN_drop, Nat.add_zero]; exact h10)
          have Ho := HO0.out
          rw [ho1, if_neg (by decide)] at Ho
          have HO := Lib.hid Ho
          have hcb : (((s[q]'hq1).toNat : Int) == 10) = true := by have := HC.out; simp; omega
          clear Ho HO0 ho1 h10
          obtain ⟨⟨c0, c1, c2, c3, c4⟩, f0, f1, f2, f3, f4⟩ := hR.five
          obtain ⟨⟨d0, d1⟩, g0, g1⟩ := hF.two
          obtain ⟨⟨t0, t1, t2, t3, t4⟩, h0, h1, h2, h3, h4⟩ := hT.five
          go_wp2_with fail
          refine (r_line s q _ hs).mono ?_
          rintro e w2 ⟨rfl, rfl⟩
          rw [← HL.out]
          generalize Lex.lineL l (q : Int) = ln at *
          go_wp2_with fail
          obtain ⟨hR9, hF9, -, hB9⟩ := fin3 w (.int .u8 8) (.string ⟨#[]⟩) (.int .i64 ln) (.int .i64 q) (.int .i64 ((q : Int) + 1)) (.int .i64 0) (.int .i64 0) (.int .u8 8) (.string ⟨#[]⟩) (.int .i64 ln) (.int .i64 q) (.int .i64 ((q : Int) + 1))
          obtain ⟨⟨s0, s1, s2, s3, s4⟩, -⟩ := hR9.five
          obtain ⟨⟨e0, e1⟩, -⟩ := hF9.two
          clear c0 c1 c2 c3 c4 d0 d1 t0 t1 t2 t3 t4 f0 f1 f2 f3 f4 g0 g1 h0 h1 h2 h3 h4 hR hF hT hB
          refine bodyPost_ret (v := .tuple #[(Lex.Out.mk 8 ⟨#[]⟩ ln q ((q : Int) + 1) 0 0).tok, (Lex.Out.mk 8 ⟨#[]⟩ ln q ((q : Int) + 1) 0 0).fault]) (by simp [results, Tryz.results62, go_sem, s0, s1, s2, s3, s4, e0, e1, Lex.Out.tok, Lex.Out.fault]) rfl ⟨by rw [HO.out]; rfl, hB9⟩
        · have hcb : (((s[q]'hq1).toNat : Int) == 10) = false := by have := HC.out; simp; omega
          have HRO := Lib.hid (fun w => r_one s q re w (by omega) hq1 (by rw [← HL.out]; exact h10))
          clear h10
          obtain ⟨⟨c0, c1, c2, c3, c4⟩, f0, f1, f2, f3, f4⟩ := hR.five
          obtain ⟨⟨d0, d1⟩, g0, g1⟩ := hF.two
          obtain ⟨⟨t0, t1, t2, t3, t4⟩, h0, h1, h2, h3, h4⟩ := hT.five
          go_wp2_with fail
          refine (HRO.out _).mono ?_
          rintro e w4 ⟨rfl, hb4⟩
          rw [← HL.out]
          have HR4 := Lib.hid (below_blk hR hb4 hR.lt)
          have HF4 := Lib.hid (below_blk hF hb4 hF.lt)
          have HT4 := Lib.hid (below_blk hT hb4 hT.lt)
          have HB4 := Lib.hid (hB.trans (hb4.mono (by simp; omega)))
          clear c0 c1 c2 c3 c4 d0 d1 t0 t1 t2 t3 t4 f0 f1 f2 f3 f4 g0 g1 h0 h1 h2 h3 h4 hR hF hT hB hb4 HRO
          have HKND := Lib.hid (Lex.oneL_kind (l := l.drop q) (re := re))
          have hle := Lex.oneL_le (l := l.drop q) (re := re)
          rw [List.length_drop, HLL.out] at hle
          generalize Lex.oneL (l.drop q) re = ol at *
          obtain ⟨tk, ts, tn⟩ := ol
          have hle2 : tn ≤ s.size - q := hle
          clear hle
          obtain ⟨⟨c0, c1, c2, c3, c4⟩, f0, f1, f2, f3, f4⟩ := HR4.out.five
          obtain ⟨⟨d0, d1⟩, g0, g1⟩ := HF4.out.two
          obtain ⟨⟨t0, t1, t2, t3, t4⟩, h0, h1, h2, h3, h4⟩ := HT4.out.five
          by_cases ht0 : tn = 0
          · have Ho := HO0.out
            rw [if_pos (show (tk, ts, tn).2.2 = 0 from ht0)] at Ho
            have HO := Lib.hid Ho
            clear Ho HO0 HKND
            rw [show rres q (tk, ts, tn) = rzero from if_pos ht0, rzero]
            clear ht0
            go_wp2_with fail
            refine (r_line s q _ hs).mono ?_
            rintro e w2 ⟨rfl, rfl⟩
            rw [← HL.out]
            generalize Lex.lineL l (q : Int) = ln at *
            go_wp2_with fail
            have hR8 := HR4.out.keep (Tur.set5 (g := w.heap.size + 2) (i1 := 0) (i2 := 1) (i3 := 2) (i4 := 3) (i5 := 4) (.int .u8 0) (.string ⟨#[]⟩) (.int .i64 0) (.int .i64 0) (.int .i64 0)) (fun e => absurd e (by omega))
            have hF8 := HF4.out.keep (Tur.set5 (g := w.heap.size + 2) (i1 := 0) (i2 := 1) (i3 := 2) (i4 := 3) (i5 := 4) (.int .u8 0) (.string ⟨#[]⟩) (.int .i64 0) (.int .i64 0) (.int .i64 0)) (fun e => absurd e (by omega))
            have hB8 := HB4.out.trans (below_set5 (g := w.heap.size + 2) (by omega) HB4.out.size (.int .u8 0) (.string ⟨#[]⟩) (.int .i64 0) (.int .i64 0) (.int .i64 0))
            have hR9 := hR8.set5 (.int .u8 0) (.string ⟨#[]⟩) (.int .i64 0) (.int .i64 0) (.int .i64 0)
            have hF9 := (hF8.keep (Tur.set5 (g := w.heap.size) (i1 := 0) (i2 := 1) (i3 := 2) (i4 := 3) (i5 := 4) (.int .u8 0) (.string ⟨#[]⟩) (.int .i64 0) (.int .i64 0) (.int .i64 0)) (fun e => absurd e (by omega))).set2 (.int .i64 100) (.int .i64 ln)
            have hR10 := hR9.keep (Tur.set2 (g := w.heap.size + 1) (i1 := 0) (i2 := 1) (.int .i64 100) (.int .i64 ln)) (fun e => absurd e (by omega))
            have hB9 := hB8.trans (below_set5 (g := w.heap.size) (Nat.le_refl _) hB8.size (.int .u8 0) (.string ⟨#[]⟩) (.int .i64 0) (.int .i64 0) (.int .i64 0))
            have hB10 := hB9.trans (below_set2 (g := w.heap.size + 1) (Nat.le_succ _) hB9.size (.int .i64 100) (.int .i64 ln))
            obtain ⟨⟨s0, s1, s2, s3, s4⟩, -⟩ := hR10.five
            obtain ⟨⟨e0, e1⟩, -⟩ := hF9.two
            clear c0 c1 c2 c3 c4 d0 d1 f0 f1 f2 f3 f4 g0 g1 t0 t1 t2 t3 t4 h0 h1 h2 h3 h4 hR8 hF8 hB8 hR9 hF9 hR10 hB9
            refine bodyPost_ret (v := .tuple #[(Lex.none_ 100 ln).tok, (Lex.none_ 100 ln).fault]) (by simp [results, Tryz.results62, go_sem, s0, s1, s2, s3, s4, e0, e1, Lex.Out.tok, Lex.Out.fault, Lex.none_]) rfl ⟨by rw [HO.out], hB10⟩
          · have Ho := HO0.out
            rw [if_neg (show ¬ (tk, ts, tn).2.2 = 0 from ht0)] at Ho
            have HO := Lib.hid Ho
            have hk0 : ¬ (tk = 0) := HKND.out ht0
            clear Ho HO0 HKND
            rw [show rres q (tk, ts, tn) = rtok q (tk, ts, tn) from if_neg ht0, rtok]
            dsimp only
            clear ht0
            obtain ⟨m, hm⟩ : ∃ m : Int, m = (q : Int) + (tn : Int) := ⟨_, rfl⟩
            rw [show ((q + tn : Nat) : Int) = m by omega]
            rw [← hm] at HO
            clear hm
            go_wp2_with fail
            have HR5 := Lib.hid (HR4.out.keep (Tur.set5 (g := w.heap.size + 2) (i1 := 0) (i2 := 1) (i3 := 2) (i4 := 3) (i5 := 4) (.int .u8 tk) (.string ts) (.int .i64 0) (.int .i64 q) (.int .i64 m)) (fun e => absurd e (by omega)))
            have HF5 := Lib.hid (HF4.out.keep (Tur.set5 (g := w.heap.size + 2) (i1 := 0) (i2 := 1) (i3 := 2) (i4 := 3) (i5 := 4) (.int .u8 tk) (.string ts) (.int .i64 0) (.int .i64 q) (.int .i64 m)) (fun e => absurd e (by omega)))
            have HT5 := Lib.hid (HT4.out.set5 (.int .u8 tk) (.string ts) (.int .i64 0) (.int .i64 q) (.int .i64 m))
            have HB5 := Lib.hid (HB4.out.trans (below_set5 (g := w.heap.size + 2) (by omega) HB4.out.size (.int .u8 tk) (.string ts) (.int .i64 0) (.int .i64 q) (.int .i64 m)))
            clear c0 c1 c2 c3 c4 d0 d1 t0 t1 t2 t3 t4 f0 f1 f2 f3 f4 g0 g1 h0 h1 h2 h3 h4 HR4 HF4 HT4 HB4
            generalize ((((w4.setCell ⟨w.heap.size + 2, 0, none⟩ (.int .u8 tk)).setCell ⟨w.heap.size + 2, 1, none⟩ (.string ts)).setCell ⟨w.heap.size + 2, 2, none⟩ (.int .i64 0)).setCell ⟨w.heap.size + 2, 3, none⟩ (.int .i64 q)).setCell ⟨w.heap.size + 2, 4, none⟩ (.int .i64 m) = w5 at *
            obtain ⟨⟨c0, c1, c2, c3, c4⟩, f0, f1, f2, f3, f4⟩ := HR5.out.five
            obtain ⟨⟨d0, d1⟩, g0, g1⟩ := HF5.out.two
            obtain ⟨⟨t0, t1, t2, t3, t4⟩, h0, h1, h2, h3, h4⟩ := HT5.out.five
            refine (r_line s q _ hs).mono ?_
            rintro e w2 ⟨rfl, rfl⟩
            rw [← HL.out]
            generalize Lex.lineL l (q : Int) = ln at *
            go_wp2_with fail
            have hR8 := HR5.out.keep (Tur.of_set ⟨w.heap.size + 2, 2, none⟩ (.int .i64 ln)) (fun e => absurd e (by show ¬ w.heap.size = w.heap.size + 2; omega))
            have hF8 := HF5.out.keep (Tur.of_set ⟨w.heap.size + 2, 2, none⟩ (.int .i64 ln)) (fun e => absurd e (by show ¬ w.heap.size + 1 = w.heap.size + 2; omega))
            have hB8 := HB5.out.trans ((Tur.of_set (w := w5) ⟨w.heap.size + 2, 2, none⟩ (.int .i64 ln)).below w.heap.size HB5.out.size (fun k hk e => absurd e (by show ¬ k = w.heap.size + 2; omega)))
            have hR9 := hR8.set5 (.int .u8 tk) (.string ts) (.int .i64 ln) (.int .i64 q) (.int .i64 m)
            have hF9 := (hF8.keep (Tur.set5 (g := w.heap.size) (i1 := 0) (i2 := 1) (i3 := 2) (i4 := 3) (i5 := 4) (.int .u8 tk) (.string ts) (.int .i64 ln) (.int .i64 q) (.int .i64 m)) (fun e => absurd e (by omega))).set2 (.int .i64 0) (.int .i64 0)
            have hR10 := hR9.keep (Tur.set2 (g := w.heap.size + 1) (i1 := 0) (i2 := 1) (.int .i64 0) (.int .i64 0)) (fun e => absurd e (by omega))
            have hB9 := hB8.trans (below_set5 (g := w.heap.size) (Nat.le_refl _) hB8.size (.int .u8 tk) (.string ts) (.int .i64 ln) (.int .i64 q) (.int .i64 m))
            have hB10 := hB9.trans (below_set2 (g := w.heap.size + 1) (Nat.le_succ _) hB9.size (.int .i64 0) (.int .i64 0))
            obtain ⟨⟨s0, s1, s2, s3, s4⟩, -⟩ := hR10.five
            obtain ⟨⟨e0, e1⟩, -⟩ := hF9.two
            clear c0 c1 c2 c3 c4 d0 d1 f0 f1 f2 f3 f4 g0 g1 t0 t1 t2 t3 t4 h0 h1 h2 h3 h4 hR8 hF8 hB8 hR9 hF9 hR10 hB9
            refine bodyPost_ret (v := .tuple #[(Lex.Out.mk tk ts ln q m 0 0).tok, (Lex.Out.mk tk ts ln q m 0 0).fault]) (by simp [results, Tryz.results62, go_sem, s0, s1, s2, s3, s4, e0, e1, Lex.Out.tok, Lex.Out.fault, Lex.none_]) rfl ⟨by rw [HO.out], hB10⟩
  · have HN : Hid (Lex.nextL Lex.oneL l at_ re = Lex.none_ 3 0) := by unfold Hid Lex.nextL; rw [if_pos (by rw [HLL.out]; omega)]
    rw [HN.out]
    go_enter Tryz.func62, Tryz.ntmps62
    go_wp2_with fail
    have hfin := fin2 w (.int .u8 0) (.string ⟨#[]⟩) (.int .i64 0) (.int .i64 0) (.int .i64 0) (.int .i64 3) (.int .i64 0)
    obtain ⟨hR, hF, hB'⟩ := hfin
    obtain ⟨⟨c0, c1, c2, c3, c4⟩, -⟩ := hR.five
    obtain ⟨⟨d0, d1⟩, -⟩ := hF.two
    refine bodyPost_ret (v := .tuple #[(Lex.none_ 3 0).tok, (Lex.none_ 3 0).fault]) (by simp [results, Tryz.results62, go_sem, c0, c1, c2, c3, c4, d0, d1, Lex.Out.tok, Lex.Out.fault, Lex.none_]) rfl ⟨rfl, hB'⟩
end Go.Proofs.YtmapjahpjolmnaaGreatDoor
namespace Go.Proofs.YtmapjahpjolmnaaGreatDoor
open Go.RowKit Tr
set_option maxRecDepth 20000
theorem r_Next_any (s : ByteArray) (at_ : Int) (re : Bool) (w : World) (hs : s.size ≤ maxLen) :
    Calls Tryz.prog 62 #[.string s, .int .i64 at_, .bool re] w fun e w' => e = .returned (.tuple #[(Lex.nextL Lex.oneL s.data.toList at_ re).tok, (Lex.nextL Lex.oneL s.data.toList at_ re).fault]) ∧ Below w.heap.size w w' := by
  by_cases hA : s.size ≤ 65536
  · exact r_Next s at_ re w (by omega)
  · unfold maxLen at hs
    have hsl : s.size < 9223372036854775808 := by omega
    have hsA : 65536 < s.size := by omega
    have HN : Hid (Lex.nextL Lex.oneL s.data.toList at_ re = Lex.none_ 3 0) := by unfold Hid Lex.nextL; rw [if_pos (show 65536 < s.data.toList.length from hsA)]
    rw [HN.out]
    clear hs hA
    go_enter Tryz.func62, Tryz.ntmps62
    go_wp2_with fail
    have hfin := fin2 w (.int .u8 0) (.string ⟨#[]⟩) (.int .i64 0) (.int .i64 0) (.int .i64 0) (.int .i64 3) (.int .i64 0)
    obtain ⟨hR, hF, hB'⟩ := hfin
    obtain ⟨⟨c0, c1, c2, c3, c4⟩, -⟩ := hR.five
    obtain ⟨⟨d0, d1⟩, -⟩ := hF.two
    refine bodyPost_ret (v := .tuple #[(Lex.none_ 3 0).tok, (Lex.none_ 3 0).fault]) (by simp [results, Tryz.results62, go_sem, c0, c1, c2, c3, c4, d0, d1, Lex.Out.tok, Lex.Out.fault, Lex.none_]) rfl ⟨rfl, hB'⟩
def nameD (s : ByteArray) : Bool := decide ((Lex.nextL Lex.oneL s.data.toList 0 false).err = 0) && (decide ((Lex.nextL Lex.oneL s.data.toList 0 false).k = 4) && (decide ((Lex.nextL Lex.oneL s.data.toList 0 false).at_ = 0) && decide ((Lex.nextL Lex.oneL s.data.toList 0 false).end_ = s.size)))
theorem name_doc (s : ByteArray) (hs : s.size ≤ maxLen) : nameD s = nameB s := by
  have hl : s.data.toList.length = s.size := rfl
  unfold nameD nameB
  unfold Lex.nextL
  by_cases h1 : 65536 < s.data.toList.length
  · rw [if_pos h1]; rfl
  rw [if_neg h1, if_neg (by omega)]
  simp only
  by_cases h2 : (0 : Int).toNat + Lex.passL (s.data.toList.drop (0 : Int).toNat) = s.data.toList.length
  · rw [if_pos h2]; rfl
  rw [if_neg h2]
  by_cases h3 : (Lex.oneL (s.data.toList.drop ((0 : Int).toNat + Lex.passL (s.data.toList.drop (0 : Int).toNat))) false).2.2 = 0
  · rw [if_pos h3]; rfl
  rw [if_neg h3]
  have hle := Lex.oneL_le (l := s.data.toList.drop ((0 : Int).toNat + Lex.passL (s.data.toList.drop (0 : Int).toNat))) (re := false)
  rw [List.length_drop] at hle
  generalize (0 : Int).toNat + Lex.passL (s.data.toList.drop (0 : Int).toNat) = a at *
  generalize (Lex.oneL (s.data.toList.drop a) false) = q at *
  obtain ⟨q1, q2, q3⟩ := q
  simp only at *
  have hw : wrap64 (((a : Int) + q3) - a) = q3 := by
    unfold wrap64
    omega
  rw [hw]
  congr 2
  rw [Bool.eq_iff_iff]
  simp only [Bool.and_eq_true, decide_eq_true_eq]
  omega
set_option maxHeartbeats 4000000 in
theorem r_Name (s : ByteArray) (w : World) (hs : s.size ≤ maxLen) : Calls Tryz.prog 51 #[.string s] w fun e w' => e = .returned (.bool (nameB s)) ∧ Below w.heap.size w w' := by
  have HX := Lib.hid (r_Next_any s 0 false w hs)
  have hsz : s.size < 9223372036854775808 := by unfold maxLen at hs; omega
  rw [← name_doc s hs]
  have hnb : nameD s = (decide ((Lex.nextL Lex.oneL s.data.toList 0 false).err = 0) && (decide ((Lex.nextL Lex.oneL s.data.toList 0 false).k = 4) && (decide ((Lex.nextL Lex.oneL s.data.toList 0 false).at_ = 0) && decide ((Lex.nextL Lex.oneL s.data.toList 0 false).end_ = s.size)))) := rfl
  rw [hnb]
  clear hnb hs
  generalize Lex.nextL Lex.oneL s.data.toList 0 false = o at *
  go_enter Tryz.func51, Tryz.ntmps51
  go_wp2_with fail
  refine HX.out.mono ?_
  rintro e w1 ⟨rfl, hb1⟩
  simp only [Lex.Out.tok, Lex.Out.fault]
  have HB1 := Lib.hid hb1
  clear hb1
  go_wp2_with fail
  all_goals
    have HB2 := Lib.hid ((HB1.out.alloc HB1.out.size (.cells #[.int .u8 o.k, .string o.s, .int .i64 o.line, .int .i64 o.at_, .int .i64 o.end_] 91)).alloc (by have := HB1.out.size; simp; omega) (.cells #[.int .i64 o.err, .int .i64 o.eline] 94))
    go_ret
    refine ⟨?_, by have := HB2.out; simp_all⟩
    (simp_all <;> rfl)
end Go.Proofs.YtmapjahpjolmnaaGreatDoor
namespace Go.Proofs.YtmapjahpjolmnaaGreatDoor
open Go.RowKit Tr
set_option maxRecDepth 20000
theorem r_bit (n b : Int) (w : World) (h0 : 0 ≤ n) (h7 : n ≤ 7) (hb : b = 1 ∨ b = 2 ∨ b = 4) : Calls Tryz.prog 88 #[.int .i64 n, .int .i64 b] w fun e w' => e = .returned (.bool (decide (n / b % 2 = 1))) ∧ w' = w := by
  have hn : n = 0 ∨ n = 1 ∨ n = 2 ∨ n = 3 ∨ n = 4 ∨ n = 5 ∨ n = 6 ∨ n = 7 := by omega
  rcases hn with rfl | rfl | rfl | rfl | rfl | rfl | rfl | rfl <;> rcases hb with rfl | rfl | rfl
  all_goals
    go_enter Tryz.func88, Tryz.ntmps88
    go_wp2_with fail
    go_ret
    exact ⟨rfl, rfl⟩
/-- A statement by value. -/
def svS (e : XS) (A1 A2 A3 : Option Addr) (c1 c2 c3 : Nat) : Value := .agg #[.int .u8 e.k, .string e.s, .int .i64 e.n, .slice A1 e.exprs.length c1, .slice A2 e.body.length c2, .slice A3 e.els.length c3, .int .i64 e.line]
theorem Blk.cell5 {w : World} {X : Nat} {t : TypeId} {a b c d f h : Value} {A : Option Addr} {n m cp : Nat} (hb : Blk w X t #[a, b, c, d, f, .slice A n cp, h]) (hn : n = m) : w.cell? ⟨X, 5, none⟩ = some (.slice A m cp) := by
  rw [hb.cell 5, hn]; rfl
set_option maxHeartbeats 4000000 in
theorem r_loop {w : World} (e : XS) {A1 A2 A3 : Option Addr} {c1 c2 c3 : Nat} (hl : SsAt w w.heap.size e.els (.slice A3 e.els.length c3)) (he : EsAt w w.heap.size e.exprs (.slice A1 e.exprs.length c1)) :
    Calls Tryz.prog 70 #[svS e A1 A2 A3 c1 c2 c3] w fun en w' => en = .returned (.bool (loopB e)) ∧ Below w.heap.size w w' := by
  have hcl := hl.cap
  have hce := he.cap
  have HROW := Lib.hid (fun h0 => hl.rows h0)
  have hse := sEmpty e.s
  have hb0 := (Below.refl w.heap.size w).alloc (Nat.le_refl _) (.cells #[.int .u8 e.k, .string e.s, .int .i64 e.n, .slice A1 e.exprs.length c1, .slice A2 e.body.length c2, .slice A3 e.els.length c3, .int .i64 e.line] 50)
  have hx0 := Blk.new w 50 #[.int .u8 e.k, .string e.s, .int .i64 e.n, .slice A1 e.exprs.length c1, .slice A2 e.body.length c2, .slice A3 e.els.length c3, .int .i64 e.line]
  clear hl he
  unfold svS
  go_enter Tryz.func70, Tryz.ntmps70
  go_upto_region 1 with (fail)
  generalize w.alloc (.cells #[.int .u8 e.k, .string e.s, .int .i64 e.n, .slice A1 e.exprs.length c1, .slice A2 e.body.length c2, .slice A3 e.els.length c3, .int .i64 e.line] 50) = w1 at *
  obtain ⟨X, hX⟩ : ∃ X, X = w.heap.size := ⟨_, rfl⟩
  rw [← hX] at hx0 ⊢
  clear hX
  have HB := Lib.hid hb0
  have HX := Lib.hid hx0
  have x1 : w1.cell? ⟨X, 1, none⟩ = some (.string e.s) := hx0.cell 1
  have x2 : w1.cell? ⟨X, 2, none⟩ = some (.int .i64 e.n) := hx0.cell 2
  have x3 : w1.cell? ⟨X, 3, none⟩ = some (.slice A1 e.exprs.length c1) := hx0.cell 3
  have x5 : w1.cell? ⟨X, 5, none⟩ = some (.slice A3 e.els.length c3) := hx0.cell 5
  clear hb0 hx0
  cases hz : e.s.toList.isEmpty
  · have HF : Hid (loopB e = false) := by
      unfold Hid loopB
      rw [← hse, hz, Bool.false_and]
    clear hse
    go_wp2_with fail
    go_ret
    exact ⟨by rw [HF.out]; rfl, HB.out⟩
  have HLB : Hid (loopB e = (decide (0 ≤ e.n ∧ e.n ≤ 7) && (decide ((e.exprs.length : Int) = e.n / 2 % 2) && (decide ((e.els.length : Int) = e.n % 2 + e.n / 4) && e.els.all (fun x => decide (x.k = 1)))))) := by
    unfold Hid loopB
    rw [← hse, hz, Bool.true_and]
  clear hse
  obtain ⟨m1, hm1⟩ : ∃ x, e.exprs.length = x := ⟨_, rfl⟩
  obtain ⟨m3, hm3⟩ : ∃ x, e.els.length = x := ⟨_, rfl⟩
  have HM3 := Lib.hid hm3
  rw [hm1] at x3 HLB hce ⊢
  rw [hm3] at x5 HLB hcl ⊢
  clear hm1 hm3
  by_cases hn0 : e.n < 0
  · have HF : Hid (loopB e = false) := by unfold Hid; rw [HLB.out, decide_eq_false (by omega), Bool.false_and]
    go_wp2_with fail
    go_ret
    exact ⟨by rw [HF.out]; rfl, HB.out⟩
  by_cases hn7 : 7 < e.n
  · have HF : Hid (loopB e = false) := by unfold Hid; rw [HLB.out, decide_eq_false (by omega), Bool.false_and]
    go_wp2_with fail
    go_ret
    exact ⟨by rw [HF.out]; rfl, HB.out⟩
  have HB2 := Lib.hid (r_bit e.n 2 w1 (by omega) (by omega) (by decide))
  have HB1 := Lib.hid (r_bit e.n 1 w1 (by omega) (by omega) (by decide))
  have HB4 := Lib.hid (r_bit e.n 4 w1 (by omega) (by omega) (by decide))
  cases h2 : decide (e.n / 2 % 2 = 1) <;> cases h1 : decide (e.n / 1 % 2 = 1) <;> cases h4 : decide (e.n / 4 % 2 = 1)
  all_goals
    rw [h2] at HB2
    rw [h1] at HB1
    rw [h4] at HB4
    simp only [decide_eq_true_eq, decide_eq_false_iff_not] at h2 h1 h4
    have HH := Lib.hid (And.intro h2 (And.intro h1 (And.intro h4 (And.intro hn0 hn7))))
    clear h2 h1 h4
    go_wp2_with (first | (with_reducible (refine HB2.out.mono ?_); rintro en w2 ⟨rfl, rfl⟩) | (with_reducible (refine HB1.out.mono ?_); rintro en w2 ⟨rfl, rfl⟩) | (with_reducible (refine HB4.out.mono ?_); rintro en w2 ⟨rfl, rfl⟩))
    all_goals first
      | (go_ret
         refine ⟨congrArg (fun b => Ending.returned (.bool b)) ?_, HB.out⟩
         symm
         rw [HLB.out]
         have hh := HH.out
         clear HLB HH HB1 HB2 HB4 HROW HX x1 x2 x3 x5 HB
         (try simp only [bne_iff_ne, ne_eq, bne_eq_false_iff_eq] at *)
         rw [Bool.eq_false_iff]
         intro hc
         simp only [Bool.and_eq_true, decide_eq_true_eq] at hc
         omega)
      | skip
    all_goals
      have HQ : Hid (loopB e = e.els.all (fun x => decide (x.k = 1))) := by
        unfold Hid
        rw [HLB.out]
        have hh := HH.out
        clear HLB HH HB1 HB2 HB4 HROW HX x1 x2 x3 x5 HB
        (try simp only [bne_iff_ne, ne_eq, bne_eq_false_iff_eq] at *)
        rw [decide_eq_true (by omega), decide_eq_true (by omega), decide_eq_true (by omega), Bool.true_and, Bool.true_and, Bool.true_and]
      clear HLB HB1 HB2 HB4 x1 x2 x3
      generalize w2 = wb at *
      go_loopw [5] (fun v wr => ∃ i : Nat, v = .int .i64 i ∧ i ≤ m3 ∧ (∀ j (h : j < e.els.length), j < i → e.els[j].k = 1) ∧ wr = wb) (fun v _ => m3 - (intOf v).toNat)
      case atStart => exact ⟨0, rfl, Nat.zero_le _, fun j h h2 => absurd h2 (Nat.not_lt_zero _), rfl⟩
      case round =>
        obtain ⟨i, rfl, hi, hall, hw⟩ := hrel
        have HW := Lib.hid hw
        have HALL := Lib.hid hall
        have x5' : wr.cell? ⟨X, 5, none⟩ = some (.slice A3 m3 c3) := by rw [hw]; exact HX.out.cell5 HM3.out
        clear hall hw
        by_cases hlt : i < m3
        · have hl2 : i < e.els.length := by have := HM3.out; omega
          obtain ⟨rb, ro, hA, hrb, hrow⟩ := HROW.out (by omega)
          obtain ⟨B1, n1, B2, n2, B3, n3, hcc, -, -, -, -⟩ := hrow i hl2
          have y0 : wr.cell? ⟨rb, ro + i * 7, none⟩ = some (.int .u8 e.els[i].k) := by rw [HW.out]; exact (hcc.keep HB.out hrb).1
          clear hrow hcc
          subst hA
          by_cases hk : e.els[i].k = 1
          · have hkb : (e.els[i].k == 1) = true := beq_iff_eq.2 hk
            have HN : Hid (∀ j (h : j < e.els.length), j < i + 1 → e.els[j].k = 1) := fun j hj hj2 => by
              rcases Nat.lt_succ_iff_lt_or_eq.1 hj2 with h | h
              · exact HALL.out j hj h
              · subst h; exact hk
            clear hk
            go_wp2_with fail
            all_goals
              go_roundw
              case rel => exact ⟨i + 1, by go_num, by omega, HN.out, HW.out⟩
              case measure => simp [intOf]; omega
          · have hkb : (e.els[i].k == 1) = false := beq_eq_false_iff_ne.2 hk
            have HF : Hid (loopB e = false) := by
              unfold Hid
              rw [HQ.out, List.all_eq_false]
              exact ⟨e.els[i], List.getElem_mem _, by simpa using hk⟩
            clear hk
            go_wp2_with fail
            all_goals
              go_ret
              exact ⟨by rw [HF.out]; rfl, by rw [HW.out]; exact HB.out⟩
        · have HF : Hid (loopB e = true) := by
            unfold Hid
            rw [HQ.out, List.all_eq_true]
            intro x hx
            obtain ⟨j, hj, rfl⟩ := List.getElem_of_mem hx
            simpa using HALL.out j hj (by have := HM3.out; omega)
          go_wp2_with fail
          go_ret
          exact ⟨by rw [HF.out]; rfl, by rw [HW.out]; exact HB.out⟩
end Go.Proofs.YtmapjahpjolmnaaGreatDoor
namespace Go.Proofs.YtmapjahpjolmnaaGreatDoor
open Go.RowKit Tr
set_option maxRecDepth 20000
set_option maxHeartbeats 4000000 in
theorem r_shape_1 {w : World} (e : XS) {A1 A2 A3 : Option Addr} {c1 c2 c3 : Nat} (he : EsAt w w.heap.size e.exprs (.slice A1 e.exprs.length c1)) (hb : SsAt w w.heap.size e.body (.slice A2 e.body.length c2)) (hl : SsAt w w.heap.size e.els (.slice A3 e.els.length c3)) (hok : e.Ok) (hkk : e.k = 1 ∨ e.k = 2 ∨ e.k = 3) :
    Calls Tryz.prog 61 #[svS e A1 A2 A3 c1 c2 c3] w fun en w' => en = .returned (.bool (shapeB nameB e)) ∧ Below w.heap.size w w' := by
  have hcb := hb.cap
  have HW23 := Lib.hid (wrap2_zero hb.len hl.len)
  have HW13 := Lib.hid (wrap2_zero he.len hl.len)
  have hcl := hl.cap
  have hce := he.cap
  have HE := Lib.hid he
  have HL := Lib.hid hl
  have HOK := Lib.hid hok
  have hb0 := (Below.refl w.heap.size w).alloc (Nat.le_refl _) (.cells #[.int .u8 e.k, .string e.s, .int .i64 e.n, .slice A1 e.exprs.length c1, .slice A2 e.body.length c2, .slice A3 e.els.length c3, .int .i64 e.line] 50)
  have hx0 := Blk.new w 50 #[.int .u8 e.k, .string e.s, .int .i64 e.n, .slice A1 e.exprs.length c1, .slice A2 e.body.length c2, .slice A3 e.els.length c3, .int .i64 e.line]
  clear hb he hl hok
  unfold svS
  go_enter Tryz.func61, Tryz.ntmps61
  go_upto_region 1 with (fail)
  generalize w.alloc (.cells #[.int .u8 e.k, .string e.s, .int .i64 e.n, .slice A1 e.exprs.length c1, .slice A2 e.body.length c2, .slice A3 e.els.length c3, .int .i64 e.line] 50) = w1 at *
  obtain ⟨X, hX⟩ : ∃ X, X = w.heap.size := ⟨_, rfl⟩
  rw [← hX] at hx0 ⊢
  clear hX
  have HBW : Hid (X < w1.drew.heap.size) := hx0.lt
  have HCD : Hid (scellsT w1.drew X 0 e (.slice A1 e.exprs.length c1) (.slice A2 e.body.length c2) (.slice A3 e.els.length c3)) := ⟨hx0.cell 0, hx0.cell 1, hx0.cell 2, hx0.cell 3, hx0.cell 4, hx0.cell 5, hx0.cell 6⟩
  have HBD := Lib.hid hb0.drew
  have HED := Lib.hid (HE.out.keep HBD.out)
  have HLD := Lib.hid (HL.out.keep HBD.out)
  have HSZ : Hid (w.heap.size ≤ w1.drew.heap.size) := hb0.size
  have HBOX : Hid (Blk w1.drew X 50 #[.int .u8 e.k, .string e.s, .int .i64 e.n, .slice A1 e.exprs.length c1, .slice A2 e.body.length c2, .slice A3 e.els.length c3, .int .i64 e.line]) := hx0
  clear hb0 hx0
  obtain ⟨x0, x1, x2, x3, x4, x5, x6⟩ := HCD.out
  refine wp_region_noPanic ?_
  refine wp_region_ord (fun wd => wd.cell? ⟨X, 0 + 3, none⟩ = some (.slice A1 e.exprs.length c1) ∧ wd.cell? ⟨X, 0 + 4, none⟩ = some (.slice A2 e.body.length c2) ∧ wd.cell? ⟨X, 0 + 5, none⟩ = some (.slice A3 e.els.length c3)) (.read 0 (.read 1 (.read 2 (.read 3 (.read 4 (.read 5 (.read 6 (.read 7 (.read 8 (.read 9 (.read 10 (.read 11 .done)))))))))))) (by kernel_rfl) (by kernel_rfl) (fun _ _ _ _ _ h => h) ⟨x3, x4, x5⟩ ?_
  simp only [Ord.ops, List.getElem?_toArray, List.getElem?_cons_zero, List.getElem?_cons_succ]
  clear HE HL
  generalize w1.drew = wq at *
  have HLP := Lib.hid (r_loop (A2 := A2) (c2 := c2) e (HLD.out.mono HSZ.out) (HED.out.mono HSZ.out))
  unfold svS at HLP
  have hse := sEmpty e.s
  obtain ⟨z, hz⟩ : ∃ z, z = e.s.toList.isEmpty := ⟨_, rfl⟩
  rw [← hz] at hse
  have HZZ : Hid (e.s.toList = [] ↔ z = true) := by unfold Hid; rw [hz, List.isEmpty_iff]
  simp only [Nat.zero_add] at x0 x1 x2 x3 x4 x5 x6
  iterate 12 (
    refine ord_read ?_ (fun wd hS M hM => ?_) ?_ ?_
    rotate_left
    · have HM := Lib.hid hM
      obtain ⟨z1, z2, z3⟩ := hS
      simp only [Nat.zero_add] at z1 z2 z3
      clear hM
      repeat (first | go_values | go_skip | go_guarded | go_step | go_upon)
      exact HM.out
    · rfl)
  refine NoPanic.normal (?_ : _)
  clear hz
  have HSHH := Lib.hid (shape_is nameB e)
  rw [← hse] at HSHH
  obtain ⟨m1, hm1⟩ : ∃ x, e.exprs.length = x := ⟨_, rfl⟩
  obtain ⟨m2, hm2⟩ : ∃ x, e.body.length = x := ⟨_, rfl⟩
  obtain ⟨m3, hm3⟩ : ∃ x, e.els.length = x := ⟨_, rfl⟩
  rw [hm1] at x3 HSHH hce HW13 HLP
  rw [hm2] at x4 HSHH hcb HW23 HLP
  rw [hm3] at x5 HSHH hcl HW23 HW13 HLP
  rw [hm1, hm2, hm3]
  have HM1 := Lib.hid hm1
  have HM2 := Lib.hid hm2
  have HM3 := Lib.hid hm3
  clear hm1 hm2 hm3 HBOX
  by_cases hk1 : e.k = 1
  · have HSH : Hid (shapeB nameB e = ((z && decide (e.n = 0)) && decide (m1 = 1 ∧ m2 + m3 = 0))) := by
      unfold Hid
      rw [HSHH.out, hk1]
      rfl
    rw [hk1] at x0
    clear hk1
    (go_wp2_with fail; all_goals (go_ret; refine ⟨congrArg (fun b => Ending.returned (.bool b)) ?_, HBD.out⟩; refine Eq.trans ?_ HSH.out.symm; have hzz := HZZ.out; have hw23 := HW23.out; have hw13 := HW13.out; clear HZZ HW23 HW13 HSH HCD HBD HED HLD HSZ HOK HBW HLP x0 x1 x2 x3 x4 x5 x6 hse hcb hcl hce HM1 HM2 HM3; simp_all <;> first | omega | (rw [Bool.eq_iff_iff]; simp only [Bool.and_eq_true, Bool.or_eq_true, Bool.not_eq_true', beq_iff_eq, decide_eq_true_eq, decide_eq_false_iff_not] <;> omega)))
  by_cases hk2 : e.k = 2
  · have HSH : Hid (shapeB nameB e = (z && decide (0 ≤ e.n ∧ e.n ≤ 3 ∧ (0 < e.n → 0 < m1) ∧ m2 + m3 = 0))) := by
      unfold Hid
      rw [HSHH.out, hk2]
      rfl
    rw [hk2] at x0
    clear hk2
    (go_wp2_with fail; all_goals (go_ret; refine ⟨congrArg (fun b => Ending.returned (.bool b)) ?_, HBD.out⟩; refine Eq.trans ?_ HSH.out.symm; have hzz := HZZ.out; have hw23 := HW23.out; have hw13 := HW13.out; clear HZZ HW23 HW13 HSH HCD HBD HED HLD HSZ HOK HBW HLP x0 x1 x2 x3 x4 x5 x6 hse hcb hcl hce HM1 HM2 HM3; simp_all <;> first | omega | (rw [Bool.eq_iff_iff]; simp only [Bool.and_eq_true, Bool.or_eq_true, Bool.not_eq_true', beq_iff_eq, decide_eq_true_eq, decide_eq_false_iff_not] <;> omega)))
  by_cases hk3 : e.k = 3
  · have HSH : Hid (shapeB nameB e = (z && decide (0 ≤ e.n ∧ e.n ≤ 3 ∧ 0 < m1 ∧ (0 < e.n → 1 < m1) ∧ m2 + m3 = 0))) := by
      unfold Hid
      rw [HSHH.out, hk3]
      rfl
    rw [hk3] at x0
    clear hk3
    (go_wp2_with fail; all_goals (go_ret; refine ⟨congrArg (fun b => Ending.returned (.bool b)) ?_, HBD.out⟩; refine Eq.trans ?_ HSH.out.symm; have hzz := HZZ.out; have hw23 := HW23.out; have hw13 := HW13.out; clear HZZ HW23 HW13 HSH HCD HBD HED HLD HSZ HOK HBW HLP x0 x1 x2 x3 x4 x5 x6 hse hcb hcl hce HM1 HM2 HM3; simp_all <;> first | omega | (rw [Bool.eq_iff_iff]; simp only [Bool.and_eq_true, Bool.or_eq_true, Bool.not_eq_true', beq_iff_eq, decide_eq_true_eq, decide_eq_false_iff_not] <;> omega)))
  exfalso
  omega
end Go.Proofs.YtmapjahpjolmnaaGreatDoor
namespace Go.Proofs.YtmapjahpjolmnaaGreatDoor
open Go.RowKit Tr
set_option maxRecDepth 20000
set_option maxHeartbeats 4000000 in
theorem r_shape_2 {w : World} (e : XS) {A1 A2 A3 : Option Addr} {c1 c2 c3 : Nat} (he : EsAt w w.heap.size e.exprs (.slice A1 e.exprs.length c1)) (hb : SsAt w w.heap.size e.body (.slice A2 e.body.length c2)) (hl : SsAt w w.heap.size e.els (.slice A3 e.els.length c3)) (hok : e.Ok) (hkk : e.k = 4 ∨ e.k = 5 ∨ e.k = 6 ∨ e.k = 9) :
    Calls Tryz.prog 61 #[svS e A1 A2 A3 c1 c2 c3] w fun en w' => en = .returned (.bool (shapeB nameB e)) ∧ Below w.heap.size w w' := by
  have hcb := hb.cap
  have HW23 := Lib.hid (wrap2_zero hb.len hl.len)
  have HW13 := Lib.hid (wrap2_zero he.len hl.len)
  have hcl := hl.cap
  have hce := he.cap
  have HE := Lib.hid he
  have HL := Lib.hid hl
  have HOK := Lib.hid hok
  have hb0 := (Below.refl w.heap.size w).alloc (Nat.le_refl _) (.cells #[.int .u8 e.k, .string e.s, .int .i64 e.n, .slice A1 e.exprs.length c1, .slice A2 e.body.length c2, .slice A3 e.els.length c3, .int .i64 e.line] 50)
  have hx0 := Blk.new w 50 #[.int .u8 e.k, .string e.s, .int .i64 e.n, .slice A1 e.exprs.length c1, .slice A2 e.body.length c2, .slice A3 e.els.length c3, .int .i64 e.line]
  clear hb he hl hok
  unfold svS
  go_enter Tryz.func61, Tryz.ntmps61
  go_upto_region 1 with (fail)
  generalize w.alloc (.cells #[.int .u8 e.k, .string e.s, .int .i64 e.n, .slice A1 e.exprs.length c1, .slice A2 e.body.length c2, .slice A3 e.els.length c3, .int .i64 e.line] 50) = w1 at *
  obtain ⟨X, hX⟩ : ∃ X, X = w.heap.size := ⟨_, rfl⟩
  rw [← hX] at hx0 ⊢
  clear hX
  have HBW : Hid (X < w1.drew.heap.size) := hx0.lt
  have HCD : Hid (scellsT w1.drew X 0 e (.slice A1 e.exprs.length c1) (.slice A2 e.body.length c2) (.slice A3 e.els.length c3)) := ⟨hx0.cell 0, hx0.cell 1, hx0.cell 2, hx0.cell 3, hx0.cell 4, hx0.cell 5, hx0.cell 6⟩
  have HBD := Lib.hid hb0.drew
  have HED := Lib.hid (HE.out.keep HBD.out)
  have HLD := Lib.hid (HL.out.keep HBD.out)
  have HSZ : Hid (w.heap.size ≤ w1.drew.heap.size) := hb0.size
  have HBOX : Hid (Blk w1.drew X 50 #[.int .u8 e.k, .string e.s, .int .i64 e.n, .slice A1 e.exprs.length c1, .slice A2 e.body.length c2, .slice A3 e.els.length c3, .int .i64 e.line]) := hx0
  clear hb0 hx0
  obtain ⟨x0, x1, x2, x3, x4, x5, x6⟩ := HCD.out
  refine wp_region_noPanic ?_
  refine wp_region_ord (fun wd => wd.cell? ⟨X, 0 + 3, none⟩ = some (.slice A1 e.exprs.length c1) ∧ wd.cell? ⟨X, 0 + 4, none⟩ = some (.slice A2 e.body.length c2) ∧ wd.cell? ⟨X, 0 + 5, none⟩ = some (.slice A3 e.els.length c3)) (.read 0 (.read 1 (.read 2 (.read 3 (.read 4 (.read 5 (.read 6 (.read 7 (.read 8 (.read 9 (.read 10 (.read 11 .done)))))))))))) (by kernel_rfl) (by kernel_rfl) (fun _ _ _ _ _ h => h) ⟨x3, x4, x5⟩ ?_
  simp only [Ord.ops, List.getElem?_toArray, List.getElem?_cons_zero, List.getElem?_cons_succ]
  clear HE HL
  generalize w1.drew = wq at *
  have HLP := Lib.hid (r_loop (A2 := A2) (c2 := c2) e (HLD.out.mono HSZ.out) (HED.out.mono HSZ.out))
  unfold svS at HLP
  have hse := sEmpty e.s
  obtain ⟨z, hz⟩ : ∃ z, z = e.s.toList.isEmpty := ⟨_, rfl⟩
  rw [← hz] at hse
  have HZZ : Hid (e.s.toList = [] ↔ z = true) := by unfold Hid; rw [hz, List.isEmpty_iff]
  simp only [Nat.zero_add] at x0 x1 x2 x3 x4 x5 x6
  iterate 12 (
    refine ord_read ?_ (fun wd hS M hM => ?_) ?_ ?_
    rotate_left
    · have HM := Lib.hid hM
      obtain ⟨z1, z2, z3⟩ := hS
      simp only [Nat.zero_add] at z1 z2 z3
      clear hM
      repeat (first | go_values | go_skip | go_guarded | go_step | go_upon)
      exact HM.out
    · rfl)
  refine NoPanic.normal (?_ : _)
  clear hz
  have HSHH := Lib.hid (shape_is nameB e)
  rw [← hse] at HSHH
  obtain ⟨m1, hm1⟩ : ∃ x, e.exprs.length = x := ⟨_, rfl⟩
  obtain ⟨m2, hm2⟩ : ∃ x, e.body.length = x := ⟨_, rfl⟩
  obtain ⟨m3, hm3⟩ : ∃ x, e.els.length = x := ⟨_, rfl⟩
  rw [hm1] at x3 HSHH hce HW13 HLP
  rw [hm2] at x4 HSHH hcb HW23 HLP
  rw [hm3] at x5 HSHH hcl HW23 HW13 HLP
  rw [hm1, hm2, hm3]
  have HM1 := Lib.hid hm1
  have HM2 := Lib.hid hm2
  have HM3 := Lib.hid hm3
  clear hm1 hm2 hm3 HBOX
  by_cases hk4 : e.k = 4
  · have HSH : Hid (shapeB nameB e = ((z && decide (e.n = 0)) && decide (m1 = 1))) := by
      unfold Hid
      rw [HSHH.out, hk4]
      rfl
    rw [hk4] at x0
    clear hk4
    (go_wp2_with fail; all_goals (go_ret; refine ⟨congrArg (fun b => Ending.returned (.bool b)) ?_, HBD.out⟩; refine Eq.trans ?_ HSH.out.symm; have hzz := HZZ.out; have hw23 := HW23.out; have hw13 := HW13.out; clear HZZ HW23 HW13 HSH HCD HBD HED HLD HSZ HOK HBW HLP x0 x1 x2 x3 x4 x5 x6 hse hcb hcl hce HM1 HM2 HM3; simp_all <;> first | omega | (rw [Bool.eq_iff_iff]; simp only [Bool.and_eq_true, Bool.or_eq_true, Bool.not_eq_true', beq_iff_eq, decide_eq_true_eq, decide_eq_false_iff_not] <;> omega)))
  by_cases hk5 : e.k = 5
  · have HSH : Hid (shapeB nameB e = ((z && decide (e.n = 0)) && decide (m1 = 1 ∧ m3 = 0))) := by
      unfold Hid
      rw [HSHH.out, hk5]
      rfl
    rw [hk5] at x0
    clear hk5
    (go_wp2_with fail; all_goals (go_ret; refine ⟨congrArg (fun b => Ending.returned (.bool b)) ?_, HBD.out⟩; refine Eq.trans ?_ HSH.out.symm; have hzz := HZZ.out; have hw23 := HW23.out; have hw13 := HW13.out; clear HZZ HW23 HW13 HSH HCD HBD HED HLD HSZ HOK HBW HLP x0 x1 x2 x3 x4 x5 x6 hse hcb hcl hce HM1 HM2 HM3; simp_all <;> first | omega | (rw [Bool.eq_iff_iff]; simp only [Bool.and_eq_true, Bool.or_eq_true, Bool.not_eq_true', beq_iff_eq, decide_eq_true_eq, decide_eq_false_iff_not] <;> omega)))
  by_cases hk6 : e.k = 6
  · have HSH : Hid (shapeB nameB e = ((z && decide (e.n = 0)) && decide (m1 = 1 ∧ m3 = 0))) := by
      unfold Hid
      rw [HSHH.out, hk6]
      rfl
    rw [hk6] at x0
    clear hk6
    (go_wp2_with fail; all_goals (go_ret; refine ⟨congrArg (fun b => Ending.returned (.bool b)) ?_, HBD.out⟩; refine Eq.trans ?_ HSH.out.symm; have hzz := HZZ.out; have hw23 := HW23.out; have hw13 := HW13.out; clear HZZ HW23 HW13 HSH HCD HBD HED HLD HSZ HOK HBW HLP x0 x1 x2 x3 x4 x5 x6 hse hcb hcl hce HM1 HM2 HM3; simp_all <;> first | omega | (rw [Bool.eq_iff_iff]; simp only [Bool.and_eq_true, Bool.or_eq_true, Bool.not_eq_true', beq_iff_eq, decide_eq_true_eq, decide_eq_false_iff_not] <;> omega)))
  by_cases hk9 : e.k = 9
  · have HSH : Hid (shapeB nameB e = ((z && decide (e.n = 0)) && decide (wrap64 (wrap64 ((m1 : Int) + m2) + m3) = 0))) := by
      unfold Hid
      rw [HSHH.out, hk9]
      rfl
    rw [hk9] at x0
    clear hk9
    (go_wp2_with fail; all_goals (go_ret; refine ⟨congrArg (fun b => Ending.returned (.bool b)) ?_, HBD.out⟩; refine Eq.trans ?_ HSH.out.symm; have hzz := HZZ.out; have hw23 := HW23.out; have hw13 := HW13.out; clear HZZ HW23 HW13 HSH HCD HBD HED HLD HSZ HOK HBW HLP x0 x1 x2 x3 x4 x5 x6 hse hcb hcl hce HM1 HM2 HM3; simp_all <;> first | omega | (rw [Bool.eq_iff_iff]; simp only [Bool.and_eq_true, Bool.or_eq_true, Bool.not_eq_true', beq_iff_eq, decide_eq_true_eq, decide_eq_false_iff_not] <;> omega)))
  exfalso
  omega
end Go.Proofs.YtmapjahpjolmnaaGreatDoor
namespace Go.Proofs.YtmapjahpjolmnaaGreatDoor
open Go.RowKit Tr
set_option maxRecDepth 20000
set_option maxHeartbeats 4000000 in
theorem r_shape_3 {w : World} (e : XS) {A1 A2 A3 : Option Addr} {c1 c2 c3 : Nat} (he : EsAt w w.heap.size e.exprs (.slice A1 e.exprs.length c1)) (hb : SsAt w w.heap.size e.body (.slice A2 e.body.length c2)) (hl : SsAt w w.heap.size e.els (.slice A3 e.els.length c3)) (hok : e.Ok) (hkk : e.k = 10 ∨ e.k = 11 ∨ e.k = 12) :
    Calls Tryz.prog 61 #[svS e A1 A2 A3 c1 c2 c3] w fun en w' => en = .returned (.bool (shapeB nameB e)) ∧ Below w.heap.size w w' := by
  have hcb := hb.cap
  have HW23 := Lib.hid (wrap2_zero hb.len hl.len)
  have HW13 := Lib.hid (wrap2_zero he.len hl.len)
  have hcl := hl.cap
  have hce := he.cap
  have HE := Lib.hid he
  have HL := Lib.hid hl
  have HOK := Lib.hid hok
  have hb0 := (Below.refl w.heap.size w).alloc (Nat.le_refl _) (.cells #[.int .u8 e.k, .string e.s, .int .i64 e.n, .slice A1 e.exprs.length c1, .slice A2 e.body.length c2, .slice A3 e.els.length c3, .int .i64 e.line] 50)
  have hx0 := Blk.new w 50 #[.int .u8 e.k, .string e.s, .int .i64 e.n, .slice A1 e.exprs.length c1, .slice A2 e.body.length c2, .slice A3 e.els.length c3, .int .i64 e.line]
  clear hb he hl hok
  unfold svS
  go_enter Tryz.func61, Tryz.ntmps61
  go_upto_region 1 with (fail)
  generalize w.alloc (.cells #[.int .u8 e.k, .string e.s, .int .i64 e.n, .slice A1 e.exprs.length c1, .slice A2 e.body.length c2, .slice A3 e.els.length c3, .int .i64 e.line] 50) = w1 at *
  obtain ⟨X, hX⟩ : ∃ X, X = w.heap.size := ⟨_, rfl⟩
  rw [← hX] at hx0 ⊢
  clear hX
  have HBW : Hid (X < w1.drew.heap.size) := hx0.lt
  have HCD : Hid (scellsT w1.drew X 0 e (.slice A1 e.exprs.length c1) (.slice A2 e.body.length c2) (.slice A3 e.els.length c3)) := ⟨hx0.cell 0, hx0.cell 1, hx0.cell 2, hx0.cell 3, hx0.cell 4, hx0.cell 5, hx0.cell 6⟩
  have HBD := Lib.hid hb0.drew
  have HED := Lib.hid (HE.out.keep HBD.out)
  have HLD := Lib.hid (HL.out.keep HBD.out)
  have HSZ : Hid (w.heap.size ≤ w1.drew.heap.size) := hb0.size
  have HBOX : Hid (Blk w1.drew X 50 #[.int .u8 e.k, .string e.s, .int .i64 e.n, .slice A1 e.exprs.length c1, .slice A2 e.body.length c2, .slice A3 e.els.length c3, .int .i64 e.line]) := hx0
  clear hb0 hx0
  obtain ⟨x0, x1, x2, x3, x4, x5, x6⟩ := HCD.out
  refine wp_region_noPanic ?_
  refine wp_region_ord (fun wd => wd.cell? ⟨X, 0 + 3, none⟩ = some (.slice A1 e.exprs.length c1) ∧ wd.cell? ⟨X, 0 + 4, none⟩ = some (.slice A2 e.body.length c2) ∧ wd.cell? ⟨X, 0 + 5, none⟩ = some (.slice A3 e.els.length c3)) (.read 0 (.read 1 (.read 2 (.read 3 (.read 4 (.read 5 (.read 6 (.read 7 (.read 8 (.read 9 (.read 10 (.read 11 .done)))))))))))) (by kernel_rfl) (by kernel_rfl) (fun _ _ _ _ _ h => h) ⟨x3, x4, x5⟩ ?_
  simp only [Ord.ops, List.getElem?_toArray, List.getElem?_cons_zero, List.getElem?_cons_succ]
  clear HE HL
  generalize w1.drew = wq at *
  have HLP := Lib.hid (r_loop (A2 := A2) (c2 := c2) e (HLD.out.mono HSZ.out) (HED.out.mono HSZ.out))
  unfold svS at HLP
  have hse := sEmpty e.s
  obtain ⟨z, hz⟩ : ∃ z, z = e.s.toList.isEmpty := ⟨_, rfl⟩
  rw [← hz] at hse
  have HZZ : Hid (e.s.toList = [] ↔ z = true) := by unfold Hid; rw [hz, List.isEmpty_iff]
  simp only [Nat.zero_add] at x0 x1 x2 x3 x4 x5 x6
  iterate 12 (
    refine ord_read ?_ (fun wd hS M hM => ?_) ?_ ?_
    rotate_left
    · have HM := Lib.hid hM
      obtain ⟨z1, z2, z3⟩ := hS
      simp only [Nat.zero_add] at z1 z2 z3
      clear hM
      repeat (first | go_values | go_skip | go_guarded | go_step | go_upon)
      exact HM.out
    · rfl)
  refine NoPanic.normal (?_ : _)
  clear hz
  have HSHH := Lib.hid (shape_is nameB e)
  rw [← hse] at HSHH
  obtain ⟨m1, hm1⟩ : ∃ x, e.exprs.length = x := ⟨_, rfl⟩
  obtain ⟨m2, hm2⟩ : ∃ x, e.body.length = x := ⟨_, rfl⟩
  obtain ⟨m3, hm3⟩ : ∃ x, e.els.length = x := ⟨_, rfl⟩
  rw [hm1] at x3 HSHH hce HW13 HLP
  rw [hm2] at x4 HSHH hcb HW23 HLP
  rw [hm3] at x5 HSHH hcl HW23 HW13 HLP
  rw [hm1, hm2, hm3]
  have HM1 := Lib.hid hm1
  have HM2 := Lib.hid hm2
  have HM3 := Lib.hid hm3
  clear hm1 hm2 hm3 HBOX
  by_cases hk10 : e.k = 10
  · have HSH : Hid (shapeB nameB e = ((z && decide (e.n = 0)) && decide (wrap64 (wrap64 ((m1 : Int) + m2) + m3) = 0))) := by
      unfold Hid
      rw [HSHH.out, hk10]
      rfl
    rw [hk10] at x0
    clear hk10
    (go_wp2_with fail; all_goals (go_ret; refine ⟨congrArg (fun b => Ending.returned (.bool b)) ?_, HBD.out⟩; refine Eq.trans ?_ HSH.out.symm; have hzz := HZZ.out; have hw23 := HW23.out; have hw13 := HW13.out; clear HZZ HW23 HW13 HSH HCD HBD HED HLD HSZ HOK HBW HLP x0 x1 x2 x3 x4 x5 x6 hse hcb hcl hce HM1 HM2 HM3; simp_all <;> first | omega | (rw [Bool.eq_iff_iff]; simp only [Bool.and_eq_true, Bool.or_eq_true, Bool.not_eq_true', beq_iff_eq, decide_eq_true_eq, decide_eq_false_iff_not] <;> omega)))
  by_cases hk11 : e.k = 11
  · have HSH : Hid (shapeB nameB e = ((z && decide (e.n = 0)) && decide (wrap64 (wrap64 ((m1 : Int) + m2) + m3) = 0))) := by
      unfold Hid
      rw [HSHH.out, hk11]
      rfl
    rw [hk11] at x0
    clear hk11
    (go_wp2_with fail; all_goals (go_ret; refine ⟨congrArg (fun b => Ending.returned (.bool b)) ?_, HBD.out⟩; refine Eq.trans ?_ HSH.out.symm; have hzz := HZZ.out; have hw23 := HW23.out; have hw13 := HW13.out; clear HZZ HW23 HW13 HSH HCD HBD HED HLD HSZ HOK HBW HLP x0 x1 x2 x3 x4 x5 x6 hse hcb hcl hce HM1 HM2 HM3; simp_all <;> first | omega | (rw [Bool.eq_iff_iff]; simp only [Bool.and_eq_true, Bool.or_eq_true, Bool.not_eq_true', beq_iff_eq, decide_eq_true_eq, decide_eq_false_iff_not] <;> omega)))
  by_cases hk12 : e.k = 12
  · have HSH : Hid (shapeB nameB e = ((z && decide (e.n = 0)) && decide (m1 ≤ 1 ∧ m2 + m3 = 0))) := by
      unfold Hid
      rw [HSHH.out, hk12]
      rfl
    rw [hk12] at x0
    clear hk12
    (go_wp2_with fail; all_goals (go_ret; refine ⟨congrArg (fun b => Ending.returned (.bool b)) ?_, HBD.out⟩; refine Eq.trans ?_ HSH.out.symm; have hzz := HZZ.out; have hw23 := HW23.out; have hw13 := HW13.out; clear HZZ HW23 HW13 HSH HCD HBD HED HLD HSZ HOK HBW HLP x0 x1 x2 x3 x4 x5 x6 hse hcb hcl hce HM1 HM2 HM3; simp_all <;> first | omega | (rw [Bool.eq_iff_iff]; simp only [Bool.and_eq_true, Bool.or_eq_true, Bool.not_eq_true', beq_iff_eq, decide_eq_true_eq, decide_eq_false_iff_not] <;> omega)))
  exfalso
  omega
end Go.Proofs.YtmapjahpjolmnaaGreatDoor
namespace Go.Proofs.YtmapjahpjolmnaaGreatDoor
open Go.RowKit Tr
set_option maxRecDepth 20000
set_option maxHeartbeats 4000000 in
theorem r_shape_4 {w : World} (e : XS) {A1 A2 A3 : Option Addr} {c1 c2 c3 : Nat} (he : EsAt w w.heap.size e.exprs (.slice A1 e.exprs.length c1)) (hb : SsAt w w.heap.size e.body (.slice A2 e.body.length c2)) (hl : SsAt w w.heap.size e.els (.slice A3 e.els.length c3)) (hok : e.Ok) (hkk : e.k = 13 ∨ e.k = 15 ∨ e.k = 14) :
    Calls Tryz.prog 61 #[svS e A1 A2 A3 c1 c2 c3] w fun en w' => en = .returned (.bool (shapeB nameB e)) ∧ Below w.heap.size w w' := by
  have hcb := hb.cap
  have HW23 := Lib.hid (wrap2_zero hb.len hl.len)
  have HW13 := Lib.hid (wrap2_zero he.len hl.len)
  have hcl := hl.cap
  have hce := he.cap
  have HE := Lib.hid he
  have HL := Lib.hid hl
  have HOK := Lib.hid hok
  have hb0 := (Below.refl w.heap.size w).alloc (Nat.le_refl _) (.cells #[.int .u8 e.k, .string e.s, .int .i64 e.n, .slice A1 e.exprs.length c1, .slice A2 e.body.length c2, .slice A3 e.els.length c3, .int .i64 e.line] 50)
  have hx0 := Blk.new w 50 #[.int .u8 e.k, .string e.s, .int .i64 e.n, .slice A1 e.exprs.length c1, .slice A2 e.body.length c2, .slice A3 e.els.length c3, .int .i64 e.line]
  clear hb he hl hok
  unfold svS
  go_enter Tryz.func61, Tryz.ntmps61
  go_upto_region 1 with (fail)
  generalize w.alloc (.cells #[.int .u8 e.k, .string e.s, .int .i64 e.n, .slice A1 e.exprs.length c1, .slice A2 e.body.length c2, .slice A3 e.els.length c3, .int .i64 e.line] 50) = w1 at *
  obtain ⟨X, hX⟩ : ∃ X, X = w.heap.size := ⟨_, rfl⟩
  rw [← hX] at hx0 ⊢
  clear hX
  have HBW : Hid (X < w1.drew.heap.size) := hx0.lt
  have HCD : Hid (scellsT w1.drew X 0 e (.slice A1 e.exprs.length c1) (.slice A2 e.body.length c2) (.slice A3 e.els.length c3)) := ⟨hx0.cell 0, hx0.cell 1, hx0.cell 2, hx0.cell 3, hx0.cell 4, hx0.cell 5, hx0.cell 6⟩
  have HBD := Lib.hid hb0.drew
  have HED := Lib.hid (HE.out.keep HBD.out)
  have HLD := Lib.hid (HL.out.keep HBD.out)
  have HSZ : Hid (w.heap.size ≤ w1.drew.heap.size) := hb0.size
  have HBOX : Hid (Blk w1.drew X 50 #[.int .u8 e.k, .string e.s, .int .i64 e.n, .slice A1 e.exprs.length c1, .slice A2 e.body.length c2, .slice A3 e.els.length c3, .int .i64 e.line]) := hx0
  clear hb0 hx0
  obtain ⟨x0, x1, x2, x3, x4, x5, x6⟩ := HCD.out
  refine wp_region_noPanic ?_
  refine wp_region_ord (fun wd => wd.cell? ⟨X, 0 + 3, none⟩ = some (.slice A1 e.exprs.length c1) ∧ wd.cell? ⟨X, 0 + 4, none⟩ = some (.slice A2 e.body.length c2) ∧ wd.cell? ⟨X, 0 + 5, none⟩ = some (.slice A3 e.els.length c3)) (.read 0 (.read 1 (.read 2 (.read 3 (.read 4 (.read 5 (.read 6 (.read 7 (.read 8 (.read 9 (.read 10 (.read 11 .done)))))))))))) (by kernel_rfl) (by kernel_rfl) (fun _ _ _ _ _ h => h) ⟨x3, x4, x5⟩ ?_
  simp only [Ord.ops, List.getElem?_toArray, List.getElem?_cons_zero, List.getElem?_cons_succ]
  clear HE HL
  generalize w1.drew = wq at *
  have HLP := Lib.hid (r_loop (A2 := A2) (c2 := c2) e (HLD.out.mono HSZ.out) (HED.out.mono HSZ.out))
  unfold svS at HLP
  have hse := sEmpty e.s
  obtain ⟨z, hz⟩ : ∃ z, z = e.s.toList.isEmpty := ⟨_, rfl⟩
  rw [← hz] at hse
  have HZZ : Hid (e.s.toList = [] ↔ z = true) := by unfold Hid; rw [hz, List.isEmpty_iff]
  simp only [Nat.zero_add] at x0 x1 x2 x3 x4 x5 x6
  iterate 12 (
    refine ord_read ?_ (fun wd hS M hM => ?_) ?_ ?_
    rotate_left
    · have HM := Lib.hid hM
      obtain ⟨z1, z2, z3⟩ := hS
      simp only [Nat.zero_add] at z1 z2 z3
      clear hM
      repeat (first | go_values | go_skip | go_guarded | go_step | go_upon)
      exact HM.out
    · rfl)
  refine NoPanic.normal (?_ : _)
  clear hz
  have HSHH := Lib.hid (shape_is nameB e)
  rw [← hse] at HSHH
  obtain ⟨m1, hm1⟩ : ∃ x, e.exprs.length = x := ⟨_, rfl⟩
  obtain ⟨m2, hm2⟩ : ∃ x, e.body.length = x := ⟨_, rfl⟩
  obtain ⟨m3, hm3⟩ : ∃ x, e.els.length = x := ⟨_, rfl⟩
  rw [hm1] at x3 HSHH hce HW13 HLP
  rw [hm2] at x4 HSHH hcb HW23 HLP
  rw [hm3] at x5 HSHH hcl HW23 HW13 HLP
  rw [hm1, hm2, hm3]
  have HM1 := Lib.hid hm1
  have HM2 := Lib.hid hm2
  have HM3 := Lib.hid hm3
  clear hm1 hm2 hm3 HBOX
  by_cases hk13 : e.k = 13
  · have HSH : Hid (shapeB nameB e = ((z && decide (e.n = 0)) && decide (m1 ≤ 1 ∧ m2 + m3 = 0))) := by
      unfold Hid
      rw [HSHH.out, hk13]
      rfl
    rw [hk13] at x0
    clear hk13
    (go_wp2_with fail; all_goals (go_ret; refine ⟨congrArg (fun b => Ending.returned (.bool b)) ?_, HBD.out⟩; refine Eq.trans ?_ HSH.out.symm; have hzz := HZZ.out; have hw23 := HW23.out; have hw13 := HW13.out; clear HZZ HW23 HW13 HSH HCD HBD HED HLD HSZ HOK HBW HLP x0 x1 x2 x3 x4 x5 x6 hse hcb hcl hce HM1 HM2 HM3; simp_all <;> first | omega | (rw [Bool.eq_iff_iff]; simp only [Bool.and_eq_true, Bool.or_eq_true, Bool.not_eq_true', beq_iff_eq, decide_eq_true_eq, decide_eq_false_iff_not] <;> omega)))
  by_cases hk15 : e.k = 15
  · have HSH : Hid (shapeB nameB e = ((z && decide (e.n = 0)) && decide (m1 + m3 = 0))) := by
      unfold Hid
      rw [HSHH.out, hk15]
      rfl
    rw [hk15] at x0
    clear hk15
    (go_wp2_with fail; all_goals (go_ret; refine ⟨congrArg (fun b => Ending.returned (.bool b)) ?_, HBD.out⟩; refine Eq.trans ?_ HSH.out.symm; have hzz := HZZ.out; have hw23 := HW23.out; have hw13 := HW13.out; clear HZZ HW23 HW13 HSH HCD HBD HED HLD HSZ HOK HBW HLP x0 x1 x2 x3 x4 x5 x6 hse hcb hcl hce HM1 HM2 HM3; simp_all <;> first | omega | (rw [Bool.eq_iff_iff]; simp only [Bool.and_eq_true, Bool.or_eq_true, Bool.not_eq_true', beq_iff_eq, decide_eq_true_eq, decide_eq_false_iff_not] <;> omega)))
  by_cases hk14 : e.k = 14
  · have HSH : Hid (shapeB nameB e = (nameB e.s && (decide (e.n = 0) && decide (m2 + m3 = 0)))) := by
      unfold Hid
      rw [HSHH.out, hk14]
      rfl
    rw [hk14] at x0
    clear hk14
    go_wp2_with fail
    all_goals
      refine (r_Name e.s _ HOK.out.2.1).mono ?_
      rintro en w2 ⟨rfl, hb2⟩
      have HB2 := Lib.hid (HBD.out.trans (hb2.mono (HSZ.out)))
      obtain ⟨u0, u1, u2, u3, u4, u5, u6⟩ := HCD.out.keep hb2 HBW.out
      rw [HM1.out] at u3
      rw [HM2.out] at u4
      rw [HM3.out] at u5
      clear hb2
      go_wp2_with fail
      all_goals (go_ret; refine ⟨congrArg (fun b => Ending.returned (.bool b)) ?_, HB2.out⟩; refine Eq.trans ?_ HSH.out.symm; have hzz := HZZ.out; have hw23 := HW23.out; have hw13 := HW13.out; clear HZZ HW23 HW13 HSH HCD HBD HED HLD HSZ HOK HBW HLP x0 x1 x2 x3 x4 x5 x6 u0 u1 u2 u3 u4 u5 u6 hse hcb hcl hce HM1 HM2 HM3; simp_all <;> first | omega | (rw [Bool.eq_iff_iff]; simp only [Bool.and_eq_true, Bool.or_eq_true, Bool.not_eq_true', beq_iff_eq, decide_eq_true_eq, decide_eq_false_iff_not] <;> omega))
  exfalso
  omega
end Go.Proofs.YtmapjahpjolmnaaGreatDoor
