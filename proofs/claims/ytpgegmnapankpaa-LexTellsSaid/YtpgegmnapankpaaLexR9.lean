/- The walk of the reference's Next. -/
import Derived.Test.YtpgegmnapankpaaLexP2
namespace Go.Proofs.Ytpgegmnapankpaa
open Go.RowKit
theorem fin3 (w : World) (a b c d e f g a' b' c' d' e' : Value) : let W := ((w.alloc (.cells #[a, b, c, d, e] 24)).alloc (.cells #[f, g] 27)).alloc (.cells #[a', b', c', d', e'] 24)
    Blk W w.heap.size 24 #[a, b, c, d, e] ∧ Blk W (w.heap.size + 1) 27 #[f, g] ∧ Blk W (w.heap.size + 2) 24 #[a', b', c', d', e'] ∧ Below w.heap.size w W := by
  obtain ⟨hR, hF, hB⟩ := fin2 w a b c d e f g
  intro W
  have hsz : ((w.alloc (.cells #[a, b, c, d, e] 24)).alloc (.cells #[f, g] 27)).heap.size = w.heap.size + 2 := by simp
  have hT := Blk.new ((w.alloc (.cells #[a, b, c, d, e] 24)).alloc (.cells #[f, g] 27)) 24 #[a', b', c', d', e']
  have hb := (Below.refl (w.heap.size + 2) ((w.alloc (.cells #[a, b, c, d, e] 24)).alloc (.cells #[f, g] 27))).alloc (by rw [hsz]; exact Nat.le_refl _) (.cells #[a', b', c', d', e'] 24)
  rw [hsz] at hT
  exact ⟨below_blk hR hb (by omega), below_blk hF hb (by omega), hT, hB.trans (hb.mono (by omega))⟩
set_option maxHeartbeats 4000000 in
theorem r_Next (s : ByteArray) (at_ : Int) (re : Bool) (w : World) (hs : s.size ≤ 4294967296) :
    Calls Try.prog 7 #[.string s, .int .i64 at_, .bool re] w fun e w' => e = .returned (.tuple #[(Lex.nextL Lex.oneL s.data.toList at_ re).tok, (Lex.nextL Lex.oneL s.data.toList at_ re).fault]) ∧ Below w.heap.size w w' := by
  obtain ⟨l, hl⟩ : ∃ l, l = s.data.toList := ⟨_, rfl⟩
  have hl' : l.length = s.size := by subst hl; rfl
  rw [← hl]
  have HL := Lib.hid hl
  have HLL := Lib.hid hl'
  clear hl hl'
  have hsl : s.size < 9223372036854775808 := by omega
  by_cases hA : s.size ≤ 65536
  · by_cases hB : at_ < 0 ∨ (s.size : Int) < at_
    · have HN : Hid (Lex.nextL Lex.oneL l at_ re = Lex.none_ 2 0) := by unfold Hid Lex.nextL; rw [if_neg (by rw [HLL.out]; omega), if_pos (by rw [HLL.out]; exact hB)]
      rw [HN.out]
      by_cases hB1 : at_ < 0
      · go_enter Try.func7, Try.ntmps7
        go_wp2_with fail
        have hfin := fin2 w (.int .u8 0) (.string ⟨#[]⟩) (.int .i64 0) (.int .i64 0) (.int .i64 0) (.int .i64 2) (.int .i64 0)
        obtain ⟨hR, hF, hB'⟩ := hfin
        obtain ⟨⟨c0, c1, c2, c3, c4⟩, -⟩ := hR.five
        obtain ⟨⟨d0, d1⟩, -⟩ := hF.two
        refine bodyPost_ret (v := .tuple #[(Lex.none_ 2 0).tok, (Lex.none_ 2 0).fault]) (by simp [results, Try.results7, go_sem, c0, c1, c2, c3, c4, d0, d1, Lex.Out.tok, Lex.Out.fault, Lex.none_]) rfl ⟨rfl, hB'⟩
      · have hB2 : (s.size : Int) < at_ := by omega
        clear hB
        go_enter Try.func7, Try.ntmps7
        go_wp2_with fail
        have hfin := fin2 w (.int .u8 0) (.string ⟨#[]⟩) (.int .i64 0) (.int .i64 0) (.int .i64 0) (.int .i64 2) (.int .i64 0)
        obtain ⟨hR, hF, hB'⟩ := hfin
        obtain ⟨⟨c0, c1, c2, c3, c4⟩, -⟩ := hR.five
        obtain ⟨⟨d0, d1⟩, -⟩ := hF.two
        refine bodyPost_ret (v := .tuple #[(Lex.none_ 2 0).tok, (Lex.none_ 2 0).fault]) (by simp [results, Try.results7, go_sem, c0, c1, c2, c3, c4, d0, d1, Lex.Out.tok, Lex.Out.fault, Lex.none_]) rfl ⟨rfl, hB'⟩
    · obtain ⟨n, rfl⟩ : ∃ n : Nat, at_ = n := ⟨at_.toNat, by omega⟩
      have hn : n ≤ s.size := by omega
      have hn1 : (n : Int) ≤ (s.size : Int) := by omega
      have hple : Lex.passL (l.drop n) ≤ (l.drop n).length := Lex.passM_le false (l.drop n)
      rw [List.length_drop, HLL.out] at hple
      obtain ⟨o, ho⟩ : ∃ o, o = Lex.nextL Lex.oneL l n re := ⟨_, rfl⟩
      rw [← ho]
      have HN : Hid (o = if n + Lex.passL (l.drop n) = l.length then ⟨9, ⟨#[]⟩, Lex.lineL l ((n + Lex.passL (l.drop n) : Nat) : Int), ((n + Lex.passL (l.drop n) : Nat) : Int), ((n + Lex.passL (l.drop n) : Nat) : Int), 0, 0⟩
          else if (Lex.oneL (l.drop (n + Lex.passL (l.drop n))) re).2.2 = 0 then Lex.none_ 100 (Lex.lineL l ((n + Lex.passL (l.drop n) : Nat) : Int)) else ⟨(Lex.oneL (l.drop (n + Lex.passL (l.drop n))) re).1, (Lex.oneL (l.drop (n + Lex.passL (l.drop n))) re).2.1, Lex.lineL l ((n + Lex.passL (l.drop n) : Nat) : Int), ((n + Lex.passL (l.drop n) : Nat) : Int), ((n + Lex.passL (l.drop n) : Nat) : Int) + (Lex.oneL (l.drop (n + Lex.passL (l.drop n))) re).2.2, 0, 0⟩) := by
        rw [ho]; unfold Hid Lex.nextL; rw [if_neg (by rw [HLL.out]; omega), if_neg (by rw [HLL.out]; omega)]; simp only [Int.toNat_natCast]
      clear ho
      clear hB
      go_enter Try.func7, Try.ntmps7
      go_wp2_with fail
      refine (r_passed s n _ hs hn).mono ?_
      rintro e w2 ⟨rfl, rfl⟩
      rw [← HL.out]
      have hnm : n + Lex.passL (l.drop n) ≤ s.size := by omega
      clear hn hn1 hple
      generalize n + Lex.passL (l.drop n) = q at *
      by_cases hq : q = s.size
      · have Ho := HN.out
        rw [if_pos (by rw [HLL.out]; exact hq)] at Ho
        subst hq
        have HO := Lib.hid Ho
        clear Ho HN
        obtain ⟨hR, hF, hT, hB⟩ := fin3 w (.int .u8 0) (.string ⟨#[]⟩) (.int .i64 0) (.int .i64 0) (.int .i64 0) (.int .i64 0) (.int .i64 0) (.int .u8 9) (.string ⟨#[]⟩) (.int .i64 0) (.int .i64 s.size) (.int .i64 s.size)
        obtain ⟨⟨c0, c1, c2, c3, c4⟩, f0, f1, f2, f3, f4⟩ := hR.five
        obtain ⟨⟨d0, d1⟩, g0, g1⟩ := hF.two
        obtain ⟨⟨t0, t1, t2, t3, t4⟩, h0, h1, h2, h3, h4⟩ := hT.five
        go_wp2_with fail
        refine (r_line s s.size _ hs).mono ?_
        rintro e w2 ⟨rfl, rfl⟩
        rw [← HL.out]
        generalize Lex.lineL l (s.size : Int) = ln at *
        go_wp2_with fail
        obtain ⟨hR9, hF9, -, hB9⟩ := fin3 w (.int .u8 9) (.string ⟨#[]⟩) (.int .i64 ln) (.int .i64 (s.size : Nat)) (.int .i64 (s.size : Nat)) (.int .i64 0) (.int .i64 0) (.int .u8 9) (.string ⟨#[]⟩) (.int .i64 ln) (.int .i64 (s.size : Nat)) (.int .i64 (s.size : Nat))
        obtain ⟨⟨s0, s1, s2, s3, s4⟩, -⟩ := hR9.five
        obtain ⟨⟨e0, e1⟩, -⟩ := hF9.two
        clear c0 c1 c2 c3 c4 d0 d1 t0 t1 t2 t3 t4 f0 f1 f2 f3 f4 g0 g1 h0 h1 h2 h3 h4 hR hF hT hB
        refine bodyPost_ret (v := .tuple #[(Lex.Out.mk 9 ⟨#[]⟩ ln (s.size : Nat) (s.size : Nat) 0 0).tok, (Lex.Out.mk 9 ⟨#[]⟩ ln (s.size : Nat) (s.size : Nat) 0 0).fault]) (by simp [results, Try.results7, go_sem, s0, s1, s2, s3, s4, e0, e1, Lex.Out.tok, Lex.Out.fault]) rfl ⟨by rw [HO.out], hB9⟩
      · have Ho := HN.out
        rw [if_neg (by rw [HLL.out]; exact hq)] at Ho
        have HO0 := Lib.hid Ho
        clear Ho HN
        have hq1 : q < s.size := by omega
        have hq2 : (q : Int) < (s.size : Int) := by omega
        have hq3 : ¬ ((q : Int) = (s.size : Int)) := by omega
        have hc : ((s[q]'hq1).toNat : Int) = Lex.byteN l q := by rw [HL.out, Lex.byteN_in (by exact hq1)]; rfl
        have HC := Lib.hid hc
        clear hc
        obtain ⟨hR, hF, hT, hB⟩ := fin3 w (.int .u8 0) (.string ⟨#[]⟩) (.int .i64 0) (.int .i64 0) (.int .i64 0) (.int .i64 0) (.int .i64 0) (.int .u8 9) (.string ⟨#[]⟩) (.int .i64 0) (.int .i64 q) (.int .i64 q)
        by_cases h10 : Lex.byteN l q = 10
        · have ho1 : Lex.oneL (l.drop q) re = (8, ⟨#[]⟩, 1) := Lex.oneL_line (by rw [Lex.byteN_drop, Nat.add_zero]; exact h10)
          have Ho := HO0.out
          rw [ho1, if_neg (by decide)] at Ho
          have HO := Lib.hid Ho
          have hcb : (((s[q]'hq1).toNat : Int) == 10) = true := by have := HC.out; simp; omega
          clear Ho HO0 ho1 h10
          obtain ⟨⟨c0, c1, c2, c3, c4⟩, f0, f1, f2, f3, f4⟩ := hR.five
          obtain ⟨⟨d0, d1⟩, g0, g1⟩ := hF.two
          obtain ⟨⟨t0, t1, t2, t3, t4⟩, h0, h1, h2, h3, h4⟩ := hT.five
          go_wp2_with fail
          refine (r_line s q _ hs).mono ?_
          rintro e w2 ⟨rfl, rfl⟩
          rw [← HL.out]
          generalize Lex.lineL l (q : Int) = ln at *
          go_wp2_with fail
          obtain ⟨hR9, hF9, -, hB9⟩ := fin3 w (.int .u8 8) (.string ⟨#[]⟩) (.int .i64 ln) (.int .i64 q) (.int .i64 ((q : Int) + 1)) (.int .i64 0) (.int .i64 0) (.int .u8 8) (.string ⟨#[]⟩) (.int .i64 ln) (.int .i64 q) (.int .i64 ((q : Int) + 1))
          obtain ⟨⟨s0, s1, s2, s3, s4⟩, -⟩ := hR9.five
          obtain ⟨⟨e0, e1⟩, -⟩ := hF9.two
          clear c0 c1 c2 c3 c4 d0 d1 t0 t1 t2 t3 t4 f0 f1 f2 f3 f4 g0 g1 h0 h1 h2 h3 h4 hR hF hT hB
          refine bodyPost_ret (v := .tuple #[(Lex.Out.mk 8 ⟨#[]⟩ ln q ((q : Int) + 1) 0 0).tok, (Lex.Out.mk 8 ⟨#[]⟩ ln q ((q : Int) + 1) 0 0).fault]) (by simp [results, Try.results7, go_sem, s0, s1, s2, s3, s4, e0, e1, Lex.Out.tok, Lex.Out.fault]) rfl ⟨by rw [HO.out]; rfl, hB9⟩
        · have hcb : (((s[q]'hq1).toNat : Int) == 10) = false := by have := HC.out; simp; omega
          have HRO := Lib.hid (fun w => r_one s q re w (by omega) hq1 (by rw [← HL.out]; exact h10))
          clear h10
          obtain ⟨⟨c0, c1, c2, c3, c4⟩, f0, f1, f2, f3, f4⟩ := hR.five
          obtain ⟨⟨d0, d1⟩, g0, g1⟩ := hF.two
          obtain ⟨⟨t0, t1, t2, t3, t4⟩, h0, h1, h2, h3, h4⟩ := hT.five
          go_wp2_with fail
          refine (HRO.out _).mono ?_
          rintro e w4 ⟨rfl, hb4⟩
          rw [← HL.out]
          have HR4 := Lib.hid (below_blk hR hb4 hR.lt)
          have HF4 := Lib.hid (below_blk hF hb4 hF.lt)
          have HT4 := Lib.hid (below_blk hT hb4 hT.lt)
          have HB4 := Lib.hid (hB.trans (hb4.mono (by simp; omega)))
          clear c0 c1 c2 c3 c4 d0 d1 t0 t1 t2 t3 t4 f0 f1 f2 f3 f4 g0 g1 h0 h1 h2 h3 h4 hR hF hT hB hb4 HRO
          have HKND := Lib.hid (Lex.oneL_kind (l := l.drop q) (re := re))
          have hle := Lex.oneL_le (l := l.drop q) (re := re)
          rw [List.length_drop, HLL.out] at hle
          generalize Lex.oneL (l.drop q) re = ol at *
          obtain ⟨tk, ts, tn⟩ := ol
          have hle2 : tn ≤ s.size - q := hle
          clear hle
          obtain ⟨⟨c0, c1, c2, c3, c4⟩, f0, f1, f2, f3, f4⟩ := HR4.out.five
          obtain ⟨⟨d0, d1⟩, g0, g1⟩ := HF4.out.two
          obtain ⟨⟨t0, t1, t2, t3, t4⟩, h0, h1, h2, h3, h4⟩ := HT4.out.five
          by_cases ht0 : tn = 0
          · have Ho := HO0.out
            rw [if_pos (show (tk, ts, tn).2.2 = 0 from ht0)] at Ho
            have HO := Lib.hid Ho
            clear Ho HO0 HKND
            rw [show rres q (tk, ts, tn) = rzero from if_pos ht0, rzero]
            clear ht0
            go_wp2_with fail
            refine (r_line s q _ hs).mono ?_
            rintro e w2 ⟨rfl, rfl⟩
            rw [← HL.out]
            generalize Lex.lineL l (q : Int) = ln at *
            go_wp2_with fail
            have hR8 := HR4.out.keep (Tur.set5 (g := w.heap.size + 2) (i1 := 0) (i2 := 1) (i3 := 2) (i4 := 3) (i5 := 4) (.int .u8 0) (.string ⟨#[]⟩) (.int .i64 0) (.int .i64 0) (.int .i64 0)) (fun e => absurd e (by omega))
            have hF8 := HF4.out.keep (Tur.set5 (g := w.heap.size + 2) (i1 := 0) (i2 := 1) (i3 := 2) (i4 := 3) (i5 := 4) (.int .u8 0) (.string ⟨#[]⟩) (.int .i64 0) (.int .i64 0) (.int .i64 0)) (fun e => absurd e (by omega))
            have hB8 := HB4.out.trans (below_set5 (g := w.heap.size + 2) (by omega) HB4.out.size (.int .u8 0) (.string ⟨#[]⟩) (.int .i64 0) (.int .i64 0) (.int .i64 0))
            have hR9 := hR8.set5 (.int .u8 0) (.string ⟨#[]⟩) (.int .i64 0) (.int .i64 0) (.int .i64 0)
            have hF9 := (hF8.keep (Tur.set5 (g := w.heap.size) (i1 := 0) (i2 := 1) (i3 := 2) (i4 := 3) (i5 := 4) (.int .u8 0) (.string ⟨#[]⟩) (.int .i64 0) (.int .i64 0) (.int .i64 0)) (fun e => absurd e (by omega))).set2 (.int .i64 100) (.int .i64 ln)
            have hR10 := hR9.keep (Tur.set2 (g := w.heap.size + 1) (i1 := 0) (i2 := 1) (.int .i64 100) (.int .i64 ln)) (fun e => absurd e (by omega))
            have hB9 := hB8.trans (below_set5 (g := w.heap.size) (Nat.le_refl _) hB8.size (.int .u8 0) (.string ⟨#[]⟩) (.int .i64 0) (.int .i64 0) (.int .i64 0))
            have hB10 := hB9.trans (below_set2 (g := w.heap.size + 1) (Nat.le_succ _) hB9.size (.int .i64 100) (.int .i64 ln))
            obtain ⟨⟨s0, s1, s2, s3, s4⟩, -⟩ := hR10.five
            obtain ⟨⟨e0, e1⟩, -⟩ := hF9.two
            clear c0 c1 c2 c3 c4 d0 d1 f0 f1 f2 f3 f4 g0 g1 t0 t1 t2 t3 t4 h0 h1 h2 h3 h4 hR8 hF8 hB8 hR9 hF9 hR10 hB9
            refine bodyPost_ret (v := .tuple #[(Lex.none_ 100 ln).tok, (Lex.none_ 100 ln).fault]) (by simp [results, Try.results7, go_sem, s0, s1, s2, s3, s4, e0, e1, Lex.Out.tok, Lex.Out.fault, Lex.none_]) rfl ⟨by rw [HO.out], hB10⟩
          · have Ho := HO0.out
            rw [if_neg (show ¬ (tk, ts, tn).2.2 = 0 from ht0)] at Ho
            have HO := Lib.hid Ho
            have hk0 : ¬ (tk = 0) := HKND.out ht0
            clear Ho HO0 HKND
            rw [show rres q (tk, ts, tn) = rtok q (tk, ts, tn) from if_neg ht0, rtok]
            dsimp only
            clear ht0
            obtain ⟨m, hm⟩ : ∃ m : Int, m = (q : Int) + (tn : Int) := ⟨_, rfl⟩
            rw [show ((q + tn : Nat) : Int) = m by omega]
            rw [← hm] at HO
            clear hm
            go_wp2_with fail
            have HR5 := Lib.hid (HR4.out.keep (Tur.set5 (g := w.heap.size + 2) (i1 := 0) (i2 := 1) (i3 := 2) (i4 := 3) (i5 := 4) (.int .u8 tk) (.string ts) (.int .i64 0) (.int .i64 q) (.int .i64 m)) (fun e => absurd e (by omega)))
            have HF5 := Lib.hid (HF4.out.keep (Tur.set5 (g := w.heap.size + 2) (i1 := 0) (i2 := 1) (i3 := 2) (i4 := 3) (i5 := 4) (.int .u8 tk) (.string ts) (.int .i64 0) (.int .i64 q) (.int .i64 m)) (fun e => absurd e (by omega)))
            have HT5 := Lib.hid (HT4.out.set5 (.int .u8 tk) (.string ts) (.int .i64 0) (.int .i64 q) (.int .i64 m))
            have HB5 := Lib.hid (HB4.out.trans (below_set5 (g := w.heap.size + 2) (by omega) HB4.out.size (.int .u8 tk) (.string ts) (.int .i64 0) (.int .i64 q) (.int .i64 m)))
            clear c0 c1 c2 c3 c4 d0 d1 t0 t1 t2 t3 t4 f0 f1 f2 f3 f4 g0 g1 h0 h1 h2 h3 h4 HR4 HF4 HT4 HB4
            generalize ((((w4.setCell ⟨w.heap.size + 2, 0, none⟩ (.int .u8 tk)).setCell ⟨w.heap.size + 2, 1, none⟩ (.string ts)).setCell ⟨w.heap.size + 2, 2, none⟩ (.int .i64 0)).setCell ⟨w.heap.size + 2, 3, none⟩ (.int .i64 q)).setCell ⟨w.heap.size + 2, 4, none⟩ (.int .i64 m) = w5 at *
            obtain ⟨⟨c0, c1, c2, c3, c4⟩, f0, f1, f2, f3, f4⟩ := HR5.out.five
            obtain ⟨⟨d0, d1⟩, g0, g1⟩ := HF5.out.two
            obtain ⟨⟨t0, t1, t2, t3, t4⟩, h0, h1, h2, h3, h4⟩ := HT5.out.five
            refine (r_line s q _ hs).mono ?_
            rintro e w2 ⟨rfl, rfl⟩
            rw [← HL.out]
            generalize Lex.lineL l (q : Int) = ln at *
            go_wp2_with fail
            have hR8 := HR5.out.keep (Tur.of_set ⟨w.heap.size + 2, 2, none⟩ (.int .i64 ln)) (fun e => absurd e (by show ¬ w.heap.size = w.heap.size + 2; omega))
            have hF8 := HF5.out.keep (Tur.of_set ⟨w.heap.size + 2, 2, none⟩ (.int .i64 ln)) (fun e => absurd e (by show ¬ w.heap.size + 1 = w.heap.size + 2; omega))
            have hB8 := HB5.out.trans ((Tur.of_set (w := w5) ⟨w.heap.size + 2, 2, none⟩ (.int .i64 ln)).below w.heap.size HB5.out.size (fun k hk e => absurd e (by show ¬ k = w.heap.size + 2; omega)))
            have hR9 := hR8.set5 (.int .u8 tk) (.string ts) (.int .i64 ln) (.int .i64 q) (.int .i64 m)
            have hF9 := (hF8.keep (Tur.set5 (g := w.heap.size) (i1 := 0) (i2 := 1) (i3 := 2) (i4 := 3) (i5 := 4) (.int .u8 tk) (.string ts) (.int .i64 ln) (.int .i64 q) (.int .i64 m)) (fun e => absurd e (by omega))).set2 (.int .i64 0) (.int .i64 0)
            have hR10 := hR9.keep (Tur.set2 (g := w.heap.size + 1) (i1 := 0) (i2 := 1) (.int .i64 0) (.int .i64 0)) (fun e => absurd e (by omega))
            have hB9 := hB8.trans (below_set5 (g := w.heap.size) (Nat.le_refl _) hB8.size (.int .u8 tk) (.string ts) (.int .i64 ln) (.int .i64 q) (.int .i64 m))
            have hB10 := hB9.trans (below_set2 (g := w.heap.size + 1) (Nat.le_succ _) hB9.size (.int .i64 0) (.int .i64 0))
            obtain ⟨⟨s0, s1, s2, s3, s4⟩, -⟩ := hR10.five
            obtain ⟨⟨e0, e1⟩, -⟩ := hF9.two
            clear c0 c1 c2 c3 c4 d0 d1 f0 f1 f2 f3 f4 g0 g1 t0 t1 t2 t3 t4 h0 h1 h2 h3 h4 hR8 hF8 hB8 hR9 hF9 hR10 hB9
            refine bodyPost_ret (v := .tuple #[(Lex.Out.mk tk ts ln q m 0 0).tok, (Lex.Out.mk tk ts ln q m 0 0).fault]) (by simp [results, Try.results7, go_sem, s0, s1, s2, s3, s4, e0, e1, Lex.Out.tok, Lex.Out.fault, Lex.none_]) rfl ⟨by rw [HO.out], hB10⟩
  · have HN : Hid (Lex.nextL Lex.oneL l at_ re = Lex.none_ 3 0) := by unfold Hid Lex.nextL; rw [if_pos (by rw [HLL.out]; omega)]
    rw [HN.out]
    go_enter Try.func7, Try.ntmps7
    go_wp2_with fail
    have hfin := fin2 w (.int .u8 0) (.string ⟨#[]⟩) (.int .i64 0) (.int .i64 0) (.int .i64 0) (.int .i64 3) (.int .i64 0)
    obtain ⟨hR, hF, hB'⟩ := hfin
    obtain ⟨⟨c0, c1, c2, c3, c4⟩, -⟩ := hR.five
    obtain ⟨⟨d0, d1⟩, -⟩ := hF.two
    refine bodyPost_ret (v := .tuple #[(Lex.none_ 3 0).tok, (Lex.none_ 3 0).fault]) (by simp [results, Try.results7, go_sem, c0, c1, c2, c3, c4, d0, d1, Lex.Out.tok, Lex.Out.fault, Lex.none_]) rfl ⟨rfl, hB'⟩
end Go.Proofs.Ytpgegmnapankpaa
