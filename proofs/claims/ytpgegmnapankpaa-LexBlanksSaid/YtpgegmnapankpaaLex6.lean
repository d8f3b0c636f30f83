/- The walks of lex: Next, over what a token at a place is. -/
import Derived.Test.YtpgegmnapankpaaLex5
namespace Go.Proofs.Ytpgegmnapankpaa
open Go.RowKit

namespace Lex
abbrev One := List UInt8 → Bool → Int × ByteArray × Nat
/-- Kind, text, line, place, end; error, its line. -/
structure Out where
  k : Int
  s : ByteArray
  line : Int
  at_ : Int
  end_ : Int
  err : Int
  eline : Int
def Out.tok (o : Out) : Value := .agg #[.int .u8 o.k, .string o.s, .int .i64 o.line, .int .i64 o.at_, .int .i64 o.end_]
def Out.fault (o : Out) : Value := .agg #[.int .i64 o.err, .int .i64 o.eline]
def none_ (err line : Int) : Out := ⟨0, ⟨#[]⟩, 0, 0, 0, err, line⟩
def nextL (one : One) (l : List UInt8) (at_ : Int) (re : Bool) : Out :=
  if 65536 < l.length then none_ 3 0
  else if at_ < 0 ∨ (l.length : Int) < at_ then none_ 2 0
  else
    let a := at_.toNat + passL (l.drop at_.toNat)
    if a = l.length then ⟨9, ⟨#[]⟩, lineL l a, a, a, 0, 0⟩
    else
      let t := one (l.drop a) re
      if t.2.2 = 0 then none_ 100 (lineL l a) else ⟨t.1, t.2.1, lineL l a, a, a + t.2.2, 0, 0⟩
end Lex
theorem fin2 (w : World) (a b c d e f g : Value) : let W := (w.alloc (.cells #[a, b, c, d, e] 24)).alloc (.cells #[f, g] 27)
    Blk W w.heap.size 24 #[a, b, c, d, e] ∧ Blk W (w.heap.size + 1) 27 #[f, g] ∧ Below w.heap.size w W := by
  have hR1 := Blk.new w 24 #[a, b, c, d, e]
  have hb1 := (Below.refl w.heap.size w).alloc (Nat.le_refl _) (.cells #[a, b, c, d, e] 24)
  have hsz : (w.alloc (.cells #[a, b, c, d, e] 24)).heap.size = w.heap.size + 1 := by simp
  have hF2 := Blk.new (w.alloc (.cells #[a, b, c, d, e] 24)) 27 #[f, g]
  rw [hsz] at hF2
  exact ⟨below_blk hR1 ((Below.refl w.heap.size.succ _).alloc (by rw [hsz]; exact Nat.le_refl _) _) (Nat.lt_succ_self _), hF2, hb1.trans ((Below.refl _ _).alloc (by rw [hsz]; omega) _)⟩
set_option maxHeartbeats 2000000 in
theorem x_next (one : Lex.One) (s : ByteArray) (at_ : Int) (re : Bool) (w : World) (hs : s.size ≤ 4294967296)
    (hone : s.size ≤ 65536 → 0 ≤ at_ → at_ ≤ s.size → at_.toNat + Lex.passL (s.data.toList.drop at_.toNat) < s.size → ∀ w : World,
      Calls Try.prog 12 #[.string (s.extract (at_.toNat + Lex.passL (s.data.toList.drop at_.toNat)) s.size), .bool re] w fun e w' =>
        e = .returned (.tuple #[.agg #[.int .u8 (one (s.data.toList.drop (at_.toNat + Lex.passL (s.data.toList.drop at_.toNat))) re).1, .string (one (s.data.toList.drop (at_.toNat + Lex.passL (s.data.toList.drop at_.toNat))) re).2.1, .int .i64 0, .int .i64 0, .int .i64 0], .int .i64 ((one (s.data.toList.drop (at_.toNat + Lex.passL (s.data.toList.drop at_.toNat))) re).2.2 : Nat)]) ∧ Below w.heap.size w w' ∧ (one (s.data.toList.drop (at_.toNat + Lex.passL (s.data.toList.drop at_.toNat))) re).2.2 ≤ s.size) :
    Calls Try.prog 6 #[.string s, .int .i64 at_, .bool re] w fun e w' => e = .returned (.tuple #[(Lex.nextL one s.data.toList at_ re).tok, (Lex.nextL one s.data.toList at_ re).fault]) ∧ Below w.heap.size w w' := by
  obtain ⟨l, hl⟩ : ∃ l, l = s.data.toList := ⟨_, rfl⟩
  have hl' : l.length = s.size := by subst hl; rfl
  rw [← hl] at hone ⊢
  have HL := Lib.hid hl
  have HLL := Lib.hid hl'
  have HONE := Lib.hid hone
  clear hl hl' hone
  have hsl : s.size < 9223372036854775808 := by omega
  by_cases hA : s.size ≤ 65536
  · by_cases hB : at_ < 0 ∨ (s.size : Int) < at_
    · have HN : Hid (Lex.nextL one l at_ re = Lex.none_ 2 0) := by unfold Hid Lex.nextL; rw [if_neg (by rw [HLL.out]; omega), if_pos (by rw [HLL.out]; exact hB)]
      rw [HN.out]
      by_cases hB1 : at_ < 0
      · go_enter Try.func6, Try.ntmps6
        go_wp2_with fail
        have hfin := fin2 w (.int .u8 0) (.string ⟨#[]⟩) (.int .i64 0) (.int .i64 0) (.int .i64 0) (.int .i64 2) (.int .i64 0)
        obtain ⟨hR, hF, hB'⟩ := hfin
        obtain ⟨⟨c0, c1, c2, c3, c4⟩, -⟩ := hR.five
        obtain ⟨⟨d0, d1⟩, -⟩ := hF.two
        refine bodyPost_ret (v := .tuple #[(Lex.none_ 2 0).tok, (Lex.none_ 2 0).fault]) (by simp [results, Try.results6, go_sem, c0, c1, c2, c3, c4, d0, d1, Lex.Out.tok, Lex.Out.fault, Lex.none_]) rfl ⟨rfl, hB'⟩
      · have hB2 : (s.size : Int) < at_ := by omega
        clear hB
        go_enter Try.func6, Try.ntmps6
        go_wp2_with fail
        have hfin := fin2 w (.int .u8 0) (.string ⟨#[]⟩) (.int .i64 0) (.int .i64 0) (.int .i64 0) (.int .i64 2) (.int .i64 0)
        obtain ⟨hR, hF, hB'⟩ := hfin
        obtain ⟨⟨c0, c1, c2, c3, c4⟩, -⟩ := hR.five
        obtain ⟨⟨d0, d1⟩, -⟩ := hF.two
        refine bodyPost_ret (v := .tuple #[(Lex.none_ 2 0).tok, (Lex.none_ 2 0).fault]) (by simp [results, Try.results6, go_sem, c0, c1, c2, c3, c4, d0, d1, Lex.Out.tok, Lex.Out.fault, Lex.none_]) rfl ⟨rfl, hB'⟩
    · obtain ⟨n, rfl⟩ : ∃ n : Nat, at_ = n := ⟨at_.toNat, by omega⟩
      have hn : n ≤ s.size := by omega
      have hn1 : (n : Int) ≤ (s.size : Int) := by omega
      have hp := ext_drop s n
      rw [← HL.out] at hp
      have HP := Lib.hid hp
      have hple : Lex.passL (l.drop n) ≤ (l.drop n).length := Lex.passM_le false (l.drop n)
      rw [List.length_drop, HLL.out] at hple
      simp only [Int.toNat_natCast] at HONE
      obtain ⟨o, ho⟩ : ∃ o, o = Lex.nextL one l n re := ⟨_, rfl⟩
      rw [← ho]
      have HN : Hid (o = if n + Lex.passL (l.drop n) = l.length then ⟨9, ⟨#[]⟩, Lex.lineL l ((n + Lex.passL (l.drop n) : Nat) : Int), ((n + Lex.passL (l.drop n) : Nat) : Int), ((n + Lex.passL (l.drop n) : Nat) : Int), 0, 0⟩
          else if (one (l.drop (n + Lex.passL (l.drop n))) re).2.2 = 0 then Lex.none_ 100 (Lex.lineL l ((n + Lex.passL (l.drop n) : Nat) : Int)) else ⟨(one (l.drop (n + Lex.passL (l.drop n))) re).1, (one (l.drop (n + Lex.passL (l.drop n))) re).2.1, Lex.lineL l ((n + Lex.passL (l.drop n) : Nat) : Int), ((n + Lex.passL (l.drop n) : Nat) : Int), ((n + Lex.passL (l.drop n) : Nat) : Int) + (one (l.drop (n + Lex.passL (l.drop n))) re).2.2, 0, 0⟩) := by
        rw [ho]; unfold Hid Lex.nextL; rw [if_neg (by rw [HLL.out]; omega), if_neg (by rw [HLL.out]; omega)]; simp only [Int.toNat_natCast]
      clear ho
      clear hB hp
      go_enter Try.func6, Try.ntmps6
      go_wp2_with fail
      refine (x_pass _ _ (by simp; omega)).mono ?_
      rintro e w2 ⟨rfl, rfl⟩
      rw [HP.out]
      generalize hm : Lex.passL (l.drop n) = m at *
      clear hm HP
      have hple' : m ≤ s.size - n := hple
      clear hple
      go_wp2_with fail
      rw [show (n : Int) + (m : Int) = ((n + m : Nat) : Int) by omega]
      have hnm : n + m ≤ s.size := by omega
      clear hn hn1 hple'
      generalize n + m = q at *
      refine (x_line s q _ hs).mono ?_
      rintro e w2 ⟨rfl, rfl⟩
      rw [← HL.out]
      generalize Lex.lineL l (q : Int) = ln at *
      by_cases hq : q = s.size
      · have Ho := HN.out
        rw [if_pos (by rw [HLL.out]; exact hq)] at Ho
        subst hq
        have HO := Lib.hid Ho
        clear Ho
        go_wp2_with fail
        have hfin := fin2 w (.int .u8 9) (.string ⟨#[]⟩) (.int .i64 ln) (.int .i64 s.size) (.int .i64 s.size) (.int .i64 0) (.int .i64 0)
        obtain ⟨hR, hF, hB'⟩ := hfin
        obtain ⟨⟨c0, c1, c2, c3, c4⟩, -⟩ := hR.five
        obtain ⟨⟨d0, d1⟩, -⟩ := hF.two
        refine bodyPost_ret (v := .tuple #[(Lex.Out.mk 9 ⟨#[]⟩ ln (s.size : Nat) (s.size : Nat) 0 0).tok, (Lex.Out.mk 9 ⟨#[]⟩ ln (s.size : Nat) (s.size : Nat) 0 0).fault]) (by simp [results, Try.results6, go_sem, c0, c1, c2, c3, c4, d0, d1, Lex.Out.tok, Lex.Out.fault, Lex.none_]) rfl ⟨by rw [HO.out], hB'⟩
      · have Ho := HN.out
        rw [if_neg (by rw [HLL.out]; exact hq)] at Ho
        have HO := Lib.hid Ho
        clear Ho HN
        have hq1 : (q : Int) < (s.size : Int) := by omega
        have hq2 : ¬ ((q : Int) = (s.size : Int)) := by omega
        go_wp2_with fail
        refine (HONE.out hA (by omega) (by omega) (by omega) _).mono ?_
        rintro e w3 ⟨rfl, hb3, htn⟩
        obtain ⟨hR, hF, hB⟩ := fin2 w (.int .u8 0) (.string ⟨#[]⟩) (.int .i64 0) (.int .i64 0) (.int .i64 0) (.int .i64 0) (.int .i64 0)
        have hR3 := below_blk hR hb3 hR.lt
        have hF3 := below_blk hF hb3 hF.lt
        have hB3 := hB.trans (hb3.mono (by simp; omega))
        have HLT := Lib.hid (And.intro hR3.lt hF3.lt)
        clear hR hF hB hb3 HONE
        generalize (one (l.drop q) re).1 = tk at *
        generalize (one (l.drop q) re).2.1 = ts at *
        generalize (one (l.drop q) re).2.2 = tn at *
        by_cases ht0 : tn = 0
        · have Ho := HO.out
          rw [if_pos ht0] at Ho
          have HO2 := Lib.hid Ho
          clear Ho HO
          subst ht0
          have hb4 := (Below.refl w3.heap.size w3).alloc (Nat.le_refl _) (.cells #[.int .u8 tk, .string ts, .int .i64 0, .int .i64 0, .int .i64 0] 24)
          have hT4 := Blk.new w3 24 #[.int .u8 tk, .string ts, .int .i64 0, .int .i64 0, .int .i64 0]
          have hR4 := below_blk hR3 hb4 hR3.lt
          have hF4 := below_blk hF3 hb4 hF3.lt
          have hB4 := hB3.trans (hb4.mono hB3.size)
          have hRT : ¬ w.heap.size = w3.heap.size := by have := hR3.lt; omega
          have hFT : ¬ w.heap.size + 1 = w3.heap.size := by have := hF3.lt; omega
          have hTR : ¬ w3.heap.size = w.heap.size := fun e => hRT e.symm
          have hTF : ¬ w3.heap.size = w.heap.size + 1 := fun e => hFT e.symm
          obtain ⟨⟨c0, c1, c2, c3, c4⟩, f0, f1, f2, f3, f4⟩ := hR4.five
          obtain ⟨⟨d0, d1⟩, g0, g1⟩ := hF4.two
          obtain ⟨⟨t0, t1, t2, t3, t4⟩, h0, h1, h2, h3, h4⟩ := hT4.five
          have HR4 := Lib.hid hR4
          have HF4 := Lib.hid hF4
          have HT4 := Lib.hid hT4
          have HB4 := Lib.hid hB4
          clear hR3 hF3 hB3 hb4 hT4 hR4 hF4 hB4
          go_wp2_with fail
          have hR9 := (HR4.out.set5 (.int .u8 0) (.string ⟨#[]⟩) (.int .i64 0) (.int .i64 0) (.int .i64 0))
          have hF8 := HF4.out.keep (Tur.set5 (g := w.heap.size) (i1 := 0) (i2 := 1) (i3 := 2) (i4 := 3) (i5 := 4) (.int .u8 0) (.string ⟨#[]⟩) (.int .i64 0) (.int .i64 0) (.int .i64 0)) (fun e => absurd e (Nat.succ_ne_self _))
          have hF9 := hF8.set2 (.int .i64 100) (.int .i64 ln)
          have hR10 := hR9.keep (Tur.set2 (g := w.heap.size + 1) (i1 := 0) (i2 := 1) (.int .i64 100) (.int .i64 ln)) (fun e => absurd e.symm (Nat.succ_ne_self _))
          have hB9 := HB4.out.trans (below_set5 (g := w.heap.size) (Nat.le_refl _) HB4.out.size (.int .u8 0) (.string ⟨#[]⟩) (.int .i64 0) (.int .i64 0) (.int .i64 0))
          have hB10 := hB9.trans (below_set2 (g := w.heap.size + 1) (Nat.le_succ _) hB9.size (.int .i64 100) (.int .i64 ln))
          obtain ⟨⟨s0, s1, s2, s3, s4⟩, -⟩ := hR10.five
          obtain ⟨⟨e0, e1⟩, -⟩ := hF9.two
          clear c0 c1 c2 c3 c4 d0 d1 f0 f1 f2 f3 f4 g0 g1 t0 t1 t2 t3 t4 h0 h1 h2 h3 h4 hR9 hF8 hF9 hR10 hB9
          refine bodyPost_ret (v := .tuple #[(Lex.none_ 100 ln).tok, (Lex.none_ 100 ln).fault]) (by simp [results, Try.results6, go_sem, s0, s1, s2, s3, s4, e0, e1, Lex.Out.tok, Lex.Out.fault, Lex.none_]) rfl ⟨by rw [HO2.out], hB10⟩
        · have Ho := HO.out
          rw [if_neg ht0] at Ho
          have HO2 := Lib.hid Ho
          clear Ho HO
          have hb4 := (Below.refl w3.heap.size w3).alloc (Nat.le_refl _) (.cells #[.int .u8 tk, .string ts, .int .i64 ln, .int .i64 q, .int .i64 ((q : Int) + (tn : Int))] 24)
          have hT4 := Blk.new w3 24 #[.int .u8 tk, .string ts, .int .i64 ln, .int .i64 q, .int .i64 ((q : Int) + (tn : Int))]
          have hR4 := below_blk hR3 hb4 hR3.lt
          have hF4 := below_blk hF3 hb4 hF3.lt
          have hB4 := hB3.trans (hb4.mono hB3.size)
          have hRT : ¬ w.heap.size = w3.heap.size := by have := hR3.lt; omega
          have hFT : ¬ w.heap.size + 1 = w3.heap.size := by have := hF3.lt; omega
          have hTR : ¬ w3.heap.size = w.heap.size := fun e => hRT e.symm
          have hTF : ¬ w3.heap.size = w.heap.size + 1 := fun e => hFT e.symm
          obtain ⟨⟨c0, c1, c2, c3, c4⟩, f0, f1, f2, f3, f4⟩ := hR4.five
          obtain ⟨⟨d0, d1⟩, g0, g1⟩ := hF4.two
          obtain ⟨⟨t0, t1, t2, t3, t4⟩, h0, h1, h2, h3, h4⟩ := hT4.five
          have HR4 := Lib.hid hR4
          have HF4 := Lib.hid hF4
          have HT4 := Lib.hid hT4
          have HB4 := Lib.hid hB4
          clear hR3 hF3 hB3 hb4 hT4 hR4 hF4 hB4
          go_wp2_with fail
          have hR9 := (HR4.out.set5 (.int .u8 tk) (.string ts) (.int .i64 ln) (.int .i64 q) (.int .i64 ((q : Int) + (tn : Int))))
          have hF8 := HF4.out.keep (Tur.set5 (g := w.heap.size) (i1 := 0) (i2 := 1) (i3 := 2) (i4 := 3) (i5 := 4) (.int .u8 tk) (.string ts) (.int .i64 ln) (.int .i64 q) (.int .i64 ((q : Int) + (tn : Int)))) (fun e => absurd e (Nat.succ_ne_self _))
          have hF9 := hF8.set2 (.int .i64 0) (.int .i64 0)
          have hR10 := hR9.keep (Tur.set2 (g := w.heap.size + 1) (i1 := 0) (i2 := 1) (.int .i64 0) (.int .i64 0)) (fun e => absurd e.symm (Nat.succ_ne_self _))
          have hB9 := HB4.out.trans (below_set5 (g := w.heap.size) (Nat.le_refl _) HB4.out.size (.int .u8 tk) (.string ts) (.int .i64 ln) (.int .i64 q) (.int .i64 ((q : Int) + (tn : Int))))
          have hB10 := hB9.trans (below_set2 (g := w.heap.size + 1) (Nat.le_succ _) hB9.size (.int .i64 0) (.int .i64 0))
          obtain ⟨⟨s0, s1, s2, s3, s4⟩, -⟩ := hR10.five
          obtain ⟨⟨e0, e1⟩, -⟩ := hF9.two
          clear c0 c1 c2 c3 c4 d0 d1 f0 f1 f2 f3 f4 g0 g1 t0 t1 t2 t3 t4 h0 h1 h2 h3 h4 hR9 hF8 hF9 hR10 hB9
          refine bodyPost_ret (v := .tuple #[(Lex.Out.mk tk ts ln q ((q : Int) + (tn : Int)) 0 0).tok, (Lex.Out.mk tk ts ln q ((q : Int) + (tn : Int)) 0 0).fault]) (by simp [results, Try.results6, go_sem, s0, s1, s2, s3, s4, e0, e1, Lex.Out.tok, Lex.Out.fault, Lex.none_]) rfl ⟨by rw [HO2.out], hB10⟩
  · have HN : Hid (Lex.nextL one l at_ re = Lex.none_ 3 0) := by unfold Hid Lex.nextL; rw [if_pos (by rw [HLL.out]; omega)]
    rw [HN.out]
    go_enter Try.func6, Try.ntmps6
    go_wp2_with fail
    have hfin := fin2 w (.int .u8 0) (.string ⟨#[]⟩) (.int .i64 0) (.int .i64 0) (.int .i64 0) (.int .i64 3) (.int .i64 0)
    obtain ⟨hR, hF, hB'⟩ := hfin
    obtain ⟨⟨c0, c1, c2, c3, c4⟩, -⟩ := hR.five
    obtain ⟨⟨d0, d1⟩, -⟩ := hF.two
    refine bodyPost_ret (v := .tuple #[(Lex.none_ 3 0).tok, (Lex.none_ 3 0).fault]) (by simp [results, Try.results6, go_sem, c0, c1, c2, c3, c4, d0, d1, Lex.Out.tok, Lex.Out.fault, Lex.none_]) rfl ⟨rfl, hB'⟩
end Go.Proofs.Ytpgegmnapankpaa
