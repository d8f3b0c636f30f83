/- The walk of the reference's quoted. (Printed by gen_rquot.py.) -/
import Derived.Test.YtmapjahpjolmnaaGreatDoorG5
import Derived.Calls
import Derived.Below
import Derived.Laws.Sem
import Derived.Laws.World
set_option linter.unusedVariables false
set_option linter.unusedSimpArgs false
namespace Go.Proofs.YtmapjahpjolmnaaGreatDoor
open Go.RowKit

def bsA (l : List UInt8) : ByteArray := ⟨l.toArray⟩
theorem bsA_app (l : List UInt8) (x : ByteArray) : bsA l ++ x = bsA (l ++ x.data.toList) := by
  apply bytes_ext
  simp [bsA]
theorem bsA_size (l : List UInt8) : (bsA l).size = l.length := rfl
theorem rchar {s : ByteArray} {l : List UInt8} (h : l = s.data.toList) {n : Nat} (hn : n < s.size) (hn' : n < l.length) : l[n] = s[n] := by subst h; rfl
def rquotV : Option (List UInt8 × Nat) → ByteArray × Int
  | some p => (bsA p.1, p.2)
  | none => (⟨#[]⟩, -1)
set_option maxRecDepth 20000 in
set_option maxHeartbeats 4000000 in
theorem r_quoted (s : ByteArray) (a : Nat) (q : UInt8) (w : World) (hs : s.size ≤ 4294967) (h0 : a < s.size) (hq : s[a] = q) (hq2 : q.toNat = 34 ∨ q.toNat = 47) :
    Calls Tryz.prog 93 #[.string s, .int .i64 a] w fun e w' => e = .returned (.tuple #[.string (rquotV ((Lex.quoted (s.data.toList.drop a)).map fun p => (p.1, a + p.2))).1, .int .i64 (rquotV ((Lex.quoted (s.data.toList.drop a)).map fun p => (p.1, a + p.2))).2]) ∧ Below w.heap.size w w' := by
  have HLN : Hid (s.data.toList.length = s.size) := rfl
  obtain ⟨l, hL⟩ : ∃ l, l = s.data.toList := ⟨_, rfl⟩
  have HLL := Lib.hid hL
  rw [← hL] at HLN ⊢
  obtain ⟨R, hR⟩ : ∃ R, R = (Lex.quoted (l.drop a)).map fun p => (p.1, a + p.2) := ⟨_, rfl⟩
  have hg0 : Lex.Gone R q l (a + 1) [] := by
    unfold Lex.Gone
    have hal : a < l.length := by rw [HLN.out]; exact h0
    have h1 := List.drop_eq_getElem_cons hal
    rw [rchar hL h0, hq] at h1
    rw [hR, h1]
    simp [Lex.quoted, Option.map_map]
    congr 1
    funext p
    simp [Nat.add_assoc]
  rw [← hR]
  clear hL hR
  have HG0 := Lib.hid hg0
  have HQ2 := Lib.hid hq2
  have HE0 : Hid ((⟨#[]⟩ : ByteArray) = bsA []) := rfl
  clear hg0 hq2
  go_enter Tryz.func93, Tryz.ntmps93
  go_wp2_with fail
  go_loopw [1, 7] (fun i v wr => ∃ (n : Nat) (acc : List UInt8), 1 ≤ n ∧ n ≤ s.size ∧ i = .int .i64 n ∧ v = .string (bsA acc) ∧ acc.length ≤ n ∧ Below w.heap.size w wr ∧ Lex.Gone R q l n acc) (fun i _ _ => s.size - (intOf i).toNat)
  case atStart => exact ⟨a + 1, [], by omega, h0, by simp, rfl, by simp, Below.refl _ _, HG0.out⟩
  case round =>
    obtain ⟨n, acc, hn1, hns, rfl, rfl, hal, hbe, hgo⟩ := hrel
    have HGO := Lib.hid hgo
    have HBEL := Lib.hid hbe
    have hac : (bsA acc).size ≤ n := by rw [bsA_size]; exact hal
    clear hgo hbe
    obtain ⟨v, hv⟩ : ∃ v, v = bsA acc := ⟨_, rfl⟩
    rw [← hv] at hac ⊢
    have HVV := Lib.hid hv
    clear hv
    have hac2 : v.size ≤ 4294967 := by omega
    by_cases hlt : n < s.size
    · have hnl : n < l.length := by rw [HLN.out]; exact hlt
      obtain ⟨c, hc⟩ : ∃ c, s[n] = c := ⟨_, rfl⟩
      have hcl : l[n] = c := (rchar HLL.out hlt hnl).trans hc
      by_cases h10 : c.toNat = 10
      · have hr := HGO.out.line hnl (by rw [hcl]; exact h10)
        have hcb : ((c.toNat : Int) == 10) = true := by simp; omega
        have hcq10 : ((10 : Int) == (q.toNat : Int)) = false := by have := HQ2.out; simp; omega
        have hcq12 : ((10 : Int) != (q.toNat : Int)) = true := by have := HQ2.out; simp; omega
        have hcq11 : ((c.toNat : Int) == (q.toNat : Int)) = false := by have := HQ2.out; simp; omega
        have HR := Lib.hid hr
        clear hr hcl
        go_wp2_with fail
        all_goals refine bodyPost_ret (v := .tuple #[.string ⟨#[]⟩, .int .i64 (-1)]) (by simp [results, Tryz.results93, go_sem]) rfl ⟨by rw [HR.out]; rfl, HBEL.out⟩
      · have hcb : ((c.toNat : Int) == 10) = false := by simp; omega
        have hcbn : ((c.toNat : Int) != 10) = true := by simp; omega
        by_cases hcq : c.toNat = q.toNat
        · have hr := HGO.out.done hnl (by rw [hcl]; exact h10) (by rw [hcl]; exact hcq)
          have hcb2 : ((c.toNat : Int) == (q.toNat : Int)) = true := by simp; omega
          have HR := Lib.hid hr
          clear hr hcl
          go_wp2_with fail
          refine bodyPost_ret (v := .tuple #[.string v, .int .i64 ((n : Int) + 1)]) (by simp [results, Tryz.results93, go_sem]) rfl ⟨by rw [HR.out, HVV.out]; rfl, HBEL.out⟩
        · have hcb2 : ((c.toNat : Int) == (q.toNat : Int)) = false := by simp; omega
          have hcb2n : ((c.toNat : Int) != (q.toNat : Int)) = true := by simp; omega
          by_cases h92 : c.toNat = 92
          · have hcb3 : ((c.toNat : Int) == 92) = true := by simp; omega
            have hcb3n : ((c.toNat : Int) != 92) = false := by simp; omega
            have hq92n : ((92 : Int) != (q.toNat : Int)) = true := by have := HQ2.out; simp; omega
            have hq92 : ((92 : Int) == (q.toNat : Int)) = false := by have := HQ2.out; simp; omega
            by_cases hn2 : n + 1 < s.size
            · obtain ⟨d, hd⟩ : ∃ d, s[n + 1] = d := ⟨_, rfl⟩
              have hdl : Lex.byteN l (n + 1) = (d.toNat : Int) := by rw [Lex.byteN_in (by rw [HLN.out]; exact hn2), rchar HLL.out hn2, hd]
              have hn3 : ¬ (s.size : Int) ≤ (n : Int) + 1 := by omega
              by_cases hd10 : d.toNat = 10
              · have hr := HGO.out.bad hnl (by rw [hcl]; exact h10) (by rw [hcl]; exact hcq) (by rw [hcl]; exact h92) (.inr (by rw [hdl]; omega))
                have hdb : ((d.toNat : Int) == 10) = true := by simp; omega
                have HR := Lib.hid hr
                clear hr hcl hdl
                go_wp2_with fail
                all_goals refine bodyPost_ret (v := .tuple #[.string ⟨#[]⟩, .int .i64 (-1)]) (by simp [results, Tryz.results93, go_sem]) rfl ⟨by rw [HR.out]; rfl, HBEL.out⟩
              · have hgm := HGO.out.mark (by rw [HLN.out]; exact hn2) (by rw [hcl]; exact h10) (by rw [hcl]; exact hcq) (by rw [hcl]; exact h92) (by rw [hdl]; omega)
                have hdb : ((d.toNat : Int) == 10) = false := by simp; omega
                have hsl := Lex.say_le q (l := l.drop n) (by rw [List.length_drop, HLN.out]; omega)
                rw [List.length_drop, HLN.out] at hsl
                obtain ⟨hsl1, hsl2⟩ := hsl
                have hsl3 := Lex.say_ge q (l.drop n)
                have HGM := Lib.hid hgm
                have hb1d : Lex.byteN (l.drop n) 1 = (d.toNat : Int) := by rw [Lex.byteN_drop]; exact hdl
                have HSAY : Hid (Lex.say q (l.drop n) = if q.toNat = 34 then ((Lex.markL (l.drop n)).1.data.toList, (Lex.markL (l.drop n)).2) else if (d.toNat : Int) = 47 then ([47], 2) else ((l.drop n).take 2, 2)) := by unfold Hid Lex.say; rw [hb1d]
                clear hgm hcl hdl hb1d HGO
                by_cases hq34 : q.toNat = 34
                · have hqb : ((q.toNat : Int) == 47) = false := by simp; omega
                  have hse := HSAY.out
                  rw [if_pos hq34] at hse
                  have HSE := Lib.hid hse
                  clear hse HSAY hq34
                  go_wp2_with fail
                  refine (r_mark s n _ hs (by omega)).mono ?_
                  rintro e w3 ⟨rfl, hb3⟩
                  rw [← HLL.out]
                  generalize hmk : Lex.markL (l.drop n) = mk at *
                  clear hmk
                  have HBE5 := Lib.hid (HBEL.out.trans (hb3.mono HBEL.out.size))
                  rw [HSE.out] at hsl1 hsl2 hsl3
                  have hk1 : mk.2 ≤ s.size - n := hsl1
                  have hk2 : mk.1.size ≤ mk.2 := hsl2
                  have hk3 : 2 ≤ mk.2 := hsl3
                  have hkl : mk.1.data.toList.length = mk.1.size := rfl
                  have HKL := Lib.hid hkl
                  have HAPP := Lib.hid (bsA_app acc mk.1)
                  clear hb3 hsl1 hsl2 hsl3 hkl
                  go_wp2_with fail
                  go_roundw
                  case rel => exact ⟨n + mk.2, acc ++ mk.1.data.toList, by omega, by omega, by go_num, by rw [HVV.out, HAPP.out], by rw [List.length_append, HKL.out]; omega, HBE5.out, by have := HGM.out; rw [HSE.out] at this; exact this⟩
                  case measure => simp [intOf]; omega
                · have hqb : ((q.toNat : Int) == 47) = true := by have := HQ2.out; simp; omega
                  have hse := HSAY.out
                  rw [if_neg hq34] at hse
                  by_cases hd47 : d.toNat = 47
                  · rw [if_pos (by omega)] at hse
                    have hdb2 : ((d.toNat : Int) == 47) = true := by simp; omega
                    have HSE := Lib.hid hse
                    have HAPP := Lib.hid (bsA_app acc ⟨#[47]⟩)
                    clear hse HSAY hq34 hsl1 hsl2 hsl3
                    go_wp2_with fail
                    go_roundw
                    case rel => exact ⟨n + 2, acc ++ [47], by omega, by omega, by go_num, by rw [HVV.out, HAPP.out], by rw [List.length_append]; simp; omega, HBEL.out, by have := HGM.out; rw [HSE.out] at this; exact this⟩
                    case measure => simp [intOf]; omega
                  · rw [if_neg (by omega)] at hse
                    have hdb2 : ((d.toNat : Int) == 47) = false := by simp; omega
                    have hx : (s.extract n (n + 2)).data.toList = (l.drop n).take 2 := by
                      rw [HLL.out, ByteArray.data_extract, Array.toList_extract]
                      simp [List.extract]
                    have HAPP := Lib.hid (bsA_app acc (s.extract n (n + 2)))
                    have HX := Lib.hid hx
                    have HSE := Lib.hid hse
                    clear hse HSAY hq34 hsl1 hsl2 hsl3 hx
                    go_wp2_with fail
                    go_roundw
                    case rel => exact ⟨n + 2, acc ++ (s.extract n (n + 2)).data.toList, by omega, by omega, by go_num, by rw [HVV.out, HAPP.out], by rw [List.length_append, HX.out]; simp; omega, HBEL.out, by have := HGM.out; rw [HSE.out] at this; rw [HX.out]; exact this⟩
                    case measure => simp [intOf]; omega
            · have hr := HGO.out.bad hnl (by rw [hcl]; exact h10) (by rw [hcl]; exact hcq) (by rw [hcl]; exact h92) (.inl (by rw [HLN.out]; omega))
              have hn3 : (s.size : Int) ≤ (n : Int) + 1 := by omega
              have HR := Lib.hid hr
              clear hr hcl
              go_wp2_with fail
              all_goals refine bodyPost_ret (v := .tuple #[.string ⟨#[]⟩, .int .i64 (-1)]) (by simp [results, Tryz.results93, go_sem]) rfl ⟨by rw [HR.out]; rfl, HBEL.out⟩
          · have hcb3 : ((c.toNat : Int) == 92) = false := by simp; omega
            have hcb3n : ((c.toNat : Int) != 92) = true := by simp; omega
            have hgm := HGO.out.byte hnl (by rw [hcl]; exact h10) (by rw [hcl]; exact hcq) (by rw [hcl]; exact h92)
            have hx : (s.extract n (n + 1)).data.toList = [l[n]] := by
              rw [ByteArray.data_extract, Array.toList_extract]
              have h1 := List.drop_eq_getElem_cons hnl
              have h2 := HLL.out
              show (s.data.toList.extract n (n + 1)) = _
              rw [← h2, List.extract, h1]
              rw [Nat.add_sub_cancel_left]
              rfl
            have HAPP := Lib.hid (bsA_app acc (s.extract n (n + 1)))
            have HX := Lib.hid hx
            have HGM := Lib.hid hgm
            clear hgm hcl HGO hx
            go_wp2_with fail
            go_roundw
            case rel => exact ⟨n + 1, acc ++ (s.extract n (n + 1)).data.toList, by omega, by omega, by go_num, by rw [HVV.out, HAPP.out], by rw [List.length_append, HX.out]; simp; omega, HBEL.out, by rw [HX.out]; exact HGM.out⟩
            case measure => simp [intOf]; omega
    · have hr := HGO.out.over (by rw [HLN.out]; omega)
      have HR := Lib.hid hr
      clear hr
      go_wp2_with fail
      all_goals refine bodyPost_ret (v := .tuple #[.string ⟨#[]⟩, .int .i64 (-1)]) (by simp [results, Tryz.results93, go_sem]) rfl ⟨by rw [HR.out]; rfl, HBEL.out⟩

end Go.Proofs.YtmapjahpjolmnaaGreatDoor
namespace Go.Proofs.YtmapjahpjolmnaaGreatDoor
namespace Vm
set_option linter.unusedSimpArgs false
set_option linter.unusedVariables false
open Go.RowKit

/-- What may be done to a block: ro: it came in; ex: its row is just so long; tip: the youngest of its line; old: a younger one has been made of it; dead: nobody may look at it any more. -/
inductive Fl where
  | ro | ex | tip | old | dead
  deriving DecidableEq, Inhabited
structure Blk where
  cells : Array Value
  elem : TypeId
  fl : Fl
  kin : Bool
  root : Nat
  esz : Nat
  deriving Inhabited
inductive VObj where
  | cells (b : Blk)
  | map (es : Array MapEntry) (clock : Nat)
  | iter (s : ByteArray) (pos : Nat)
  | rmap (es : Array MapEntry) (clock : Nat)
  deriving Inhabited
abbrev VHeap := Array VObj

def VObj.live : VObj → Bool
  | .cells b => b.fl != .dead
  | _ => true
def VObj.own : VObj → Bool
  | .cells b => b.fl != .dead && b.fl != .ro
  | .rmap _ _ => false
  | _ => true

def cell? (σ : VHeap) (a : Addr) : Option Value :=
  match a.spot, σ[a.block]? with
  | none, some (.cells b) => if b.fl = .dead then none else b.cells[a.off]?
  | _, _ => none
/-- The elders of a line are looked at no more. -/
def killed (r : Nat) : VObj → VObj
  | .cells b => if b.root = r ∧ b.fl = .old then .cells { b with fl := .dead } else .cells b
  | o => o
def kill (σ : VHeap) (r : Nat) : VHeap := σ.map (killed r)
def Blk.put (b : Blk) (i : Nat) (v : Value) : Blk := { b with cells := b.cells.setIfInBounds i v, kin := false }
def setCell (σ : VHeap) (a : Addr) (v : Value) : Option VHeap :=
  match a.spot, σ[a.block]? with
  | none, some (.cells b) =>
    if a.off < b.cells.size then
      match b.fl with
      | .ex => some (σ.setIfInBounds a.block (.cells (b.put a.off v)))
      | .tip => some ((bif b.kin then kill σ b.root else σ).setIfInBounds a.block (.cells (b.put a.off v)))
      | _ => none
    else none
  | _, _ => none

/-- The machine's own code, run over virtual memory: what has no virtual answer ends it. -/
def vrun {α : Type} (P : Program) : Sem α → VHeap → Option (α × VHeap)
  | .pure a, σ => some (a, σ)
  | .load .plain a k, σ => match cell? σ a with
    | some v => vrun P (k v) σ
    | none => none
  | .store .plain a v k, σ => match v.oneCell', setCell σ a v with
    | true, some σ' => vrun P k σ'
    | _, _ => none
  | .new (.cells c e (0, 0)) k, σ => vrun P (k σ.size) (σ.push (.cells ⟨c, e, .ex, false, σ.size, 0⟩))
  | .new (.map es 0) k, σ => match es with
    | ⟨[]⟩ => vrun P (k σ.size) (σ.push (.map #[] 0))
    | _ => none
  | .new (.stringIter s p) k, σ => vrun P (k σ.size) (σ.push (.iter s p))
  | .getObj r k, σ => match σ[r]? with
    | some (.map es c) => vrun P (k (.map es c)) σ
    | some (.rmap es c) => vrun P (k (.map es c)) σ
    | some (.iter s p) => vrun P (k (.stringIter s p)) σ
    | _ => none
  | .setObj r o k, σ => match σ[r]?, o with
    | some (.map _ _), .map es c => vrun P k (σ.setIfInBounds r (.map es c))
    | some (.iter _ _), .stringIter s p => vrun P k (σ.setIfInBounds r (.iter s p))
    | _, _ => none
  | .program k, σ => vrun P (k P) σ
  | .mark _ k, σ => vrun P k σ
  | _, _ => none

def andThen {α β : Type} (r : Option (α × VHeap)) (f : α → VHeap → Option (β × VHeap)) : Option (β × VHeap) :=
  match r with
  | some (a, σ) => f a σ
  | none => none

theorem vrun_bind {α β : Type} (P : Program) (x : Sem α) (f : α → Sem β) (σ : VHeap) :
    vrun P (x.bind f) σ = andThen (vrun P x σ) fun a σ' => vrun P (f a) σ' := by
  induction x generalizing σ with
  | pure a => rfl
  | load m a k ih =>
    cases m <;> simp only [Sem.bind, vrun]
    · split <;> simp [ih, andThen]
    · rfl
  | store m a v k ih =>
    cases m <;> simp only [Sem.bind, vrun]
    · split <;> simp [ih, andThen]
    · rfl
  | new o k ih =>
    unfold Sem.bind
    cases o with
    | cells c e f =>
      obtain ⟨lo, hi⟩ := f
      cases lo <;> cases hi <;> first | exact ih _ _ | rfl
    | map es c =>
      cases c with
      | zero =>
        obtain ⟨l⟩ := es
        cases l with
        | nil => exact ih _ _
        | cons a l => rfl
      | succ n => rfl
    | stringIter s p => exact ih _ _
    | _ => rfl
  | shape r k ih => rfl
  | freeze a n k ih => rfl
  | frozen a k ih => rfl
  | getObj r k ih =>
    simp only [Sem.bind, vrun]
    split <;> simp [ih, andThen]
  | setObj r o k ih =>
    simp only [Sem.bind, vrun]
    split <;> simp [ih, andThen]
  | choose q k ih => rfl
  | sys c k ih => rfl
  | program k ih => simp [Sem.bind, vrun, ih]
  | mark m k ih => simp [Sem.bind, vrun, ih]
  | halt h => rfl

/-- What a virtual block is in the real memory: the row, the place of its first cell there, the cells of an element and of the whole row; what is known of capacities. -/
inductive Kind where
  | ex | gr | ro
  deriving DecidableEq
structure Info where
  b : Nat
  o : Nat
  esz : Nat
  tot : Nat
  kind : Kind
abbrev Rho := Nat → Option Info
def Rho.le (ρ ρ' : Rho) : Prop := ∀ id i, ρ id = some i → ρ' id = some i
theorem Rho.le_refl (ρ : Rho) : ρ.le ρ := fun _ _ h => h
theorem Rho.le_trans {a b c : Rho} (h : a.le b) (k : b.le c) : a.le c := fun _ _ x => k _ _ (h _ _ x)

def CapOk (i : Info) (off c c' : Nat) : Prop :=
  match i.kind with
  | .ex => c = c'
  | .gr => c ≤ c' ∧ i.o + off + c' * i.esz ≤ i.tot
  | .ro => c ≤ c'

inductive VRel (ρ : Rho) : Value → Value → Prop where
  | bool (b : Bool) : VRel ρ (.bool b) (.bool b)
  | int (k : IntKind) (n : Int) : VRel ρ (.int k n) (.int k n)
  | float (k : FloatKind) (n : Nat) : VRel ρ (.float k n) (.float k n)
  | complex (k : FloatKind) (a b : Nat) : VRel ρ (.complex k a b) (.complex k a b)
  | string (s : ByteArray) : VRel ρ (.string s) (.string s)
  | ptrNil : VRel ρ (.pointer none) (.pointer none)
  | ptr {id off : Nat} {i : Info} (h : ρ id = some i) : VRel ρ (.pointer (some ⟨id, off, none⟩)) (.pointer (some ⟨i.b, i.o + off, none⟩))
  | sliceNil (n c : Nat) : VRel ρ (.slice none n c) (.slice none n c)
  | slice {id off n c c' : Nat} {i : Info} (h : ρ id = some i) (hc : CapOk i off c c') : VRel ρ (.slice (some ⟨id, off, none⟩) n c) (.slice (some ⟨i.b, i.o + off, none⟩) n c')
  | sliceOff (id off : Nat) (a : Addr) (c' : Nat) : VRel ρ (.slice (some ⟨id, off, some 0⟩) 0 0) (.slice (some a) 0 c')
  | glob (g : Nat) : VRel ρ (.chan (some g)) (.pointer (some ⟨g, 0, none⟩))
  | mapNil : VRel ρ (.map none) (.map none)
  | map {id : Nat} {i : Info} (h : ρ id = some i) : VRel ρ (.map (some id)) (.map (some i.b))
  | func (fn : Fn) {xs ys us vs : Array Value} (h1 : xs.size = ys.size) (h2 : ∀ (k : Nat) (h : k < xs.size) (h' : k < ys.size), VRel ρ xs[k] ys[k])
      (g1 : us.size = vs.size) (g2 : ∀ (k : Nat) (h : k < us.size) (h' : k < vs.size), VRel ρ us[k] vs[k]) : VRel ρ (.func fn xs us) (.func fn ys vs)
  | nilFunc : VRel ρ .nilFunc .nilFunc
  | iface (t : TypeId) {v v' : Value} (h : VRel ρ v v') : VRel ρ (.iface t v) (.iface t v')
  | nilIface : VRel ρ .nilIface .nilIface
  | agg {xs ys : Array Value} (h1 : xs.size = ys.size) (h2 : ∀ (k : Nat) (h : k < xs.size) (h' : k < ys.size), VRel ρ xs[k] ys[k]) : VRel ρ (.agg xs) (.agg ys)
  | tuple {xs ys : Array Value} (h1 : xs.size = ys.size) (h2 : ∀ (k : Nat) (h : k < xs.size) (h' : k < ys.size), VRel ρ xs[k] ys[k]) : VRel ρ (.tuple xs) (.tuple ys)

theorem VRel.mono {ρ ρ' : Rho} (hle : ρ.le ρ') {v v' : Value} (h : VRel ρ v v') : VRel ρ' v v' := by
  induction h with
  | bool b => exact .bool b
  | int k n => exact .int k n
  | float k n => exact .float k n
  | complex k a b => exact .complex k a b
  | string s => exact .string s
  | ptrNil => exact .ptrNil
  | ptr h => exact .ptr (hle _ _ h)
  | sliceNil n c => exact .sliceNil n c
  | slice h hc => exact .slice (hle _ _ h) hc
  | sliceOff id off a c' => exact .sliceOff id off a c'
  | glob g => exact .glob g
  | mapNil => exact .mapNil
  | map h => exact .map (hle _ _ h)
  | func fn h1 _ g1 _ ih ih' => exact .func fn h1 ih g1 ih'
  | nilFunc => exact .nilFunc
  | iface t _ ih => exact .iface t ih
  | nilIface => exact .nilIface
  | agg h1 _ ih => exact .agg h1 ih
  | tuple h1 _ ih => exact .tuple h1 ih

/-- Arrays of values, place by place. -/
def ARel (ρ : Rho) (xs ys : Array Value) : Prop := xs.size = ys.size ∧ ∀ (k : Nat) (h : k < xs.size) (h' : k < ys.size), VRel ρ xs[k] ys[k]
theorem ARel.mono {ρ ρ' : Rho} (hle : ρ.le ρ') {xs ys : Array Value} (h : ARel ρ xs ys) : ARel ρ' xs ys := ⟨h.1, fun k a b => (h.2 k a b).mono hle⟩
theorem ARel.nil (ρ : Rho) : ARel ρ #[] #[] := ⟨rfl, fun k h => by simp at h⟩
theorem ARel.push {ρ : Rho} {xs ys : Array Value} {v v' : Value} (h : ARel ρ xs ys) (hv : VRel ρ v v') : ARel ρ (xs.push v) (ys.push v') := by
  refine ⟨by simp [h.1], fun k a b => ?_⟩
  simp only [Array.getElem_push]
  by_cases hk : k < xs.size
  · rw [dif_pos hk, dif_pos (h.1 ▸ hk)]; exact h.2 k hk _
  · rw [dif_neg hk, dif_neg (h.1 ▸ hk)]; exact hv
theorem ARel.append {ρ : Rho} {xs ys us vs : Array Value} (h : ARel ρ xs ys) (g : ARel ρ us vs) : ARel ρ (xs ++ us) (ys ++ vs) := by
  refine ⟨by simp [h.1, g.1], fun k a b => ?_⟩
  simp only [Array.getElem_append]
  by_cases hk : k < xs.size
  · rw [dif_pos hk, dif_pos (h.1 ▸ hk)]; exact h.2 k hk _
  · rw [dif_neg hk, dif_neg (h.1 ▸ hk)]
    simp only [Array.size_append] at a b
    have h1 := h.1
    have g1 := g.1
    have e : vs[k - ys.size]'(by omega) = vs[k - xs.size]'(by omega) := getElem_congr_idx (by rw [h1])
    rw [e]
    exact g.2 _ _ _
theorem ARel.set {ρ : Rho} {xs ys : Array Value} {v v' : Value} (h : ARel ρ xs ys) (i : Nat) (hv : VRel ρ v v') : ARel ρ (xs.setIfInBounds i v) (ys.setIfInBounds i v') := by
  refine ⟨by simp [h.1], fun k a b => ?_⟩
  have a' : k < xs.size := by simpa using a
  have b' : k < ys.size := by simpa using b
  rw [Array.getElem_setIfInBounds a', Array.getElem_setIfInBounds b']
  by_cases hk : i = k
  · rw [if_pos hk, if_pos hk]; exact hv
  · rw [if_neg hk, if_neg hk]; exact h.2 k _ _
theorem ARel.extract {ρ : Rho} {xs ys : Array Value} (h : ARel ρ xs ys) (i j : Nat) : ARel ρ (xs.extract i j) (ys.extract i j) := by
  refine ⟨by simp [h.1], fun k a b => ?_⟩
  simp only [Array.getElem_extract]
  exact h.2 _ _ _
theorem ARel.get? {ρ : Rho} {xs ys : Array Value} (h : ARel ρ xs ys) {i : Nat} {v : Value} (hv : xs[i]? = some v) : ∃ v', ys[i]? = some v' ∧ VRel ρ v v' := by
  obtain ⟨hi, rfl⟩ := Array.getElem?_eq_some_iff.1 hv
  exact ⟨ys[i]'(h.1 ▸ hi), Array.getElem?_eq_getElem _, h.2 i hi _⟩
theorem ARel.get_none {ρ : Rho} {xs ys : Array Value} (h : ARel ρ xs ys) {i : Nat} (hv : xs[i]? = none) : ys[i]? = none := by
  rw [Array.getElem?_eq_none_iff] at hv ⊢; rw [← h.1]; exact hv
theorem ARel.map {ρ : Rho} {α : Type} (l : Array α) (f g : α → Value) (h : ∀ x ∈ l, VRel ρ (f x) (g x)) : ARel ρ (l.map f) (l.map g) :=
  ⟨by simp, fun k a b => by simp only [Array.getElem_map]; exact h _ (Array.getElem_mem _)⟩

theorem VRel.cells {ρ : Rho} {v v' : Value} (h : VRel ρ v v') : ARel ρ v.cells v'.cells := by
  cases h with
  | agg h1 h2 => exact ⟨h1, h2⟩
  | _ => refine ⟨rfl, fun k a b => ?_⟩; (simp only [Value.cells, List.size_toArray, List.length_singleton] at a; obtain rfl : k = 0 := by omega); simp only [Value.cells, List.getElem_toArray, List.getElem_cons_zero]; constructor <;> assumption
theorem VRel.one {ρ : Rho} {v v' : Value} (h : VRel ρ v v') : v.oneCell' = v'.oneCell' := by cases h <;> rfl

def cleanC : Value → Bool
  | .bool _ | .int _ _ | .float _ _ | .complex _ _ _ | .string _ | .pointer none | .slice none _ _ | .map none | .nilFunc | .nilIface => true
  | _ => false
/-- The entries of a map, one by one: keys without addresses. -/
def ERel (ρ : Rho) (es fs : Array MapEntry) : Prop :=
  es.size = fs.size ∧ ∀ (k : Nat) (h : k < es.size) (h' : k < fs.size), es[k].key = fs[k].key ∧ cleanC es[k].key = true ∧ VRel ρ es[k].val fs[k].val ∧ es[k].born = fs[k].born
theorem ERel.mono {ρ ρ' : Rho} (hle : ρ.le ρ') {es fs : Array MapEntry} (h : ERel ρ es fs) : ERel ρ' es fs :=
  ⟨h.1, fun k a b => ⟨(h.2 k a b).1, (h.2 k a b).2.1, (h.2 k a b).2.2.1.mono hle, (h.2 k a b).2.2.2⟩⟩

/-- Real blocks that nothing may turn, and virtual ones that have no real block yet. -/
structure Base where
  U : Nat → Prop
  H : Nat → Prop
  Ro : Nat → Prop
structure Keeps (U : Nat → Prop) (w w' : World) : Prop where
  os : w'.os = w.os
  tape : w'.tape = w.tape
  output : w'.output = w.output
  size : w.heap.size ≤ w'.heap.size
  block : ∀ k, U k → w'.heap[k]? = w.heap[k]?
theorem Keeps.refl (U : Nat → Prop) (w : World) : Keeps U w w := ⟨rfl, rfl, rfl, Nat.le_refl _, fun _ _ => rfl⟩
theorem Keeps.trans {U : Nat → Prop} {a b c : World} (h : Keeps U a b) (k : Keeps U b c) : Keeps U a c :=
  ⟨k.os.trans h.os, k.tape.trans h.tape, k.output.trans h.output, Nat.le_trans h.size k.size, fun i hi => (k.block i hi).trans (h.block i hi)⟩
theorem Keeps.mono {U V : Nat → Prop} {a b : World} (h : Keeps U a b) (hUV : ∀ k, V k → U k) : Keeps V a b := ⟨h.os, h.tape, h.output, h.size, fun k hk => h.block k (hUV k hk)⟩
theorem Keeps.of_below {U : Nat → Prop} {n : Nat} {a b : World} (h : Below n a b) (hU : ∀ k, U k → k < n) : Keeps U a b := ⟨h.os, h.tape, h.output, h.size, fun k hk => h.block k (hU k hk)⟩
theorem Keeps.setCell {U : Nat → Prop} {a w : World} (h : Keeps U a w) {p : Addr} (hp : ¬ U p.block) (u : Value) : Keeps U a (w.setCell p u) :=
  h.trans ⟨rfl, rfl, rfl, by simp [World.setCell], fun k hk => Below.heap_setCell _ _ _ _ (fun e => hp (e ▸ hk))⟩
structure BlkRel (ρ : Rho) (w : World) (B0 : Base) (b : Blk) (i : Info) (cs : Array Value) (fz : Nat × Nat) : Prop where
  at_ : w.heap[i.b]? = some (.cells cs b.elem fz)
  len : i.o + b.cells.size ≤ cs.size
  cells : ∀ (k : Nat) (h : k < b.cells.size) (h' : i.o + k < cs.size), VRel ρ b.cells[k] cs[i.o + k]
  ro : b.fl = .ro → (B0.U i.b ∧ B0.Ro i.b) ∧ i.kind = .ro ∧ (b.kin = true → i.b = b.root ∧ i.o = 0)
  mine : b.fl ≠ .ro → ¬ B0.U i.b ∧ i.tot = cs.size ∧ (b.fl ≠ .old → ∀ k, k < cs.size → ¬ (fz.1 ≤ k ∧ k < fz.2))
  ex : b.fl = .ex → i.kind = .ex ∧ i.o = 0 ∧ b.cells.size = cs.size
  gr : b.fl = .tip ∨ b.fl = .old → i.kind = .gr ∧ i.esz = b.esz

def Kin (o1 o2 : VObj) (i1 i2 : Info) : Prop :=
  match o1, o2 with
  | .cells b1, .cells b2 => b1.root = b2.root ∧ b1.fl ≠ .ex ∧ b2.fl ≠ .ex ∧ (b1.fl = .tip → b2.fl = .old ∧ b1.kin = true ∧ i2.o + b2.cells.size ≤ i1.o + b1.cells.size)
  | _, _ => False

structure WRel (ρ : Rho) (σ : VHeap) (w0 w : World) (B0 : Base) : Prop where
  dom : ∀ id, σ.size ≤ id → ρ id = none
  blk : ∀ id b, σ[id]? = some (.cells b) → b.fl ≠ .dead → ∃ i cs fz, ρ id = some i ∧ BlkRel ρ w B0 b i cs fz
  map : ∀ id es c, σ[id]? = some (.map es c) → ∃ i fs, ρ id = some i ∧ i.o = 0 ∧ ¬ B0.U i.b ∧ w.heap[i.b]? = some (.map fs c) ∧ ERel ρ es fs
  rmap : ∀ id es c, σ[id]? = some (.rmap es c) → ∃ i fs, ρ id = some i ∧ i.o = 0 ∧ (B0.U i.b ∧ B0.Ro i.b) ∧ w.heap[i.b]? = some (.map fs c) ∧ ERel ρ es fs
  iter : ∀ id s p, σ[id]? = some (.iter s p) → ∃ i, ρ id = some i ∧ i.o = 0 ∧ ¬ B0.U i.b ∧ w.heap[i.b]? = some (.stringIter s p)
  sep : ∀ id1 id2 o1 o2 i1 i2, id1 ≠ id2 → σ[id1]? = some o1 → σ[id2]? = some o2 → o1.own = true → o2.own = true → ρ id1 = some i1 → ρ id2 = some i2 → i1.b = i2.b → Kin o1 o2 i1 i2
  base : ∀ k, B0.U k → k < w.heap.size
  below : Keeps B0.U w0 w
  hole : ∀ id, B0.H id → ρ id = none ∧ id < σ.size
end Vm
end Go.Proofs.YtmapjahpjolmnaaGreatDoor
namespace Go.Proofs.YtmapjahpjolmnaaGreatDoor
namespace Vm
set_option linter.unusedSimpArgs false
set_option linter.unusedVariables false
open Go.RowKit

theorem heap_set_self {w : World} {a : Addr} {v : Value} {c : Array Value} {e : TypeId} {f : Nat × Nat} (hs : a.spot = none) (h : w.heap[a.block]? = some (.cells c e f)) :
    (w.setCell a v).heap[a.block]? = some (.cells (c.setIfInBounds a.off v) e f) := by
  simp only [World.setCell, Array.getElem?_modify, h, hs]; simp

theorem heap_new (w : World) (o : Obj) : (w.alloc o).heap[w.heap.size]? = some o := by
  show (w.heap.push o)[w.heap.size]? = some o
  simp

section
variable {ρ : Rho} {σ : VHeap} {w0 w : World} {B0 : Base}

theorem cell?_some {id off : Nat} {v : Value} (h : cell? σ ⟨id, off, none⟩ = some v) : ∃ b, σ[id]? = some (.cells b) ∧ b.fl ≠ .dead ∧ b.cells[off]? = some v := by
  unfold cell? at h
  simp only at h
  split at h
  · rename_i b _ hb
    by_cases hd : b.fl = .dead
    · simp [hd] at h
    · rw [if_neg hd] at h
      exact ⟨b, hb, hd, h⟩
  · cases h
theorem WRel.load (h : WRel ρ σ w0 w B0) {id off : Nat} {i : Info} {v : Value} (hρ : ρ id = some i) (hc : cell? σ ⟨id, off, none⟩ = some v) :
    ∃ v', w.cell? ⟨i.b, i.o + off, none⟩ = some v' ∧ VRel ρ v v' := by
  obtain ⟨b, hb, hd, hv⟩ := cell?_some hc
  obtain ⟨i', cs, fz, hi, hr⟩ := h.blk id b hb hd
  obtain rfl : i = i' := by rw [hρ] at hi; exact Option.some.inj hi
  obtain ⟨hoff, rfl⟩ := Array.getElem?_eq_some_iff.1 hv
  have hlen := hr.len
  have hlt : i.o + off < cs.size := by omega
  refine ⟨cs[i.o + off], ?_, hr.cells off hoff hlt⟩
  simp only [World.cell?, hr.at_, Option.isSome_none]
  simp [hlt]

theorem WRel.put (h : WRel ρ σ w0 w B0) {σk : VHeap} {id off : Nat} {b : Blk} {i : Info} {v v' : Value} (hb : σ[id]? = some (.cells b)) (hfl : b.fl = .ex ∨ b.fl = .tip) (hρ : ρ id = some i)
    (hoff : off < b.cells.size) (hv : VRel ρ v v') (hk1 : σk.size = σ.size) (hk2 : ∀ id' o', id' ≠ id → σk[id']? = some o' → o'.live = true → σ[id']? = some o')
    (hne : ∀ id' o' i', id' ≠ id → σk[id']? = some o' → o'.own = true → ρ id' = some i' → i'.b ≠ i.b) :
    w.cell? ⟨i.b, i.o + off, none⟩ ≠ none ∧ w.frozen? ⟨i.b, i.o + off, none⟩ = false ∧
    WRel ρ (σk.setIfInBounds id (.cells (b.put off v))) w0 (w.setCell ⟨i.b, i.o + off, none⟩ v') B0 := by
  have hd : b.fl ≠ .dead := by rcases hfl with e | e <;> rw [e] <;> decide
  have hro : b.fl ≠ .ro := by rcases hfl with e | e <;> rw [e] <;> decide
  obtain ⟨i', cs, fz, hi, hr⟩ := h.blk id b hb hd
  obtain rfl : i = i' := by rw [hρ] at hi; exact Option.some.inj hi
  have hlen := hr.len
  have hlt : i.o + off < cs.size := by omega
  obtain ⟨hB, htot, hfz⟩ := hr.mine hro
  have hidlt : id < σ.size := (Array.getElem?_eq_some_iff.1 hb).1
  have hself := heap_set_self (w := w) (a := ⟨i.b, i.o + off, none⟩) (v := v') rfl hr.at_
  have hother : ∀ k, k ≠ i.b → (w.setCell ⟨i.b, i.o + off, none⟩ v').heap[k]? = w.heap[k]? := fun k hk => Below.heap_setCell w _ _ _ hk
  have hget : ∀ id', id' ≠ id → (σk.setIfInBounds id (.cells (b.put off v)))[id']? = σk[id']? := fun id' hne => Array.getElem?_setIfInBounds_ne (Ne.symm hne)
  have hget0 : (σk.setIfInBounds id (.cells (b.put off v)))[id]? = some (.cells (b.put off v)) := by
    rw [Array.getElem?_setIfInBounds]; simp [hk1, hidlt]
  refine ⟨?_, ?_, ?_⟩
  · simp [World.cell?, hr.at_, hlt]
  · have := hfz (by rcases hfl with e | e <;> rw [e] <;> decide) _ hlt
    simp only [World.frozen?, hr.at_]
    simp only [Bool.and_eq_false_iff, decide_eq_false_iff_not]
    omega
  constructor
  · intro id' hid
    exact h.dom id' (by simpa [hk1] using hid)
  · intro id' b' hb' hd'
    by_cases hid : id' = id
    · subst hid
      rw [hget0] at hb'
      obtain rfl : b.put off v = b' := VObj.cells.inj (Option.some.inj hb')
      refine ⟨i, cs.setIfInBounds (i.o + off) v', fz, hρ, hself, by simpa [Blk.put] using hlen, ?_, (fun e => absurd e hro), ?_, ?_, hr.gr⟩
      · intro k hk hk'
        have hk0 : k < b.cells.size := by simpa [Blk.put] using hk
        simp only [Blk.put]
        rw [Array.getElem_setIfInBounds hk0, Array.getElem_setIfInBounds (by simpa using hk')]
        by_cases e : off = k
        · rw [if_pos e, if_pos (by omega)]; exact hv
        · rw [if_neg e, if_neg (by omega)]; exact hr.cells k hk0 _
      · intro _
        exact ⟨hB, by simpa using htot, fun ho k hk => hfz ho k (by simpa using hk)⟩
      · intro e
        obtain ⟨x1, x2, x3⟩ := hr.ex e
        exact ⟨x1, x2, by simpa [Blk.put] using x3⟩
    · rw [hget id' hid] at hb'
      have hlive : (VObj.cells b').live = true := by simpa [VObj.live] using hd'
      obtain ⟨i', cs', fz', hi', hr'⟩ := h.blk id' b' (hk2 id' _ hid hb' hlive) hd'
      refine ⟨i', cs', fz', hi', ?_, hr'.len, hr'.cells, hr'.ro, hr'.mine, hr'.ex, hr'.gr⟩
      rw [hother]
      · exact hr'.at_
      · by_cases hro' : b'.fl = .ro
        · have := (hr'.ro hro').1.1; exact fun e => hB (e ▸ this)
        · exact hne id' _ i' hid hb' (by simp [VObj.own, hd', hro']) hi'
  · intro id' es c hm
    have hid : id' ≠ id := by rintro rfl; rw [hget0] at hm; cases hm
    rw [hget id' hid] at hm
    obtain ⟨i', fs, h1, h2, h3, h4, h5⟩ := h.map id' es c (hk2 id' _ hid hm rfl)
    refine ⟨i', fs, h1, h2, h3, ?_, h5⟩
    rw [hother]
    · exact h4
    · exact hne id' _ i' hid hm rfl h1
  · intro id' es c hm
    have hid : id' ≠ id := by rintro rfl; rw [hget0] at hm; cases hm
    rw [hget id' hid] at hm
    obtain ⟨i', fs, h1, h2, h3, h4, h5⟩ := h.rmap id' es c (hk2 id' _ hid hm rfl)
    exact ⟨i', fs, h1, h2, h3, by rw [hother _ (fun e => hB (e ▸ h3.1))]; exact h4, h5⟩
  · intro id' s p hm
    have hid : id' ≠ id := by rintro rfl; rw [hget0] at hm; cases hm
    rw [hget id' hid] at hm
    obtain ⟨i', h1, h2, h3, h4⟩ := h.iter id' s p (hk2 id' _ hid hm rfl)
    refine ⟨i', h1, h2, h3, ?_⟩
    rw [hother]
    · exact h4
    · exact hne id' _ i' hid hm rfl h1
  · intro id1 id2 o1 o2 i1 i2 h12 g1 g2 w1 w2 r1 r2 hb12
    by_cases e1 : id1 = id
    · subst e1
      rw [hget id2 (Ne.symm h12)] at g2
      obtain rfl : i = i1 := by rw [hρ] at r1; exact Option.some.inj r1
      exact absurd hb12.symm (hne id2 o2 i2 (Ne.symm h12) g2 w2 r2)
    · rw [hget id1 e1] at g1
      by_cases e2 : id2 = id
      · subst e2
        obtain rfl : i = i2 := by rw [hρ] at r2; exact Option.some.inj r2
        exact absurd hb12 (hne id1 o1 i1 e1 g1 w1 r1)
      · rw [hget id2 e2] at g2
        have lv : ∀ o : VObj, o.own = true → o.live = true := by
          intro o ho; cases o <;> simp_all [VObj.own, VObj.live]
        exact h.sep id1 id2 o1 o2 i1 i2 h12 (hk2 id1 _ e1 g1 (lv _ w1)) (hk2 id2 _ e2 g2 (lv _ w2)) w1 w2 r1 r2 hb12
  · simpa using h.base
  · exact h.below.setCell hB v'
  · intro k hk; have := h.hole k hk; exact ⟨this.1, by simpa [hk1] using this.2⟩

theorem kill_get {σ : VHeap} {r id : Nat} : (kill σ r)[id]? = (σ[id]?).map (killed r) := by simp [kill]
theorem killed_live {r : Nat} {o : VObj} (h : (killed r o).live = true) : killed r o = o ∧ ∀ b, o = .cells b → ¬ (b.root = r ∧ b.fl = .old) := by
  cases o with
  | cells b =>
    by_cases hk : b.root = r ∧ b.fl = .old
    · simp [killed, hk, VObj.live] at h
    · exact ⟨by simp [killed, hk], fun b' e => by cases e; exact hk⟩
  | map es c => exact ⟨rfl, fun b e => by cases e⟩
  | iter s p => exact ⟨rfl, fun b e => by cases e⟩
  | rmap es c => exact ⟨rfl, fun b e => by cases e⟩
theorem own_live {o : VObj} (h : o.own = true) : o.live = true := by cases o <;> simp_all [VObj.own, VObj.live]

theorem WRel.store (h : WRel ρ σ w0 w B0) {σ' : VHeap} {id off : Nat} {i : Info} {v v' : Value} (hρ : ρ id = some i) (hs : setCell σ ⟨id, off, none⟩ v = some σ') (hv : VRel ρ v v') :
    w.cell? ⟨i.b, i.o + off, none⟩ ≠ none ∧ w.frozen? ⟨i.b, i.o + off, none⟩ = false ∧ WRel ρ σ' w0 (w.setCell ⟨i.b, i.o + off, none⟩ v') B0 := by
  unfold setCell at hs
  simp only at hs
  split at hs
  case h_2 => cases hs
  rename_i b _ hb
  split at hs
  case isFalse => cases hs
  rename_i hoff
  split at hs
  · rename_i hfl
    cases hs
    refine h.put hb (.inl hfl) hρ hoff hv rfl (fun _ _ _ e _ => e) ?_
    intro id' o' i' hid ho hown hi he
    have hk := h.sep id id' _ _ i i' (Ne.symm hid) hb ho (by simp [VObj.own, hfl]) hown hρ hi he.symm
    cases o' with
    | cells b' => exact hk.2.1 hfl
    | map es c => exact hk
    | iter s p => exact hk
    | rmap es c => exact hk
  · rename_i hfl
    cases hs
    refine h.put hb (.inr hfl) hρ hoff hv ?_ ?_ ?_
    · cases b.kin <;> simp [kill]
    · intro id' o' hid ho hl
      cases hk : b.kin with
      | false => simpa [hk] using ho
      | true =>
        simp only [hk, cond_true, kill_get] at ho
        cases hs' : σ[id']? with
        | none => simp [hs'] at ho
        | some o =>
          simp only [hs', Option.map_some, Option.some.injEq] at ho
          subst ho
          rw [(killed_live hl).1]
    · intro id' o' i' hid ho hown hi he
      cases hk : b.kin with
      | false =>
        simp only [hk, cond_false] at ho
        have hkk := h.sep id id' _ _ i i' (Ne.symm hid) hb ho (by simp [VObj.own, hfl]) hown hρ hi he.symm
        cases o' with
        | cells b' => have := (hkk.2.2.2 hfl).2.1; rw [hk] at this; cases this
        | map es c => exact hkk
        | iter s p => exact hkk
        | rmap es c => exact hkk
      | true =>
        simp only [hk, cond_true, kill_get] at ho
        cases hs' : σ[id']? with
        | none => simp [hs'] at ho
        | some o =>
          simp only [hs', Option.map_some, Option.some.injEq] at ho
          subst ho
          obtain ⟨e1, e2⟩ := killed_live (own_live hown)
          rw [e1] at hown
          have hkk := h.sep id id' _ _ i i' (Ne.symm hid) hb hs' (by simp [VObj.own, hfl]) hown hρ hi he.symm
          cases o with
          | cells b' => exact e2 b' rfl ⟨hkk.1.symm, (hkk.2.2.2 hfl).1⟩
          | map es c => exact hkk
          | iter s p => exact hkk
          | rmap es c => exact hkk
  · cases hs

/-- A new block, whatever it holds. -/
def Rho.more (ρ : Rho) (id : Nat) (i : Info) : Rho := fun k => if k = id then some i else ρ k
theorem Rho.le_more {ρ : Rho} {id : Nat} (h : ρ id = none) (i : Info) : ρ.le (ρ.more id i) := by
  intro k j hk
  by_cases e : k = id
  · subst e; rw [h] at hk; cases hk
  · simp [Rho.more, e, hk]
theorem Rho.more_self (ρ : Rho) (id : Nat) (i : Info) : ρ.more id i id = some i := by simp [Rho.more]

/-- What stays as it was when a block is laid at the end and the real memory grows (or turns where nobody looks). -/
theorem WRel.grow (h : WRel ρ σ w0 w B0) {w' : World} {o : VObj} {i : Info}
    (hn : ∀ id o' i', σ[id]? = some o' → o'.live = true → ρ id = some i' → (∀ b', o' = .cells b' → ∃ cs fz, BlkRel (ρ.more σ.size i) w' B0 b' i' cs fz) ∧ ((∀ b', o' ≠ .cells b') → w'.heap[i'.b]? = w.heap[i'.b]?))
    (hb : ∀ b, o = .cells b → b.fl ≠ .dead → ∃ cs fz, BlkRel (ρ.more σ.size i) w' B0 b i cs fz)
    (hm : ∀ es c, o = .map es c → ∃ fs, i.o = 0 ∧ ¬ B0.U i.b ∧ w'.heap[i.b]? = some (.map fs c) ∧ ERel (ρ.more σ.size i) es fs)
    (hi : ∀ s p, o = .iter s p → i.o = 0 ∧ ¬ B0.U i.b ∧ w'.heap[i.b]? = some (.stringIter s p)) (hr : ∀ es c, o ≠ .rmap es c)
    (hs : ∀ id o' i', σ[id]? = some o' → o'.own = true → o.own = true → ρ id = some i' → i'.b = i.b → Kin o' o i' i ∧ Kin o o' i i')
    (hbase : ∀ k, B0.U k → k < w'.heap.size) (hbel : Keeps B0.U w0 w') : WRel (ρ.more σ.size i) (σ.push o) w0 w' B0 := by
  have hle : ρ.le (ρ.more σ.size i) := Rho.le_more (h.dom _ (Nat.le_refl _)) i
  have hold : ∀ {id o'}, (σ.push o)[id]? = some o' → (id < σ.size ∧ σ[id]? = some o') ∨ (id = σ.size ∧ o' = o) := by
    intro id o' hg
    rw [Array.getElem?_push] at hg
    split at hg
    · exact .inr ⟨by assumption, (Option.some.inj hg).symm⟩
    · exact .inl ⟨(Array.getElem?_eq_some_iff.1 hg).1, hg⟩
  have hρo : ∀ {id}, id < σ.size → ρ.more σ.size i id = ρ id := by
    intro id hid; simp [Rho.more]; omega
  constructor
  · intro id hid
    simp only [Array.size_push] at hid
    unfold Rho.more
    rw [if_neg (by omega)]
    exact h.dom id (by omega)
  · intro id b hg hd
    rcases hold hg with ⟨hid, hg⟩ | ⟨rfl, e⟩
    · obtain ⟨i', _, _, hi', _⟩ := h.blk id b hg hd
      obtain ⟨cs, fz, hr⟩ := (hn id _ i' hg (by simpa [VObj.live] using hd) hi').1 b rfl
      exact ⟨i', cs, fz, hle _ _ hi', hr⟩
    · obtain ⟨cs, fz, hr⟩ := hb b e.symm hd
      exact ⟨i, cs, fz, Rho.more_self _ _ _, hr⟩
  · intro id es c hg
    rcases hold hg with ⟨hid, hg⟩ | ⟨rfl, e⟩
    · obtain ⟨i', fs, h1, h2, h3, h4, h5⟩ := h.map id es c hg
      exact ⟨i', fs, hle _ _ h1, h2, h3, ((hn id _ i' hg rfl h1).2 (by simp)).trans h4, h5.mono hle⟩
    · obtain ⟨fs, h2, h3, h4, h5⟩ := hm es c e.symm
      exact ⟨i, fs, Rho.more_self _ _ _, h2, h3, h4, h5⟩
  · intro id es c hg
    rcases hold hg with ⟨hid, hg⟩ | ⟨rfl, e⟩
    · obtain ⟨i', fs, h1, h2, h3, h4, h5⟩ := h.rmap id es c hg
      exact ⟨i', fs, hle _ _ h1, h2, h3, ((hn id _ i' hg rfl h1).2 (by simp)).trans h4, h5.mono hle⟩
    · exact absurd e.symm (hr es c)
  · intro id s p hg
    rcases hold hg with ⟨hid, hg⟩ | ⟨rfl, e⟩
    · obtain ⟨i', h1, h2, h3, h4⟩ := h.iter id s p hg
      exact ⟨i', hle _ _ h1, h2, h3, ((hn id _ i' hg rfl h1).2 (by simp)).trans h4⟩
    · obtain ⟨h2, h3, h4⟩ := hi s p e.symm
      exact ⟨i, Rho.more_self _ _ _, h2, h3, h4⟩
  · intro id1 id2 o1 o2 i1 i2 h12 g1 g2 w1 w2 r1 r2 hb12
    rcases hold g1 with ⟨d1, g1'⟩ | ⟨e1, e1'⟩ <;> rcases hold g2 with ⟨d2, g2'⟩ | ⟨e2, e2'⟩
    · rw [hρo d1] at r1; rw [hρo d2] at r2
      exact h.sep id1 id2 o1 o2 i1 i2 h12 g1' g2' w1 w2 r1 r2 hb12
    · subst e2; subst e2'; rw [hρo d1] at r1; rw [Rho.more_self] at r2; cases r2
      exact (hs id1 o1 i1 g1' w1 w2 r1 hb12).1
    · subst e1; subst e1'; rw [hρo d2] at r2; rw [Rho.more_self] at r1; cases r1
      exact (hs id2 o2 i2 g2' w2 w1 r2 hb12.symm).2
    · exact absurd (e1.trans e2.symm) h12
  · exact hbase
  · exact hbel
  · intro k hk
    have := h.hole k hk
    exact ⟨by rw [hρo this.2]; exact this.1, by simp; omega⟩

theorem BlkRel.keep {ρ ρ' : Rho} {w w' : World} {B0 : Base} {b : Blk} {i : Info} {cs : Array Value} {fz : Nat × Nat} (h : BlkRel ρ w B0 b i cs fz) (hle : ρ.le ρ') (hb : w'.heap[i.b]? = w.heap[i.b]?) : BlkRel ρ' w' B0 b i cs fz :=
  ⟨hb.trans h.at_, h.len, fun k a b => (h.cells k a b).mono hle, h.ro, h.mine, h.ex, h.gr⟩
theorem WRel.real_lt (h : WRel ρ σ w0 w B0) {id : Nat} {o : VObj} {i : Info} (ho : σ[id]? = some o) (hl : o.live = true) (hi : ρ id = some i) : i.b < w.heap.size := by
  cases o with
  | cells b =>
    obtain ⟨i', cs, fz, hi', hr⟩ := h.blk id b ho (by simpa [VObj.live] using hl)
    obtain rfl : i = i' := by rw [hi] at hi'; exact Option.some.inj hi'
    exact (Array.getElem?_eq_some_iff.1 hr.at_).1
  | map es c =>
    obtain ⟨i', fs, hi', _, _, h4, _⟩ := h.map id es c ho
    obtain rfl : i = i' := by rw [hi] at hi'; exact Option.some.inj hi'
    exact (Array.getElem?_eq_some_iff.1 h4).1
  | iter s p =>
    obtain ⟨i', hi', _, _, h4⟩ := h.iter id s p ho
    obtain rfl : i = i' := by rw [hi] at hi'; exact Option.some.inj hi'
    exact (Array.getElem?_eq_some_iff.1 h4).1
  | rmap es c =>
    obtain ⟨i', fs, hi', _, _, h4, _⟩ := h.rmap id es c ho
    obtain rfl : i = i' := by rw [hi] at hi'; exact Option.some.inj hi'
    exact (Array.getElem?_eq_some_iff.1 h4).1
/-- The real memory has got new blocks alone. -/
theorem WRel.grow_new (h : WRel ρ σ w0 w B0) {w' : World} {o : VObj} {i : Info} (hw : Below w.heap.size w w') (hib : w.heap.size ≤ i.b)
    (hb : ∀ b, o = .cells b → b.fl ≠ .dead → ∃ cs fz, BlkRel (ρ.more σ.size i) w' B0 b i cs fz)
    (hm : ∀ es c, o = .map es c → ∃ fs, i.o = 0 ∧ w'.heap[i.b]? = some (.map fs c) ∧ ERel (ρ.more σ.size i) es fs)
    (hi : ∀ s p, o = .iter s p → i.o = 0 ∧ w'.heap[i.b]? = some (.stringIter s p)) (hr : ∀ es c, o ≠ .rmap es c) : WRel (ρ.more σ.size i) (σ.push o) w0 w' B0 := by
  have hle : ρ.le (ρ.more σ.size i) := Rho.le_more (h.dom _ (Nat.le_refl _)) i
  have hB := h.base
  refine h.grow ?_ hb ?_ ?_ hr ?_ (fun k hk => Nat.lt_of_lt_of_le (h.base k hk) hw.size) (h.below.trans (Keeps.of_below hw h.base))
  · intro id o' i' ho hl hi'
    have hlt := h.real_lt ho hl hi'
    refine ⟨fun b' e => ?_, fun _ => hw.block _ hlt⟩
    subst e
    obtain ⟨i2, cs, fz, hi2, hr⟩ := h.blk id b' ho (by simpa [VObj.live] using hl)
    obtain rfl : i' = i2 := by rw [hi'] at hi2; exact Option.some.inj hi2
    exact ⟨cs, fz, hr.keep hle (hw.block _ hlt)⟩
  · intro es c e
    obtain ⟨fs, h1, h2, h3⟩ := hm es c e
    exact ⟨fs, h1, fun u => by have := hB _ u; omega, h2, h3⟩
  · intro s p e
    obtain ⟨h1, h2⟩ := hi s p e
    exact ⟨h1, fun u => by have := hB _ u; omega, h2⟩
  · intro id o' i' ho hown _ hi' he
    have := h.real_lt ho (own_live hown) hi'
    omega
theorem WRel.newCells (h : WRel ρ σ w0 w B0) {cs cs' : Array Value} (e : TypeId) (hc : ARel ρ cs cs') :
    WRel (ρ.more σ.size ⟨w.heap.size, 0, 0, cs'.size, .ex⟩) (σ.push (.cells ⟨cs, e, .ex, false, σ.size, 0⟩)) w0 (w.alloc (.cells cs' e)) B0 := by
  have hle := Rho.le_more (h.dom _ (Nat.le_refl _)) ⟨w.heap.size, 0, 0, cs'.size, .ex⟩
  refine h.grow_new ((Below.refl _ _).alloc (Nat.le_refl _) _) (Nat.le_refl _) ?_ (fun _ _ x => by cases x) (fun _ _ x => by cases x) (fun _ _ x => by cases x)
  rintro b hb _
  cases hb
  refine ⟨cs', (0, 0), heap_new _ _, by simp [hc.1], ?_, by simp, ?_, fun _ => ⟨rfl, rfl, hc.1⟩, by simp⟩
  · intro k hk hk'
    simp only [Nat.zero_add]
    exact (hc.2 k hk _).mono hle
  · intro _
    exact ⟨fun u => absurd (h.base _ u) (Nat.lt_irrefl _), rfl, fun _ k hk => by simp⟩
theorem WRel.newMap (h : WRel ρ σ w0 w B0) : WRel (ρ.more σ.size ⟨w.heap.size, 0, 0, 0, .ex⟩) (σ.push (.map #[] 0)) w0 (w.alloc (.map #[] 0)) B0 := by
  refine h.grow_new ((Below.refl _ _).alloc (Nat.le_refl _) _) (Nat.le_refl _) (fun _ x => by cases x) ?_ (fun _ _ x => by cases x) (fun _ _ x => by cases x)
  rintro es c hm
  cases hm
  exact ⟨#[], rfl, heap_new _ _, rfl, fun k hk => by simp at hk⟩
theorem WRel.newIter (h : WRel ρ σ w0 w B0) (s : ByteArray) (p : Nat) : WRel (ρ.more σ.size ⟨w.heap.size, 0, 0, 0, .ex⟩) (σ.push (.iter s p)) w0 (w.alloc (.stringIter s p)) B0 := by
  refine h.grow_new ((Below.refl _ _).alloc (Nat.le_refl _) _) (Nat.le_refl _) (fun _ x => by cases x) (fun _ _ x => by cases x) ?_ (fun _ _ x => by cases x)
  rintro s' p' hm
  cases hm
  exact ⟨rfl, heap_new _ _⟩
end
end Vm
end Go.Proofs.YtmapjahpjolmnaaGreatDoor
namespace Go.Proofs.YtmapjahpjolmnaaGreatDoor
namespace Vm
set_option linter.unusedSimpArgs false
set_option linter.unusedVariables false
open Go.RowKit

section
variable (P : Program) (w0 : World) (B0 : Base)
/-- Wherever the virtual run comes to an end, the real one does, and their ends are related. -/
def SR {α β : Type} (ρ : Rho) (A : Rho → α → β → Prop) (s : Sem α) (t : Sem β) : Prop :=
  ∀ ρ1 σ w x σ', ρ.le ρ1 → WRel ρ1 σ w0 w B0 → vrun P s σ = some (x, σ') →
    ∃ ρ2 y w', ρ1.le ρ2 ∧ t.run P w = .ok y w' ∧ A ρ2 x y ∧ WRel ρ2 σ' w0 w' B0
end
section
variable {P : Program} {w0 : World} {B0 : Base} {α β γ δ : Type} {ρ : Rho}
theorem SR.pure {A : Rho → α → β → Prop} {x : α} {y : β} (h : ∀ ρ1, ρ.le ρ1 → A ρ1 x y) : SR P w0 B0 ρ A (Pure.pure x) (Pure.pure y) := by
  intro ρ1 σ w x' σ' hle hw hr
  cases hr
  exact ⟨ρ1, y, w, Rho.le_refl _, rfl, h _ hle, hw⟩
theorem SR.bind {A : Rho → α → β → Prop} {B : Rho → γ → δ → Prop} {s : Sem α} {t : Sem β} {k : α → Sem γ} {k' : β → Sem δ} (hs : SR P w0 B0 ρ A s t)
    (hk : ∀ ρ1 x y, ρ.le ρ1 → A ρ1 x y → SR P w0 B0 ρ1 B (k x) (k' y)) : SR P w0 B0 ρ B (s >>= k) (t >>= k') := by
  intro ρ1 σ w x σ' hle hw hr
  rw [show s >>= k = s.bind k from rfl, vrun_bind] at hr
  cases hv : vrun P s σ with
  | none => simp [hv, andThen] at hr
  | some r =>
    obtain ⟨a, σ1⟩ := r
    simp only [hv, andThen] at hr
    obtain ⟨ρ2, y, w', hle2, hrun, hA, hw2⟩ := hs ρ1 σ w a σ1 hle hw hv
    obtain ⟨ρ3, z, w3, hle3, hrun3, hB, hw3⟩ := hk ρ2 a y (Rho.le_trans hle hle2) hA ρ2 σ1 w' x σ' (Rho.le_refl _) hw2 hr
    exact ⟨ρ3, z, w3, Rho.le_trans hle2 hle3, by rw [Sem.run_bind, hrun, Result.andThen_ok, hrun3], hB, hw3⟩
theorem SR.halt {A : Rho → α → β → Prop} {h : Halt} {t : Sem β} : SR P w0 B0 ρ A (.halt h) t := by
  intro ρ1 σ w x σ' _ _ hr
  cases hr
theorem SR.stuck {A : Rho → α → β → Prop} {s : String} {t : Sem β} : SR P w0 B0 ρ A (stuck s) t := SR.halt
theorem SR.unsupported {A : Rho → α → β → Prop} {s : Unsupported} {t : Sem β} : SR P w0 B0 ρ A (unsupported s) t := SR.halt
theorem vrun_none {s : Sem α} {k : α → Sem β} {σ : VHeap} (h : ∀ a σ', vrun P (k a) σ' = none) : vrun P (s >>= k) σ = none := by
  rw [show s >>= k = s.bind k from rfl, vrun_bind]
  cases vrun P s σ with
  | none => rfl
  | some r => exact h _ _
theorem vrun_panics {e : RuntimeError} {σ : VHeap} : vrun P (runtimePanic e : Sem α) σ = none := by
  unfold runtimePanic
  refine vrun_none fun p σ => ?_
  cases e with
  | typeAssertion i c a m => exact vrun_none fun _ _ => vrun_none fun _ _ => rfl
  | panicNil => exact vrun_none fun _ _ => vrun_none fun _ _ => rfl
  | _ => rfl
theorem SR.none {A : Rho → α → β → Prop} {s : Sem α} {t : Sem β} (h : ∀ σ, vrun P s σ = none) : SR P w0 B0 ρ A s t := by
  intro ρ1 σ w x σ' _ _ hr
  rw [h] at hr; cases hr
theorem SR.panics {A : Rho → α → β → Prop} {e : RuntimeError} {t : Sem β} : SR P w0 B0 ρ A (runtimePanic e) t := SR.none fun _ => vrun_panics
theorem SR.bounds {A : Rho → α → β → Prop} {k : IntKind} {x y : Int} {c : BoundsCode} {t : Sem β} : SR P w0 B0 ρ A (boundsPanic k x y c) t :=
  SR.none fun _ => by unfold boundsPanic; dsimp only; split <;> exact vrun_none fun _ _ => vrun_panics
theorem SR.then_none {A : Rho → γ → β → Prop} {s : Sem α} {k : α → Sem γ} {t : Sem β} (h : ∀ a σ', vrun P (k a) σ' = Option.none) : SR P w0 B0 ρ A (s >>= k) t := SR.none fun _ => vrun_none h

/-- Equal things. -/
def EqR {α : Type} (_ : Rho) (x y : α) : Prop := x = y
theorem SR.det {s : Sem α} (hd : ∀ σ x σ', vrun P s σ = some (x, σ') → σ' = σ ∧ ∀ w, s.run P w = .ok x w) : SR P w0 B0 ρ EqR s s := by
  intro ρ1 σ w x σ' _ hw hr
  obtain ⟨rfl, h⟩ := hd σ x σ' hr
  exact ⟨ρ1, x, w, Rho.le_refl _, h w, rfl, hw⟩
theorem SR.underlying (t : TypeId) : SR P w0 B0 ρ EqR (underlying t) (underlying t) := by
  refine SR.det fun σ x σ' h => ?_
  unfold Go.underlying at h ⊢
  rw [show (program >>= _ : Sem TypeDesc) = Sem.bind program _ from rfl, vrun_bind] at h
  simp only [program, vrun, andThen] at h
  cases hd : P.underlying t with
  | none => rw [hd] at h; cases h
  | some d =>
    rw [hd] at h
    cases h
    refine ⟨rfl, fun w => ?_⟩
    simp [hd]
theorem SR.typeInfo (t : TypeId) : SR P w0 B0 ρ EqR (typeInfo t) (typeInfo t) := by
  refine SR.det fun σ x σ' h => ?_
  unfold Go.typeInfo at h ⊢
  rw [show (program >>= _ : Sem TypeInfo) = Sem.bind program _ from rfl, vrun_bind] at h
  simp only [program, vrun, andThen] at h
  cases hd : P.info? t with
  | none => rw [hd] at h; cases h
  | some d =>
    rw [hd] at h
    cases h
    refine ⟨rfl, fun w => ?_⟩
    simp [hd]
theorem SR.sizeOf (t : TypeId) : SR P w0 B0 ρ EqR (sizeOf t) (sizeOf t) := by
  unfold Go.sizeOf
  exact SR.bind (SR.typeInfo t) fun ρ1 x y _ h => by cases h; exact SR.pure fun _ _ => rfl
theorem SR.isAgg (t : TypeId) : SR P w0 B0 ρ EqR (isAgg t) (isAgg t) := by
  unfold Go.isAgg
  refine SR.bind (SR.underlying t) fun ρ1 x y _ h => ?_
  cases h
  split <;> exact SR.pure fun _ _ => rfl
theorem SR.asIntOf {v v' : Value} (h : VRel ρ v v') : SR P w0 B0 ρ EqR (asIntOf v) (asIntOf v') := by
  cases h <;> unfold Go.asIntOf <;> first | exact SR.pure fun _ _ => rfl | exact SR.stuck | exact SR.unsupported
theorem SR.asInt {v v' : Value} (h : VRel ρ v v') : SR P w0 B0 ρ EqR (asInt v) (asInt v') := by
  unfold Go.asInt
  exact SR.bind (SR.asIntOf h) fun ρ1 x y _ h => by cases h; exact SR.pure fun _ _ => rfl

/-- Addresses. -/
def PRel (ρ : Rho) (a a' : Addr) : Prop := ∃ i, ρ a.block = some i ∧ a.spot = Option.none ∧ a' = ⟨i.b, i.o + a.off, Option.none⟩
theorem PRel.mono {ρ ρ' : Rho} (hle : ρ.le ρ') {a a' : Addr} (h : PRel ρ a a') : PRel ρ' a a' := by
  obtain ⟨i, h1, h2, h3⟩ := h; exact ⟨i, hle _ _ h1, h2, h3⟩
theorem add_none (b o i : Nat) : (⟨b, o, none⟩ : Addr).add i = ⟨b, o + i, none⟩ := by unfold Addr.add; split <;> simp_all
theorem PRel.add {ρ : Rho} {a a' : Addr} (h : PRel ρ a a') (n : Nat) : PRel ρ (a.add n) (a'.add n) := by
  obtain ⟨i, h1, h2, rfl⟩ := h
  obtain ⟨b, o, sp⟩ := a
  simp only at h1 h2
  subst h2
  rw [add_none, add_none]
  exact ⟨i, h1, rfl, by simp [Nat.add_assoc]⟩
theorem PRel.vrel {ρ : Rho} {a a' : Addr} (h : PRel ρ a a') : VRel ρ (.pointer (some a)) (.pointer (some a')) := by
  obtain ⟨i, h1, h2, rfl⟩ := h
  obtain ⟨b, o, sp⟩ := a
  simp only at h1 h2
  subst h2
  exact .ptr h1
theorem SR.sureAddr {v v' : Value} (h : VRel ρ v v') : SR P w0 B0 ρ PRel (Instr.sureAddr v) (Instr.sureAddr v') := by
  cases h <;> unfold Instr.sureAddr <;> first | exact SR.stuck | skip
  case ptr id off i h => exact SR.pure fun ρ1 hle => ⟨i, hle _ _ h, rfl, rfl⟩
theorem SR.load {a a' : Addr} (h : PRel ρ a a') : SR P w0 B0 ρ VRel (load a) (load a') := by
  intro ρ1 σ w x σ' hle hw hr
  obtain ⟨i, h1, h2, rfl⟩ := h.mono hle
  obtain ⟨b, o, sp⟩ := a
  simp only at h1 h2
  subst h2
  simp only [Go.load, vrun] at hr
  cases hc : cell? σ ⟨b, o, Option.none⟩ with
  | none => simp [hc] at hr
  | some v =>
    simp only [hc, vrun, Option.some.injEq, Prod.mk.injEq] at hr
    obtain ⟨rfl, rfl⟩ := hr
    obtain ⟨v', hc', hv⟩ := hw.load h1 hc
    exact ⟨ρ1, v', w, Rho.le_refl _, by simp [hc'], hv, hw⟩
theorem SR.loadCellsFrom {a a' : Addr} (h : PRel ρ a a') (n : Nat) : ∀ (i : Nat) (acc acc' : Array Value) (ρ1 : Rho), ρ.le ρ1 → ARel ρ1 acc acc' → SR P w0 B0 ρ1 ARel (loadCellsFrom a i n acc) (loadCellsFrom a' i n acc') := by
  induction n with
  | zero => intro i acc acc' ρ1 _ ha; unfold Go.loadCellsFrom; exact SR.pure fun _ hle => ha.mono hle
  | succ n ih =>
    intro i acc acc' ρ1 hle ha
    unfold Go.loadCellsFrom
    exact SR.bind (SR.load ((h.add i).mono hle)) fun ρ2 x y hle2 hx => ih _ _ _ _ (Rho.le_trans hle hle2) ((ha.mono hle2).push hx)
theorem SR.loadCells {a a' : Addr} (h : PRel ρ a a') (n : Nat) : SR P w0 B0 ρ ARel (loadCells a n) (loadCells a' n) :=
  SR.loadCellsFrom h n 0 _ _ ρ (Rho.le_refl _) (ARel.nil _)
theorem SR.loadVar {a a' : Addr} (h : PRel ρ a a') (t : TypeId) : SR P w0 B0 ρ VRel (loadVar t a) (loadVar t a') := by
  unfold Go.loadVar
  refine SR.bind (SR.isAgg t) fun ρ1 x y hle hx => ?_
  cases hx
  split
  · refine SR.bind (SR.sizeOf t) fun ρ2 x y hle2 hx => ?_
    cases hx
    exact SR.bind (SR.loadCells ((h.mono hle).mono hle2) _) fun ρ3 x y hle3 hx => SR.pure fun _ hle4 => .agg (hx.mono hle4).1 (hx.mono hle4).2
  · exact SR.load (h.mono hle)
theorem SR.loadAt {v v' : Value} (h : VRel ρ v v') (t : TypeId) : SR P w0 B0 ρ VRel (Instr.loadAt t v) (Instr.loadAt t v') := by
  unfold Instr.loadAt
  exact SR.bind (SR.sureAddr h) fun ρ1 x y hle hx => SR.loadVar hx t

def TrueR {α β : Type} (_ : Rho) (_ : α) (_ : β) : Prop := True
theorem SR.store {a a' : Addr} {v v' : Value} (h : PRel ρ a a') (hv : VRel ρ v v') : SR P w0 B0 ρ TrueR (store a v) (store a' v') := by
  intro ρ1 σ w x σ' hle hw hr
  obtain ⟨i, h1, h2, rfl⟩ := h.mono hle
  obtain ⟨b, o, sp⟩ := a
  simp only at h1 h2
  subst h2
  simp only [Go.store, vrun] at hr
  split at hr
  case h_2 => cases hr
  rename_i σ1 h1v hs
  cases hr
  obtain ⟨g1, g2, g3⟩ := hw.store h1 hs (hv.mono hle)
  refine ⟨ρ1, (), _, Rho.le_refl _, ?_, trivial, g3⟩
  rw [run_store _ _ _ _ _ (hv.one ▸ h1v)]
  cases hc : w.cell? ⟨i.b, i.o + o, Option.none⟩ with
  | none => exact absurd hc g1
  | some u => simp [g2]
theorem SR.storeCells {a a' : Addr} (h : PRel ρ a a') : ∀ (vs vs' : List Value) (i : Nat) (ρ1 : Rho), ρ.le ρ1 → ARel ρ1 vs.toArray vs'.toArray → SR P w0 B0 ρ1 TrueR (storeCells a vs i) (storeCells a' vs' i) := by
  intro vs
  induction vs with
  | nil =>
    intro vs' i ρ1 _ ha
    obtain rfl : vs' = [] := by have := ha.1; simpa using this.symm
    unfold Go.storeCells
    exact SR.pure fun _ _ => trivial
  | cons v vs ih =>
    intro vs' i ρ1 hle ha
    cases vs' with
    | nil => have := ha.1; simp at this
    | cons v' vs' =>
      unfold Go.storeCells
      have h0 := ha.2 0 (by simp) (by simp)
      refine SR.bind (SR.store ((h.add i).mono hle) (by simpa using h0)) fun ρ2 _ _ hle2 _ => ih vs' (i + 1) ρ2 (Rho.le_trans hle hle2) ?_
      have e := ha.1
      refine ⟨by simpa using e, fun k hk hk' => ?_⟩
      have := ha.2 (k + 1) (by simpa using hk) (by simpa using hk')
      simpa using this.mono hle2
theorem ARel.toList {ρ : Rho} {xs ys : Array Value} (h : ARel ρ xs ys) : ARel ρ xs.toList.toArray ys.toList.toArray := by simpa using h
theorem SR.storeVar {a a' : Addr} {v v' : Value} (h : PRel ρ a a') (hv : VRel ρ v v') (t : TypeId) : SR P w0 B0 ρ TrueR (storeVar t a v) (storeVar t a' v') := by
  unfold Go.storeVar
  refine SR.bind (SR.sizeOf t) fun ρ1 x y hle hx => ?_
  cases hx
  rw [hv.cells.1]
  dsimp only
  split
  · exact SR.none fun _ => rfl
  · exact SR.storeCells (h.mono hle) _ _ 0 _ (Rho.le_refl _) (hv.mono hle).cells.toList
theorem SR.storeAt {u u' v v' : Value} (h : VRel ρ u u') (hv : VRel ρ v v') (t : TypeId) : SR P w0 B0 ρ TrueR (Instr.storeAt t u v) (Instr.storeAt t u' v') := by
  unfold Instr.storeAt
  exact SR.bind (SR.sureAddr h) fun ρ1 x y hle hx => SR.storeVar hx (hv.mono hle) t
theorem SR.newRow {cs cs' : Array Value} (h : ARel ρ cs cs') (t : TypeId) : SR P w0 B0 ρ PRel (newRow t cs) (newRow t cs') := by
  intro ρ1 σ w x σ' hle hw hr
  unfold Go.newRow at hr ⊢
  rw [show (newObj (.cells cs t) >>= _ : Sem Addr) = Sem.bind (newObj _) _ from rfl, vrun_bind] at hr
  simp only [newObj, vrun, andThen] at hr
  cases hr
  have hn := hw.newCells t (h.mono hle)
  refine ⟨_, ⟨w.heap.size, 0, Option.none⟩, _, Rho.le_more (hw.dom _ (Nat.le_refl _)) _, by simp, ⟨_, Rho.more_self _ _ _, rfl, by simp⟩, hn⟩
theorem SR.newVar {v v' : Value} (h : VRel ρ v v') (t : TypeId) : SR P w0 B0 ρ PRel (newVar t v) (newVar t v') := SR.newRow h.cells t
theorem SR.box {v v' : Value} (h : VRel ρ v v') (t : TypeId) : SR P w0 B0 ρ VRel (Instr.box t v) (Instr.box t v') := by
  unfold Instr.box
  exact SR.bind (SR.newVar h t) fun ρ1 x y hle hx => SR.pure fun _ hle => (hx.mono hle).vrel
end
end Vm
end Go.Proofs.YtmapjahpjolmnaaGreatDoor
