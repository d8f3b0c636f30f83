/- append, sound. -/
import Derived.Test.YtmapjahpjolmnaaGreatDoorG8
import Derived.Lib.ConvBytes
import Derived.Laws.IdiomStrings
import Derived.Lib.Builder
import Derived.LaidEqlPtr
import Derived.Lib.MakeNoZero
import Derived.Lib.UnsafeStr
set_option linter.unusedVariables false
set_option linter.unusedSimpArgs false
namespace Go.Proofs.YtmapjahpjolmnaaGreatDoor
namespace Vm
set_option linter.unusedSimpArgs false
set_option linter.unusedVariables false
open Go.RowKit

section
variable {P : Program} {w0 w : World} {B0 : Base} {ρ : Rho} {σ : VHeap}
theorem vfirst_slice {id off n c size : Nat} {b : Blk} {olds : Array Value} (hg : σ[id]? = some (.cells b)) (h : vfirst σ size n (.slice (some ⟨id, off, none⟩) n c) = some olds) (hlen : off + n * size ≤ b.cells.size) :
    olds = b.cells.extract off (off + n * size) := by
  simp only [vfirst, hg] at h
  split at h
  · rename_i h0
    cases h
    rw [h0]; simp; omega
  · split at h
    · cases h; rfl
    · cases h
theorem grow_inplace {e : TypeId} {i : Info} {id off n m c' size : Nat} {b : Blk} {olds news news' : Array Value} (hw : WRel ρ σ w0 w B0) (hg : σ[id]? = some (.cells b)) (hfl : b.fl = .tip) (hρ : ρ id = some i)
    (hend : off + n * size = b.cells.size) (hesz : b.esz = size) (hel : b.elem = e) (ho : olds = b.cells.extract off (off + n * size)) (rn : ARel ρ news news') (hns : news.size = m * size) (h1c : news.all Value.oneCell' = true)
    (hcap : i.o + off + c' * i.esz ≤ i.tot) (hfit : n + m ≤ c') :
    ∃ w', (storeCells ((⟨i.b, i.o + off, none⟩ : Addr).add (n * size)) news'.toList).run P w = .ok () w' ∧
      WRel (ρ.more σ.size ⟨i.b, i.o + off, size, i.tot, .gr⟩) ((σ.setIfInBounds id (.cells b.aged)).push (.cells ⟨olds ++ news, e, .tip, true, b.root, size⟩)) w0 w' B0 := by
  have hd : b.fl ≠ .dead := by rw [hfl]; decide
  obtain ⟨i0, cs, fz, hi0, hr⟩ := hw.blk id b hg hd
  obtain rfl : i = i0 := by rw [hρ] at hi0; exact Option.some.inj hi0
  obtain ⟨hB, htot, hfz⟩ := hr.mine (by rw [hfl]; decide)
  have hgr := hr.gr (.inl hfl)
  rw [hgr.2, hesz, htot] at hcap
  have hm : (n + m) * size ≤ c' * size := Nat.mul_le_mul_right _ hfit
  rw [Nat.add_mul] at hm
  have hlen := hr.len
  have hs' : news'.toList.length = m * size := by rw [Array.length_toList, ← rn.1, hns]
  obtain ⟨w', cs', r1, r2, r3, r4, r5, r6, r7, r8, r9, r10⟩ := run_storeCells (P := P) (o := i.o + off + n * size) news'.toList 0 cs w hr.at_ (by rw [hs']; omega) (hfz (by rw [hfl]; decide)) (fun v hv => by
    obtain ⟨k, hk, rfl⟩ := List.getElem_of_mem hv
    have hk' : k < news.size := by rw [hns, ← hs']; exact hk
    have := (rn.2 k hk' (by rw [← rn.1]; exact hk')).one
    have h1 := Array.all_eq_true.1 h1c k hk'
    rw [this] at h1
    simpa using h1)
  refine ⟨w', by rw [add_none]; exact r1, ?_⟩
  have hsz : (σ.setIfInBounds id (.cells b.aged)).size = σ.size := by simp
  have h1 := hw.age hg hfl
  have hle : ρ.le (ρ.more σ.size ⟨i.b, i.o + off, size, i.tot, .gr⟩) := Rho.le_more (hw.dom _ (Nat.le_refl _)) _
  have hget : ∀ id', id' ≠ id → (σ.setIfInBounds id (.cells b.aged))[id']? = σ[id']? := fun id' hne => Array.getElem?_setIfInBounds_ne (Ne.symm hne)
  have hget0 : (σ.setIfInBounds id (.cells b.aged))[id]? = some (.cells b.aged) := by rw [Array.getElem?_setIfInBounds]; simp [(Array.getElem?_eq_some_iff.1 hg).1]
  have hkin : ∀ id' o' i', id' ≠ id → σ[id']? = some o' → o'.own = true → ρ id' = some i' → i'.b = i.b → ∃ b', o' = .cells b' ∧ b.root = b'.root ∧ b'.fl = .old ∧ i'.o + b'.cells.size ≤ i.o + b.cells.size := by
    intro id' o' i' hne ho' hown hi' he
    have hk := hw.sep id id' _ _ i i' (Ne.symm hne) hg ho' (by simp [VObj.own, hfl]) hown hρ hi' he.symm
    cases o' with
    | cells b' => exact ⟨b', rfl, hk.1, (hk.2.2.2 hfl).1, (hk.2.2.2 hfl).2.2⟩
    | map es c => exact hk.elim
    | iter s p => exact hk.elim
    | rmap es c => exact hk.elim
  have hnew := h1.grow (w' := w') (o := .cells ⟨olds ++ news, e, .tip, true, b.root, size⟩) (i := ⟨i.b, i.o + off, size, i.tot, .gr⟩) ?hn ?hb (fun _ _ x => by cases x) (fun _ _ x => by cases x) (fun _ _ x => by cases x) ?hs (by rw [r10]; exact hw.base)
    (hw.below.trans ⟨r7, r8, r9, by rw [r10]; exact Nat.le_refl _, fun k hk => r6 k (fun e => hB (e ▸ hk))⟩)
  · rw [hsz] at hnew; exact hnew
  case hn =>
    intro id' o' i' ho' hl' hi'
    rw [hsz]
    refine ⟨fun b' eb => ?_, fun hnc => ?_⟩
    · subst eb
      have hd' : b'.fl ≠ .dead := by simpa [VObj.live] using hl'
      obtain ⟨i2, cs2, fz2, hi2, hr2⟩ := h1.blk id' b' ho' hd'
      obtain rfl : i' = i2 := by rw [hi'] at hi2; exact Option.some.inj hi2
      by_cases hbb : i'.b = i.b
      · have hat := hr2.at_
        rw [hbb, hr.at_] at hat
        have hat' := Option.some.inj hat
        injection hat' with e1 e2 e3
        subst e1
        subst e3
        have hend' : i'.o + b'.cells.size ≤ i.o + off + n * size := by
          by_cases hid : id' = id
          · subst hid
            rw [hget0] at ho'
            obtain rfl : b.aged = b' := VObj.cells.inj (Option.some.inj ho')
            obtain rfl : i = i' := by rw [hρ] at hi'; exact Option.some.inj hi'
            simp only [Blk.aged]
            omega
          · rw [hget id' hid] at ho'
            have hown : (VObj.cells b').own = true := by
              have : b'.fl ≠ .ro := fun hro => hB (hbb ▸ (hr2.ro hro).1.1)
              simp [VObj.own, hd', this]
            obtain ⟨b2, e2, _, _, h4⟩ := hkin id' _ i' hid ho' hown hi' hbb
            cases e2
            omega
        refine ⟨cs', fz, ?_, by rw [r3]; exact hr2.len, ?_, hr2.ro, fun hro => ?_, fun hex => ?_, hr2.gr⟩
        · rw [hbb, r2, e2]
        · intro k hk hk'
          have hlt : i'.o + k < cs.size := by rw [← r3]; exact hk'
          have hv := hr2.cells k hk hlt
          have := r5 (i'.o + k) (.inl (by omega))
          rw [Array.getElem?_eq_getElem hk', Array.getElem?_eq_getElem hlt] at this
          rw [Option.some.inj this]
          exact hv.mono hle
        · have := hr2.mine hro
          rw [r3]
          exact this
        · rw [r3]; exact hr2.ex hex
      · exact ⟨cs2, fz2, hr2.keep hle (r6 _ hbb)⟩
    · refine r6 _ (fun hbb => ?_)
      cases o' with
      | cells b' => exact hnc b' rfl
      | map es c =>
        obtain ⟨i2, fs, g1, _, _, g4, _⟩ := h1.map id' es c ho'
        obtain rfl : i' = i2 := by rw [hi'] at g1; exact Option.some.inj g1
        rw [hbb, hr.at_] at g4; cases g4
      | iter s p =>
        obtain ⟨i2, g1, _, _, g4⟩ := h1.iter id' s p ho'
        obtain rfl : i' = i2 := by rw [hi'] at g1; exact Option.some.inj g1
        rw [hbb, hr.at_] at g4; cases g4
      | rmap es c =>
        obtain ⟨i2, fs, g1, _, _, g4, _⟩ := h1.rmap id' es c ho'
        obtain rfl : i' = i2 := by rw [hi'] at g1; exact Option.some.inj g1
        rw [hbb, hr.at_] at g4; cases g4
  case hb =>
    intro bn hbn _
    rw [hsz]
    cases hbn
    have hos : olds.size = n * size := by rw [ho]; simp; omega
    refine ⟨cs', fz, by rw [r2, hel], by simp only [Array.size_append, hos, hns, r3]; omega, ?_, by simp, fun _ => ⟨hB, by rw [r3]; exact htot, fun _ => by rw [r3]; exact hfz (by rw [hfl]; decide)⟩, by simp, fun _ => ⟨rfl, rfl⟩⟩
    intro k hk hk'
    simp only [Array.size_append, hos, hns] at hk
    simp only at hk' ⊢
    by_cases hlt : k < n * size
    · have hlt2 : i.o + off + k < cs.size := by rw [← r3]; exact hk'
      have := r5 (i.o + off + k) (.inl (by omega))
      rw [Array.getElem?_eq_getElem hk', Array.getElem?_eq_getElem hlt2] at this
      rw [Option.some.inj this, Array.getElem_append_left (by rw [hos]; exact hlt)]
      have hv := hr.cells (off + k) (by omega) (by omega)
      subst ho
      simp only [Array.getElem_extract]
      simpa [Nat.add_assoc] using hv.mono hle
    · have h4 := r4 (k - n * size) (by rw [hs']; omega)
      rw [show i.o + off + n * size + 0 + (k - n * size) = i.o + off + k by omega, Array.getElem?_eq_getElem hk'] at h4
      rw [Option.some.inj h4, Array.getElem_append_right (by rw [hos]; omega)]
      have hv := rn.2 (k - n * size) (by omega) (by rw [← rn.1]; omega)
      have eq : (olds ++ news).size = olds.size + news.size := by simp
      have e2 : news[k - olds.size]'(by omega) = news[k - n * size]'(by omega) := getElem_congr_idx (by rw [hos])
      rw [e2]
      simpa using hv.mono hle
  case hs =>
    intro id' o' i' ho' hown _ hi' hbb
    have hbb' : i'.b = i.b := hbb
    have hnsz : (olds ++ news).size = n * size + m * size := by rw [Array.size_append, hns, ho]; simp; omega
    by_cases hid : id' = id
    · subst hid
      rw [hget0] at ho'
      obtain rfl := Option.some.inj ho'
      obtain rfl : i = i' := by rw [hρ] at hi'; exact Option.some.inj hi'
      refine ⟨⟨rfl, by simp [Blk.aged], by simp, by simp [Blk.aged]⟩, ⟨rfl, by simp, by simp [Blk.aged], fun _ => ⟨rfl, rfl, ?_⟩⟩⟩
      simp only [Blk.aged, hnsz]
      omega
    · rw [hget id' hid] at ho'
      obtain ⟨b', rfl, h2, h3, h4⟩ := hkin id' o' i' hid ho' hown hi' hbb'
      refine ⟨⟨h2.symm, by rw [h3]; decide, by simp, by rw [h3]; intro x; cases x⟩, ⟨h2, by simp, by rw [h3]; decide, fun _ => ⟨h3, rfl, ?_⟩⟩⟩
      simp only [hnsz]
      omega
theorem vappend_ok {ts : Array TypeId} {t : TypeId} {s s' x x' v : Value} {σ' : VHeap} (hw : WRel ρ σ w0 w B0) (hs : VRel ρ s s') (hx : VRel ρ x x') (h : vappend P σ ts s x = some (v, σ')) :
    ∃ ρ2 v' w', ρ.le ρ2 ∧ (Builtin.append_ ts t #[s', x']).run P w = .ok v' w' ∧ VRel ρ2 v v' ∧ WRel ρ2 σ' w0 w' B0 := by
  unfold vappend at h
  split at h
  case h_2 => cases h
  rename_i t0 t1 base n c m h0 h1 hl
  have hl' : vlen x' = some m := by rw [← vlen_rel hx]; exact hl
  split at h
  case h_2 => cases h
  rename_i e d1 hu0 hu1
  split at h
  case h_2 => cases h
  rename_i info hi
  split at h
  case isTrue => cases h
  rename_i hd
  have hd' : isIntT d1 = false := by simpa using hd
  split at h
  case h_2 => cases h
  rename_i z news hz hnews
  obtain ⟨news', rn, hrn⟩ := vfirst_ok (P := P) hw hx hnews
  split at h
  · rename_i r hvf
    cases h
    unfold vfit at hvf
    split at hvf
    case isFalse => cases hvf
    rename_i hfit
    have h := hvf
    clear hvf
    split at h
    · cases h
      cases hs
      refine ⟨ρ, _, w, Rho.le_refl _, ?_, .sliceNil _ _, hw⟩
      rw [run_append_fit h0 h1 hu0 hu1 hd' hi hl' hfit, hrn w rfl]
      rfl
    · rename_i a
      split at h
      case h_2 => cases h
      rename_i u σ1 hst
      cases h
      cases hs with
      | @slice id off n c c' i hi0 hc =>
        have hp : PRel ρ (⟨id, off, none⟩ : Addr) ⟨i.b, i.o + off, none⟩ := ⟨i, hi0, rfl, rfl⟩
        obtain ⟨ρ2, y, w', g1, g2, _, g4⟩ := SR.storeCells (P := P) (w0 := w0) (B0 := B0) (hp.add (n * info.size)) news.toList news'.toList 0 ρ (Rho.le_refl _) rn.toList ρ σ w u σ' (Rho.le_refl _) hw hst
        have hcc : c ≤ c' := by
          unfold CapOk at hc
          split at hc
          · omega
          · exact hc.1
          · exact hc
        refine ⟨ρ2, _, w', g1, ?_, .slice (g1 _ _ hi0) hc, g4⟩
        rw [run_append_fit h0 h1 hu0 hu1 hd' hi hl' (by omega), hrn w rfl]
        simp only [Result.andThen_ok]
        rw [Sem.run_bind, g2]
        rfl
      | sliceOff id off a c' =>
        have hm : m = 0 := by omega
        subst hm
        have hn0 : news = #[] := by
          cases x <;> first | (cases hl; done) | skip
          case slice a' n' c'' =>
            cases hl
            cases a' with
            | none => cases hnews; rfl
            | some a' => simp [vfirst] at hnews; exact hnews
          case string st =>
            simp only [vlen, Option.some.injEq] at hl
            simp only [vfirst, Option.some.injEq] at hnews
            subst hnews
            have : st.extract 0 0 = ByteArray.empty := by ext <;> simp
            rw [this, show ByteArray.empty.data = #[] from rfl]
            simp
        subst hn0
        have hn0' : news' = #[] := Array.eq_empty_of_size_eq_zero (by rw [← rn.1]; rfl)
        subst hn0'
        have hσ : σ' = σ := by
          simp only [storeCells] at hst
          cases hst; rfl
        subst hσ
        refine ⟨ρ, .slice (some a) 0 c', w, Rho.le_refl _, ?_, .sliceOff id off a c', hw⟩
        rw [run_append_fit h0 h1 hu0 hu1 hd' hi hl' (by omega), hrn w rfl]
        rfl
  · split at h
    case isFalse => cases h
    rename_i hcond
    obtain ⟨hcap, hb, hzs, h1c, hns⟩ := hcond
    split at h
    · split at h
      case isFalse => cases h
      rename_i hn0
      cases h
      obtain ⟨hn0, hfit⟩ := hn0
      subst hn0
      cases hs
      have := grow_anew (t := t) (base := none) (n := 0) (c := c) (x := x') (olds := #[]) (olds' := #[]) hw false σ.size h0 h1 hu0 hu1 hd' hi hz hl' hfit hb hcap hzs (fun w1 _ => rfl) hrn (ARel.nil _) rn (by simp [hns])
      simpa using this
    · rename_i a
      split at h
      case h_2 => cases h
      rename_i b olds hsp hg hold
      cases hs with
      | sliceOff id off a c' => cases hsp
      | @slice id off n c c' i hi0 hc =>
        obtain ⟨olds', ro, hro⟩ := vfirst_ok (P := P) hw (VRel.slice hi0 hc : VRel ρ (.slice (some ⟨id, off, none⟩) n c) _) hold
        have hd2 : b.fl ≠ .dead := by
          intro e2
          simp only [e2] at h
          cases h
        obtain ⟨i0, cs, fz, hi1, hr⟩ := hw.blk id b hg hd2
        obtain rfl : i = i0 := by rw [hi0] at hi1; exact Option.some.inj hi1
        have hosz : ∀ (hh : off + n * info.size ≤ b.cells.size), olds.size = n * info.size := by
          intro hh
          rw [vfirst_slice hg hold hh]; simp; omega
        split at h
        · rename_i hfl
          split at h
          case isFalse => cases h
          rename_i hfit
          cases h
          have hk := hr.ex hfl
          simp only [CapOk, hk.1] at hc
          subst hc
          have hos : olds.size = n * info.size := by
            simp only [vfirst, hg] at hold
            split at hold
            · rename_i h0'; cases hold; simp [h0']
            · split at hold
              case isFalse => cases hold
              rename_i hh
              cases hold
              simp; omega
          exact grow_anew (t := t) hw false σ.size h0 h1 hu0 hu1 hd' hi hz hl' hfit hb hcap hzs hro hrn ro rn (by rw [Array.size_append, hos, hns, Nat.add_mul])
        · rename_i hfl
          split at h
          case isFalse => cases h
          rename_i hcond2
          obtain ⟨hend, hesz, hel⟩ := hcond2
          simp only at hend
          cases h
          have hk := hr.gr (.inl hfl)
          simp only [CapOk, hk.1] at hc
          have hos := hosz (by omega)
          by_cases hreal : n + m ≤ c'
          · obtain ⟨w', g1, g2⟩ := grow_inplace (P := P) (c' := c') hw hg hfl hi0 hend hesz hel (vfirst_slice hg hold (by omega)) rn hns (by simpa using h1c) hc.2 hreal
            refine ⟨_, .slice (some ⟨i.b, i.o + off, none⟩) (n + m) c', w', Rho.le_more (hw.dom _ (Nat.le_refl _)) _, ?_, ?_, g2⟩
            · rw [run_append_fit h0 h1 hu0 hu1 hd' hi hl' hreal, hrn w rfl]
              simp only [Result.andThen_ok]
              rw [Sem.run_bind, g1]
              rfl
            · have := VRel.slice (ρ := ρ.more σ.size ⟨i.b, i.o + off, info.size, i.tot, .gr⟩) (id := σ.size) (off := 0) (n := n + m) (c := n + m) (c' := c') (Rho.more_self _ _ _)
                (by simp only [CapOk]; refine ⟨hreal, ?_⟩; have := hc.2; rw [hk.2, hesz] at this; omega)
              simpa using this
          · have h1' := hw.age hg hfl
            have := grow_anew (σ := σ.setIfInBounds id (.cells b.aged)) (t := t) h1' true b.root h0 h1 hu0 hu1 hd' hi hz hl' hreal hb hcap hzs hro hrn ro rn (by rw [Array.size_append, hos, hns, Nat.add_mul])
            simpa using this
        · cases h
end
end Vm
end Go.Proofs.YtmapjahpjolmnaaGreatDoor
namespace Go.Proofs.YtmapjahpjolmnaaGreatDoor
namespace Vm
set_option linter.unusedSimpArgs false
set_option linter.unusedVariables false
open Go.RowKit

section
variable {P : Program} {w0 w : World} {B0 : Base} {ρ : Rho} {σ : VHeap}
def u8s (s : ByteArray) : Array Value := s.data.map fun b => .int .u8 (b.toNat : Int)
def toByte : Value → Option UInt8
  | .int .u8 n => if 0 ≤ n ∧ n < 256 then some (UInt8.ofNat n.toNat) else none
  | _ => none
def toBytes : List Value → Option (List UInt8)
  | [] => some []
  | v :: l => match toByte v, toBytes l with
    | some b, some bs => some (b :: bs)
    | _, _ => none
theorem toByte_some {v : Value} {b : UInt8} (h : toByte v = some b) : v = .int .u8 (b.toNat : Int) := by
  cases v with
  | int k n =>
    cases k <;> first | (cases h; done) | skip
    simp only [toByte] at h
    split at h
    · rename_i hn
      cases h
      have : (UInt8.ofNat n.toNat).toNat = n.toNat := UInt8.toNat_ofNat_of_lt' (by simp [UInt8.size]; omega)
      rw [this, Int.toNat_of_nonneg hn.1]
    · cases h
  | _ => cases h
theorem toBytes_some : ∀ {l : List Value} {bs : List UInt8}, toBytes l = some bs → l.length = bs.length ∧ ∀ k (h : k < l.length) (h' : k < bs.length), l[k] = .int .u8 (bs[k].toNat : Int)
  | [], bs, h => by cases h; exact ⟨rfl, fun k h => by simp at h⟩
  | v :: l, bs, h => by
    unfold toBytes at h
    split at h
    case h_2 => cases h
    rename_i b bs' h1 h2
    cases h
    obtain ⟨e1, e2⟩ := toBytes_some h2
    refine ⟨by simp [e1], fun k hk hk' => ?_⟩
    cases k with
    | zero => exact toByte_some h1
    | succ k => simpa using e2 k (by simpa using hk) (by simpa using hk')
def vconvert (P : Program) (σ : VHeap) (src dst : TypeId) (x : Value) : Option (Value × VHeap) :=
  match P.underlying src, P.underlying dst, x with
  | some .string, some (.slice e), .string s =>
    match P.underlying e with
    | some (.int .u8) => some (.slice (some ⟨σ.size, 0, none⟩) s.size s.size, σ.push (.cells ⟨u8s s, e, .tip, false, σ.size, 1⟩))
    | _ => none
  | some (.slice e), some .string, .slice (some a) n c =>
    match P.underlying e with
    | some (.int .u8) =>
      match (vfirst σ 1 n (.slice (some a) n c)).map fun cs => toBytes cs.toList with
      | some (some bs) => some (.string ⟨bs.toArray⟩, σ)
      | _ => none
    | _ => none
  | some (.pointer t), some .unsafePointer, .pointer (some ⟨id, off, none⟩) =>
    match σ[id]?, P.info? t with
    | some (.cells b), some j => if b.fl ≠ .dead ∧ j.size ≠ 0 ∧ off < b.cells.size then some (.pointer (some ⟨id, off, none⟩), σ) else none
    | _, _ => none
  | some .unsafePointer, some (.pointer u), .pointer (some ⟨id, off, none⟩) =>
    match σ[id]?, P.info? u with
    | some (.cells b), some _ => if b.fl = .ex ∧ liesAt P P.depth b.elem (b.cells.size / P.cellsOf b.elem) off u 1 = true then some (.pointer (some ⟨id, off, none⟩), σ) else none
    | _, _ => none
  | _, _, _ => none
theorem vconvert_ok {src dst : TypeId} {x x' v : Value} {σ' : VHeap} (hw : WRel ρ σ w0 w B0) (hx : VRel ρ x x') (h : vconvert P σ src dst x = some (v, σ')) :
    ∃ ρ2 v' w', ρ.le ρ2 ∧ (convert src dst x').run P w = .ok v' w' ∧ VRel ρ2 v v' ∧ WRel ρ2 σ' w0 w' B0 := by
  unfold vconvert at h
  split at h
  · rename_i e s hs hd
    split at h
    case h_2 => cases h
    rename_i he
    cases h
    cases hx
    have hcut : s.size ≤ grownCap w s.size 0 e := by simp [grownCap, Question.cut]
    have hsz : (Lib.bytesCells w e s).size = grownCap w s.size 0 e := by
      have : s.data.size = s.size := rfl
      simp [Lib.bytesCells, this]; omega
    have hnew := hw.newTip (w' := Lib.bytesWorld w e s) (cs := u8s s) (cs' := u8s s) (rest := Array.replicate (grownCap w s.size 0 e - s.size) (.int .u8 0)) (e := e)
      (fz := ((Lib.bytesCells w e s).size, (Lib.bytesCells w e s).size + 1)) 1 false σ.size
      ⟨rfl, rfl, rfl, by simp [Lib.bytesWorld_size], fun k hk => Lib.bytesWorld_at_old w e s k hk⟩ (by simp [Lib.bytesWorld_size]) (Lib.bytesWorld_at_new w e s)
      (fun k hk => by
        have : (Lib.bytesCells w e s) = (u8s s) ++ Array.replicate (grownCap w s.size 0 e - s.size) (.int .u8 0) := rfl
        rw [← this] at hk; omega)
      ⟨rfl, fun k hk hk' => by simp only [u8s, Array.getElem_map]; exact .int _ _⟩
    refine ⟨_, _, _, Rho.le_more (hw.dom _ (Nat.le_refl _)) _, Lib.run_convert_string_bytes w src dst e s hs hd he, ?_, hnew⟩
    have htot : (u8s s ++ Array.replicate (grownCap w s.size 0 e - s.size) (Value.int .u8 0)).size = grownCap w s.size 0 e := hsz
    have := VRel.slice (ρ := ρ.more σ.size ⟨w.heap.size, 0, 1, (u8s s ++ Array.replicate (grownCap w s.size 0 e - s.size) (Value.int .u8 0)).size, .gr⟩) (id := σ.size) (off := 0) (n := s.size) (c := s.size)
      (c' := grownCap w s.size 0 e) (Rho.more_self _ _ _) (by simp only [CapOk]; rw [htot]; exact ⟨hcut, by omega⟩)
    simpa using this
  · rename_i e a n c hs hd
    split at h
    case h_2 => cases h
    rename_i he
    split at h
    case h_2 => cases h
    rename_i bs hbs
    cases h
    cases hf : vfirst σ 1 n (.slice (some a) n c) with
    | none => simp [hf] at hbs
    | some cs =>
      simp only [hf, Option.map_some, Option.some.injEq] at hbs
      obtain ⟨e1, e2⟩ := toBytes_some hbs
      have hn : ∀ (hh : cs.size = n), bs.length = n := fun hh => by rw [← e1, Array.length_toList, hh]
      cases hx with
      | @slice id off n c c' i hi hc =>
        simp only [vfirst, Nat.mul_one] at hf
        split at hf
        · rename_i h0
          cases hf
          subst h0
          obtain rfl : bs = [] := by cases bs with | nil => rfl | cons b bs => simp at e1
          refine ⟨ρ, _, w, Rho.le_refl _, ?_, .string _, hw⟩
          exact run_convert_bytes_back w src dst e ⟨i.b, i.o + off, none⟩ c' [] hs he hd (fun j hj => by simp at hj)
        · cases hg : σ[id]? with
          | none => simp [hg] at hf
          | some o =>
            cases o with
            | map es cl => simp [hg] at hf
            | iter s p => simp [hg] at hf
            | rmap es cl => simp [hg] at hf
            | cells b =>
              simp only [hg] at hf
              split at hf
              case isFalse => cases hf
              rename_i hd2
              cases hf
              obtain ⟨i', cr, fz, hi', hr⟩ := hw.blk id b hg hd2.1
              obtain rfl : i = i' := by rw [hi] at hi'; exact Option.some.inj hi'
              have hlen := hr.len
              have hbl : bs.length = n := hn (by simp; omega)
              refine ⟨ρ, _, w, Rho.le_refl _, ?_, .string _, hw⟩
              have := run_convert_bytes_back (P := P) w src dst e ⟨i.b, i.o + off, none⟩ c' bs hs he hd (fun j hj => by
                rw [add_none]
                have hlt : i.o + (off + j) < cr.size := by omega
                have hv := hr.cells (off + j) (by omega) hlt
                have h3 := e2 j (by simp; omega) hj
                simp only [Array.getElem_toList, Array.getElem_extract] at h3
                rw [h3] at hv
                have h4 : cr[i.o + (off + j)] = .int .u8 (bs[j].toNat : Int) := cleanC_eq rfl hv
                simp only [World.cell?, hr.at_]
                simp only [Option.isSome_none, Bool.false_eq_true, if_false]
                rw [Nat.add_assoc, Array.getElem?_eq_getElem hlt, h4])
              rw [hbl] at this
              exact this
      | sliceOff id off a c' =>
        have hcs : cs = #[] := by simp [vfirst] at hf; exact hf
        subst hcs
        obtain rfl : bs = [] := by cases bs with | nil => rfl | cons b bs => simp at e1
        refine ⟨ρ, _, w, Rho.le_refl _, ?_, .string _, hw⟩
        exact run_convert_bytes_back w src dst e a c' [] hs he hd (fun j hj => by simp at hj)
  · rename_i t id off hs hd
    split at h
    case h_2 => cases h
    rename_i b j hg hj
    split at h
    case isFalse => cases h
    rename_i hc
    cases h
    cases hx with
    | ptr hi =>
      obtain ⟨i', cr, fz, hi', hr⟩ := hw.blk id b hg hc.1
      rw [hi] at hi'
      cases hi'
      have hlen := hr.len
      exact ⟨ρ, _, w, Rho.le_refl _, Lib.run_to_unsafe (e := b.elem) (cells := cr.size) w _ hs hd hj hc.2.1 (by simp [World.shape?, hr.at_]) (by simp only; omega), .ptr hi, hw⟩
  · rename_i u id off hs hd
    split at h
    case h_2 => cases h
    rename_i b j hg hj
    split at h
    case isFalse => cases h
    rename_i hc
    cases h
    cases hx with
    | ptr hi =>
      obtain ⟨i', cr, fz, hi', hr⟩ := hw.blk id b hg (by rw [hc.1]; decide)
      rw [hi] at hi'
      cases hi'
      obtain ⟨-, ho, hz⟩ := hr.ex hc.1
      exact ⟨ρ, _, w, Rho.le_refl _, Lib.run_from_unsafe (e := b.elem) (cells := cr.size) w _ hs hd hj (by simp [World.shape?, hr.at_]) (by rw [← hz]; simp only [ho, Nat.zero_add]; exact hc.2), .ptr hi, hw⟩
  · cases h

/-- One side is nil, the other one is not. -/
def vNil (P : Program) (t : TypeId) (x y : Value) : Bool :=
  match P.underlying t, x, y with
  | some (.pointer _), .pointer (some _), .pointer none | some (.pointer _), .pointer none, .pointer (some _) => true
  | some (.slice _), .slice (some _) _ _, .slice none _ _ | some (.slice _), .slice none _ _, .slice (some _) _ _ => true
  | some (.map _ _), .map (some _), .map none | some (.map _ _), .map none, .map (some _) => true
  | some (.func _ _ _), .func _ _ _, .nilFunc | some (.func _ _ _), .nilFunc, .func _ _ _ => true
  | _, _, _ => false
theorem vNil_ok {t : TypeId} {x x' y y' : Value} (hx : VRel ρ x x') (hy : VRel ρ y y') (h : vNil P t x y = true) : pv P (Op.equal t x' y') = some false := by
  unfold Op.equal Op.maxDepth
  rw [show (10000 : Nat) = 9999 + 1 from rfl]
  unfold Op.equalIn
  unfold vNil at h
  cases hu : P.underlying t with
  | none => simp [hu] at h
  | some d =>
    rw [pv_bind, pv_underlying hu]
    simp only [Option.bind_some]
    simp only [hu] at h
    cases d <;> first | (simp at h; done) | skip
    all_goals (cases hx <;> first | (simp at h; done) | skip)
    all_goals (cases hy <;> first | (simp at h; done) | rfl)
theorem vNil_guard {op : BinOp} {t : TypeId} {a b : Operand} {x x' y y' : Value} (hx : VRel ρ x x') (hy : VRel ρ y y') (h : vNil P t x y = true) : pv P (eqGuard op t a b x' y') = some () := by
  unfold eqGuard
  unfold vNil at h
  cases hu : P.underlying t with
  | none => simp [hu] at h
  | some d =>
    simp only [hu] at h
    cases d <;> first | (simp at h; done) | skip
    all_goals (cases hx <;> first | (simp at h; done) | skip)
    all_goals (cases hy <;> first | (simp at h; done) | (cases op <;> rfl))
theorem vNil_bin {t : TypeId} {x x' y y' : Value} (hx : VRel ρ x x') (hy : VRel ρ y y') (h : vNil P t x y = true) : pv P (binOp .eql t x' y') = some (.bool false) ∧ pv P (binOp .neq t x' y') = some (.bool true) := by
  have he := vNil_ok hx hy h
  unfold vNil at h
  cases hu : P.underlying t with
  | none => simp [hu] at h
  | some d =>
    simp only [hu] at h
    cases d <;> first | (simp at h; done) | skip
    all_goals (cases hx <;> first | (simp at h; done) | skip)
    all_goals (cases hy <;> first | (simp at h; done) | skip)
    all_goals exact ⟨by unfold binOp; rw [pv_bind, he]; rfl, by unfold binOp; rw [pv_bind, he]; rfl⟩
/-- Both sides are one address. -/
def vSame (P : Program) (t : TypeId) (x y : Value) : Bool :=
  match P.underlying t, x, y with
  | some (.pointer te), .pointer (some ⟨i, o, none⟩), .pointer (some ⟨j, p, none⟩) => i == j && o == p && (P.info? te).isSome
  | _, _, _ => false
theorem vSame_ok {t : TypeId} {x x' y y' : Value} (hx : VRel ρ x x') (hy : VRel ρ y y') (h : vSame P t x y = true) (w : World) (op : BinOp) (a b : Operand) :
    pv P (eqGuard op t a b x' y') = some () ∧ (binOp .eql t x' y').run P w = .ok (.bool true) w ∧ (binOp .neq t x' y').run P w = .ok (.bool false) w := by
  unfold vSame at h
  split at h
  case h_2 => cases h
  rename_i te i o j p hu
  simp only [Bool.and_eq_true, beq_iff_eq, Option.isSome_iff_exists] at h
  obtain ⟨⟨rfl, rfl⟩, q, hq⟩ := h
  cases hx with
  | ptr h1 =>
    cases hy with
    | ptr h2 =>
      rw [h1] at h2
      cases h2
      refine ⟨?_, run_eql_ptr_same w _ hu hq, Lib.run_neq_ptr_same w _ hu hq⟩
      unfold eqGuard
      cases op <;> first | rfl | simp [pv, hu]
end
end Vm
end Go.Proofs.YtmapjahpjolmnaaGreatDoor
namespace Go.Proofs.YtmapjahpjolmnaaGreatDoor
namespace Vm
set_option linter.unusedSimpArgs false
set_option linter.unusedVariables false
open Go.RowKit

/-- The virtual block of a global: the first blocks, which came in, marked with the global's number. -/
def gfind (σ : VHeap) (g : Nat) : Nat → Nat → Option Nat
  | 0, _ => none
  | n + 1, k => match σ[k]? with
    | some (.cells b) => bif decide (b.fl = .ro) && b.kin then (bif b.root == g then some k else gfind σ g n (k + 1)) else none
    | _ => none
def gres (σ : VHeap) (v : Value) : Value := match v with
  | .chan (some g) => match gfind σ g 16 0 with
    | some id => .pointer (some ⟨id, 0, none⟩)
    | none => v
  | v => v
theorem gfind_some {σ : VHeap} {g : Nat} : ∀ {n k id : Nat}, gfind σ g n k = some id → ∃ b, σ[id]? = some (.cells b) ∧ b.fl = .ro ∧ b.kin = true ∧ b.root = g
  | 0, _, _, h => by cases h
  | n + 1, k, id, h => by
    unfold gfind at h
    split at h
    case h_2 => cases h
    rename_i b hb
    cases hc : decide (b.fl = .ro) && b.kin with
    | false => rw [hc] at h; cases h
    | true =>
      rw [hc] at h
      simp only [cond_true] at h
      simp only [Bool.and_eq_true, decide_eq_true_eq] at hc
      cases hg : b.root == g with
      | false => rw [hg] at h; exact gfind_some h
      | true =>
        rw [hg] at h
        cases h
        exact ⟨b, hb, hc.1, hc.2, by simpa using hg⟩
theorem gres_ok {ρ : Rho} {σ : VHeap} {w0 w : World} {B0 : Base} {v v' : Value} (hw : WRel ρ σ w0 w B0) (h : VRel ρ v v') : VRel ρ (gres σ v) v' := by
  unfold gres
  split
  · rename_i g
    split
    · rename_i id hid
      obtain ⟨b, hb, hf, hk, rfl⟩ := gfind_some hid
      obtain ⟨i, cs, fz, hi, hr⟩ := hw.blk id b hb (by rw [hf]; decide)
      obtain ⟨h1, h2⟩ := (hr.ro hf).2.2 hk
      cases h
      have := VRel.ptr (off := 0) hi
      rw [h1, h2] at this
      exact this
    · exact h
  · exact h
def vmnz (P : Program) (fn : Func) (args : Array Value) (σ : VHeap) : Option (Value × VHeap) :=
  match fn.resultTypes, args with
  | ⟨[t]⟩, ⟨[.int .i64 (.ofNat n)]⟩ =>
    match P.underlying t with
    | some (.slice e) => if n ≤ 281474976710656 then some (.slice (some ⟨σ.size, 0, none⟩) n n, σ.push (.cells ⟨#[], e, .tip, false, σ.size, 1⟩)) else none
    | _ => none
  | _, _ => none
theorem find_mnz {fn : Func} (h : fn.name = "internal/bytealg.MakeNoZero") : Extern.find fn = some (Extern.BytealgMakeNoZero.makeNoZero fn.params fn.resultTypes) := by
  unfold Extern.find
  have e1 : Extern.allGenericRows.lookup "internal/bytealg.MakeNoZero" = none := by kernel_rfl
  have e2 : Extern.allTypedRows.lookup "internal/bytealg.MakeNoZero" = some Extern.BytealgMakeNoZero.makeNoZero := by kernel_rfl
  simp only [h, e1, e2]
  rfl
section
variable {P : Program} {w0 w : World} {B0 : Base} {ρ : Rho} {σ : VHeap}
theorem vmnz_ok {fn : Func} {args args' : Array Value} {v : Value} {σ' : VHeap} (hw : WRel ρ σ w0 w B0) (ha : ARel ρ args args') (h : vmnz P fn args σ = some (v, σ')) :
    ∃ ρ2 v' w', ρ.le ρ2 ∧ (Extern.BytealgMakeNoZero.makeNoZero fn.params fn.resultTypes args').run P w = .ok v' w' ∧ VRel ρ2 v v' ∧ WRel ρ2 σ' w0 w' B0 := by
  unfold vmnz at h
  split at h
  case h_2 => cases h
  rename_i t n hr
  split at h
  case h_2 => cases h
  rename_i e hu
  split at h
  case isFalse => cases h
  rename_i hn
  cases h
  obtain ⟨l⟩ := args'
  match l, ha with
  | [], ha => exact absurd ha.1 (by simp)
  | _ :: _ :: _, ha => exact absurd ha.1 (by simp)
  | [x'], ha =>
  have hx : VRel ρ (.int .i64 (.ofNat n)) x' := ha.2 0 (by simp) (by simp)
  cases hx
  obtain ⟨cs, hrun, hle, -⟩ := Lib.run_makeNoZero w fn.params t e hu n hn
  have hnew := hw.newTip (w' := w.drew.drew.alloc (.cells cs e)) (cs := #[]) (cs' := #[]) (rest := cs) (e := e) (fz := (0, 0)) 1 false σ.size
    ((((Below.refl _ w).drew).drew).alloc (Nat.le_refl _) _) (by simp) (by rw [Array.empty_append]; exact heap_new w.drew.drew _) (fun k _ => by simp) (ARel.nil _)
  refine ⟨_, _, _, Rho.le_more (hw.dom _ (Nat.le_refl _)) _, by rw [hr]; exact hrun, ?_, hnew⟩
  have := VRel.slice (ρ := ρ.more σ.size ⟨w.heap.size, 0, 1, (#[] ++ cs).size, .gr⟩) (id := σ.size) (off := 0) (n := n) (c := n) (c' := cs.size) (Rho.more_self _ _ _)
    (by simp only [CapOk]; exact ⟨hle, by simp⟩)
  simpa using this
theorem freeze_at (w : World) (p : Addr) (n : Nat) {cs : Array Value} {e : TypeId} {fz : Nat × Nat} (h : w.heap[p.block]? = some (.cells cs e fz)) : ∃ fz', (w.freeze p n).heap[p.block]? = some (.cells cs e fz') := by
  unfold World.freeze
  split
  · exact ⟨fz, h⟩
  · obtain ⟨lo, hi⟩ := fz
    simp only [Array.getElem?_modify, if_true, h, Option.map_some]
    exact ⟨_, rfl⟩
theorem freeze_other (w : World) (p : Addr) (n k : Nat) (hk : k ≠ p.block) : (w.freeze p n).heap[k]? = w.heap[k]? := by
  unfold World.freeze
  split
  · rfl
  · simp only [Array.getElem?_modify]
    rw [if_neg (Ne.symm hk)]
theorem WRel.freezeOld (h : WRel ρ σ w0 w B0) {p : Addr} (n : Nat) (hB : ¬ B0.U p.block) {cs : Array Value} {e : TypeId} {fz : Nat × Nat} (hat : w.heap[p.block]? = some (.cells cs e fz))
    (hall : ∀ id b i, σ[id]? = some (.cells b) → b.fl ≠ .dead → ρ id = some i → i.b = p.block → b.fl = .old) : WRel ρ σ w0 (w.freeze p n) B0 := by
  constructor
  · exact h.dom
  · intro id b hg hd
    obtain ⟨i, cs', fz', hi, hr⟩ := h.blk id b hg hd
    by_cases he : i.b = p.block
    · have ho := hall id b i hg hd hi he
      obtain ⟨fz2, h2⟩ := freeze_at w p n (by rw [← he]; exact hr.at_)
      refine ⟨i, cs', fz2, hi, by rw [he]; exact h2, hr.len, hr.cells, hr.ro, fun hro => ?_, hr.ex, hr.gr⟩
      have := hr.mine hro
      exact ⟨this.1, this.2.1, fun x => absurd ho x⟩
    · exact ⟨i, cs', fz', hi, hr.keep (Rho.le_refl _) (freeze_other _ _ _ _ he)⟩
  · intro id es c hg
    obtain ⟨i, fs, h1, h2, h3, h4, h5⟩ := h.map id es c hg
    refine ⟨i, fs, h1, h2, h3, (freeze_other _ _ _ _ fun he => ?_).trans h4, h5⟩
    rw [he, hat] at h4; cases h4
  · intro id es c hg
    obtain ⟨i, fs, h1, h2, h3, h4, h5⟩ := h.rmap id es c hg
    refine ⟨i, fs, h1, h2, h3, (freeze_other _ _ _ _ fun he => ?_).trans h4, h5⟩
    rw [he, hat] at h4; cases h4
  · intro id s q hg
    obtain ⟨i, h1, h2, h3, h4⟩ := h.iter id s q hg
    refine ⟨i, h1, h2, h3, (freeze_other _ _ _ _ fun he => ?_).trans h4⟩
    rw [he, hat] at h4; cases h4
  · exact h.sep
  · intro k hk
    have : (w.freeze p n).heap.size = w.heap.size := by unfold World.freeze; split <;> simp
    rw [this]; exact h.base k hk
  · refine h.below.trans ⟨?_, ?_, ?_, ?_, fun k hk => freeze_other _ _ _ _ (fun e => hB (e ▸ hk))⟩ <;> (unfold World.freeze; split <;> simp)
  · exact h.hole
theorem liesAt_off {e : TypeId} (hc : P.cellsOf e = 1) (count off n : Nat) (hn : off + n ≤ count) : liesAt P P.depth e count off e n = true := by
  have hd : P.depth = (2 * (P.types.size + Made.depth) + 1) + 1 := rfl
  rw [hd]
  simp only [liesAt, Bool.or_eq_true]
  left
  rw [hd]
  simp [rowAt, hc, hn, sameLayout, Nat.mod_one]
theorem run_unsafeString_at (w : World) (pt it ty e : TypeId) (hp : P.underlying pt = some (.pointer e)) (hc : P.cellsOf e = 1) (g o cells : Nat) (hsh : w.shape? g = some (e, cells)) (l : List UInt8) (h0 : l ≠ []) (hn : o + l.length ≤ cells) (h63 : l.length ≤ 9223372036854775807)
    (hcell : ∀ j x, l[j]? = some x → w.cell? ((⟨g, o, none⟩ : Addr).add j) = some (.int .u8 x.toNat)) :
    (Builtin.unsafeString_ #[pt, it] ty #[.pointer (some ⟨g, o, none⟩), .int .i64 l.length]).run P w = .ok (.string ⟨l.toArray⟩) (w.freeze ⟨g, o, none⟩ l.length) := by
  have hl : l.length ≠ 0 := by simpa using h0
  have hlb := Lib.run_loadBytes (P := P) w l ⟨g, o, none⟩ .empty hcell
  have hlies := liesAt_off (P := P) hc (cells / P.cellsOf e) o l.length (by rw [hc]; simpa using hn)
  have h63' : ¬ (9223372036854775807 : Int) < (l.length : Int) := by omega
  have hdef : Builtin.unsafeString_ #[pt, it] ty #[.pointer (some ⟨g, o, none⟩), .int .i64 l.length] =
      (do
        let n ← asInt (.int .i64 l.length)
        if n < 0 then runtimePanic (.error "unsafe.String: len out of range")
        if n > IntKind.i64.max then unsupported (.unsafePointer "String: a length above the largest int")
        if n = 0 then pure (.string .empty)
        else if ← variablesAt ⟨g, o, none⟩ (← elemOf pt) n.toNat then do
          let s ← loadBytes ⟨g, o, none⟩ .empty n.toNat
          freeze ⟨g, o, none⟩ n.toNat
          pure (.string s)
        else unsupported (.unsafePointer "String: not so many bytes at ptr")) := rfl
  rw [hdef]
  have hmax : IntKind.i64.max = 9223372036854775807 := rfl
  have hneg : ¬ (l.length : Int) < 0 := by omega
  simp [asInt, asIntOf, hmax, h63', hneg, hl, variablesAt, hsh, elemOf, run_underlying hp, hlies, hlb]
def vsdata : Value → Option Value
  | .slice (some ⟨id, off, none⟩) _ (_ + 1) => some (.pointer (some ⟨id, off, none⟩))
  | _ => none
theorem vsdata_ok {ts : Array TypeId} {t : TypeId} {x x' v : Value} (hx : VRel ρ x x') (h : vsdata x = some v) (w : World) : ∃ v', (Builtin.unsafeSliceData_ ts t #[x']).run P w = .ok v' w ∧ VRel ρ v v' := by
  unfold vsdata at h
  split at h
  case h_2 => cases h
  rename_i id off n c
  cases h
  cases hx with
  | @slice _ _ _ _ c' i hi hc =>
    have hc0 : c' ≠ 0 := by
      unfold CapOk at hc
      split at hc
      · omega
      · omega
      · omega
    exact ⟨_, Lib.run_unsafeSliceData_row w ts t _ n c' hc0, .ptr hi⟩
def vustr (P : Program) (σ : VHeap) (ts : Array TypeId) (p len : Value) : Option (Value × VHeap) :=
  match ts, p, len with
  | ⟨[pt, _]⟩, .pointer (some ⟨id, off, none⟩), .int .i64 (.ofNat n) =>
    match P.underlying pt, σ[id]? with
    | some (.pointer e), some (.cells b) =>
      if b.fl = .tip ∧ b.elem = e ∧ P.cellsOf e = 1 ∧ 0 < n ∧ off + n ≤ b.cells.size ∧ n ≤ 9223372036854775807 then
        match toBytes (b.cells.extract off (off + n)).toList with
        | some bs => some (.string ⟨bs.toArray⟩, σ.setIfInBounds id (.cells b.aged))
        | none => none
      else none
    | _, _ => none
  | _, _, _ => none
theorem vustr_ok {ts : Array TypeId} {t : TypeId} {x x' y y' v : Value} {σ' : VHeap} (hw : WRel ρ σ w0 w B0) (hx : VRel ρ x x') (hy : VRel ρ y y') (h : vustr P σ ts x y = some (v, σ')) :
    ∃ w', (Builtin.unsafeString_ ts t #[x', y']).run P w = .ok v w' ∧ VRel ρ v v ∧ WRel ρ σ' w0 w' B0 := by
  unfold vustr at h
  split at h
  case h_2 => cases h
  rename_i pt it id off n
  split at h
  case h_2 => cases h
  rename_i e b hu hg
  split at h
  case isFalse => cases h
  rename_i hcond
  obtain ⟨hfl, hel, hcell, hn0, hle, h63⟩ := hcond
  split at h
  case h_2 => cases h
  rename_i bs hbs
  cases h
  cases hy
  cases hx with
  | @ptr _ _ i hi =>
    have hd : b.fl ≠ .dead := by rw [hfl]; decide
    obtain ⟨i', cs, fz, hi', hr⟩ := hw.blk id b hg hd
    obtain rfl : i = i' := by rw [hi] at hi'; exact Option.some.inj hi'
    obtain ⟨hB, htot, -⟩ := hr.mine (by rw [hfl]; decide)
    obtain ⟨hbl, hbv⟩ := toBytes_some hbs
    have hlen : bs.length = n := by rw [← hbl]; simp; omega
    have hrlen := hr.len
    have hat := hr.at_
    have hrun := run_unsafeString_at (P := P) w pt it t e hu hcell i.b (i.o + off) cs.size (by
        unfold World.shape?
        rw [hat, hel]) bs (by intro e0; rw [e0] at hlen; simp at hlen; omega) (by omega) (by omega) (fun j x hj => by
        obtain ⟨hj1, hj2⟩ := List.getElem?_eq_some_iff.1 hj
        rw [add_none]
        unfold World.cell?
        simp only [hat]
        have hlt : i.o + (off + j) < cs.size := by omega
        have hv := hr.cells (off + j) (by omega) hlt
        have hk := hbv j (by simp; omega) hj1
        simp only [List.getElem_toArray, Array.getElem_toList, Array.getElem_extract] at hk
        rw [hk] at hv
        rw [show i.o + off + j = i.o + (off + j) by omega, Array.getElem?_eq_getElem hlt]
        generalize cs[i.o + (off + j)] = z at hv
        cases hv
        rw [hj2]
        rfl)
    rw [hlen] at hrun
    refine ⟨_, hrun, .string _, ?_⟩
    have h1 := hw.age hg hfl
    refine h1.freezeOld (p := ⟨i.b, i.o + off, none⟩) n hB (hat.trans rfl) fun id' b' i2 hg' hd' hi2 he => ?_
    by_cases hid : id' = id
    · subst hid
      rw [Array.getElem?_setIfInBounds] at hg'
      simp only [if_true, (Array.getElem?_eq_some_iff.1 hg).1] at hg'
      cases hg'
      rfl
    · rw [Array.getElem?_setIfInBounds_ne (Ne.symm hid)] at hg'
      have hb' : b'.fl ≠ .ro := fun hro => by
        obtain ⟨i3, cs3, fz3, hi3, hr3⟩ := hw.blk id' b' hg' hd'
        obtain rfl : i2 = i3 := by rw [hi2] at hi3; exact Option.some.inj hi3
        have he' : i2.b = i.b := he
        exact hB (he' ▸ (hr3.ro hro).1.1)
      have hk := hw.sep id id' _ _ i i2 (Ne.symm hid) hg hg' (by simp [VObj.own, hfl]) (by simp [VObj.own, hd', hb']) hi hi2 he.symm
      exact (hk.2.2.2 hfl).1
end
end Vm
end Go.Proofs.YtmapjahpjolmnaaGreatDoor
