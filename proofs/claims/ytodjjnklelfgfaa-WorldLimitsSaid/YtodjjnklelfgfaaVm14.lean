/- append, sound. -/
import Derived.Test.YtodjjnklelfgfaaVm13
namespace Go.Proofs.Ytodjjnklelfgfaa
namespace Vm
set_option linter.unusedSimpArgs false
set_option linter.unusedVariables false
open Go.RowKit

section
variable {P : Program} {w0 w : World} {B0 : Base} {ρ : Rho} {σ : VHeap}
theorem vfirst_slice {id off n c size : Nat} {b : Blk} {olds : Array Value} (hg : σ[id]? = some (.cells b)) (h : vfirst σ size n (.slice (some ⟨id, off, none⟩) n c) = some olds) (hlen : off + n * size ≤ b.cells.size) :
    olds = b.cells.extract off (off + n * size) := by
  simp only [vfirst, hg] at h
  split at h
  · rename_i h0
    cases h
    rw [h0]; simp; omega
  · split at h
    · cases h; rfl
    · cases h
theorem grow_inplace {e : TypeId} {i : Info} {id off n m c' size : Nat} {b : Blk} {olds news news' : Array Value} (hw : WRel ρ σ w0 w B0) (hg : σ[id]? = some (.cells b)) (hfl : b.fl = .tip) (hρ : ρ id = some i)
    (hend : off + n * size = b.cells.size) (hesz : b.esz = size) (hel : b.elem = e) (ho : olds = b.cells.extract off (off + n * size)) (rn : ARel ρ news news') (hns : news.size = m * size) (h1c : news.all Value.oneCell' = true)
    (hcap : i.o + off + c' * i.esz ≤ i.tot) (hfit : n + m ≤ c') :
    ∃ w', (storeCells ((⟨i.b, i.o + off, none⟩ : Addr).add (n * size)) news'.toList).run P w = .ok () w' ∧
      WRel (ρ.more σ.size ⟨i.b, i.o + off, size, i.tot, .gr⟩) ((σ.setIfInBounds id (.cells b.aged)).push (.cells ⟨olds ++ news, e, .tip, true, b.root, size⟩)) w0 w' B0 := by
  have hd : b.fl ≠ .dead := by rw [hfl]; decide
  obtain ⟨i0, cs, fz, hi0, hr⟩ := hw.blk id b hg hd
  obtain rfl : i = i0 := by rw [hρ] at hi0; exact Option.some.inj hi0
  obtain ⟨hB, htot, hfz⟩ := hr.mine (by rw [hfl]; decide)
  have hgr := hr.gr (.inl hfl)
  rw [hgr.2, hesz, htot] at hcap
  have hm : (n + m) * size ≤ c' * size := Nat.mul_le_mul_right _ hfit
  rw [Nat.add_mul] at hm
  have hlen := hr.len
  have hs' : news'.toList.length = m * size := by rw [Array.length_toList, ← rn.1, hns]
  obtain ⟨w', cs', r1, r2, r3, r4, r5, r6, r7, r8, r9, r10⟩ := run_storeCells (P := P) (o := i.o + off + n * size) news'.toList 0 cs w hr.at_ (by rw [hs']; omega) (hfz (by rw [hfl]; decide)) (fun v hv => by
    obtain ⟨k, hk, rfl⟩ := List.getElem_of_mem hv
    have hk' : k < news.size := by rw [hns, ← hs']; exact hk
    have := (rn.2 k hk' (by rw [← rn.1]; exact hk')).one
    have h1 := Array.all_eq_true.1 h1c k hk'
    rw [this] at h1
    simpa using h1)
  refine ⟨w', by rw [add_none]; exact r1, ?_⟩
  have hsz : (σ.setIfInBounds id (.cells b.aged)).size = σ.size := by simp
  have h1 := hw.age hg hfl
  have hle : ρ.le (ρ.more σ.size ⟨i.b, i.o + off, size, i.tot, .gr⟩) := Rho.le_more (hw.dom _ (Nat.le_refl _)) _
  have hget : ∀ id', id' ≠ id → (σ.setIfInBounds id (.cells b.aged))[id']? = σ[id']? := fun id' hne => Array.getElem?_setIfInBounds_ne (Ne.symm hne)
  have hget0 : (σ.setIfInBounds id (.cells b.aged))[id]? = some (.cells b.aged) := by rw [Array.getElem?_setIfInBounds]; simp [(Array.getElem?_eq_some_iff.1 hg).1]
  have hkin : ∀ id' o' i', id' ≠ id → σ[id']? = some o' → o'.own = true → ρ id' = some i' → i'.b = i.b → ∃ b', o' = .cells b' ∧ b.root = b'.root ∧ b'.fl = .old ∧ i'.o + b'.cells.size ≤ i.o + b.cells.size := by
    intro id' o' i' hne ho' hown hi' he
    have hk := hw.sep id id' _ _ i i' (Ne.symm hne) hg ho' (by simp [VObj.own, hfl]) hown hρ hi' he.symm
    cases o' with
    | cells b' => exact ⟨b', rfl, hk.1, (hk.2.2.2 hfl).1, (hk.2.2.2 hfl).2.2⟩
    | map es c => exact hk.elim
    | iter s p => exact hk.elim
    | rmap es c => exact hk.elim
  have hnew := h1.grow (w' := w') (o := .cells ⟨olds ++ news, e, .tip, true, b.root, size⟩) (i := ⟨i.b, i.o + off, size, i.tot, .gr⟩) ?hn ?hb (fun _ _ x => by cases x) (fun _ _ x => by cases x) (fun _ _ x => by cases x) ?hs (by rw [r10]; exact hw.base)
    (hw.below.trans ⟨r7, r8, r9, by rw [r10]; exact Nat.le_refl _, fun k hk => r6 k (fun e => hB (e ▸ hk))⟩)
  · rw [hsz] at hnew; exact hnew
  case hn =>
    intro id' o' i' ho' hl' hi'
    rw [hsz]
    refine ⟨fun b' eb => ?_, fun hnc => ?_⟩
    · subst eb
      have hd' : b'.fl ≠ .dead := by simpa [VObj.live] using hl'
      obtain ⟨i2, cs2, fz2, hi2, hr2⟩ := h1.blk id' b' ho' hd'
      obtain rfl : i' = i2 := by rw [hi'] at hi2; exact Option.some.inj hi2
      by_cases hbb : i'.b = i.b
      · have hat := hr2.at_
        rw [hbb, hr.at_] at hat
        have hat' := Option.some.inj hat
        injection hat' with e1 e2 e3
        subst e1
        subst e3
        have hend' : i'.o + b'.cells.size ≤ i.o + off + n * size := by
          by_cases hid : id' = id
          · subst hid
            rw [hget0] at ho'
            obtain rfl : b.aged = b' := VObj.cells.inj (Option.some.inj ho')
            obtain rfl : i = i' := by rw [hρ] at hi'; exact Option.some.inj hi'
            simp only [Blk.aged]
            omega
          · rw [hget id' hid] at ho'
            have hown : (VObj.cells b').own = true := by
              have : b'.fl ≠ .ro := fun hro => hB (hbb ▸ (hr2.ro hro).1.1)
              simp [VObj.own, hd', this]
            obtain ⟨b2, e2, _, _, h4⟩ := hkin id' _ i' hid ho' hown hi' hbb
            cases e2
            omega
        refine ⟨cs', fz, ?_, by rw [r3]; exact hr2.len, ?_, hr2.ro, fun hro => ?_, fun hex => ?_, hr2.gr⟩
        · rw [hbb, r2, e2]
        · intro k hk hk'
          have hlt : i'.o + k < cs.size := by rw [← r3]; exact hk'
          have hv := hr2.cells k hk hlt
          have := r5 (i'.o + k) (.inl (by omega))
          rw [Array.getElem?_eq_getElem hk', Array.getElem?_eq_getElem hlt] at this
          rw [Option.some.inj this]
          exact hv.mono hle
        · have := hr2.mine hro
          rw [r3]
          exact this
        · rw [r3]; exact hr2.ex hex
      · exact ⟨cs2, fz2, hr2.keep hle (r6 _ hbb)⟩
    · refine r6 _ (fun hbb => ?_)
      cases o' with
      | cells b' => exact hnc b' rfl
      | map es c =>
        obtain ⟨i2, fs, g1, _, _, g4, _⟩ := h1.map id' es c ho'
        obtain rfl : i' = i2 := by rw [hi'] at g1; exact Option.some.inj g1
        rw [hbb, hr.at_] at g4; cases g4
      | iter s p =>
        obtain ⟨i2, g1, _, _, g4⟩ := h1.iter id' s p ho'
        obtain rfl : i' = i2 := by rw [hi'] at g1; exact Option.some.inj g1
        rw [hbb, hr.at_] at g4; cases g4
      | rmap es c =>
        obtain ⟨i2, fs, g1, _, _, g4, _⟩ := h1.rmap id' es c ho'
        obtain rfl : i' = i2 := by rw [hi'] at g1; exact Option.some.inj g1
        rw [hbb, hr.at_] at g4; cases g4
  case hb =>
    intro bn hbn _
    rw [hsz]
    cases hbn
    have hos : olds.size = n * size := by rw [ho]; simp; omega
    refine ⟨cs', fz, by rw [r2, hel], by simp only [Array.size_append, hos, hns, r3]; omega, ?_, by simp, fun _ => ⟨hB, by rw [r3]; exact htot, fun _ => by rw [r3]; exact hfz (by rw [hfl]; decide)⟩, by simp, fun _ => ⟨rfl, rfl⟩⟩
    intro k hk hk'
    simp only [Array.size_append, hos, hns] at hk
    simp only at hk' ⊢
    by_cases hlt : k < n * size
    · have hlt2 : i.o + off + k < cs.size := by rw [← r3]; exact hk'
      have := r5 (i.o + off + k) (.inl (by omega))
      rw [Array.getElem?_eq_getElem hk', Array.getElem?_eq_getElem hlt2] at this
      rw [Option.some.inj this, Array.getElem_append_left (by rw [hos]; exact hlt)]
      have hv := hr.cells (off + k) (by omega) (by omega)
      subst ho
      simp only [Array.getElem_extract]
      simpa [Nat.add_assoc] using hv.mono hle
    · have h4 := r4 (k - n * size) (by rw [hs']; omega)
      rw [show i.o + off + n * size + 0 + (k - n * size) = i.o + off + k by omega, Array.getElem?_eq_getElem hk'] at h4
      rw [Option.some.inj h4, Array.getElem_append_right (by rw [hos]; omega)]
      have hv := rn.2 (k - n * size) (by omega) (by rw [← rn.1]; omega)
      have eq : (olds ++ news).size = olds.size + news.size := by simp
      have e2 : news[k - olds.size]'(by omega) = news[k - n * size]'(by omega) := getElem_congr_idx (by rw [hos])
      rw [e2]
      simpa using hv.mono hle
  case hs =>
    intro id' o' i' ho' hown _ hi' hbb
    have hbb' : i'.b = i.b := hbb
    have hnsz : (olds ++ news).size = n * size + m * size := by rw [Array.size_append, hns, ho]; simp; omega
    by_cases hid : id' = id
    · subst hid
      rw [hget0] at ho'
      obtain rfl := Option.some.inj ho'
      obtain rfl : i = i' := by rw [hρ] at hi'; exact Option.some.inj hi'
      refine ⟨⟨rfl, by simp [Blk.aged], by simp, by simp [Blk.aged]⟩, ⟨rfl, by simp, by simp [Blk.aged], fun _ => ⟨rfl, rfl, ?_⟩⟩⟩
      simp only [Blk.aged, hnsz]
      omega
    · rw [hget id' hid] at ho'
      obtain ⟨b', rfl, h2, h3, h4⟩ := hkin id' o' i' hid ho' hown hi' hbb'
      refine ⟨⟨h2.symm, by rw [h3]; decide, by simp, by rw [h3]; intro x; cases x⟩, ⟨h2, by simp, by rw [h3]; decide, fun _ => ⟨h3, rfl, ?_⟩⟩⟩
      simp only [hnsz]
      omega
theorem vappend_ok {ts : Array TypeId} {t : TypeId} {s s' x x' v : Value} {σ' : VHeap} (hw : WRel ρ σ w0 w B0) (hs : VRel ρ s s') (hx : VRel ρ x x') (h : vappend P σ ts s x = some (v, σ')) :
    ∃ ρ2 v' w', ρ.le ρ2 ∧ (Builtin.append_ ts t #[s', x']).run P w = .ok v' w' ∧ VRel ρ2 v v' ∧ WRel ρ2 σ' w0 w' B0 := by
  unfold vappend at h
  split at h
  case h_2 => cases h
  rename_i t0 t1 base n c m h0 h1 hl
  have hl' : vlen x' = some m := by rw [← vlen_rel hx]; exact hl
  split at h
  case h_2 => cases h
  rename_i e d1 hu0 hu1
  split at h
  case h_2 => cases h
  rename_i info hi
  split at h
  case isTrue => cases h
  rename_i hd
  have hd' : isIntT d1 = false := by simpa using hd
  split at h
  case h_2 => cases h
  rename_i z news hz hnews
  obtain ⟨news', rn, hrn⟩ := vfirst_ok (P := P) hw hx hnews
  split at h
  · rename_i r hvf
    cases h
    unfold vfit at hvf
    split at hvf
    case isFalse => cases hvf
    rename_i hfit
    have h := hvf
    clear hvf
    split at h
    · cases h
      cases hs
      refine ⟨ρ, _, w, Rho.le_refl _, ?_, .sliceNil _ _, hw⟩
      rw [run_append_fit h0 h1 hu0 hu1 hd' hi hl' hfit, hrn w rfl]
      rfl
    · rename_i a
      split at h
      case h_2 => cases h
      rename_i u σ1 hst
      cases h
      cases hs with
      | @slice id off n c c' i hi0 hc =>
        have hp : PRel ρ (⟨id, off, none⟩ : Addr) ⟨i.b, i.o + off, none⟩ := ⟨i, hi0, rfl, rfl⟩
        obtain ⟨ρ2, y, w', g1, g2, _, g4⟩ := SR.storeCells (P := P) (w0 := w0) (B0 := B0) (hp.add (n * info.size)) news.toList news'.toList 0 ρ (Rho.le_refl _) rn.toList ρ σ w u σ' (Rho.le_refl _) hw hst
        have hcc : c ≤ c' := by
          unfold CapOk at hc
          split at hc
          · omega
          · exact hc.1
          · exact hc
        refine ⟨ρ2, _, w', g1, ?_, .slice (g1 _ _ hi0) hc, g4⟩
        rw [run_append_fit h0 h1 hu0 hu1 hd' hi hl' (by omega), hrn w rfl]
        simp only [Result.andThen_ok]
        rw [Sem.run_bind, g2]
        rfl
      | sliceOff id off a c' =>
        have hm : m = 0 := by omega
        subst hm
        have hn0 : news = #[] := by
          cases x <;> first | (cases hl; done) | skip
          case slice a' n' c'' =>
            cases hl
            cases a' with
            | none => cases hnews; rfl
            | some a' => simp [vfirst] at hnews; exact hnews
          case string st =>
            simp only [vlen, Option.some.injEq] at hl
            simp only [vfirst, Option.some.injEq] at hnews
            subst hnews
            have : st.extract 0 0 = ByteArray.empty := by ext <;> simp
            rw [this, show ByteArray.empty.data = #[] from rfl]
            simp
        subst hn0
        have hn0' : news' = #[] := Array.eq_empty_of_size_eq_zero (by rw [← rn.1]; rfl)
        subst hn0'
        have hσ : σ' = σ := by
          simp only [storeCells] at hst
          cases hst; rfl
        subst hσ
        refine ⟨ρ, .slice (some a) 0 c', w, Rho.le_refl _, ?_, .sliceOff id off a c', hw⟩
        rw [run_append_fit h0 h1 hu0 hu1 hd' hi hl' (by omega), hrn w rfl]
        rfl
  · split at h
    case isFalse => cases h
    rename_i hcond
    obtain ⟨hcap, hb, hzs, h1c, hns⟩ := hcond
    split at h
    · split at h
      case isFalse => cases h
      rename_i hn0
      cases h
      obtain ⟨hn0, hfit⟩ := hn0
      subst hn0
      cases hs
      have := grow_anew (t := t) (base := none) (n := 0) (c := c) (x := x') (olds := #[]) (olds' := #[]) hw false σ.size h0 h1 hu0 hu1 hd' hi hz hl' hfit hb hcap hzs (fun w1 _ => rfl) hrn (ARel.nil _) rn (by simp [hns])
      simpa using this
    · rename_i a
      split at h
      case h_2 => cases h
      rename_i b olds hsp hg hold
      cases hs with
      | sliceOff id off a c' => cases hsp
      | @slice id off n c c' i hi0 hc =>
        obtain ⟨olds', ro, hro⟩ := vfirst_ok (P := P) hw (VRel.slice hi0 hc : VRel ρ (.slice (some ⟨id, off, none⟩) n c) _) hold
        have hd2 : b.fl ≠ .dead := by
          intro e2
          simp only [e2] at h
          cases h
        obtain ⟨i0, cs, fz, hi1, hr⟩ := hw.blk id b hg hd2
        obtain rfl : i = i0 := by rw [hi0] at hi1; exact Option.some.inj hi1
        have hosz : ∀ (hh : off + n * info.size ≤ b.cells.size), olds.size = n * info.size := by
          intro hh
          rw [vfirst_slice hg hold hh]; simp; omega
        split at h
        · rename_i hfl
          split at h
          case isFalse => cases h
          rename_i hfit
          cases h
          have hk := hr.ex hfl
          simp only [CapOk, hk.1] at hc
          subst hc
          have hos : olds.size = n * info.size := by
            simp only [vfirst, hg] at hold
            split at hold
            · rename_i h0'; cases hold; simp [h0']
            · split at hold
              case isFalse => cases hold
              rename_i hh
              cases hold
              simp; omega
          exact grow_anew (t := t) hw false σ.size h0 h1 hu0 hu1 hd' hi hz hl' hfit hb hcap hzs hro hrn ro rn (by rw [Array.size_append, hos, hns, Nat.add_mul])
        · rename_i hfl
          split at h
          case isFalse => cases h
          rename_i hcond2
          obtain ⟨hend, hesz, hel⟩ := hcond2
          simp only at hend
          cases h
          have hk := hr.gr (.inl hfl)
          simp only [CapOk, hk.1] at hc
          have hos := hosz (by omega)
          by_cases hreal : n + m ≤ c'
          · obtain ⟨w', g1, g2⟩ := grow_inplace (P := P) (c' := c') hw hg hfl hi0 hend hesz hel (vfirst_slice hg hold (by omega)) rn hns (by simpa using h1c) hc.2 hreal
            refine ⟨_, .slice (some ⟨i.b, i.o + off, none⟩) (n + m) c', w', Rho.le_more (hw.dom _ (Nat.le_refl _)) _, ?_, ?_, g2⟩
            · rw [run_append_fit h0 h1 hu0 hu1 hd' hi hl' hreal, hrn w rfl]
              simp only [Result.andThen_ok]
              rw [Sem.run_bind, g1]
              rfl
            · have := VRel.slice (ρ := ρ.more σ.size ⟨i.b, i.o + off, info.size, i.tot, .gr⟩) (id := σ.size) (off := 0) (n := n + m) (c := n + m) (c' := c') (Rho.more_self _ _ _)
                (by simp only [CapOk]; refine ⟨hreal, ?_⟩; have := hc.2; rw [hk.2, hesz] at this; omega)
              simpa using this
          · have h1' := hw.age hg hfl
            have := grow_anew (σ := σ.setIfInBounds id (.cells b.aged)) (t := t) h1' true b.root h0 h1 hu0 hu1 hd' hi hz hl' hreal hb hcap hzs hro hrn ro rn (by rw [Array.size_append, hos, hns, Nat.add_mul])
            simpa using this
        · cases h
end
end Vm
end Go.Proofs.Ytodjjnklelfgfaa
