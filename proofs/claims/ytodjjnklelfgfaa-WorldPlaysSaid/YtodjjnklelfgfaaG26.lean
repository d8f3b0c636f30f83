/- That a region run once by its plan is sound for every order. -/
import Derived.Test.YtodjjnklelfgfaaG25
set_option linter.unusedVariables false
set_option linter.unusedSimpArgs false
namespace Go.Proofs.Ytodjjnklelfgfaa
namespace Vm
set_option linter.unusedSimpArgs false
set_option linter.unusedVariables false
open Go.RowKit

section
variable {ops : Array Oper} {pl : List Nat} {pre : Nat → Nat → Bool} {eff : Nat → Bool} {P : Program} {w0 : World} {B0 : Base} {cl : VCall} {Q : VPost} {Qr : Exit → Act → World → Prop}
theorem countP_lt {α : Type} {p q : α → Bool} : ∀ {l : List α} {x : α}, (∀ y ∈ l, q y = true → p y = true) → x ∈ l → p x = true → q x = false → l.countP q < l.countP p := by
  intro l
  induction l with
  | nil => intro x _ hx; simp at hx
  | cons y l ih =>
    intro x h hx hpx hqx
    have hle : l.countP q ≤ l.countP p := List.countP_mono_left fun z hz => h z (by simp [hz])
    rcases List.mem_cons.1 hx with rfl | hx
    · rw [List.countP_cons_of_pos hpx, List.countP_cons_of_neg (by simp [hqx])]
      omega
    · have := ih (fun z hz => h z (by simp [hz])) hx hpx hqx
      have hy := h y (by simp)
      rw [List.countP_cons, List.countP_cons]
      cases hqy : q y
      · simp; omega
      · simp [hy hqy]; omega
def cnt (n : Nat) (L : Array Bool) : Nat := (List.range n).countP fun j => !L.getD j true
theorem getD_bool {L : Array Bool} {n j : Nat} (hs : L.size = n) (hj : j < n) : L.getD j true = L.getD j false := by
  rw [Array.getD_eq_getD_getElem?, Array.getD_eq_getD_getElem?, Array.getElem?_eq_getElem (hs ▸ hj)]; rfl
theorem set_getD {L : Array Bool} {n i j : Nat} {d : Bool} (hs : L.size = n) (hi : i < n) : (L.setIfInBounds i true).getD j d = if j = i then true else L.getD j d := by
  by_cases hij : j = i
  · subst hij
    rw [if_pos rfl, Array.getD_eq_getD_getElem?]
    simp [hs, hi]
  · rw [if_neg hij]
    exact getD_set_ne d (Ne.symm hij)
theorem cnt_set {L : Array Bool} {n i : Nat} (hs : L.size = n) (hi : i < n) (hl : L.getD i true = false) : cnt n (L.setIfInBounds i true) < cnt n L := by
  refine countP_lt (x := i) (fun y _ hy => ?_) (by simpa using hi) (by simp [hl]) ?_
  · rw [set_getD hs hi] at hy
    by_cases hyi : y = i
    · rw [if_pos hyi] at hy; simp at hy
    · rwa [if_neg hyi] at hy
  · rw [set_getD hs hi, if_pos rfl]; rfl
theorem first_not {α : Type} (p : α → Bool) : ∀ l : List α, (∀ x ∈ l, p x = true) ∨ ∃ dn i rest, l = dn ++ i :: rest ∧ (∀ j ∈ dn, p j = true) ∧ p i = false := by
  intro l
  induction l with
  | nil => exact .inl fun x hx => by simp at hx
  | cons x l ih =>
    cases hx : p x with
    | false => exact .inr ⟨[], x, l, rfl, fun j hj => by simp at hj, hx⟩
    | true =>
      rcases ih with h | ⟨dn, i, rest, h1, h2, h3⟩
      · exact .inl fun y hy => by rcases List.mem_cons.1 hy with rfl | hy <;> simp_all
      · exact .inr ⟨x :: dn, i, rest, by rw [h1]; rfl, fun j hj => by rcases List.mem_cons.1 hj with rfl | hj <;> simp_all, h3⟩
theorem all_listed (hp : Plan ops pl pre eff) {L : Array Bool} (hs : L.size = ops.size) (hr : Region.ready .any ops L = []) : ∀ j, j < ops.size → L.getD j false = true := by
  rcases first_not (fun j => L.getD j false) pl with h | ⟨dn, i, rest, h1, h2, h3⟩
  · exact fun j hj => h j (hp.mem j hj)
  · exfalso
    have hlt := hp.lt i (by rw [h1]; simp)
    have ho := Array.getElem?_eq_getElem hlt
    have : i ∈ Region.ready .any ops L := mem_ready.2 ⟨by rw [getD_bool hs hlt]; exact h3, _, ho, fun e he hb => h2 _ (hp.edges dn i rest _ h1 ho e he hb)⟩
    rw [hr] at this
    simp at this
theorem lag_none {L : Array Bool} {al : List (Nat × Nat)} (h : ∀ x ∈ al, L.getD x.1 false = true) : lag L al = fun _ => false := by
  funext id
  cases hc : lag L al id with
  | false => rfl
  | true =>
    obtain ⟨x, hx, -, hl⟩ := lag_iff.1 hc
    rw [h x hx] at hl
    cases hl
theorem msk_none (σ : VHeap) : msk σ (fun _ => false) = σ := by
  apply heap_ext
  intro id
  rw [msk_get]
  cases σ[id]? <;> rfl
theorem plan_done (hp : Plan ops pl pre eff) {dn rest : List Nat} {pd : List (Nat × Value)} {al : List (Nat × Nat)} {t : Array Value} {σ : VHeap} {L : Array Bool} {a : Act} {w : World} {ρ : Rho}
    (h1 : pl = dn ++ rest) (h2 : vplan P cl ops pre eff Q rest pd al t σ) (h3 : Inv P ops pre eff w0 B0 dn pd al t σ L a w ρ) (hq : PostOk Q Qr ρ w0 B0) (hr : Region.ready .any ops L = []) : Qr .normal a w := by
  have hall := all_listed hp h3.size hr
  cases rest with
  | cons c r =>
    exfalso
    have hc : c ∈ pl := by rw [h1]; simp
    exact hp.notin h1 (by simp) (h3.sub c (hall c (hp.lt c hc)))
  | nil =>
    unfold vplan at h2
    have hdn : ∀ j ∈ dn, L.getD j false = true := fun j hj => hall j (hp.lt j (by rw [h1]; simpa using hj))
    have hlag : lag L al = fun _ => false := lag_none fun x hx => hdn _ (h3.als x hx)
    have hw := h3.wrel
    unfold lagBase at hw
    rw [hlag, msk_none] at hw
    refine hq ρ .normal t σ a w (Rho.le_refl _) h2 ⟨h3.rel.1, fun k hk hk' => h3.rel.2 k hk hk' ?_⟩ h3.defers (hw.fewer rfl rfl fun id h => .inl h)
    rintro ⟨j, hj, hl, -⟩
    rw [hdn j hj] at hl
    cases hl
theorem put_rel {ρ ρ2 : Rho} {D D' : Nat → Prop} {t tr : Array Value} {ds : List Deferred} {dst : Option Tmp} {v v' : Value} (h : TRel ρ D t tr) (hle : ρ.le ρ2) (hv : VRel ρ2 v v') (hD : ∀ k, dst ≠ some k → D k → D' k) :
    TRel ρ2 D' (vput t dst v) ((⟨tr, ds⟩ : Act).put dst v').tmps := by
  have hs2 : ((⟨tr, ds⟩ : Act).put dst v').tmps.size = tr.size := by cases dst <;> simp [Act.put]
  refine ⟨vput_size.trans (h.1.trans hs2.symm), fun k hk hk' hDk => ?_⟩
  have hkt : k < t.size := by rwa [vput_size] at hk
  have hkr : k < tr.size := by rwa [hs2] at hk'
  by_cases hdk : dst = some k
  · subst hdk
    have e1 : (vput t (some k) v)[k]? = some v := vput_self hkt
    rw [Array.getElem?_eq_getElem hk] at e1
    have e2 : ((⟨tr, ds⟩ : Act).put (some k) v').tmps[k]? = some v' := by simp [Act.put, hkr]
    rw [Array.getElem?_eq_getElem hk'] at e2
    rw [Option.some.inj e1, Option.some.inj e2]
    exact hv
  · have e1 := vput_get (t := t) (v := v) hdk
    rw [Array.getElem?_eq_getElem hk, Array.getElem?_eq_getElem hkt] at e1
    have e2 : ((⟨tr, ds⟩ : Act).put dst v').tmps[k]? = tr[k]? := by
      cases hdd : dst with
      | none => rfl
      | some d => exact Array.getElem?_setIfInBounds_ne (fun e => hdk (by rw [hdd, e]))
    rw [Array.getElem?_eq_getElem hk', Array.getElem?_eq_getElem hkr] at e2
    rw [Option.some.inj e1, Option.some.inj e2]
    exact (h.2 k hkt hkr fun hd => hDk (hD k hdk hd)).mono hle
theorem vput_same {t : Array Value} {dst : Option Tmp} {v : Value} (h : ∀ d, dst = some d → d < t.size → t[d]? = some v) : vput t dst v = t := by
  cases dst with
  | none => rfl
  | some d =>
    apply Array.ext_getElem?
    intro k
    by_cases hk : d = k
    · subst hk
      by_cases hlt : d < t.size
      · rw [h d rfl hlt]; exact vput_self hlt
      · have h0 : t.size ≤ d := Nat.le_of_not_lt hlt
        have h1 : (vput t (some d) v).size ≤ d := by rw [vput_size]; exact h0
        rw [Array.getElem?_eq_none h1, Array.getElem?_eq_none h0]
    · exact vput_get (by simpa using hk)
theorem plan_ok (hcl : ClOk P cl) (hp : Plan ops pl pre eff) (Q : VPost) (Qr : Exit → Act → World → Prop) : ∀ (fuel : Nat) (dn rest : List Nat) (pd : List (Nat × Value)) (al : List (Nat × Nat)) (t : Array Value) (σ : VHeap) (L : Array Bool) (a : Act) (w : World) (ρ : Rho),
    pl = dn ++ rest → (∀ c r, rest = c :: r → eff c = true) → vplan P cl ops pre eff Q rest pd al t σ → Inv P ops pre eff w0 B0 dn pd al t σ L a w ρ → PostOk Q Qr ρ w0 B0 → cnt ops.size L ≤ fuel →
    wpAny P .any ops Qr fuel L a w := by
  intro fuel
  induction fuel with
  | zero =>
    intro dn rest pd al t σ L a w ρ h1 hh h2 h3 hq hf
    have hr : Region.ready .any ops L = [] := by
      cases hc : Region.ready .any ops L with
      | nil => rfl
      | cons i l =>
        exfalso
        obtain ⟨hl, o, ho, -⟩ := mem_ready.1 (show i ∈ Region.ready .any ops L by rw [hc]; simp)
        have hlt := (Array.getElem?_eq_some_iff.1 ho).1
        have := cnt_set h3.size hlt hl
        omega
    exact ⟨hr, plan_done hp h1 h2 h3 hq hr⟩
  | succ fuel ih =>
    intro dn rest pd al t σ L a w ρ h1 hh h2 h3 hq hf
    refine ⟨plan_done hp h1 h2 h3 hq, fun i hi => ?_⟩
    obtain ⟨hl, o, ho, hpre⟩ := mem_ready.1 hi
    have hlt := (Array.getElem?_eq_some_iff.1 ho).1
    have hl' : L.getD i false = false := by rw [← getD_bool h3.size hlt]; exact hl
    have hcnt := cnt_set h3.size hlt hl
    have hsz : (L.setIfInBounds i true).size = ops.size := by simpa using h3.size
    have hset : ∀ j, (L.setIfInBounds i true).getD j false = if j = i then true else L.getD j false := fun j => set_getD h3.size hlt
    -- what comes before i has been done
    have hbefore : ∀ j, pre j i = true → L.getD j false = true := by
      intro j hj
      obtain ⟨e, he, hb, hc⟩ := hp.pres i o ho j hj
      have hel := hpre e he hb
      rcases hc with rfl | hc
      · exact hel
      · have hem : e.on ∈ pl := by rw [h1]; simp [h3.sub _ hel]
        obtain ⟨d1, d2, hd⟩ := List.append_of_mem hem
        exact (hp.closed (S := fun j => L.getD j false = true) (fun j oj h => h3.closed j oj h) _ d1 e.on d2 (Nat.lt_succ_self _) hd hel j hc).1
    have hafter : ∀ j, L.getD j false = false → pre j i = false := fun j hj => by
      cases hc : pre j i with
      | false => rfl
      | true => rw [hbefore j hc] at hj; cases hj
    have hclosed : ∀ (j : Nat) oj, (L.setIfInBounds i true).getD j false = true → ops[j]? = some oj → ∀ e ∈ oj.after, Region.binds .any e = true → (L.setIfInBounds i true).getD e.on false = true := by
      intro j oj hj hoj e he hb
      rw [hset] at hj
      by_cases hji : j = i
      · subst hji
        rw [ho] at hoj; cases hoj
        exact getD_set_true (hpre e he hb)
      · rw [if_neg hji] at hj
        exact getD_set_true (h3.closed j oj hj hoj e he hb)
    have hunl : ∀ j, (L.setIfInBounds i true).getD j false = false → j ≠ i ∧ L.getD j false = false := by
      intro j hj
      rw [hset] at hj
      by_cases hji : j = i
      · rw [if_pos hji] at hj; cases hj
      · rw [if_neg hji] at hj; exact ⟨hji, hj⟩
    -- what it looks at is there
    have hD : ∀ d ∈ o.looksAt ops, ¬ ∃ j ∈ dn, L.getD j false = false ∧ ∃ oj, ops[j]? = some oj ∧ oj.dst = some d := by
      rintro d hd ⟨j, hj, hlj, oj, hoj, hdj⟩
      rcases hp.see i j o oj d ho hoj hdj hd with this | this
      · have := hbefore j this
        rw [hlj] at this; cases this
      · have := h3.effs j hj this.2
        rw [hlj] at this; cases this
    have hwant := h3.rel.wanted hD
    have hE : o.op.operands.all constOk = true → ∀ x ∈ o.op.operands, VRel ρ (vev t x) (a.eval x) := fun hc x hx => by
      have hrel := h3.rel
      obtain ⟨tr, ds⟩ := a
      obtain ⟨k, hk, hkx⟩ := Array.getElem_of_mem hx
      exact hrel.ev x (by have := Array.all_eq_true.1 hc k hk; rwa [hkx] at this) fun d hd => hD d (looks_tmp hx hd)
    have hlagsub : ∀ id, lag L al id = true → (hid pre al i).contains id = true := by
      intro id hid
      obtain ⟨x, hx, hx2, hxl⟩ := lag_iff.1 hid
      rw [List.contains_iff_mem]
      exact List.mem_map.2 ⟨x, List.mem_filter.2 ⟨hx, by simp [hafter _ hxl]⟩, hx2⟩
    have hlagL : ∀ al', (∀ x ∈ al', x ∈ al) → (∀ x ∈ al, L.getD x.1 false = false → x ∈ al') → (∀ id, (i, id) ∉ al) → lag (L.setIfInBounds i true) al' = lag L al := by
      intro al' g1 g2 g3
      funext id
      rw [Bool.eq_iff_iff, lag_iff, lag_iff]
      constructor
      · rintro ⟨x, hx, hx2, hxl⟩
        exact ⟨x, g1 x hx, hx2, (hunl _ hxl).2⟩
      · rintro ⟨x, hx, hx2, hxl⟩
        refine ⟨x, g2 x hx hxl, hx2, ?_⟩
        rw [hset, if_neg]
        · exact hxl
        · intro e; exact g3 x.2 (by rw [← e]; exact hx)
    unfold wpOp
    rw [ho]
    simp only
    rw [← hwant]
    rcases List.mem_append.1 (h1 ▸ hp.mem i hlt) with hdn | hrest
    · -- it lags behind
      have fin : ∀ {v v' : Value} {w' : World} {ρ2 : Rho}, ρ.le ρ2 → WRel ρ2 (msk σ (lag (L.setIfInBounds i true) al)) w0 w' (lagBase B0 (L.setIfInBounds i true) al) → VRel ρ2 v v' → (∀ d, o.dst = some d → d < t.size → t[d]? = some v) →
          wpAny P .any ops Qr fuel (L.setIfInBounds i true) (a.put o.dst v') w' := by
        intro v v' w' ρ2 hle hw' hv hd
        refine ih dn rest pd al t σ _ _ w' ρ2 h1 hh h2 ⟨hsz, fun j hj => ?_, fun j hj he => getD_set_true (h3.effs j hj he), hclosed, ?_, put_defers' h3.defers _ _, hw', fun j hj hlj => h3.fact j hj (hunl j hlj).2, h3.als,
          fun x hx y hy g1 g2 => h3.one x hx y hy (hunl _ g1).2 (hunl _ g2).2, fun x hx g => h3.free x hx (hunl _ g).2, h3.uniq⟩ (hq.up hle) (by omega)
        · rw [hset] at hj
          by_cases hji : j = i
          · rw [hji]; exact hdn
          · rw [if_neg hji] at hj; exact h3.sub j hj
        · obtain ⟨tr, ds⟩ := a
          have := put_rel (D' := fun k => ∃ j ∈ dn, (L.setIfInBounds i true).getD j false = false ∧ ∃ o, ops[j]? = some o ∧ o.dst = some k) (ds := ds) h3.rel hle hv (dst := o.dst) ?_
          · rwa [vput_same hd] at this
          · rintro k hk ⟨j, hj, hlj, oj, hoj, hdj⟩
            refine ⟨j, hj, ?_, oj, hoj, hdj⟩
            rw [hset, if_neg]
            · exact hlj
            · rintro rfl; rw [ho] at hoj; cases hoj; exact hk hdj
      have fin0 : ∀ {v v' : Value} {w' : World} {ρ2 : Rho}, (∀ id, (i, id) ∉ al) → ρ.le ρ2 → WRel ρ2 (msk σ (lag L al)) w0 w' (lagBase B0 L al) → VRel ρ2 v v' → (∀ d, o.dst = some d → d < t.size → t[d]? = some v) →
          wpAny P .any ops Qr fuel (L.setIfInBounds i true) (a.put o.dst v') w' := by
        intro v v' w' ρ2 hna hle hw' hv hd
        refine fin hle ?_ hv hd
        unfold lagBase
        rw [hlagL al (fun _ h => h) (fun _ h _ => h) hna]
        exact hw'
      rcases h3.fact i hdn hl' o ho with ⟨g1, g2, g3⟩ | ⟨g1, g2, g3⟩
      · rw [if_pos g1]
        left
        unfold Oper.wp
        rcases g3 with ⟨v, k1, k2, k3⟩ | ⟨v, k1, k2, k3, k4, k5⟩ | ⟨k, cs, e, id, k1, k2, k3, k4, k5⟩
        · obtain ⟨ρ2, v', w', m1, m2, m3, m4⟩ := vop_ok h3.wrel (hE g2) (nval_vop k3 _)
          rw [m2, Oper.upon_value]
          exact fin0 k2 m1 m4 m3 k1
        · have hv : vop P o (vev t) (msk σ (lag L al)) = some (.val v (msk σ (lag L al))) := by
            refine rd_sees k4 ?_ k5
            rw [mskL_eq]
            exact Sees.msk hlagsub
          obtain ⟨ρ2, v', w', m1, m2, m3, m4⟩ := vop_ok h3.wrel (hE g2) hv
          rw [m2, Oper.upon_value]
          exact fin0 k2 m1 m4 m3 k1
        · have hlagid : lag L al id = true := lag_iff.2 ⟨_, k3, rfl, hl'⟩
          obtain ⟨ρ2, v', w', m1, m2, m3, m4⟩ := vop_ok h3.wrel (hE g2) (nalloc_vop k2 _)
          rw [m2, Oper.upon_value]
          obtain ⟨ρ3, n1, n2, n3⟩ := h3.wrel.late (.inr hlagid) k5 m1 m4 m3
          have hlag' : ∀ id', lag (L.setIfInBounds i true) al id' = (lag L al id' && decide (id' ≠ id)) := by
            intro id'
            rw [Bool.eq_iff_iff, Bool.and_eq_true, decide_eq_true_eq, lag_iff, lag_iff]
            constructor
            · rintro ⟨x, hx, hx2, hxl⟩
              obtain ⟨hxi, hxl⟩ := hunl _ hxl
              refine ⟨⟨x, hx, hx2, hxl⟩, ?_⟩
              rintro rfl
              exact hxi (h3.one x hx _ k3 hxl hl' hx2)
            · rintro ⟨⟨x, hx, hx2, hxl⟩, hne⟩
              refine ⟨x, hx, hx2, ?_⟩
              rw [hset, if_neg]
              · exact hxl
              · intro hxi
                apply hne
                have hlg : (x.1, x.2) ∈ al := hx
                rw [hxi] at hlg
                -- one id for an operation
                exact hx2.symm.trans (h3.uniq i x.2 id hlg k3)
          refine fin (v := k.val id) n1 ?_ n2 k1
          have hh' : msk σ (lag (L.setIfInBounds i true) al) = (msk σ (lag L al)).setIfInBounds id (k.obj cs e id) := by
            apply heap_ext
            intro id'
            rw [msk_get, hlag']
            by_cases hne : id' = id
            · subst hne
              have hlt' : id' < (msk σ (lag L al)).size := (h3.wrel.hole id' (.inr hlagid)).2
              rw [Array.getElem?_setIfInBounds_self_of_lt hlt', k4]
              simp
            · rw [Array.getElem?_setIfInBounds_ne (Ne.symm hne), msk_get]
              simp [hne]
          rw [hh']
          refine n3.fewer rfl rfl fun id' hid' => ?_
          rcases hid' with hid' | hid'
          · exact ⟨.inl hid', fun e => h3.free _ k3 hl' (e ▸ hid')⟩
          · rw [hlag', Bool.and_eq_true, decide_eq_true_eq] at hid'
            exact ⟨.inr hid'.1, hid'.2⟩
      · rw [if_neg (by rw [g1]; simp)]
        exact fin0 g2 (Rho.le_refl _) h3.wrel (undef_rel ρ) g3
    · -- it is the next one that may turn memory
      cases rest with
      | nil => simp at hrest
      | cons c r =>
        have hce := hh c r rfl
        have hic : i = c := by
          rcases List.mem_cons.1 hrest with h | h
          · exact h
          · exact absurd (h3.sub c (hbefore c (hp.order dn c r h1 hce i h))) (hp.notin h1 (by simp))
        subst hic
        have hnot : i ∉ dn := hp.notin h1 (by simp)
        have hnal : ∀ id, (i, id) ∉ al := fun id hm => hnot (h3.als _ hm)
        have h1' : pl = (dn ++ [i]) ++ r := by rw [h1]; simp
        have hlook : ∀ j ∈ dn, L.getD j false = false → ∀ oj d, ops[j]? = some oj → o.dst = some d → d ∉ oj.looksAt ops ∧ oj.dst ≠ some d := by
          intro j hj hlj oj d hoj hd
          refine ⟨fun hl => ?_, fun hd' => ?_⟩
          · rcases hp.see j i oj o d hoj ho hd hl with this | this
            · rw [hp.fresh h1 hj] at this; cases this
            · rw [hafter j hlj] at this; cases this.1
          · have := hp.dst i j o oj d ho hoj hd hd'
            subst this
            exact hnot hj
        have fin : ∀ {v v' : Value} {w' : World} {ρ2 : Rho} {σ' : VHeap} {pd' : List (Nat × Value)} {al' : List (Nat × Nat)}, ρ.le ρ2 → (∀ x ∈ al', x ∈ al) → (∀ x ∈ al, L.getD x.1 false = false → x ∈ al') →
            WRel ρ2 (msk σ' (lag L al)) w0 w' (lagBase B0 L al) → VRel ρ2 v v' →
            (∀ j oj u, j ∈ dn → L.getD j false = false → pre j i = false → ops[j]? = some oj → (j, u) ∈ pd → isRd P oj = true → vop P oj (vev t) (mskL σ (hid pre al j)) = some (.val u (mskL σ (hid pre al j))) →
              (j, u) ∈ pd' ∧ vop P oj (vev (vput t o.dst v)) (mskL σ' (hid pre al' j)) = some (.val u (mskL σ' (hid pre al' j)))) →
            (∀ (j id : Nat) ob, L.getD j false = false → (j, id) ∈ al → σ[id]? = some ob → σ'[id]? = some ob) →
            vplan P cl ops pre eff Q r pd' al' (vput t o.dst v) σ' → wpAny P .any ops Qr fuel (L.setIfInBounds i true) (a.put o.dst v') w' := by
          intro v v' w' ρ2 σ' pd' al' hle ha1 ha2 hw' hv hpd hget h2'
          have hInv : Inv P ops pre eff w0 B0 (dn ++ [i]) pd' al' (vput t o.dst v) σ' (L.setIfInBounds i true) (a.put o.dst v') w' ρ2 := by
            have hlj' : ∀ j ∈ dn ++ [i], (L.setIfInBounds i true).getD j false = false → j ∈ dn ∧ L.getD j false = false := by
              intro j hj hlj
              obtain ⟨hji, hlj⟩ := hunl j hlj
              rw [List.mem_append, List.mem_singleton] at hj
              exact ⟨hj.resolve_right hji, hlj⟩
            refine ⟨hsz, fun j hj => ?_, fun j hj he => ?_, hclosed, ?_, put_defers' h3.defers _ _, ?_, fun j hj hlj => ?_, fun x hx => by simp [h3.als x (ha1 x hx)],
              fun x hx y hy g1 g2 => h3.one x (ha1 x hx) y (ha1 y hy) (hunl _ g1).2 (hunl _ g2).2, fun x hx g => h3.free x (ha1 x hx) (hunl _ g).2, fun j p q hp hq => h3.uniq j p q (ha1 _ hp) (ha1 _ hq)⟩
            · rw [hset] at hj
              by_cases hji : j = i
              · simp [hji]
              · rw [if_neg hji] at hj; simp [h3.sub j hj]
            · rw [List.mem_append, List.mem_singleton] at hj
              rcases hj with hj | rfl
              · exact getD_set_true (h3.effs j hj he)
              · rw [hset, if_pos rfl]
            · obtain ⟨tr, ds⟩ := a
              refine put_rel h3.rel hle hv ?_
              rintro k hk ⟨j, hj, hlj, oj, hoj, hdj⟩
              refine ⟨j, by simp [hj], ?_, oj, hoj, hdj⟩
              rw [hset, if_neg]
              · exact hlj
              · rintro rfl; rw [ho] at hoj; cases hoj; exact hk hdj
            · unfold lagBase
              rw [hlagL al' ha1 ha2 hnal]
              exact hw'
            · obtain ⟨hj, hlj⟩ := hlj' j hj hlj
              exact (h3.fact j hj hlj).put (hlook j hj hlj) (fun oj u hoj hm hr hu => hpd j oj u hj hlj (hafter j hlj) hoj hm hr hu) (fun id ob hm hg => ⟨ha2 _ hm hlj, hget j id ob hlj hm hg⟩) fun id hm => ha1 _ hm
          obtain ⟨dn', rest', pd'', al'', t', σ'', k1, k2, k3, k4⟩ := plan_advance hp r (dn ++ [i]) pd' al' _ _ h1' h2' hInv
          exact ih dn' rest' pd'' al'' t' σ'' _ _ w' ρ2 k1 k4 k2 k3 (hq.up hle) (by omega)
        have still : ∀ {v : Value} {σ' : VHeap}, Still P ops pre (pd.filter fun x => !pre x.1 i) (al.filter fun x => !pre x.1 i) (vput t o.dst v) σ' →
            ∀ j oj u, j ∈ dn → L.getD j false = false → pre j i = false → ops[j]? = some oj → (j, u) ∈ pd → isRd P oj = true → vop P oj (vev t) (mskL σ (hid pre al j)) = some (.val u (mskL σ (hid pre al j))) →
              (j, u) ∈ (pd.filter fun x => !pre x.1 i) ∧ vop P oj (vev (vput t o.dst v)) (mskL σ' (hid pre (al.filter fun x => !pre x.1 i) j)) = some (.val u (mskL σ' (hid pre (al.filter fun x => !pre x.1 i) j))) := by
          intro v σ' hs j oj u _ _ hji hoj hm _ _
          have hmem : (j, u) ∈ pd.filter fun x => !pre x.1 i := List.mem_filter.2 ⟨hm, by simp [hji]⟩
          obtain ⟨o', ho', hv⟩ := hs _ hmem
          simp only at ho'
          rw [hoj] at ho'; cases ho'
          exact ⟨hmem, hv⟩
        unfold vplan at h2
        rw [ho] at h2
        simp only at h2
        by_cases hw : Region.wanted o (yielded ops t) = true
        · rw [if_pos hw] at h2 ⊢
          obtain ⟨hc, h2⟩ := h2
          rw [if_pos hce] at h2
          obtain ⟨hal, h2⟩ := h2
          left
          unfold Oper.wp
          rw [mskL_eq] at h2
          have halone : ∀ (id : Nat) ob, (hid pre al i).contains id = true → (msk σ (lag L al))[id]? = some ob → ob.live = true → ob.alone = true := by
            intro id ob hid hob hlv
            obtain ⟨-, hob⟩ := msk_some hob hlv
            have := List.all_eq_true.1 hal id (List.contains_iff_mem.1 hid)
            rw [hob] at this
            simp only [hlv, Bool.not_true, Bool.false_or] at this
            exact this
          have hlagsz : ∀ id, lag L al id = true → id < σ.size := fun id hl => by
            have := (h3.wrel.hole id (.inr hl)).2
            rwa [msk_size] at this
          have hps : ∀ id, (hid pre al i).contains id = true → id < (msk σ (lag L al)).size := by
            intro id hid
            rw [msk_size]
            have := List.all_eq_true.1 hal id (List.contains_iff_mem.1 hid)
            cases hg : σ[id]? with
            | none => rw [hg] at this; cases this
            | some o => exact (Array.getElem?_eq_some_iff.1 hg).1
          have hW := h3.wrel.protect (fun id => (hid pre al i).contains id) halone
          have hmm : msk (msk σ (lag L al)) (fun id => (hid pre al i).contains id) = msk σ fun id => (hid pre al i).contains id := by
            rw [msk_msk]
            congr 1
            funext id
            cases hl : lag L al id with
            | false => rfl
            | true => rw [hlagsub id hl]; rfl
          rw [hmm] at hW
          have hback : ∀ (σ1 : VHeap), Vm.back (msk σ (lag L al)) σ1 (fun id => (hid pre al i).contains id) = msk (backL σ σ1 (hid pre al i)) (lag L al) := by
            intro σ1
            rw [backL_eq]
            apply heap_ext
            intro id
            rw [back_get, msk_get, msk_get, back_get]
            cases σ1[id]? with
            | none => rfl
            | some o1 =>
              simp only [Option.map_some]
              cases hl : lag L al id with
              | true =>
                rw [hlagsub id hl]
                rw [Array.getElem?_eq_getElem (hlagsz id hl)]
                rfl
              | false =>
                cases hid' : (hid pre al i).contains id with
                | false => rfl
                | true => cases σ[id]? <;> rfl
          have hdo : ∀ {v v' : Value} {w' : World} {ρ2 : Rho} {σ1 : VHeap}, ρ.le ρ2 →
              WRel ρ2 σ1 w w' ⟨fun k => (lagBase B0 L al).U k ∨ ∃ id o i', (hid pre al i).contains id = true ∧ (msk σ (lag L al))[id]? = some o ∧ o.live = true ∧ ρ id = some i' ∧ i'.b = k, (lagBase B0 L al).H, fun k => (lagBase B0 L al).U k ∧ (lagBase B0 L al).Ro k⟩ →
              VRel ρ2 v v' → Still P ops pre (pd.filter fun x => !pre x.1 i) (al.filter fun x => !pre x.1 i) (vput t o.dst v) (backL σ σ1 (hid pre al i)) →
              vplan P cl ops pre eff Q r (pd.filter fun x => !pre x.1 i) (al.filter fun x => !pre x.1 i) (vput t o.dst v) (backL σ σ1 (hid pre al i)) →
              wpAny P .any ops Qr fuel (L.setIfInBounds i true) (a.put o.dst v') w' := by
            intro v v' w' ρ2 σ1 hle hw1 hv hs h2'
            refine fin hle (fun x hx => (List.mem_filter.1 hx).1) (fun x hx hxl => List.mem_filter.2 ⟨hx, by simp [hafter _ hxl]⟩) ?_ hv (still hs) (fun j id ob hlj hm hg => ?_) h2'
            · rw [← hback]
              exact h3.wrel.back halone hps hle hw1
            · have hl : lag L al id = true := lag_iff.2 ⟨_, hm, rfl, hlj⟩
              have hlt1 : id < σ1.size := (hw1.hole id (.inr hl)).2
              rw [backL_eq, back_get, Array.getElem?_eq_getElem hlt1, hlagsub id hl, hg]
              rfl
          split at h2
          · rename_i v σ1 hv
            obtain ⟨ρ2, v', w', k1, k2, k3, k4⟩ := vop_ok hW (hE hc) hv
            rw [k2, Oper.upon_value]
            exact hdo k1 k4 k3 h2.1 h2.2
          · rename_i σ1 hv
            obtain ⟨ρ2, w', k1, k2, k4⟩ := vop_ok hW (hE hc) hv
            rw [k2, Oper.upon_skip]
            exact hdo k1 k4 (undef_rel _) h2.1 h2.2
          · rename_i f args σ1 hv
            obtain ⟨ρ2, args', w', k1, k2, k3, k4⟩ := vop_ok hW (hE hc) hv
            rw [k2, Oper.upon_enter]
            refine (hcl f args args' σ1 _ ρ2 w w' _ h2 k3 k4).mono fun e w2 he => ?_
            cases e with
            | returned v' =>
              obtain ⟨ρ3, v, σ3, m1, m2, m3, m4⟩ := he
              exact hdo (Rho.le_trans k1 m1) m4 m3 m2.1 m2.2
            | panicked ch =>
              obtain ⟨ρ3, v, v', σ3, m1, rfl, m2, m3, m4⟩ := he
              exact m2.elim
            | outgrown => exact he.elim
          · exact h2.elim
        · rw [if_neg hw] at h2 ⊢
          refine fin (v := undef) (Rho.le_refl _) (fun _ h => h) (fun _ h _ => h) h3.wrel (undef_rel ρ) (fun j oj u hj hlj hji hoj hm hr hu => ⟨hm, ?_⟩) (fun _ _ _ _ _ h => h) h2
          rw [vop_congr (ev' := vev t)]
          · exact hu
          · exact fun x hx => vev_put fun d hxd e => (hlook j hj hlj oj d hoj e).1 (looks_tmp hx hxd)
/-- A region that draws its order, run by its plan. -/
def vdraw (P : Program) (cl : VCall) (ops : Array Oper) (Q : VPost) (t : Array Value) (σ : VHeap) : Prop :=
  ∃ pl pre eff, Plan ops pl pre eff ∧ vplan P cl ops pre eff Q pl [] [] t σ
theorem vdraw_ok (hcl : ClOk P cl) {ρ : Rho} {t : Array Value} {σ : VHeap} {a : Act} {w : World} (h : vdraw P cl ops Q t σ) (ha : ARel ρ t a.tmps) (hd : a.defers = []) (hw : WRel ρ σ w0 w B0) (hq : PostOk Q Qr ρ w0 B0) :
    wpAny P .any ops Qr ops.size (Array.replicate ops.size false) a w := by
  obtain ⟨pl, pre, eff, hp, h⟩ := h
  have hrep : ∀ j, (Array.replicate ops.size false).getD j false = false := by
    intro j
    rw [Array.getD_eq_getD_getElem?, Array.getElem?_replicate]
    split <;> rfl
  have hInv : Inv P ops pre eff w0 B0 [] [] [] t σ (Array.replicate ops.size false) a w ρ := by
    refine ⟨by simp, fun j hj => ?_, fun j hj => by simp at hj, fun j o hj => ?_, ⟨ha.1, fun k hk hk' _ => ha.2 k hk hk'⟩, hd, ?_, fun j hj => by simp at hj, fun x hx => by simp at hx, fun x hx => by simp at hx, fun x hx => by simp at hx, fun j p q hp => by simp at hp⟩
    · rw [hrep] at hj; cases hj
    · rw [hrep] at hj; cases hj
    · rw [show lag (Array.replicate ops.size false) [] = fun _ => false from rfl, msk_none]
      refine hw.fewer rfl rfl fun id hid => ?_
      rcases hid with hid | hid
      · exact hid
      · cases hid
  obtain ⟨dn', rest', pd', al', t', σ', k1, k2, k3, k4⟩ := plan_advance hp pl [] [] [] t σ rfl h hInv
  refine plan_ok hcl hp Q Qr _ dn' rest' pd' al' t' σ' _ a w ρ k1 k4 k2 k3 hq ?_
  have := List.countP_le_length (p := fun j => !(Array.replicate ops.size false).getD j true) (l := List.range ops.size)
  rw [List.length_range] at this
  exact this
end
end Vm
end Go.Proofs.Ytodjjnklelfgfaa
namespace Go.Proofs.Ytodjjnklelfgfaa
namespace Vm
set_option linter.unusedSimpArgs false
set_option linter.unusedVariables false
open Go.RowKit

/-- Blocks that nobody looks at any more. -/
def Forget (σ σ' : VHeap) : Prop := σ'.size = σ.size ∧ ∀ id : Nat, σ'[id]? = σ[id]? ∨ σ'[id]? = some gone
theorem Forget.refl (σ : VHeap) : Forget σ σ := ⟨rfl, fun _ => .inl rfl⟩
theorem WRel.forget {ρ : Rho} {σ σ' : VHeap} {w0 w : World} {B0 : Base} (h : WRel ρ σ w0 w B0) (hf : Forget σ σ') : WRel ρ σ' w0 w B0 := by
  have hsome : ∀ {id : Nat} {o : VObj}, σ'[id]? = some o → o.live = true → σ[id]? = some o := fun {id o} ho hl => by
    rcases hf.2 id with e | e
    · rw [← e]; exact ho
    · rw [e] at ho; cases ho; simp [gone, VObj.live] at hl
  have hlive : ∀ {o : VObj}, o.own = true → o.live = true := fun {o} ho => by
    cases o with
    | cells b => simp only [VObj.own, Bool.and_eq_true] at ho; exact ho.1
    | _ => rfl
  exact ⟨fun id hid => h.dom id (by rw [← hf.1]; exact hid), fun id b hb hd => h.blk id b (hsome hb (by simpa [VObj.live] using hd)) hd,
    fun id es c hg => h.map id es c (hsome hg rfl), fun id es c hg => h.rmap id es c (hsome hg rfl), fun id s p hg => h.iter id s p (hsome hg rfl),
    fun id1 id2 o1 o2 i1 i2 hne g1 g2 w1 w2 r1 r2 he => h.sep id1 id2 o1 o2 i1 i2 hne (hsome g1 (hlive w1)) (hsome g2 (hlive w2)) w1 w2 r1 r2 he,
    h.base, h.below, fun id hid => ⟨(h.hole id hid).1, by rw [hf.1]; exact (h.hole id hid).2⟩⟩
def vwpC (P : Program) (rec : Code → VPost → Array Value → VHeap → Prop) (cl : VCall) : Code → VPost → Array Value → VHeap → Prop
  | .skip, Q, t, σ => Q .normal t σ
  | .region _ ops draw, Q, t, σ => match draw with
    | false => vwpOps P cl ops Q (List.range ops.size) t σ
    | true => (∀ k, vwpOps P cl ops Q (Region.linearise .any ops k) t σ) ∨ vdraw P cl ops Q t σ
  | .seq a b, Q, t, σ => vwpC P rec cl a (fun e t σ => match e with
      | .normal => ∃ σ', Forget σ σ' ∧ vwpC P rec cl b Q t σ'
      | e => Q e t σ) t σ
  | .cond c a b, Q, t, σ => match vev t c with
      | .bool x => bif x then vwpC P rec cl a Q t σ else vwpC P rec cl b Q t σ
      | _ => False
  | .block id b, Q, t, σ => vwpC P rec cl b (fun e t σ => match e with
      | .exit j => if j = id then Q .normal t σ else Q (.exit j) t σ
      | e => Q e t σ) t σ
  | .loop b, Q, t, σ => vwpC P rec cl b (fun e t σ => match e with
      | .normal => rec (.loop b) Q t σ
      | e => Q e t σ) t σ
  | .exit id, Q, t, σ => Q (.exit id) t σ
  | .ret, Q, t, σ => Q .ret t σ
  | .label _, Q, t, σ => Q .normal t σ
  | _, _, _, _ => False
def vbody (P : Program) (W : Code → VPost → Array Value → VHeap → Prop) (f : FuncId) (args : Array Value) (σ : VHeap) (R : VC → Prop) : Prop :=
  match P.funcs[f]? with
  | some fn => match fn.body with
    | some c => W c (fun e t σ' => match e with
        | .normal | .ret => ∃ v σ'', vrun P (results fn t) σ' = some (v, σ'') ∧ R (.ret v σ'')
        | .pan v => R (.pan v σ')
        | .exit _ => False) (args ++ Array.replicate (fn.ntmps - args.size) undef) σ
    | none => False
  | none => False
def vcallOf (P : Program) (E : VCall) (W : Code → VPost → Array Value → VHeap → Prop) : VCall := fun f args σ R =>
  vbody P W f args σ R ∨ vbody P W f args (frozenHeap σ) (fun r => match r with
    | .ret v _ => clean v = true ∧ R (.ret v σ)
    | .pan _ _ => False) ∨ E f args σ R
def vwp (P : Program) (E : VCall) : Nat → Code → VPost → Array Value → VHeap → Prop
  | 0 => fun _ _ _ _ => False
  | n + 1 => vwpC P (vwp P E n) (vcallOf P E (vwp P E n))
def vcallW (P : Program) (E : VCall) (n : Nat) : VCall := vcallOf P E (vwp P E n)

section
variable {P : Program} {w0 : World} {B0 : Base}
theorem code_ok {rec : Code → VPost → Array Value → VHeap → Prop} {cl : VCall} (n : Nat) (hm : P.follows .mixedOrders = true) (hcl : ClOk P cl)
    (hrec : ∀ (b : Code) (Q : VPost) (Qr : Exit → Act → World → Prop) (ρ : Rho) (t : Array Value) (σ : VHeap) (a : Act) (w : World),
      rec (.loop b) Q t σ → ARel ρ t a.tmps → a.defers = [] → WRel ρ σ w0 w B0 → PostOk Q Qr ρ w0 B0 → Code.rounds P b Qr n a w) :
    ∀ (c : Code) (Q : VPost) (Qr : Exit → Act → World → Prop) (ρ : Rho) (t : Array Value) (σ : VHeap) (a : Act) (w : World),
      vwpC P rec cl c Q t σ → ARel ρ t a.tmps → a.defers = [] → WRel ρ σ w0 w B0 → PostOk Q Qr ρ w0 B0 → c.wp P Qr a w := by
  intro c
  induction c with
  | skip => intro Q Qr ρ t σ a w h ha hd hw hq; exact wp_skip (hq ρ .normal t σ a w (Rho.le_refl _) h ha hd hw)
  | region id ops draw =>
    intro Q Qr ρ t σ a w h ha hd hw hq
    cases draw with
    | false => exact wp_region (ops_ok hcl ops Q Qr _ ρ t σ a w h ha hd hw hq)
    | true =>
      rcases h with h | h
      · refine wp_region_draw fun k => ?_
        simp only [Region.schedule, hm, Bool.true_or, if_true]
        exact ops_ok hcl ops Q Qr _ ρ t σ a _ (h k) ha hd (hw.later ((Below.refl _ _).drew)) hq
      · exact wp_region_any hm (vdraw_ok hcl h ha hd (hw.later ((Below.refl _ _).drew)) hq)
  | seq x y ihx ihy =>
    intro Q Qr ρ t σ a w h ha hd hw hq
    refine wp_seq (ihx _ _ ρ t σ a w h ha hd hw ?_)
    intro ρ2 e t2 σ2 a2 w2 hle he ha2 hd2 hw2
    cases e with
    | normal =>
      obtain ⟨σ', hf, he⟩ := he
      exact ihy Q Qr ρ2 t2 σ' a2 w2 he ha2 hd2 (hw2.forget hf) (hq.up hle)
    | exit id => exact hq ρ2 (.exit id) t2 σ2 a2 w2 hle he ha2 hd2 hw2
    | ret => exact hq ρ2 .ret t2 σ2 a2 w2 hle he ha2 hd2 hw2
    | pan v => exact hq ρ2 (.pan v) t2 σ2 a2 w2 hle he ha2 hd2 hw2
  | cond c x y ihx ihy =>
    intro Q Qr ρ t σ a w h ha hd hw hq
    simp only [vwpC] at h
    split at h
    case h_2 => exact h.elim
    rename_i b hb
    have hc : a.eval c = .bool b := by
      obtain ⟨tr, ds⟩ := a
      cases c with
      | tmp i =>
        have := ha.getD i
        simp only [vev] at hb
        rw [hb] at this
        exact cleanC_eq rfl this
      | const v => exact hb
      | global g => simp [vev] at hb
      | func f => simp [vev] at hb
    refine wp_cond hc ?_
    cases b with
    | true => exact ihx Q Qr ρ t σ a w h ha hd hw hq
    | false => exact ihy Q Qr ρ t σ a w h ha hd hw hq
  | block id b ih =>
    intro Q Qr ρ t σ a w h ha hd hw hq
    refine wp_block (ih _ _ ρ t σ a w h ha hd hw ?_)
    intro ρ2 e t2 σ2 a2 w2 hle he ha2 hd2 hw2
    cases e with
    | normal => exact hq ρ2 .normal t2 σ2 a2 w2 hle he ha2 hd2 hw2
    | exit j =>
      simp only [EndOk, Exit.inBlock] at he ⊢
      by_cases hj : j = id
      · rw [if_pos hj] at he ⊢; exact hq ρ2 .normal t2 σ2 a2 w2 hle he ha2 hd2 hw2
      · rw [if_neg hj] at he ⊢; exact hq ρ2 (.exit j) t2 σ2 a2 w2 hle he ha2 hd2 hw2
    | ret => exact hq ρ2 .ret t2 σ2 a2 w2 hle he ha2 hd2 hw2
    | pan v => exact hq ρ2 (.pan v) t2 σ2 a2 w2 hle he ha2 hd2 hw2
  | loop b ih =>
    intro Q Qr ρ t σ a w h ha hd hw hq
    refine wp_loop_rounds (n + 1) ?_
    rw [rounds_succ]
    refine ih _ _ ρ t σ a w h ha hd hw ?_
    intro ρ2 e t2 σ2 a2 w2 hle he ha2 hd2 hw2
    cases e with
    | normal => exact hrec b Q Qr ρ2 t2 σ2 a2 w2 he ha2 hd2 hw2 (hq.up hle)
    | exit id => exact hq ρ2 (.exit id) t2 σ2 a2 w2 hle he ha2 hd2 hw2
    | ret => exact hq ρ2 .ret t2 σ2 a2 w2 hle he ha2 hd2 hw2
    | pan v => exact hq ρ2 (.pan v) t2 σ2 a2 w2 hle he ha2 hd2 hw2
  | exit id => intro Q Qr ρ t σ a w h ha hd hw hq; exact wp_exit (hq ρ (.exit id) t σ a w (Rho.le_refl _) h ha hd hw)
  | ret => intro Q Qr ρ t σ a w h ha hd hw hq; exact wp_ret (hq ρ .ret t σ a w (Rho.le_refl _) h ha hd hw)
  | label l => intro Q Qr ρ t σ a w h ha hd hw hq; exact wp_label (hq ρ .normal t σ a w (Rho.le_refl _) h ha hd hw)
  | _ => intro Q Qr ρ t σ a w h ha hd hw hq; exact h.elim
end
/-- Every level is sound. -/
def WOk (P : Program) (n : Nat) (W : Code → VPost → Array Value → VHeap → Prop) : Prop :=
  ∀ (w0 : World) (B0 : Base) (c : Code) (Q : VPost) (Qr : Exit → Act → World → Prop) (ρ : Rho) (t : Array Value) (σ : VHeap) (a : Act) (w : World),
    W c Q t σ → ARel ρ t a.tmps → a.defers = [] → WRel ρ σ w0 w B0 → PostOk Q Qr ρ w0 B0 → c.wp P Qr a w ∧ ∀ b, c = .loop b → Code.rounds P b Qr n a w
theorem body_ok {P : Program} {n : Nat} {W : Code → VPost → Array Value → VHeap → Prop} (hW : WOk P n W) {f : FuncId} {args args' : Array Value} {σ : VHeap} {R : VC → Prop} {ρ : Rho} {w0 w : World} {B0 : Base}
    (h : vbody P W f args σ R) (ha : ARel ρ args args') (hw : WRel ρ σ w0 w B0) : Calls P f args' w (CPost ρ w0 B0 R) := by
  unfold vbody at h
  split at h
  case h_2 => exact h.elim
  rename_i fn hfn
  split at h
  case h_2 => exact h.elim
  rename_i c hc
  refine calls_of_wp hfn hc ?_
  have hrep : ARel ρ (args ++ Array.replicate (fn.ntmps - args.size) undef) (args' ++ Array.replicate (fn.ntmps - args'.size) undef) := by
    rw [ha.1]
    refine ha.append ⟨rfl, fun k hk hk' => ?_⟩
    simp only [Array.getElem_replicate]
    exact undef_rel ρ
  refine (hW w0 B0 c _ _ ρ _ σ _ w h hrep rfl hw ?_).1
  intro ρ2 e t2 σ2 a2 w2 hle he ha2 hd2 hw2
  have hres : (∃ v σ'', vrun P (results fn t2) σ2 = some (v, σ'') ∧ R (.ret v σ'')) → a2.defers = [] ∧ ∃ v, (results fn a2.tmps).run P w2 = .ok v w2 ∧ CPost ρ w0 B0 R (.returned v) w2 := by
    rintro ⟨v, σ3, h1, h2⟩
    obtain ⟨ρ3, v', g1, g2, g3, g4⟩ := results_ok hw2 ha2 h1
    exact ⟨hd2, v', g2, ρ3, v, σ3, Rho.le_trans hle g1, h2, g3, g4⟩
  cases e with
  | normal => exact hres he
  | ret => exact hres he
  | exit id => exact he.elim
  | pan v => exact fun v' hv => ⟨hd2, ρ2, v, v', σ2, hle, rfl, he, hv, hw2⟩
theorem cl_ok {P : Program} {E : VCall} {n : Nat} {W : Code → VPost → Array Value → VHeap → Prop} (hE : ClOk P E) (hW : WOk P n W) : ClOk P (vcallOf P E W) := by
  intro f args args' σ R ρ w0 w B0 h ha hw
  rcases h with h | h | h
  · exact body_ok hW h ha hw
  · refine (body_ok hW h ha.frz hw.freeze).mono fun e w2 he => ?_
    cases e with
    | returned v' =>
      obtain ⟨ρ2, v, σ', h1, ⟨hcl, h2⟩, h3, h4⟩ := he
      obtain rfl := clean_eq hcl h3
      exact ⟨ρ, v', σ, Rho.le_refl _, h2, clean_rel hcl ρ, hw.later ⟨h4.below.os, h4.below.tape, h4.below.output, h4.below.size, fun k hk => h4.below.block k hk⟩⟩
    | panicked ch =>
      obtain ⟨ρ2, v, v', σ', h1, _, h2, _⟩ := he
      exact h2.elim
    | outgrown => exact he.elim
  · exact hE f args args' σ R ρ w0 w B0 h ha hw
theorem vwp_ok {P : Program} {E : VCall} (hm : P.follows .mixedOrders = true) (hE : ClOk P E) : ∀ n, WOk P n (vwp P E n) := by
  intro n
  induction n with
  | zero => intro w0 B0 c Q Qr ρ t σ a w h; exact h.elim
  | succ n ih =>
    have hcl := cl_ok hE ih
    have hrec : ∀ (w0 : World) (B0 : Base) (b : Code) (Q : VPost) (Qr : Exit → Act → World → Prop) (ρ : Rho) (t : Array Value) (σ : VHeap) (a : Act) (w : World),
      vwp P E n (.loop b) Q t σ → ARel ρ t a.tmps → a.defers = [] → WRel ρ σ w0 w B0 → PostOk Q Qr ρ w0 B0 → Code.rounds P b Qr n a w :=
      fun w0 B0 b Q Qr ρ t σ a w h ha hd hw hq => (ih w0 B0 (.loop b) Q Qr ρ t σ a w h ha hd hw hq).2 b rfl
    intro w0 B0 c Q Qr ρ t σ a w h ha hd hw hq
    refine ⟨code_ok n hm hcl (hrec w0 B0) c Q Qr ρ t σ a w h ha hd hw hq, ?_⟩
    rintro b rfl
    rw [rounds_succ]
    refine code_ok n hm hcl (hrec w0 B0) b _ _ ρ t σ a w h ha hd hw ?_
    intro ρ2 e t2 σ2 a2 w2 hle he ha2 hd2 hw2
    cases e with
    | normal => exact hrec w0 B0 b Q Qr ρ2 t2 σ2 a2 w2 he ha2 hd2 hw2 (hq.up hle)
    | exit id => exact hq ρ2 (.exit id) t2 σ2 a2 w2 hle he ha2 hd2 hw2
    | ret => exact hq ρ2 .ret t2 σ2 a2 w2 hle he ha2 hd2 hw2
    | pan v => exact hq ρ2 (.pan v) t2 σ2 a2 w2 hle he ha2 hd2 hw2
/-- What the virtual machine shows of a call holds of the real one. -/
theorem calls_ok {P : Program} {E : VCall} (hm : P.follows .mixedOrders = true) (hE : ClOk P E) {n : Nat} {f : FuncId} {args args' : Array Value} {σ : VHeap} {R : VC → Prop} {ρ : Rho} {w0 w : World} {B0 : Base}
    (h : vcallW P E n f args σ R) (ha : ARel ρ args args') (hw : WRel ρ σ w0 w B0) : Calls P f args' w (CPost ρ w0 B0 R) := cl_ok hE (vwp_ok hm hE n) f args args' σ R ρ w0 w B0 h ha hw
end Vm
end Go.Proofs.Ytodjjnklelfgfaa
namespace Go.Proofs.Ytodjjnklelfgfaa
namespace Vm
set_option linter.unusedSimpArgs false
set_option linter.unusedVariables false
open Go.RowKit

/-- What may turn memory, or look at more of it than one cell. -/
def effOf (P : Program) (o : Oper) : Bool := match o.op with
  | .move _ | .pick .. | .build .. | .nilCheck _ | .binOp .. | .unOp .. | .makeInterface .. | .makeFunc .. | .fieldAddr .. | .field .. | .indexAddr .. | .index .. | .extract .. | .load .. | .slice .. | .alloc _ | .box .. | .buildSlice .. | .makeMap _ none => false
  | .convert s d _ => match P.underlying s, P.underlying d with
    | some (.int _), some (.int _) => false
    | some (.slice _), some .string => false
    | _, _ => true
  | .call c => match c.callee with
    | .builtin .len => match c.argTypes with
      | ⟨[t]⟩ => match P.underlying t with
        | some (.map _ _) => true
        | _ => false
      | _ => false
    | _ => true
  | _ => true
def maskStep (m : List Nat) (acc : Nat) (e : Edge) : Nat := bif Region.binds .any e then acc ||| (1 <<< e.on) ||| m.getD e.on 0 else acc
def maskOf (m : List Nat) (o : Oper) : Nat := o.after.toList.foldl (maskStep m) 0
def masksOf (ops : Array Oper) (pl : List Nat) : List Nat :=
  pl.foldl (fun m i => match ops[i]? with
    | some o => m.set i (maskOf m o)
    | none => m) (List.replicate ops.size 0)
def preOf (m : List Nat) (j i : Nat) : Bool := (m.getD i 0).testBit j
def readyIn (ops : Array Oper) (dn : List Nat) (i : Nat) : Bool := match ops[i]? with
  | some o => !dn.contains i && o.after.toList.all fun e => !Region.binds .any e || dn.contains e.on
  | none => false
def effAt (P : Program) (ops : Array Oper) (i : Nat) : Bool := match ops[i]? with
  | some o => effOf P o
  | none => true
def asap (P : Program) (ops : Array Oper) : Nat → List Nat → List Nat
  | 0, dn => dn.reverse
  | n + 1, dn => match (List.range ops.size).find? fun i => !effAt P ops i && readyIn ops dn i with
    | some i => asap P ops n (i :: dn)
    | none => match (List.range ops.size).find? fun i => readyIn ops dn i with
      | some i => asap P ops n (i :: dn)
      | none => dn.reverse
def nodupB : List Nat → Bool
  | [] => true
  | i :: l => !l.contains i && nodupB l
def edgesB (ops : Array Oper) : List Nat → List Nat → Bool
  | _, [] => true
  | dn, i :: rest => (match ops[i]? with
    | some o => o.after.toList.all fun e => !Region.binds .any e || dn.contains e.on
    | none => true) && edgesB ops (i :: dn) rest
def orderB (eff : Nat → Bool) (pre : Nat → Nat → Bool) : List Nat → Bool
  | [] => true
  | c :: rest => (!eff c || rest.all (pre c)) && orderB eff pre rest
def planOk (ops : Array Oper) (pl : List Nat) (m : List Nat) (eff : Nat → Bool) : Bool :=
  (List.range ops.size).all (fun i => pl.contains i) && pl.all (fun i => decide (i < ops.size)) && nodupB pl && edgesB ops [] pl &&
  (List.range ops.size).all (fun i => match ops[i]? with
    | some o => m.getD i 0 == maskOf m o
    | none => true) &&
  (List.range ops.size).all (fun i => match ops[i]? with
    | some oi => (List.range ops.size).all fun j => match ops[j]? with
      | some oj => match oj.dst with
        | some d => (oi.dst != some d || i == j) && (!(oi.looksAt ops).contains d || (preOf m j i || (preOf m i j && eff j)))
        | none => true
      | none => true
    | none => true) &&
  orderB eff (preOf m) pl

theorem nodupB_ok : ∀ {l : List Nat}, nodupB l = true → l.Nodup
  | [], _ => List.nodup_nil
  | i :: l, h => by
    simp only [nodupB, Bool.and_eq_true, Bool.not_eq_true', List.contains_eq_mem, decide_eq_false_iff_not] at h
    exact List.nodup_cons.2 ⟨h.1, nodupB_ok h.2⟩
theorem edgesB_ok {ops : Array Oper} : ∀ (l d0 : List Nat), edgesB ops d0 l = true → ∀ dn i rest o, l = dn ++ i :: rest → ops[i]? = some o → ∀ e ∈ o.after, Region.binds .any e = true → e.on ∈ dn ∨ e.on ∈ d0 := by
  intro l
  induction l with
  | nil => intro d0 _ dn i rest o hl; simp at hl
  | cons x l ih =>
    intro d0 h dn i rest o hl ho e he hb
    simp only [edgesB, Bool.and_eq_true] at h
    cases dn with
    | nil =>
      simp only [List.nil_append, List.cons.injEq] at hl
      obtain ⟨rfl, rfl⟩ := hl
      rw [ho] at h
      have := List.all_eq_true.1 h.1 e (by simpa using he)
      rw [hb] at this
      right
      simpa using this
    | cons y dn =>
      simp only [List.cons_append, List.cons.injEq] at hl
      obtain ⟨rfl, hl⟩ := hl
      rcases ih _ h.2 dn i rest o hl ho e he hb with h | h
      · left; simp [h]
      · rcases List.mem_cons.1 h with h | h
        · left; simp [h]
        · exact .inr h
theorem orderB_ok {eff : Nat → Bool} {pre : Nat → Nat → Bool} : ∀ (l : List Nat), orderB eff pre l = true → ∀ dn c rest, l = dn ++ c :: rest → eff c = true → ∀ a ∈ rest, pre c a = true := by
  intro l
  induction l with
  | nil => intro _ dn c rest hl; simp at hl
  | cons x l ih =>
    intro h dn c rest hl he a ha
    simp only [orderB, Bool.and_eq_true] at h
    cases dn with
    | nil =>
      simp only [List.nil_append, List.cons.injEq] at hl
      obtain ⟨rfl, rfl⟩ := hl
      rw [he] at h
      exact List.all_eq_true.1 h.1 a ha
    | cons y dn =>
      simp only [List.cons_append, List.cons.injEq] at hl
      exact ih h.2 dn c rest hl.2 he a ha
theorem mask_bit {m : List Nat} : ∀ (l : List Edge) (acc j : Nat), (l.foldl (maskStep m) acc).testBit j = true → acc.testBit j = true ∨ ∃ e ∈ l, Region.binds .any e = true ∧ (e.on = j ∨ (m.getD e.on 0).testBit j = true) := by
  intro l
  induction l with
  | nil => intro acc j h; exact .inl h
  | cons e l ih =>
    intro acc j h
    rcases ih _ j h with h | ⟨e', h1, h2⟩
    · unfold maskStep at h
      cases hb : Region.binds .any e with
      | false => rw [hb] at h; exact .inl h
      | true =>
        rw [hb] at h
        simp only [cond_true, Nat.testBit_or, Bool.or_eq_true] at h
        rcases h with (h | h) | h
        · exact .inl h
        · refine .inr ⟨e, by simp, hb, .inl ?_⟩
          rw [Nat.one_shiftLeft, Nat.testBit_two_pow] at h
          simpa using h
        · exact .inr ⟨e, by simp, hb, .inr h⟩
    · exact .inr ⟨e', by simp [h1], h2⟩
theorem planOk_ok {ops : Array Oper} {pl m : List Nat} {eff : Nat → Bool} (h : planOk ops pl m eff = true) : Plan ops pl (preOf m) eff := by
  simp only [planOk, Bool.and_eq_true] at h
  obtain ⟨⟨⟨⟨⟨⟨h1, h2⟩, h3⟩, h4⟩, h5⟩, h6⟩, h7⟩ := h
  have hin : ∀ {i : Nat} {o : Oper}, ops[i]? = some o → i ∈ List.range ops.size := fun ho => List.mem_range.2 (Array.getElem?_eq_some_iff.1 ho).1
  have hpair : ∀ (i j : Nat) (oi oj : Oper) d, ops[i]? = some oi → ops[j]? = some oj → oj.dst = some d → (oi.dst = some d → i = j) ∧ (d ∈ oi.looksAt ops → preOf m j i = true ∨ (preOf m i j = true ∧ eff j = true)) := by
    intro i j oi oj d hi hj hd
    have := List.all_eq_true.1 h6 i (hin hi)
    rw [hi] at this
    simp only at this
    have := List.all_eq_true.1 this j (hin hj)
    rw [hj] at this
    simp only [hd, Bool.and_eq_true, Bool.or_eq_true, bne_iff_ne, ne_eq, beq_iff_eq, Bool.not_eq_true', List.contains_eq_mem, decide_eq_false_iff_not] at this
    exact ⟨fun e => this.1.resolve_left (fun n => n e), fun e => this.2.resolve_left (fun n => n e)⟩
  refine ⟨fun i hi => ?_, fun i hi => ?_, nodupB_ok h3, fun dn i rest o hp ho e he hb => ?_, fun i o ho j hj => ?_, fun i j oi oj d hi hj hdi hdj => (hpair i j oi oj d hi hj hdj).1 hdi, fun i j oi oj d hi hj hd hl => (hpair i j oi oj d hi hj hd).2 hl, orderB_ok pl h7⟩
  · simpa using List.all_eq_true.1 h1 i (List.mem_range.2 hi)
  · simpa using List.all_eq_true.1 h2 i hi
  · rcases edgesB_ok pl [] h4 dn i rest o hp ho e he hb with h | h
    · exact h
    · simp at h
  · have := List.all_eq_true.1 h5 i (hin ho)
    rw [ho] at this
    simp only [beq_iff_eq] at this
    unfold preOf at hj ⊢
    rw [this] at hj
    unfold maskOf at hj
    rcases mask_bit _ 0 j hj with h | ⟨e, he, hb, hc⟩
    · simp at h
    · exact ⟨e, by simpa using he, hb, hc⟩
end Vm
end Go.Proofs.Ytodjjnklelfgfaa
