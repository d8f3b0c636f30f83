/- append: at the end of a line the virtual row is always copied; the real one is written in place or laid anew. -/
import Derived.Test.YtodjjnklelfgfaaVm12
namespace Go.Proofs.Ytodjjnklelfgfaa
namespace Vm
set_option linter.unusedSimpArgs false
set_option linter.unusedVariables false
open Go.RowKit

def isIntT : TypeDesc → Bool
  | .int _ => true
  | _ => false
def vlen : Value → Option Nat
  | .slice _ n _ => some n
  | .string s => some s.size
  | _ => none
section
variable {P : Program} {w0 w : World} {B0 : Base} {ρ : Rho} {σ : VHeap}
theorem pv_lenOf {x : Value} {m : Nat} (h : vlen x = some m) : pv P (Builtin.lenOf x) = some m := by
  cases x <;> first | (cases h; done) | (cases h; rfl)
theorem run_append_fit {ts : Array TypeId} {t t0 t1 e : TypeId} {d1 : TypeDesc} {info : TypeInfo} {base : Option Addr} {n c m : Nat} {x : Value} {w : World}
    (h0 : ts[0]? = some t0) (h1 : ts[1]? = some t1) (hu0 : P.underlying t0 = some (.slice e)) (hu1 : P.underlying t1 = some d1) (hd : isIntT d1 = false) (hi : P.info? e = some info) (hl : vlen x = some m) (hfit : n + m ≤ c) :
    (Builtin.append_ ts t #[.slice base n c, x]).run P w = (((Builtin.firstCells info.size m x).run P w).andThen fun new w1 =>
        (match base with
          | some a => (do storeCells (a.add (n * info.size)) new.toList; pure (.slice base (n + m) c) : Sem Value)
          | _ => pure (.slice base (n + m) c)).run P w1) := by
  unfold Builtin.append_
  have hm : Go.Builtin.append_.match_1 (fun _ => Bool) d1 (fun k => true) (fun x => false) = false := by cases d1 <;> first | rfl | (simp [isIntT] at hd)
  simp only [h0, h1, List.getElem?_toArray, List.getElem?_cons_zero, List.getElem?_cons_succ]
  rw [Sem.run_bind, pv_run (pv_underlying hu0)]
  simp only [Result.andThen_ok]
  rw [Sem.run_bind, pv_run (pv_sizeOf hi)]
  simp only [Result.andThen_ok]
  rw [Sem.run_bind, pv_run (pv_underlying hu1)]
  simp only [Result.andThen_ok]
  rw [Sem.run_bind, Sem.run_pure]
  simp only [Result.andThen_ok, hm, Bool.false_eq_true, if_false, Bool.not_false, if_true]
  rw [Sem.run_bind, pv_run (pv_lenOf hl)]
  simp only [Result.andThen_ok, hfit, if_true]
  rw [Sem.run_bind]
  rfl
theorem growBy_le (L : Nat) : ∀ (r c : Nat), c ≤ L → Builtin.growBy L r c ≤ 2 * L + 256 := by
  intro r
  induction r with
  | zero => intro c h; simp [Builtin.growBy]; omega
  | succ r ih =>
    intro c h
    unfold Builtin.growBy
    split
    · omega
    · rename_i h2
      by_cases h3 : c + (c + 768) / 4 ≤ L
      · exact ih _ h3
      · cases r with
        | zero => simp [Builtin.growBy]; omega
        | succ r =>
          unfold Builtin.growBy
          rw [if_pos (by omega)]
          omega
theorem nextcap_le {L c : Nat} (h : c < L) : Builtin.nextslicecap L c ≤ 2 * L + 256 := by
  unfold Builtin.nextslicecap
  split
  · omega
  · split
    · omega
    · exact growBy_le L 4 c (by omega)
theorem run_append_grow {ts : Array TypeId} {t t0 t1 e : TypeId} {d1 : TypeDesc} {info : TypeInfo} {z : Value} {base : Option Addr} {n c m : Nat} {x : Value} {w : World} {old new : Array Value}
    (h0 : ts[0]? = some t0) (h1 : ts[1]? = some t1) (hu0 : P.underlying t0 = some (.slice e)) (hu1 : P.underlying t1 = some d1) (hd : isIntT d1 = false) (hi : P.info? e = some info) (hz : info.zero = some z) (hl : vlen x = some m) (hfit : ¬ n + m ≤ c)
    (hb : 0 < info.bytes) (hcap : (2 * (n + m) + 256) * info.bytes ≤ 2 ^ 48)
    (ho : ∀ w1 : World, w1.heap = w.heap → (Builtin.firstCells info.size n (.slice base n c)).run P w1 = .ok old w1) (hn : ∀ w1 : World, w1.heap = w.heap → (Builtin.firstCells info.size m x).run P w1 = .ok new w1) :
    ∃ k, n + m ≤ k ∧ (Builtin.append_ ts t #[.slice base n c, x]).run P w = .ok (.slice (some ⟨w.heap.size, 0, none⟩) (n + m) k) (w.drew.alloc (.cells (old ++ new ++ Builtin.zeroCells z.cells (k - (n + m))) e)) := by
  refine ⟨(Question.appendCap (n + m) c e).cut (w.tape w.drawn (.appendCap (n + m) c e)), by simp [Question.cut], ?_⟩
  unfold Builtin.append_
  have hm : Go.Builtin.append_.match_1 (fun _ => Bool) d1 (fun k => true) (fun x => false) = false := by cases d1 <;> first | rfl | (simp [isIntT] at hd)
  simp only [h0, h1, List.getElem?_toArray, List.getElem?_cons_zero, List.getElem?_cons_succ]
  rw [Sem.run_bind, pv_run (pv_underlying hu0)]
  simp only [Result.andThen_ok]
  rw [Sem.run_bind, pv_run (pv_sizeOf hi)]
  simp only [Result.andThen_ok]
  rw [Sem.run_bind, pv_run (pv_underlying hu1)]
  simp only [Result.andThen_ok]
  rw [Sem.run_bind, Sem.run_pure]
  simp only [Result.andThen_ok, hm, Bool.false_eq_true, if_false, Bool.not_false, if_true]
  rw [Sem.run_bind, pv_run (pv_lenOf hl)]
  simp only [Result.andThen_ok, hfit, if_false]
  rw [Sem.run_bind, pv_run (pv_typeInfo hi)]
  have hb0 : ¬ info.bytes = 0 := by omega
  have hlim : ¬ Builtin.nextslicecap (n + m) c * info.bytes > 2 ^ 48 := by
    have := Nat.mul_le_mul_right info.bytes (nextcap_le (L := n + m) (c := c) (by omega))
    omega
  simp only [Result.andThen_ok, false_or, hb0, and_false, if_false]
  rw [Sem.run_bind, pv_run (pv_typeInfo hi)]
  simp only [Result.andThen_ok, hlim, if_false]
  rw [Sem.run_bind, run_choose]
  have hff : (Question.appendCap (n + m) c e).forced = false := rfl
  simp only [hff, Bool.false_eq_true, if_false, Result.andThen_ok]
  rw [Sem.run_bind, pv_run (pv_typeInfo hi)]
  simp only [Result.andThen_ok]
  rw [Sem.run_bind, run_askRoom]
  simp only [Result.andThen_ok]
  rw [Sem.run_bind, ho { heap := w.heap, tape := w.tape, drawn := w.drawn + 1, os := w.os, output := w.output } rfl]
  simp only [Result.andThen_ok]
  rw [Sem.run_bind, hn { heap := w.heap, tape := w.tape, drawn := w.drawn + 1, os := w.os, output := w.output } rfl]
  simp only [Result.andThen_ok]
  have hzv : pv P (zeroValue e) = some z := by
    unfold zeroValue
    rw [pv_bind, pv_typeInfo hi]
    simp only [Option.bind_some, hz]
    rfl
  rw [Sem.run_bind, pv_run hzv]
  simp only [Result.andThen_ok]
  rfl

/-- What has room in a virtual row. -/
def vfit (P : Program) (σ : VHeap) (base : Option Addr) (n c m size : Nat) (news : Array Value) : Option (Value × VHeap) :=
  if n + m ≤ c then
    match base with
    | none => some (.slice none (n + m) c, σ)
    | some a =>
      match vrun P (storeCells (a.add (n * size)) news.toList) σ with
      | some (_, σ') => some (.slice (some a) (n + m) c, σ')
      | none => none
  else none
def vappend (P : Program) (σ : VHeap) (ts : Array TypeId) (s x : Value) : Option (Value × VHeap) :=
  match ts[0]?, ts[1]?, s, vlen x with
  | some t0, some t1, .slice base n c, some m =>
    match P.underlying t0, P.underlying t1 with
    | some (.slice e), some d1 =>
      match P.info? e with
      | some info =>
        if isIntT d1 then none else
        match info.zero, vfirst σ info.size m x with
        | some z, some news =>
          match vfit P σ base n c m info.size news with
          | some r => some r
          | none =>
          if (2 * (n + m) + 256) * info.bytes ≤ 2 ^ 48 ∧ 0 < info.bytes ∧ z.cells.size = info.size ∧ news.all Value.oneCell' ∧ news.size = m * info.size then
            match base with
            | none => if n = 0 ∧ ¬ n + m ≤ c then some (.slice (some ⟨σ.size, 0, none⟩) (n + m) (n + m), σ.push (.cells ⟨news, e, .tip, false, σ.size, info.size⟩)) else none
            | some a =>
              match a.spot, σ[a.block]?, vfirst σ info.size n (.slice (some a) n c) with
              | none, some (.cells b), some olds =>
                match b.fl with
                | .ex => if ¬ n + m ≤ c then some (.slice (some ⟨σ.size, 0, none⟩) (n + m) (n + m), σ.push (.cells ⟨olds ++ news, e, .tip, false, σ.size, info.size⟩)) else none
                | .tip =>
                  if a.off + n * info.size = b.cells.size ∧ b.esz = info.size ∧ b.elem = e then
                    some (.slice (some ⟨σ.size, 0, none⟩) (n + m) (n + m), (σ.setIfInBounds a.block (.cells b.aged)).push (.cells ⟨olds ++ news, e, .tip, true, b.root, info.size⟩))
                  else none
                | _ => none
              | _, _, _ => none
          else none
        | _, _ => none
      | none => none
    | _, _ => none
  | _, _, _, _ => none
theorem vlen_rel {x x' : Value} (h : VRel ρ x x') : vlen x = vlen x' := by cases h <;> rfl
theorem zeroCells_size (z : Array Value) (k : Nat) : (Builtin.zeroCells z k).size = k * z.size := by simp [Builtin.zeroCells]
/-- The real row is laid anew. -/
theorem grow_anew {ts : Array TypeId} {t t0 t1 e : TypeId} {d1 : TypeDesc} {info : TypeInfo} {z : Value} {base : Option Addr} {n c m : Nat} {x : Value} {olds news olds' news' : Array Value}
    (hw : WRel ρ σ w0 w B0) (kin : Bool) (root : Nat)
    (h0 : ts[0]? = some t0) (h1 : ts[1]? = some t1) (hu0 : P.underlying t0 = some (.slice e)) (hu1 : P.underlying t1 = some d1) (hd : isIntT d1 = false) (hi : P.info? e = some info) (hz : info.zero = some z) (hl : vlen x = some m) (hfit : ¬ n + m ≤ c)
    (hb : 0 < info.bytes) (hcap : (2 * (n + m) + 256) * info.bytes ≤ 2 ^ 48) (hzs : z.cells.size = info.size)
    (ho : ∀ w1 : World, w1.heap = w.heap → (Builtin.firstCells info.size n (.slice base n c)).run P w1 = .ok olds' w1) (hn : ∀ w1 : World, w1.heap = w.heap → (Builtin.firstCells info.size m x).run P w1 = .ok news' w1)
    (ro : ARel ρ olds olds') (rn : ARel ρ news news') (hsz : (olds ++ news).size = (n + m) * info.size) :
    ∃ ρ2 v' w', ρ.le ρ2 ∧ (Builtin.append_ ts t #[.slice base n c, x]).run P w = .ok v' w' ∧ VRel ρ2 (.slice (some ⟨σ.size, 0, none⟩) (n + m) (n + m)) v' ∧
      WRel ρ2 (σ.push (.cells ⟨olds ++ news, e, .tip, kin, root, info.size⟩)) w0 w' B0 := by
  obtain ⟨k, hk, hrun⟩ := run_append_grow (t := t) h0 h1 hu0 hu1 hd hi hz hl hfit hb hcap ho hn
  have hra := ro.append rn
  have htot : (olds' ++ news' ++ Builtin.zeroCells z.cells (k - (n + m))).size = k * info.size := by
    rw [Array.size_append, zeroCells_size, ← hra.1, hsz, hzs, ← Nat.add_mul, Nat.add_sub_cancel' hk]
  have hnew := hw.newTip (w' := w.drew.alloc (.cells (olds' ++ news' ++ Builtin.zeroCells z.cells (k - (n + m))) e)) (cs' := olds' ++ news') (rest := Builtin.zeroCells z.cells (k - (n + m))) (e := e) (fz := (0, 0)) info.size kin root
    (((Below.refl _ w).drew).alloc (Nat.le_refl _) _) (by simp) (heap_new _ _) (fun k _ => by simp) hra
  refine ⟨_, _, _, Rho.le_more (hw.dom _ (Nat.le_refl _)) _, hrun, ?_, hnew⟩
  have := VRel.slice (ρ := ρ.more σ.size ⟨w.heap.size, 0, info.size, (olds' ++ news' ++ Builtin.zeroCells z.cells (k - (n + m))).size, .gr⟩) (id := σ.size) (off := 0) (n := n + m) (c := n + m) (c' := k) (Rho.more_self _ _ _)
    (by simp only [CapOk]; rw [htot]; exact ⟨hk, by simp⟩)
  simpa using this
end
end Vm
end Go.Proofs.Ytodjjnklelfgfaa
