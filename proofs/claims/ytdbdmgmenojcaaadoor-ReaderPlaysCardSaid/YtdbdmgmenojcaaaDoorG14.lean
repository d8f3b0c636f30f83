/- The document's world: CloseAll. -/
import Derived.Test.YtdbdmgmenojcaaaDoorG8
import Derived.Deep.AppendLies
import Derived.Test.YtdbdmgmenojcaaaDoorG9
import Derived.Deep.RegionHeld3
import Derived.Test.YtdbdmgmenojcaaaDoorG11
import Derived.Test.YtdbdmgmenojcaaaDoorG3
import Derived.Test.YtdbdmgmenojcaaaDoorG12
import Derived.Test.YtdbdmgmenojcaaaDoorG13
set_option linter.unusedVariables false
set_option linter.unusedSimpArgs false
namespace Go.Proofs.YtdbdmgmenojcaaaDoor
open Go.RowKit Wd
namespace Wd
inductive ClosedR : RSt → RSt → Prop where
  | refl {st : RSt} : ClosedR st st
  | step {st st' : RSt} {m : RSm} {r : List RSm} : ClosedR st st' → st'.opn = m :: r → ClosedR st (closeD st' m.name).1
theorem closeD_less {st : RSt} {m : RSm} {r : List RSm} (h : st.opn = m :: r) : (closeD st m.name).1.opn.length + 1 ≤ st.opn.length ∧ (closeD st m.name).1.events.length ≤ st.events.length + 5 := by
  constructor
  · show (st.opn.filter (keptR m.name)).length + 1 ≤ _
    rw [h, List.filter_cons, if_neg (by simp [keptR])]
    have := List.length_filter_le (keptR m.name) r
    simp; omega
  · exact (closeRK_same st m.name 5).2
end Wd
def lenR (w : World) (b i : Nat) : Nat := match w.cell? ⟨b, i, none⟩ with
  | some (.slice _ n _) => n
  | _ => 0
theorem RW.lenR {K : Nat → Prop} {w wi : World} {B R : Nat} {f : Fm} {st : RSt} (h : RW K w wi B R f st) : lenR wi B 9 = st.opn.length := by
  have c9 : wi.cell? ⟨B, 9, none⟩ = some (.slice f.AO st.opn.length f.cO) := h.blk.cell 9
  unfold Proofs.YtdbdmgmenojcaaaDoor.lenR
  rw [c9]
theorem RW.drew {K : Nat → Prop} {w wi : World} {B R : Nat} {f : Fm} {st : RSt} (h : RW K w wi B R f st) : RW K w wi.drew B R f st := h.pure (Below.refl _ _).drew
section
variable {K : Nat → Prop} {w : World} {f : Fm} {st : RSt}
def CaPost (K : Nat → Prop) (w : World) (st : RSt) (e : Ending) (w' : World) : Prop := ∃ st' f', ClosedR st st' ∧ st'.opn = [] ∧ e = .returned (.agg (fcells f' st')) ∧ RF (Nw K w) w' f' st' ∧ Below w.heap.size w w'

end
end Go.Proofs.YtdbdmgmenojcaaaDoor
namespace Go.Proofs.YtdbdmgmenojcaaaDoor
open Go.RowKit Wd
namespace Wd
def smOf (s : RSm) : Sm := ⟨s.k, s.name, s.src.extract s.tk s.src.size⟩
structure Corr (st : St) (rs : RSt) : Prop where
  lim : st.lim = rs.lim
  clock : st.clock = rs.clock
  chance : st.chance = rs.num
  reps : st.replies = rs.replies
  fails : st.fails = rs.fails
  trace : st.trace = rs.events
  tk : rs.taken ≤ rs.stdin.size
  stdin : st.stdin = rs.stdin.extract rs.taken rs.stdin.size
  opn : st.opn = rs.opn.map smOf
  tks : ∀ s ∈ rs.opn, s.tk ≤ s.src.size
  files : ∀ name : ByteArray, st.files name.data.toList = (fileF rs name).map (·.2)
  nodup : (rs.files.map (·.1)).Nodup
theorem find_of_ix {α : Type} (p : α → Bool) (l : List α) (d : α) : (match l.findIdx? p with | some i => l.getD i d | none => d) = (l.find? p).getD d := by
  induction l with
  | nil => rfl
  | cons a l ih =>
    rw [List.findIdx?_cons, List.find?_cons]
    cases hp : p a with
    | true => rfl
    | false =>
      rw [← ih]
      cases h : List.findIdx? p l <;> simp
theorem ix_some {α : Type} (p : α → Bool) (l : List α) : (l.findIdx? p).isSome = (l.find? p).isSome := by
  rw [List.findIdx?_isSome, Bool.eq_iff_iff, List.any_eq_true, List.find?_isSome]
variable {st st' : St} {rs rs' : RSt}
theorem Corr.find (h : Corr st rs) (k : Int) (name : ByteArray) : Wd.find st k name = findF rs k name := by
  unfold Wd.find findF
  rw [h.opn, List.findIdx?_map]
  rfl
theorem Corr.fail (h : Corr st rs) (op : Int) (name : ByteArray) : failB st op name = rs.fails.any (isFl op name) := by
  unfold failB failIx
  rw [h.fails, List.findIdx?_isSome]
theorem Corr.replyR (h : Corr st rs) (cmd : ByteArray) : Wd.replyR st cmd = (replyF rs cmd).getD rpZero := by
  unfold Wd.replyR replyIx replyF
  rw [h.reps]
  exact find_of_ix _ _ _
theorem Corr.replyB (h : Corr st rs) (cmd : ByteArray) : Wd.replyB st cmd = (replyF rs cmd).isSome := by
  unfold Wd.replyB replyIx replyF
  rw [h.reps]
  exact ix_some _ _
theorem Corr.fileD (h : Corr st rs) (name : ByteArray) : (st.files name.data.toList).getD ⟨#[]⟩ = ((fileF rs name).getD (⟨#[]⟩, ⟨#[]⟩)).2 := by
  rw [h.files]; cases fileF rs name <;> rfl
theorem Corr.fileS (h : Corr st rs) (name : ByteArray) : (st.files name.data.toList).isSome = (fileF rs name).isSome := by
  rw [h.files]; cases fileF rs name <;> rfl
theorem key_inj {a b : ByteArray} : (a.data.toList = b.data.toList) ↔ a = b := ⟨fun h => ByteArray.ext (Array.toList_inj.1 h), fun h => by rw [h]⟩
theorem find_with (l : List (ByteArray × ByteArray)) (name data x : ByteArray) : ((withL l name data).find? (isFile x)).map (·.2) = if x = name then some data else (l.find? (isFile x)).map (·.2) := by
  unfold withL
  rw [List.find?_append]
  have hm : ((l.map (withP name data)).find? (isFile x)).map (·.2) = if x = name then (l.find? (isFile x)).map (fun _ => data) else (l.find? (isFile x)).map (·.2) := by
    induction l with
    | nil => simp
    | cons a l ih =>
      rw [List.map_cons, List.find?_cons, List.find?_cons]
      have e : isFile x (withP name data a) = isFile x a := by unfold withP isFile; split <;> rfl
      rw [e]
      cases hp : isFile x a with
      | true =>
        have hx : a.1 = x := of_decide_eq_true hp
        by_cases hn : x = name
        · rw [if_pos hn]; simp [withP, hx, hn]
        · rw [if_neg hn]; simp [withP, hx, hn]
      | false => exact ih
  by_cases hx : x = name
  · subst hx
    rw [if_pos rfl] at hm ⊢
    cases hf : l.find? (isFile x) with
    | some p =>
      rw [hf] at hm
      obtain ⟨q, hq, hq2⟩ := Option.map_eq_some_iff.1 hm
      rw [hq]
      simpa using hq2
    | none =>
      rw [hf] at hm
      have hn : (l.map (withP x data)).find? (isFile x) = none := by simpa using hm
      have ha : l.any (isFile x) = false := by
        rw [List.any_eq_false]
        intro y hy
        have := List.find?_eq_none.1 hf y hy
        simpa using this
      rw [hn, ha]
      simp [isFile]
  · rw [if_neg hx] at hm ⊢
    rw [← hm]
    cases hf : (l.map (withP name data)).find? (isFile x) with
    | some p => rfl
    | none =>
      have hne : ¬ name = x := fun e => hx e.symm
      split <;> simp [isFile, hne]
theorem names_with (l : List (ByteArray × ByteArray)) (name data : ByteArray) (h : (l.map (·.1)).Nodup) : ((withL l name data).map (·.1)).Nodup := by
  unfold withL
  have e : (l.map (withP name data)).map (·.1) = l.map (·.1) := by
    rw [List.map_map]
    apply List.map_congr_left
    intro p _
    simp only [Function.comp, withP]
    split <;> rfl
  rw [List.map_append, e]
  cases ha : l.any (isFile name) with
  | true => simpa using h
  | false =>
    rw [List.nodup_append]
    refine ⟨h, by simp, ?_⟩
    intro a ha' b hb
    simp at hb
    subst hb
    obtain ⟨p, hp, rfl⟩ := List.mem_map.1 ha'
    intro e2
    rw [List.any_eq_false] at ha
    exact ha p hp (decide_eq_true e2)
theorem Corr.put (h : Corr st rs) (name data : ByteArray) : Corr { st with files := setF st.files name.data.toList data } { rs with files := withL rs.files name data } :=
  { h with
    files := fun x => by
      show setF st.files name.data.toList data x.data.toList = ((withL rs.files name data).find? (isFile x)).map (·.2)
      rw [find_with, ← show st.files x.data.toList = (rs.files.find? (isFile x)).map (·.2) from h.files x]
      unfold setF
      by_cases hx : x = name
      · rw [if_pos hx, if_pos (key_inj.2 hx)]
      · rw [if_neg hx, if_neg (fun e => hx (key_inj.1 e))]
    nodup := names_with _ _ _ h.nodup }
theorem Corr.event (h : Corr st rs) (e : Ev) : Corr (st.traced e) { rs with events := rs.events ++ [e] } :=
  { h with trace := by show st.trace ++ [e] = _; rw [h.trace] }
theorem Corr.push (h : Corr st rs) (k : Int) (name s : ByteArray) : Corr { st with opn := st.opn ++ [⟨k, name, s⟩] } { rs with opn := rs.opn ++ [⟨k, name, s, 0⟩] } :=
  { h with
    opn := by
      show st.opn ++ [_] = _
      rw [h.opn, List.map_append]
      simp [smOf, ByteArray.extract_zero_size]
    tks := fun x hx => by
      rcases List.mem_append.1 hx with hx | hx
      · exact h.tks x hx
      · simp at hx; subst hx; exact Nat.zero_le _ }
theorem Corr.open (h : Corr st rs) (k : Int) (name : ByteArray) : (openL st k name).2 = (openD rs k name).2 ∧ Corr (openL st k name).1 (openD rs k name).1 := by
  unfold openL openD
  have e3 : (st.lim ≤ (st.opn.length : Int)) ↔ (rs.lim ≤ (rs.opn.length : Int)) := by rw [h.lim, h.opn, List.length_map]
  rw [h.find, h.fail, h.fileS]
  split
  · exact ⟨rfl, h⟩
  split
  · exact ⟨rfl, h⟩
  by_cases hc : rs.lim ≤ (rs.opn.length : Int)
  · rw [if_pos hc, if_pos (e3.2 hc)]; exact ⟨rfl, h⟩
  rw [if_neg hc, if_neg (fun e => hc (e3.1 e))]
  split
  · exact ⟨rfl, h⟩
  refine ⟨rfl, ?_⟩
  have e1 : openLeft st k name = openS rs k name := by unfold openLeft openS; rw [h.fileD, h.replyR]
  rw [e1]
  have hf : Corr { st with files := openFiles st k name } { rs with files := openF rs k name } := by
    unfold openFiles openF
    split
    · exact h.put name _
    split
    · rw [h.fileD]; exact h.put name _
    · exact h
  exact (hf.push k name (openS rs k name)).event _
theorem Corr.system (h : Corr st rs) (cmd : ByteArray) : failB st 4 cmd = rs.fails.any (isFl 4 cmd) ∧ sysN st cmd = sysR rs cmd ∧ Corr (st.traced ⟨4, 0, cmd, ⟨#[]⟩, sysN st cmd⟩) { rs with events := rs.events ++ [⟨4, 0, cmd, ⟨#[]⟩, sysR rs cmd⟩] } := by
  have e : sysN st cmd = sysR rs cmd := by unfold sysN sysR; rw [h.replyB, h.replyR]
  exact ⟨h.fail _ _, e, by rw [e]; exact h.event _⟩
theorem Corr.chanced (h : Corr st rs) : Corr { st with chance := chanceW st.chance } { rs with num := chanceW rs.num } := { h with chance := by show chanceW st.chance = _; rw [h.chance] }
theorem Corr.closeK (h : Corr st rs) (name : ByteArray) (n : Nat) : (Wd.closeK st name n).2 = (closeRK rs name n).2 ∧ Corr (Wd.closeK st name n).1 (closeRK rs name n).1 := by
  induction n with
  | zero => exact ⟨rfl, h⟩
  | succ n ih =>
    unfold Wd.closeK closeRK
    have e : ∀ k : Nat, closeX st name k = statR rs (k : Int) name := fun k => by
      unfold closeX statR
      rw [h.replyR]
      have : (k = 2 ∨ k = 5) ↔ ((k : Int) = 2 ∨ (k : Int) = 5) := by omega
      simp only [this]
    rw [h.find, e]
    split
    · exact ⟨rfl, ih.2.event _⟩
    · exact ih
theorem Corr.close (h : Corr st rs) (name : ByteArray) : (closeL st name).2 = (closeD rs name).2 ∧ Corr (closeL st name).1 (closeD rs name).1 := by
  obtain ⟨h1, h2⟩ := h.closeK name 5
  refine ⟨h1, { h2 with opn := ?_, tks := ?_ }⟩
  · show st.opn.filter _ = (rs.opn.filter (keptR name)).map smOf
    rw [h.opn, List.filter_map]
    rfl
  · intro s hs
    exact h.tks s (List.mem_filter.1 hs).1
def seqL (st : St) : Nat → St
  | 0 => st
  | n + 1 => match (seqL st n).opn with
    | [] => seqL st n
    | m :: _ => (closeL (seqL st n) m.name).1
def seqD (rs : RSt) : Nat → RSt
  | 0 => rs
  | n + 1 => match (seqD rs n).opn with
    | [] => seqD rs n
    | m :: _ => (closeD (seqD rs n) m.name).1
theorem seqL_stay {n : Nat} (h : (seqL st n).opn = []) (m : Nat) : seqL st (n + m) = seqL st n := by
  induction m with
  | zero => rfl
  | succ m ih => show (match (seqL st (n + m)).opn with | [] => seqL st (n + m) | x :: _ => (closeL (seqL st (n + m)) x.name).1) = _; rw [ih, h]
theorem seqD_stay {n : Nat} (h : (seqD rs n).opn = []) (m : Nat) : seqD rs (n + m) = seqD rs n := by
  induction m with
  | zero => rfl
  | succ m ih => show (match (seqD rs (n + m)).opn with | [] => seqD rs (n + m) | x :: _ => (closeD (seqD rs (n + m)) x.name).1) = _; rw [ih, h]
theorem closedTo_seq (h : ClosedTo st st') : ∃ n, st' = seqL st n := by
  induction h with
  | refl => exact ⟨0, rfl⟩
  | step _ ho ih =>
    obtain ⟨n, rfl⟩ := ih
    exact ⟨n + 1, by show _ = (match (seqL st n).opn with | [] => _ | m :: _ => _); rw [ho]⟩
theorem closedR_seq (h : ClosedR rs rs') : ∃ n, rs' = seqD rs n := by
  induction h with
  | refl => exact ⟨0, rfl⟩
  | step _ ho ih =>
    obtain ⟨n, rfl⟩ := ih
    exact ⟨n + 1, by show _ = (match (seqD rs n).opn with | [] => _ | m :: _ => _); rw [ho]⟩
theorem Corr.seq (h : Corr st rs) (n : Nat) : Corr (seqL st n) (seqD rs n) := by
  induction n with
  | zero => exact h
  | succ n ih =>
    unfold seqL seqD
    have ho := ih.opn
    cases hr : (seqD rs n).opn with
    | nil => rw [hr] at ho; rw [ho]; exact ih
    | cons m r => rw [hr] at ho; rw [ho]; exact (ih.close m.name).2
theorem Corr.closeAll (h : Corr st rs) (h1 : ClosedTo st st') (e1 : st'.opn = []) (h2 : ClosedR rs rs') (e2 : rs'.opn = []) : Corr st' rs' := by
  obtain ⟨n, rfl⟩ := closedTo_seq h1
  obtain ⟨m, rfl⟩ := closedR_seq h2
  rw [← seqL_stay e1 m, ← seqD_stay e2 n, Nat.add_comm m n]
  exact h.seq _
theorem cut_eq {n : Int} (s : ByteArray) (hn : ¬ n < 1) : cutR n s = s.extract 0 (cutN n s) := by
  unfold cutR cutN
  split
  · rw [Nat.min_eq_left (by omega)]
  · rw [Nat.min_eq_right (by omega), ByteArray.extract_zero_size]
theorem cut_size {n : Int} (s : ByteArray) (hn : ¬ n < 1) : (cutR n s).size = cutN n s := by
  rw [cut_eq s hn, ByteArray.size_extract]
  unfold cutN
  omega
theorem cut_rest (s : ByteArray) (t c : Nat) (ht : t ≤ s.size) (hc : c ≤ (s.extract t s.size).size) : (s.extract t s.size).extract c (s.extract t s.size).size = s.extract (t + c) s.size := by
  rw [ByteArray.size_extract] at *
  rw [ByteArray.extract_extract]
  congr 1
  omega
theorem Corr.read (h : Corr st rs) (k : Int) (name : ByteArray) (n : Int) : (readL st k name n).2 = (readD rs k name n).2 ∧ Corr (readL st k name n).1 (readD rs k name n).1 := by
  unfold readL readD
  rw [h.find, h.fail]
  by_cases hk : k = 1 ∨ k = 2
  · rw [if_neg (not_not_intro hk)]
    cases hf : findF rs k name with
    | none => exact ⟨rfl, h⟩
    | some i =>
      have hil : i < rs.opn.length := (List.findIdx?_eq_some_iff_getElem.1 hf).1
      simp only
      rw [if_neg (show ¬ (k ≠ 1 ∧ k ≠ 2) by omega)]
      split
      · exact ⟨rfl, h⟩
      rename_i hn
      split
      · exact ⟨rfl, h⟩
      split
      · rw [← h.stdin, cut_eq _ hn, ← cut_eq _ hn, cut_size _ hn, cut_eq _ hn]
        refine ⟨rfl, { h with tk := ?_, stdin := ?_ }⟩
        · have h1 : cutN n st.stdin ≤ st.stdin.size := Nat.min_le_right _ _
          have h2 := h.stdin
          have h3 : st.stdin.size = rs.stdin.size - rs.taken := by rw [h2, ByteArray.size_extract]; omega
          have := h.tk
          show rs.taken + cutN n st.stdin ≤ rs.stdin.size
          omega
        · show st.stdin.extract (cutN n st.stdin) st.stdin.size = rs.stdin.extract (rs.taken + cutN n st.stdin) rs.stdin.size
          have h1 : cutN n st.stdin ≤ st.stdin.size := Nat.min_le_right _ _
          generalize hc : cutN n st.stdin = c at *
          rw [h.stdin] at h1 ⊢
          exact cut_rest _ _ _ h.tk h1
      · have e1 : st.opn.getD i smZero = smOf (rs.opn.getD i smZ) := by
          rw [h.opn]
          simp [List.getD_eq_getElem?_getD, List.getElem?_map, List.getElem?_eq_getElem hil]
        have hm : rs.opn.getD i smZ ∈ rs.opn := by
          simp [List.getD_eq_getElem?_getD, List.getElem?_eq_getElem hil]
        have ht := h.tks _ hm
        rw [e1]
        generalize rs.opn.getD i smZ = x at *
        obtain ⟨xk, xn, xs, xt⟩ := x
        simp only [smOf] at *
        have hcs := cut_size (xs.extract xt xs.size) hn
        have hce := cut_eq (xs.extract xt xs.size) hn
        have hle : cutN n (xs.extract xt xs.size) ≤ (xs.extract xt xs.size).size := Nat.min_le_right _ _
        have hcr := cut_rest xs xt _ ht hle
        refine ⟨by rw [hce], { h with opn := ?_, tks := ?_ }⟩
        · show setAtL st.opn i _ = (rs.opn.set i _).map smOf
          unfold setAtL
          rw [e1, h.opn, List.map_set]
          congr 1
          simp only [takenR, smOf, hcs, hcr]
        · intro s hs
          rcases List.mem_or_eq_of_mem_set hs with h1 | h1
          · exact h.tks s h1
          · subst h1
            show xt + (cutR n (xs.extract xt xs.size)).size ≤ xs.size
            rw [hcs]
            rw [ByteArray.size_extract] at hle
            omega
  · rw [if_pos hk]
    cases hf : findF rs k name with
    | none => exact ⟨rfl, h⟩
    | some i => simp only; rw [if_pos (show k ≠ 1 ∧ k ≠ 2 by omega)]; exact ⟨rfl, h⟩
/-- Write, as the program does it. -/
def writeS (st : St) (k : Int) (name data : ByteArray) : St × Int :=
  if k ≠ 6 ∧ ((k ≠ 3 ∧ k ≠ 4 ∧ k ≠ 5) ∨ Wd.find st k name = none) then (st, 16)
  else if failB st 3 (if k = 6 then ⟨#[]⟩ else name) = true then (st, 14)
  else if data.size = 0 then (st, 0)
  else (({ st with files := if k = 3 ∨ k = 4 then setF st.files name.data.toList ((st.files name.data.toList).getD ⟨#[]⟩ ++ data) else st.files } : St).traced ⟨2, k, (if k = 6 then ⟨#[]⟩ else name), data, 0⟩, 0)
theorem Corr.write (h : Corr st rs) (k : Int) (name data : ByteArray) : (writeS st k name data).2 = (writeD rs k name data).2 ∧ Corr (writeS st k name data).1 (writeD rs k name data).1 := by
  unfold writeS writeD
  rw [h.find, h.fail, h.fileD]
  generalize (if k = 6 then (⟨#[]⟩ : ByteArray) else name) = nm
  split
  · exact ⟨rfl, h⟩
  split
  · exact ⟨rfl, h⟩
  split
  · exact ⟨rfl, h⟩
  refine ⟨rfl, ?_⟩
  by_cases hk : k = 3 ∨ k = 4
  · rw [if_pos hk, if_pos hk]; exact (h.put name _).event _
  · rw [if_neg hk, if_neg hk]; exact Corr.event (st := { st with files := st.files }) h _
end Wd
end Go.Proofs.YtdbdmgmenojcaaaDoor
