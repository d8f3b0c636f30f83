/- Arrays: the walks of the package's methods. -/
import Derived.Test.YtjgfhdabcahokaaRows
import Derived.Test.YtjgfhdabcahokaaBase
import Derived.Test.YtjgfhdabcahokaaMaps
import Derived.Test.YtjgfhdabcahokaaArrPlain
namespace Go.Proofs.Ytjgfhdabcahokaa
open Go.RowKit
open Go.Maps (Keyed string_keyed)
open Go.WideMaps Go.WideElems Go.WideAt

/-- A block that is known whole. -/
def Blk (w : World) (g : Nat) (t : TypeId) (cs : Array Value) : Prop := w.heap[g]? = some (.cells cs t (0, 0))
theorem Blk.cell {w : World} {g : Nat} {t : TypeId} {cs : Array Value} (h : Blk w g t cs) (i : Nat) : w.cell? ⟨g, i, none⟩ = cs[i]? := by
  unfold Blk at h; simp [World.cell?, h]
theorem Blk.free {w : World} {g : Nat} {t : TypeId} {cs : Array Value} (h : Blk w g t cs) (i : Nat) : w.frozen? ⟨g, i, none⟩ = false := by
  unfold Blk at h; simp [World.frozen?, h]
theorem Blk.set {w : World} {g : Nat} {t : TypeId} {cs : Array Value} (h : Blk w g t cs) (i : Nat) (u : Value) : Blk (w.setCell ⟨g, i, none⟩ u) g t (cs.setIfInBounds i u) := heap_setCell_self (a := ⟨g, i, none⟩) rfl h
theorem Blk.set3 {w : World} {g : Nat} {t : TypeId} {a b c : Value} (h : Blk w g t #[a, b, c]) (x y z : Value) : Blk (((w.setCell ⟨g, 0, none⟩ x).setCell ⟨g, 1, none⟩ y).setCell ⟨g, 2, none⟩ z) g t #[x, y, z] := by
  have := ((h.set 0 x).set 1 y).set 2 z
  simpa using this
theorem Tur.set3 {w : World} {g i j k : Nat} (x y z : Value) : Tur (· = g) w (((w.setCell ⟨g, i, none⟩ x).setCell ⟨g, j, none⟩ y).setCell ⟨g, k, none⟩ z) :=
  ((Tur.of_set ⟨g, i, none⟩ x).trans (Tur.of_set ⟨g, j, none⟩ y) (fun _ _ h => h)).trans (Tur.of_set ⟨g, k, none⟩ z) (fun _ _ h => h)
theorem Blk.lt {w : World} {g : Nat} {t : TypeId} {cs : Array Value} (h : Blk w g t cs) : g < w.heap.size := (Array.getElem?_eq_some_iff.1 h).1
theorem Blk.new (w : World) (t : TypeId) (cs : Array Value) : Blk (w.alloc (.cells cs t)) w.heap.size t cs := heap_alloc_new w _

theorem below_blk {w w' : World} {B g : Nat} {t : TypeId} {cs : Array Value} (h : Blk w g t cs) (hb : Below B w w') (hg : g < B) : Blk w' g t cs := (hb.block g hg).trans h

/-- What array p holds: its slots; F: its blocks. -/
structure ArrAt (w : World) (F : Nat → Prop) (pb bm : Nat) (v : Value) (l : List Arr.Slot) : Prop where
  flt : ∀ k, F k → k < w.heap.size
  fp : F pb
  fm : F bm
  fv : ∀ g, v.ownBlock = some g → F g
  head : Blk w pb 61 #[.map (some bm), v]
  map : MapS Try.prog 9 3 w bm (Arr.live l).length (Arr.look l)
  row : w.ownsRow 0 66 5 v l.length (Arr.vals l)
  tidy : Arr.Tidy l
  small : ∀ s ∈ l, s.key.size ≤ maxLen
theorem info_slot : (Try.prog.info? 66).map (fun i => (i.zero, i.size, i.bytes)) = some (some (.agg #[.string ⟨#[]⟩, .int .u8 0, .int .u64 0, .string ⟨#[]⟩, .bool false]), 5, 56) := by kernel_rfl
theorem klaw : Keyed Try.prog 9 := string_keyed Try.underlying9
theorem zero_int (w : World) : (zeroValue 3).run Try.prog w = .ok (.int .i64 0) w := by kernel_rfl
theorem plain_zero_int : ∃ d, plainElem (H := Unit) Try.prog 3 (.int .i64 0) = some (d, []) := ⟨_, plainElem_int Try.underlying3 (by decide)⟩

theorem place_old (w : World) (F : Nat → Prop) (pb bm : Nat) (v : Value) (l : List Arr.Slot) (key : ByteArray) (i : Nat) (h : ArrAt w F pb bm v l) (hk : key.size ≤ maxLen) (hf : Arr.find l key.data.toList = some i) (hl : l.length ≤ 1000000000) :
    Calls Try.prog 31 #[.pointer (some ⟨pb, 0, none⟩), .string key] w fun e w' => ∃ g, v.ownBlock = some g ∧ e = .returned (.pointer (some ⟨g, i * 5, none⟩)) ∧ w = w' := by
  obtain ⟨hi, _, _⟩ := Arr.find_some hf
  have c0 := h.head.cell 0
  have c1 := h.head.cell 1
  have hmap := h.map
  obtain ⟨g, cap, cur, hv, _, _, hlc, hcm, _⟩ : ∃ g cap cur, v = .slice (some ⟨g, 0, none⟩) l.length cap ∧ 0 ≤ g ∧ w.heap[g]? = some (.cells cur 66 (0, 0)) ∧ l.length ≤ cap ∧ cap ≤ maxLen ∧ cur.size = cap * 5 := by
    rcases h.row.2 with ⟨_, h0⟩ | ⟨g, cap, cur, h1, h2, h3, h4, h5, h6, _⟩
    · omega
    · exact ⟨g, cap, cur, h1, h2, h3, h4, h5, h6⟩
  subst hv
  have hlk : Arr.look l key.data.toList = some (.int .i64 i) := by simp [Arr.look, hf]
  have HLK := Lib.hid hlk
  clear hlk hf h
  unfold maxLen at hcm
  go_enter Try.func31, Try.ntmps31
  go_wp2_with (at_lookup; refine wp_map_look_ok rfl _ _ _ rfl klaw Try.underlying58 (.int .i64 0) (zero_int _) plain_zero_int rfl hmap _ _ rfl (keyOf_string_mk Try.underlying9 hk) ?_; rw [HLK.out])
  go_ret
  exact ⟨g, rfl, rfl, rfl⟩
theorem ownBlock_form {w : World} {base e size n : Nat} {v : Value} {xs : List Value} (h : w.ownsRow base e size v n xs) (hn : 0 < n) : ∃ g cap, v = .slice (some ⟨g, 0, none⟩) n cap ∧ n ≤ cap ∧ cap ≤ maxLen := by
  rcases h.2 with ⟨_, h0⟩ | ⟨g, cap, cur, h1, _, _, h4, h5, _⟩
  · omega
  · exact ⟨g, cap, h1, h4, h5⟩
theorem len_of_row {w : World} {base e size n : Nat} {v : Value} {xs : List Value} (h : w.ownsRow base e size v n xs) : ∃ A cap, v = .slice A n cap := by
  rcases h.2 with ⟨h1, h0⟩ | ⟨g, cap, cur, h1, _⟩
  · exact ⟨none, 0, by rw [h1, h0]⟩
  · exact ⟨_, _, h1⟩
theorem MapS.is_map {P : Program} {k e : TypeId} {w : World} {b m : Nat} {f : List UInt8 → Option Value} (h : MapS P k e w b m f) : ∃ es c, w.heap[b]? = some (.map es c) := by
  obtain ⟨D, ⟨es, c, hb, _⟩, _⟩ := h
  exact ⟨es, c, hb⟩
theorem row_cells {w : World} {base e size n g : Nat} {v : Value} {xs : List Value} (h : w.ownsRow base e size v n xs) (hg : v.ownBlock = some g) : ∃ cur, w.heap[g]? = some (.cells cur e (0, 0)) := by
  rcases h.2 with ⟨rfl, _⟩ | ⟨g', cap, cur, rfl, _, hh, _⟩
  · simp [Value.ownBlock] at hg
  · simp [Value.ownBlock] at hg; subst hg; exact ⟨cur, hh⟩
section
variable {w w' : World} {F : Nat → Prop} {pb bm : Nat} {v : Value} {l : List Arr.Slot}
theorem ArrAt.pb_bm (h : ArrAt w F pb bm v l) : pb ≠ bm := by
  rintro rfl
  obtain ⟨es, c, hb⟩ := h.map.is_map
  have := h.head; unfold Blk at this; rw [hb] at this; cases this
theorem ArrAt.row_bm (h : ArrAt w F pb bm v l) : v.ownBlock ≠ some bm := by
  intro e
  obtain ⟨es, c, hb⟩ := h.map.is_map
  obtain ⟨cur, hc⟩ := row_cells h.row e
  rw [hb] at hc; cases hc
theorem ArrAt.row_pb (h : ArrAt w F pb bm v l) : v.ownBlock ≠ some pb := by
  intro e
  obtain ⟨cur, hc⟩ := row_cells h.row e
  have := h.head; unfold Blk at this; rw [this] at hc; injection hc with hc; injection hc with _ h2; exact absurd h2 (by decide)
/-- An array stays where none of its blocks has turned. -/
theorem ArrAt.keep (h : ArrAt w F pb bm v l) (hs : w.heap.size ≤ w'.heap.size) (hb : ∀ k, k < w.heap.size → F k → w'.heap[k]? = w.heap[k]?) : ArrAt w' F pb bm v l :=
  ⟨fun k hk => Nat.lt_of_lt_of_le (h.flt k hk) hs, h.fp, h.fm, h.fv, (hb pb h.head.lt h.fp).trans h.head, h.map.of_block (hb bm h.map.lt h.fm), own_of_block h.row (fun g hg => hb g (h.row.lt g hg).2 (h.fv g hg)), h.tidy, h.small⟩
theorem ArrAt.tur {G : Nat → Prop} (h : ArrAt w F pb bm v l) (ht : Tur G w w') (hd : ∀ k, F k → ¬ G k) : ArrAt w' F pb bm v l := h.keep ht.size (fun k hk hF => ht.block k hk (hd k hF))
theorem ArrAt.drew (h : ArrAt w F pb bm v l) : ArrAt w.drew F pb bm v l := h.keep (Nat.le_refl _) (fun _ _ _ => rfl)
theorem ArrAt.drewN (h : ArrAt w F pb bm v l) (n : Nat) : ArrAt (w.drewN n) F pb bm v l := h.keep (Nat.le_refl _) (fun _ _ _ => rfl)
theorem ArrAt.cell (h : ArrAt w F pb bm v l) {g : Nat} (hg : v.ownBlock = some g) (i j : Nat) (hi : i < l.length) (hj : j < 5) : w.cell? ⟨g, i * 5 + j, none⟩ = (l[i].vals)[j]? := by
  rcases h.row.2 with ⟨rfl, _⟩ | ⟨g', cap, cur, rfl, _⟩
  · simp [Value.ownBlock] at hg
  · simp [Value.ownBlock] at hg; subst hg
    rw [h.row.cellAt _ (by omega), Arr.vals_get l i j hi hj]
theorem ArrAt.cell3 (h : ArrAt w F pb bm v l) {g : Nat} (hg : v.ownBlock = some g) (i : Nat) (hi : i < l.length) :
    w.cell? ⟨g, i * 5 + 1, none⟩ = some (.int .u8 l[i].cell.k) ∧ w.cell? ⟨g, i * 5 + 1 + 1, none⟩ = some (.int .u64 l[i].cell.n) ∧ w.cell? ⟨g, i * 5 + 1 + 2, none⟩ = some (.string l[i].cell.s) :=
  ⟨h.cell hg i 1 hi (by omega), h.cell hg i 2 hi (by omega), h.cell hg i 3 hi (by omega)⟩
theorem ArrAt.cell5 (h : ArrAt w F pb bm v l) {g : Nat} (hg : v.ownBlock = some g) (i : Nat) (hi : i < l.length) :
    w.cell? ⟨g, i * 5, none⟩ = some (.string l[i].key) ∧ w.cell? ⟨g, i * 5 + 1, none⟩ = some (.int .u8 l[i].cell.k) ∧ w.cell? ⟨g, i * 5 + 2, none⟩ = some (.int .u64 l[i].cell.n) ∧ w.cell? ⟨g, i * 5 + 3, none⟩ = some (.string l[i].cell.s) ∧ w.cell? ⟨g, i * 5 + 4, none⟩ = some (.bool l[i].off) :=
  ⟨h.cell hg i 0 hi (by omega), h.cell hg i 1 hi (by omega), h.cell hg i 2 hi (by omega), h.cell hg i 3 hi (by omega), h.cell hg i 4 hi (by omega)⟩
theorem ArrAt.free (h : ArrAt w F pb bm v l) {g : Nat} (hg : v.ownBlock = some g) (j : Nat) : w.frozen? ⟨g, j, none⟩ = false := by
  rcases h.row.2 with ⟨rfl, _⟩ | ⟨g', cap, cur, rfl, _⟩
  · simp [Value.ownBlock] at hg
  · simp [Value.ownBlock] at hg; subst hg
    exact h.row.frozenAt _
end
/-- What is still known behind a change of the map alone. -/
theorem ArrAt.mapped {w w1 : World} {F : Nat → Prop} {pb bm : Nat} {v : Value} {l : List Arr.Slot} (h : ArrAt w F pb bm v l) (ht : w.mapTurned w1 bm) :
    (∀ i, w1.cell? ⟨pb, i, none⟩ = (#[Value.map (some bm), v] : Array Value)[i]?) ∧ (∀ i, w1.frozen? ⟨pb, i, none⟩ = false) ∧ w1.ownsRow 0 66 5 v l.length (Arr.vals l) ∧ Blk w1 pb 61 #[.map (some bm), v] ∧ Tur (· = bm) w w1 := by
  have ht1 : Tur (· = bm) w w1 := (Tur.of_grown ht.grown).mono (fun k _ hk => by injection hk)
  have hd1 : Blk w1 pb 61 #[.map (some bm), v] := (ht1.block pb h.head.lt h.pb_bm).trans h.head
  exact ⟨hd1.cell, hd1.free, own_of_block h.row (fun g hg => ht1.block g (h.row.lt g hg).2 (fun e => h.row_bm (e ▸ hg))), hd1, ht1⟩
/-- .. and behind an append to the row. -/
theorem blk_grown {w1 w2 : World} {pb : Nat} {v : Value} {t : TypeId} {cs : Array Value} {l : List Arr.Slot} (hd : Blk w1 pb t cs) (hr : w1.ownsRow 0 66 5 v l.length (Arr.vals l)) (hne : t ≠ 66) (hg : w1.grownBy w2 v.ownBlock) :
    Blk w2 pb t cs ∧ (∀ i, w2.cell? ⟨pb, i, none⟩ = cs[i]?) ∧ (∀ i, w2.frozen? ⟨pb, i, none⟩ = false) := by
  have hb : Blk w2 pb t cs := (hg.block pb hd.lt (fun e => by
    obtain ⟨cur, hc⟩ := row_cells hr e.symm
    unfold Blk at hd; rw [hd] at hc; injection hc with hc; injection hc with _ h2; exact hne h2)).trans hd
  exact ⟨hb, hb.cell, hb.free⟩
theorem one_slot {s : Arr.Slot} : ∀ u ∈ s.vals, u.oneCell' = true := by
  intro u hu; simp [Arr.Slot.vals] at hu
  rcases hu with rfl | rfl | rfl | rfl | rfl <;> rfl
set_option maxHeartbeats 1000000 in
theorem place_new (w : World) (F : Nat → Prop) (pb bm : Nat) (v : Value) (l : List Arr.Slot) (key : ByteArray) (h : ArrAt w F pb bm v l) (hk : key.size ≤ maxLen) (hf : Arr.find l key.data.toList = none) (hl : l.length ≤ 1000000000) :
    Calls Try.prog 31 #[.pointer (some ⟨pb, 0, none⟩), .string key] w fun e w' => ∃ g v' F', v'.ownBlock = some g ∧ e = .returned (.pointer (some ⟨g, l.length * 5, none⟩)) ∧
      ArrAt w' F' pb bm v' (l ++ [⟨key, Arr.Cell.zero, false⟩]) ∧ Tur F w w' ∧ ∀ g, F' g → F g ∨ w.heap.size ≤ g := by
  have c0 := h.head.cell 0
  have c1 := h.head.cell 1
  have f1 := h.head.free 1
  have hmap := h.map
  have hpb := h.pb_bm
  obtain ⟨A, cap, hv⟩ := len_of_row h.row
  have hlk : Arr.look l key.data.toList = none := by simp [Arr.look, hf]
  have HLK := Lib.hid hlk
  have HF := Lib.hid hf
  clear hlk hf
  have hll : (Arr.live l).length < maxLen := by
    have : (Arr.live l).length ≤ l.length := List.length_filter_le _ _
    unfold maxLen; omega
  have hz1 : l.length + 1 ≤ maxLen := by unfold maxLen; omega
  have hz2 : (l.length + 1) * 56 ≤ 140737488355328 := by omega
  subst hv
  have H := Lib.hid h
  clear h
  go_enter Try.func31, Try.ntmps31
  go_wp2_with (first | (at_lookup; refine wp_map_look_ok rfl _ _ _ rfl klaw Try.underlying58 (.int .i64 0) (zero_int _) plain_zero_int rfl hmap _ _ rfl (keyOf_string_mk Try.underlying9 hk) ?_; rw [HLK.out]) | (at_mapUpdate; refine wp_map_put rfl _ _ _ _ rfl klaw Try.underlying9 Try.underlying58 rfl hmap hll _ (.int .i64 l.length) _ rfl rfl (keyOf_string_mk Try.underlying9 hk) ⟨_, plainElem_int Try.underlying3 (WalkArith.wf_i64 (by omega))⟩ ?_; rw [HLK.out]; intro w1 hmap1 hturn1; obtain ⟨c1', f1', hr1, hd1, ht1⟩ := H.out.mapped hturn1; have c10 := c1' 0; have c11 := c1' 1; have f11 := f1' 1; clear c1' f1' hturn1) | (at_builtin; refine wp_app1_at rfl _ _ _ rfl 66 5 56 _ Try.underlying59 info_slot rfl (by decide) 0 (.slice A l.length cap) l.length _ rfl hr1 (Arr.Slot.vals ⟨key, Arr.Cell.zero, false⟩) _ rfl rfl rfl one_slot hz1 hz2 (Nat.zero_le _) ?_; intro g2 cap2 w2 hlc2 hcm2 hown2 hgrow2 hat2; obtain ⟨hd2, c2', f2'⟩ := blk_grown hd1 hr1 (by decide) hgrow2; have c21 := c2' 1; have f21 := f2' 1; have c30 := (hd2.set 1 (.slice (some ⟨g2, 0, none⟩) (l.length + 1) cap2)).cell 1; clear c2' f2'; unfold maxLen at hcm2))
  go_ret
  refine ⟨g2, .slice (some ⟨g2, 0, none⟩) (l.length + 1) cap2, fun k => F k ∨ k = g2, rfl, rfl, ?_, ?_, ?_⟩
  · have hg2 : g2 ≠ pb := by
      intro e; subst e
      obtain ⟨cur, hc⟩ := row_cells hown2 (g := g2) rfl
      have := hd2; unfold Blk at this; rw [this] at hc; injection hc with hc; injection hc with _ h2; exact absurd h2 (by decide)
    have hm2 : MapS Try.prog 9 3 w2 bm _ _ := hmap1.of_block (hgrow2.block bm hmap1.lt (fun e => H.out.row_bm e.symm))
    have hg2lt : g2 < w2.heap.size := (hown2.lt g2 rfl).2
    have hsz := Nat.le_trans ht1.size hgrow2.size
    refine ⟨fun k hk => by
      simp only [World.setCell, Array.size_modify]
      rcases hk with hk | rfl
      · exact Nat.lt_of_lt_of_le (H.out.flt k hk) hsz
      · exact hg2lt, .inl H.out.fp, .inl H.out.fm, fun g hg => Or.inr (by simpa [Value.ownBlock] using hg.symm), hd2.set 1 _, ?_, ?_, Arr.tidy_append _ H.out.tidy HF.out, fun s hs => by
      simp only [List.mem_append, List.mem_singleton] at hs
      rcases hs with hs | rfl
      · exact H.out.small s hs
      · exact hk⟩
    · rw [Arr.live_len_append, Arr.look_append _ HF.out]
      exact (by simpa using hm2 : MapS Try.prog 9 3 w2 bm _ _).of_block (Below.heap_setCell _ _ _ _ (Ne.symm H.out.pb_bm))
    · rw [Arr.vals_append, List.length_append]
      exact own_of_block (by simpa [Arr.vals] using hown2) (fun g hg => Below.heap_setCell _ _ _ _ (by simp [Value.ownBlock] at hg; subst hg; exact hg2))
  · have t1 : Tur F w w1 := ht1.mono (fun k _ hk => by subst hk; exact H.out.fm)
    have t2 : Tur F w w2 := t1.trans (Tur.of_grown hgrow2) (fun k _ hk => H.out.fv k hk.symm)
    exact t2.trans (Tur.of_set ⟨pb, 1, none⟩ _) (fun k _ hk => by subst hk; exact H.out.fp)
  · rintro g (hg | rfl)
    · exact .inl hg
    · rcases hat2 with e | e
      · exact .inl (H.out.fv _ e)
      · exact .inr (Nat.le_trans ht1.size e)

theorem place_any (w : World) (F : Nat → Prop) (pb bm : Nat) (v : Value) (l : List Arr.Slot) (key : ByteArray) (h : ArrAt w F pb bm v l) (hk : key.size ≤ maxLen) (hl : l.length ≤ 1000000000) :
    Calls Try.prog 31 #[.pointer (some ⟨pb, 0, none⟩), .string key] w fun e w' => ∃ g v' F' i, v'.ownBlock = some g ∧ e = .returned (.pointer (some ⟨g, i * 5, none⟩)) ∧ Arr.find (Arr.placeL l key) key.data.toList = some i ∧
      ArrAt w' F' pb bm v' (Arr.placeL l key) ∧ Tur F w w' ∧ ∀ g, F' g → F g ∨ w.heap.size ≤ g := by
  cases hf : Arr.find l key.data.toList with
  | some i =>
    refine (place_old w F pb bm v l key i h hk hf hl).mono ?_
    rintro e w' ⟨g, hg, rfl, rfl⟩
    have : Arr.placeL l key = l := by simp [Arr.placeL, hf]
    exact ⟨g, v, F, i, hg, rfl, by rw [this]; exact hf, by rw [this]; exact h, Tur.refl _ _, fun _ h => .inl h⟩
  | none =>
    refine (place_new w F pb bm v l key h hk hf hl).mono ?_
    rintro e w' ⟨g, v', F', hg, rfl, ha, ht, hF⟩
    have : Arr.placeL l key = l ++ [⟨key, Arr.Cell.zero, false⟩] := by simp [Arr.placeL, hf]
    exact ⟨g, v', F', l.length, hg, rfl, by rw [this, Arr.find_append_new _ hf, if_pos rfl], by rw [this]; exact ha, ht, hF⟩

end Go.Proofs.Ytjgfhdabcahokaa
