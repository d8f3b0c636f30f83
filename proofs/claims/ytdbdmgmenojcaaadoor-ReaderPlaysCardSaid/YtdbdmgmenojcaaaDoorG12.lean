/- The document's world: Chance. -/
import Derived.Test.YtdbdmgmenojcaaaDoorG7
import Derived.Test.YtdbdmgmenojcaaaDoorG11
set_option linter.unusedVariables false
set_option linter.unusedSimpArgs false
namespace Go.Proofs.YtdbdmgmenojcaaaDoor
open Go.RowKit Wd
section
variable {K : Nat → Prop} {w wi : World} {B R : Nat} {f : Fm} {st : RSt}
theorem RW.setNum (h : RW K w wi B R f st) (t : Int) : RW K w (wi.setCell ⟨B, 10, none⟩ (.int .u64 t)) B R f { st with num := t } := by
  have hRB : R ≠ B := by have := h.hR; omega
  exact ⟨h.hB, h.hR, h.below.trans ((Tur.of_set ⟨B, 10, none⟩ _).below _ h.below.size (fun k hk e => by have e : k = B := e; have := h.hB; omega)), by have := h.big; simpa [World.setCell] using this, h.blk.set 10 _, h.res.keep (Tur.of_set ⟨B, 10, none⟩ _) hRB, RF.kset (f := f) (st := { st with num := t }) (wi := wi) ⟨h.rat.r2, h.rat.r3, h.rat.oF, h.rat.oO, h.rat.oE⟩ (by simp [World.setCell]) (fun b h1 _ => Below.heap_setCell _ _ _ _ h1)⟩
def ChPost (K : Nat → Prop) (w : World) (st' : RSt) (n : Int) (e : Ending) (w' : World) : Prop := ∃ f', e = .returned (.tuple #[.agg (fcells f' st'), .int .u64 n]) ∧ RF (Nw K w) w' f' st' ∧ Below w.heap.size w w'

end
end Go.Proofs.YtdbdmgmenojcaaaDoor
