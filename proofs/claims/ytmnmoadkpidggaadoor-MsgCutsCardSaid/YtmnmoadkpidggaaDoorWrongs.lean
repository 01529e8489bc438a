/- A reference's error handed back. No condition. -/
import Derived.Test.YtmnmoadkpidggaaDoorRefErr
namespace Go.Proofs.YtmnmoadkpidggaaDoor
set_option linter.unusedSimpArgs false
set_option linter.unusedVariables false
open Go.RowKit

/-- A reference's error handed back. -/
def Wrongs (w : World) (e : Er) (en : Ending) (w' : World) : Prop := ∃ v, en = .returned v ∧ WrAt w.heap.size w' v e ∧ Bel w w'

theorem sl_shape {α : Type} {enc : α → List Value} {k : Nat} {w : World} {v : Value} {l : List α} (h : Sl enc k w v l) : ∃ a n c, v = .slice a n c := by
  rcases h with ⟨rfl, rfl⟩ | ⟨b, o, c, rfl, _⟩
  · exact ⟨_, _, _, rfl⟩
  · exact ⟨_, _, _, rfl⟩
/-- A wrong's cells, and that they may be written. -/
theorem new2 {w w1 : World} {T : TypeId} (hB : Bel (w.alloc (.cells #[.slice none 0 0, .int .i64 0] T)) w1) :
    w1.cell? ⟨w.heap.size, 0, none⟩ = some (.slice none 0 0) ∧ w1.cell? ⟨w.heap.size, 1, none⟩ = some (.int .i64 0) ∧ w1.frozen? ⟨w.heap.size, 0, none⟩ = false ∧ w1.frozen? ⟨w.heap.size, 1, none⟩ = false := by
  refine ⟨hB.cellv (by simp), hB.cellv (by simp), ?_, ?_⟩
  · rw [hB.frozen (p := ⟨w.heap.size, 0, none⟩) (by simp)]; simp
  · rw [hB.frozen (p := ⟨w.heap.size, 1, none⟩) (by simp)]; simp
/-- .. and what is told of it in the end. -/
theorem wrongs_of {w w1 : World} {T : TypeId} {pv : Value} {e : Er} (hB : Bel (w.alloc (.cells #[.slice none 0 0, .int .i64 0] T)) w1) (h : Sl encPart 2 w1 pv (partsOf e)) (ho : ∀ g, pv.ownBlock = some g → (w.alloc (.cells #[.slice none 0 0, .int .i64 0] T)).heap.size ≤ g) :
    Wrongs w e (.returned (.agg #[pv, .int .i64 (numOf e)])) ((w1.setCell ⟨w.heap.size, 0, none⟩ pv).setCell ⟨w.heap.size, 1, none⟩ (.int .i64 (numOf e))) := by
  have ho' : ∀ g, pv.ownBlock = some g → w.heap.size + 1 ≤ g := fun g hg => by simpa using ho g hg
  refine ⟨_, rfl, ⟨pv, rfl, (h.setOther ?_ _).setOther ?_ _, fun g hg => Nat.le_of_succ_le (ho' g hg)⟩, ?_⟩
  · intro g hg; have := ho' g hg; omega
  · intro g hg; have := ho' g hg; omega
  · have h0 : Bel w w1 := (Bel.rfl'.al _).step hB
    exact (h0.st (Nat.le_refl _) _).st (Nat.le_refl _) _

end Go.Proofs.YtmnmoadkpidggaaDoor
