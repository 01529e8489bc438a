/- The reference's errors: parts and a number; At. No condition. -/
import Derived.Test.YtmnmoadkpidggaaDoorErr
namespace Go.Proofs.YtmnmoadkpidggaaDoor
set_option linter.unusedSimpArgs false
set_option linter.unusedVariables false
open Go.RowKit

def encPart (x : List UInt8 × Int) : List Value := [.string ⟨x.1.toArray⟩, .int .i64 x.2]
theorem encPart_len (x : List UInt8 × Int) : (encPart x).length = 2 := rfl
/-- An error as the reference tells it: its parts from the outermost on, its number. -/
def partsOf : Er → List (List UInt8 × Int)
  | .nil => []
  | .no _ => []
  | .fault p a e => (p, a) :: partsOf e
def numOf : Er → Int
  | .nil => 0
  | .no n => n
  | .fault _ _ e => numOf e
def WrAt (B : Nat) (w : World) (v : Value) (e : Er) : Prop := ∃ pv, v = .agg #[pv, .int .i64 (numOf e)] ∧ Sl encPart 2 w pv (partsOf e) ∧ ∀ g, pv.ownBlock = some g → B ≤ g
theorem WrAt.bel {B : Nat} {w w' : World} {v : Value} {e : Er} (h : WrAt B w v e) (hB : Bel w w') : WrAt B w' v e := by
  obtain ⟨pv, h1, h2, h3⟩ := h
  exact ⟨pv, h1, h2.bel encPart_len hB, h3⟩
theorem WrAt.mono {B B' : Nat} {w : World} {v : Value} {e : Er} (h : WrAt B w v e) (hb : B' ≤ B) : WrAt B' w v e := by
  obtain ⟨pv, h1, h2, h3⟩ := h
  exact ⟨pv, h1, h2, fun g hg => Nat.le_trans hb (h3 g hg)⟩
theorem RowAt.setOther {α : Type} {enc : α → List Value} {k : Nat} {w : World} {b o : Nat} {l : List α} (h : RowAt enc k w b o l) {c p : Nat} (hc : b ≠ c) (u : Value) : RowAt enc k (w.setCell ⟨c, p, none⟩ u) b o l := by
  intro i hi j hj
  rw [cell_set_other (Or.inl hc)]
  exact h i hi j hj
theorem Sl.setOther {α : Type} {enc : α → List Value} {k : Nat} {w : World} {v : Value} {l : List α} (h : Sl enc k w v l) {c p : Nat} (hc : ∀ g, v.ownBlock = some g → g ≠ c) (u : Value) : Sl enc k (w.setCell ⟨c, p, none⟩ u) v l := by
  rcases h with h | ⟨b, o, cap, h1, h2, h3, h4⟩
  · exact Or.inl h
  · exact Or.inr ⟨b, o, cap, h1, h2, h3, h4.setOther (hc b (by rw [h1]; rfl)) u⟩
theorem WrAt.set {B : Nat} {w : World} {v : Value} {e : Er} (h : WrAt B w v e) {c p : Nat} (hc : c < B) (u : Value) : WrAt B (w.setCell ⟨c, p, none⟩ u) v e := by
  obtain ⟨pv, h1, h2, h3⟩ := h
  exact ⟨pv, h1, h2.setOther (fun g hg => by have := h3 g hg; omega) u, h3⟩

theorem ref_At (p : List UInt8) (a n : Int) (w : World) :
    Calls Tryd.prog 18 #[.string ⟨p.toArray⟩, .int .i64 a, .int .i64 n] w fun en w' => ∃ v, en = .returned v ∧ WrAt w.heap.size w' v (.fault p a (.no n)) ∧ Bel w w' := by
  go_enter Tryd.func18, Tryd.ntmps18
  go_wp2_with fail
  refine bodyPost_ret (v := .agg #[.slice (some ⟨w.heap.size + 1, 0, none⟩) 1 1, .int .i64 n]) (by simp [results, Tryd.results18, go_sem]) rfl ⟨_, rfl, ⟨_, rfl, ?_, ?_⟩, (Bel.rfl'.al _).al _⟩
  · refine Or.inr ⟨_, _, 1, rfl, Nat.le_refl _, by unfold maxLen; omega, ?_⟩
    intro i hi j hj
    have hi : i < 1 := hi
    have hj : j = 0 ∨ j = 1 := by omega
    obtain rfl : i = 0 := by omega
    rcases hj with rfl | rfl <;> simp [partsOf, encPart]
  · intro g hg
    have : w.heap.size + 1 = g := Option.some.inj hg
    omega
end Go.Proofs.YtmnmoadkpidggaaDoor
