/- Tells at small faults, one way of saying it for both ends. Condition: a short part, a number that can be told, the handle laid. -/
import Derived.Test.YtmnmoadkpidggaaDoorTellF
namespace Go.Proofs.YtmnmoadkpidggaaDoor
set_option linter.unusedSimpArgs false
set_option linter.unusedVariables false
open Go.RowKit

/-- An error that Tells can be asked of: none; a fault of one part. -/
def Plain1 (w : World) (e : Er) : Prop := e = .nil ∨ ∃ p a n, e = .fault p a (.no n) ∧ p.length ≤ 1000 ∧ Tells w a ∧ 1 ≤ n ∧ n ≤ 14
theorem Plain1.bel {w w' : World} {e : Er} (h : Plain1 w e) (hB : Bel w w') : Plain1 w' e := by
  rcases h with h | ⟨p, a, n, h1, h2, h3, h4⟩
  · exact Or.inl h
  · exact Or.inr ⟨p, a, n, h1, h2, h3.bel hB, h4⟩
theorem tells_plain (e : Er) (v wv : Value) (B : Nat) (w : World) (h : ErAt w v e) (h2 : WrAt B w wv e) (hp : Plain1 w e) (hH : Handle w) :
    Calls Tryd.prog 14 #[v, wv] w fun e w' => e = .returned (.bool true) ∧ Bel w w' := by
  rcases hp with rfl | ⟨p, a, n, rfl, hp, ha, hn1, hn2⟩
  · exact tells_nil v wv B w h h2
  · refine tells_fault p a (.no n) v wv B w h h2 ⟨hp, ha, hn1, hn2⟩ (by simp [deep]) ?_ hH
    rw [errT_fault, errT_no]
    have h1 := ha.len
    have h2 := wordS_len n
    simp only [List.length_append, List.length_cons, List.length_nil]
    omega
end Go.Proofs.YtmnmoadkpidggaaDoor
