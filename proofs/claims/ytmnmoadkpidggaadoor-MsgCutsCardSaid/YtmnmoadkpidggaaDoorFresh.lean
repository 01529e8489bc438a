/- Slices of the call's own, as lists. No condition. -/
import Derived.Test.YtmnmoadkpidggaaDoorBase
namespace Go.Proofs.YtmnmoadkpidggaaDoor
set_option linter.unusedSimpArgs false
set_option linter.unusedVariables false
open Go.RowKit

/-- A slice of the call's own, which may be written. -/
def Fresh {α : Type} (enc : α → List Value) (k : Nat) (B : Nat) (w : World) (v : Value) (l : List α) : Prop :=
  (v = .slice none 0 0 ∧ l = []) ∨ ∃ g cap, v = .slice (some ⟨g, 0, none⟩) l.length cap ∧ l.length ≤ cap ∧ cap ≤ maxLen ∧ B ≤ g ∧ g < w.heap.size ∧ MutAt enc k w g 0 l

theorem Fresh.sl {α : Type} {enc : α → List Value} {k B : Nat} {w : World} {v : Value} {l : List α} (h : Fresh enc k B w v l) : Sl enc k w v l := by
  rcases h with h | ⟨g, cap, h1, h2, h3, _, _, h4⟩
  · exact Or.inl h
  · exact Or.inr ⟨g, 0, cap, h1, h2, h3, h4.1⟩

/-- The cells of a row, one behind the other. -/
theorem row_flat {α : Type} {enc : α → List Value} {k : Nat} (hk : ∀ x, (enc x).length = k) {w : World} {b o : Nat} {l : List α} (h : RowAt enc k w b o l) :
    ∀ j u, (l.flatMap enc)[j]? = some u → w.cell? ⟨b, o + j, none⟩ = some u := by
  intro j u hu
  have key : ∀ (l : List α) j u, (l.flatMap enc)[j]? = some u → ∃ i, ∃ h : i < l.length, ∃ c, c < k ∧ j = i * k + c ∧ (enc l[i])[c]? = some u := by
    intro l
    induction l with
    | nil => intro j u hu; simp at hu
    | cons x r ih =>
      intro j u hu
      rw [List.flatMap_cons] at hu
      rcases Nat.lt_or_ge j (enc x).length with hj | hj
      · rw [List.getElem?_append_left hj] at hu
        exact ⟨0, by simp, j, by rw [← hk x]; exact hj, by omega, by simpa using hu⟩
      · rw [List.getElem?_append_right hj] at hu
        obtain ⟨i, hi, c, hc, he, hu'⟩ := ih _ u hu
        refine ⟨i + 1, by simpa using hi, c, hc, ?_, by simpa using hu'⟩
        rw [hk] at he hj; rw [Nat.add_mul]; omega
  obtain ⟨i, hi, c, hc, rfl, hu'⟩ := key l j u hu
  rw [← Nat.add_assoc, h i hi c hc, hu']

theorem flat_len {α : Type} {enc : α → List Value} {k : Nat} (hk : ∀ x, (enc x).length = k) (l : List α) : (l.flatMap enc).length = l.length * k := by
  induction l with
  | nil => simp
  | cons x r ih => rw [List.flatMap_cons, List.length_append, ih, hk, List.length_cons, Nat.add_mul]; omega

/-- An owned row is fresh. -/
theorem own_fresh {α : Type} {enc : α → List Value} {k : Nat} (hk : ∀ x, (enc x).length = k) {w : World} {B : Nat} {e : TypeId} {v : Value} {l : List α} {xs : List Value} (hx : xs = l.flatMap enc) (h : w.ownsRow B e k v l.length xs) : Fresh enc k B w v l := by
  rcases h.2 with ⟨rfl, h0⟩ | ⟨g, cap, cur, rfl, hg, hh, h1, h2, h3, h4⟩
  · exact Or.inl ⟨rfl, List.length_eq_zero_iff.1 h0⟩
  · refine Or.inr ⟨g, cap, rfl, h1, h2, hg, ?_, own_row hk hx h⟩
    rcases Nat.lt_or_ge g w.heap.size with h' | h'
    · exact h'
    · rw [Array.getElem?_eq_none h'] at hh; cases hh

end Go.Proofs.YtmnmoadkpidggaaDoor
