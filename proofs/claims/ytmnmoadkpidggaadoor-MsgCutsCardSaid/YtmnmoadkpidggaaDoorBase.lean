/- Words of this seat's walks that speak of no program: slices of structs as lists, rows that the call itself writes, errors as plain data. No condition. -/
import Derived.WalkKit
import Derived.WalkSpells
import Derived.Lib.Hide
import Derived.Deep.AppendLies
import Derived.Deep.Draws
namespace Go.Proofs.YtmnmoadkpidggaaDoor
set_option linter.unusedSimpArgs false
set_option linter.unusedVariables false
open Go.RowKit

theorem lt_of_cell {w : World} {a : Addr} {v : Value} (h : w.cell? a = some v) : a.block < w.heap.size := by
  rcases Nat.lt_or_ge a.block w.heap.size with h' | h'
  · exact h'
  · simp [World.cell?, Array.getElem?_eq_none h'] at h

/-- What was there is there still. -/
abbrev Bel (w w' : World) : Prop := Below w.heap.size w w'

theorem Bel.cellv {w w' : World} (h : Bel w w') {a : Addr} {v : Value} (hc : w.cell? a = some v) : w'.cell? a = some v :=
  (h.cell (p := a) (lt_of_cell hc)).trans hc
theorem Bel.step {w w1 w2 : World} (h : Bel w w1) (h2 : Bel w1 w2) : Bel w w2 := h.trans (h2.mono h.size)
theorem Bel.rfl' {w : World} : Bel w w := Below.refl _ _
theorem Bel.al {w w' : World} (h : Bel w w') (o : Obj) : Bel w (w'.alloc o) := Below.alloc h h.size o
theorem Bel.dr {w w' : World} (h : Bel w w') : Bel w w'.drew := Below.drew h
theorem Bel.dn {w w' : World} (h : Bel w w') (n : Nat) : Bel w (w'.drewN n) := by
  refine h.trans ⟨rfl, rfl, rfl, Nat.le_refl _, fun _ _ => rfl⟩
theorem Bel.st {w w' : World} (h : Bel w w') {p : Addr} (hp : w.heap.size ≤ p.block) (u : Value) : Bel w (w'.setCell p u) := Below.setCell h hp u
theorem Bel.own {w w' : World} (h : Bel w w') {b : Nat} {e : TypeId} {k : Nat} {v : Value} {n : Nat} {xs : List Value} (ho : w.ownsRow b e k v n xs) : w'.ownsRow b e k v n xs := by
  obtain ⟨h1, h2⟩ := ho
  refine ⟨h1, ?_⟩
  rcases h2 with h2 | ⟨g, cap, cur, hv, hg, hh, r⟩
  · exact Or.inl h2
  · refine Or.inr ⟨g, cap, cur, hv, hg, ?_, r⟩
    rw [h.block g ?_]; exact hh
    rcases Nat.lt_or_ge g w.heap.size with h' | h'
    · exact h'
    · rw [Array.getElem?_eq_none h'] at hh; cases hh

section
variable {α : Type} (enc : α → List Value) (k : Nat)
/-- The row at a block's place holds these. -/
def RowAt (w : World) (b o : Nat) (l : List α) : Prop :=
  ∀ i (h : i < l.length) j, j < k → w.cell? ⟨b, o + i * k + j, none⟩ = (enc l[i])[j]?
/-- .. and may be written. -/
def MutAt (w : World) (b o : Nat) (l : List α) : Prop :=
  RowAt enc k w b o l ∧ ∀ i, i < l.length → ∀ j, j < k → w.frozen? ⟨b, o + i * k + j, none⟩ = false
/-- A slice reads as a list. -/
def Sl (w : World) (v : Value) (l : List α) : Prop :=
  (v = .slice none 0 0 ∧ l = []) ∨ ∃ b o cap, v = .slice (some ⟨b, o, none⟩) l.length cap ∧ l.length ≤ cap ∧ cap ≤ maxLen ∧ RowAt enc k w b o l
end
section
variable {α : Type} {enc : α → List Value} {k : Nat}

theorem RowAt.bel {w w' : World} {b o : Nat} {l : List α} (h : RowAt enc k w b o l) (hk : ∀ x, (enc x).length = k) (hB : Bel w w') : RowAt enc k w' b o l := by
  intro i hi j hj
  have h0 := h i hi j hj
  have h1 : (enc l[i])[j]? = some ((enc l[i])[j]'(by rw [hk]; exact hj)) := List.getElem?_eq_getElem _
  rw [h1] at h0 ⊢
  exact hB.cellv h0

theorem RowAt.nil {w : World} {b o : Nat} : RowAt enc k w b o [] := fun i h => by simp at h

theorem Sl.bel {w w' : World} {v : Value} {l : List α} (h : Sl enc k w v l) (hk : ∀ x, (enc x).length = k) (hB : Bel w w') : Sl enc k w' v l := by
  rcases h with h | ⟨b, o, cap, h1, h2, h3, h4⟩
  · exact Or.inl h
  · exact Or.inr ⟨b, o, cap, h1, h2, h3, h4.bel hk hB⟩

theorem Sl.nil {w : World} : Sl enc k w (.slice none 0 0) [] := Or.inl ⟨rfl, rfl⟩

/-- What was written whole: an owned row reads as its list. -/
theorem own_row {w : World} {base : Nat} {e : TypeId} {g cap : Nat} {l : List α} (hk : ∀ x, (enc x).length = k) {xs : List Value} (hx : xs = l.flatMap enc)
    (h : w.ownsRow base e k (.slice (some ⟨g, 0, none⟩) l.length cap) l.length xs) : MutAt enc k w g 0 l := by
  subst hx
  have key : ∀ (l : List α) i (hi : i < l.length) j, j < k → (l.flatMap enc)[i * k + j]? = (enc l[i])[j]? := by
    intro l
    induction l with
    | nil => intro i hi; simp at hi
    | cons x r ih =>
      intro i hi j hj
      rw [List.flatMap_cons]
      rcases i with _ | i
      · rw [List.getElem?_append_left (by rw [hk]; omega)]; simp
      · rw [List.getElem?_append_right (by rw [hk, Nat.add_mul]; omega)]
        have : (i + 1) * k + j - (enc x).length = i * k + j := by rw [hk, Nat.add_mul]; omega
        rw [this, ih i (by simpa using hi) j hj]; simp
  have lt : ∀ i j, i < l.length → j < k → i * k + j < l.length * k := by
    intro i j hi hj
    have : (i + 1) * k ≤ l.length * k := Nat.mul_le_mul_right _ hi
    rw [Nat.add_mul] at this; omega
  refine ⟨fun i hi j hj => ?_, fun i hi j hj => ?_⟩
  · rw [show (0 + i * k + j) = i * k + j by omega, h.cellAt _ (lt i j hi hj)]
    exact key l i hi j hj
  · exact h.frozenAt _

theorem own_sl {w : World} {base : Nat} {e : TypeId} {v : Value} {l : List α} (hk : ∀ x, (enc x).length = k) {xs : List Value} (hx : xs = l.flatMap enc)
    (h : w.ownsRow base e k v l.length xs) : Sl enc k w v l := by
  rcases h.2 with ⟨rfl, h0⟩ | ⟨g, cap, cur, rfl, hg, hh, h1, h2, h3, h4⟩
  · exact Or.inl ⟨rfl, List.length_eq_zero_iff.1 h0⟩
  · exact Or.inr ⟨g, 0, cap, rfl, h1, h2, (own_row hk hx h).1⟩

theorem MutAt.bel {w w' : World} {b o : Nat} {l : List α} (h : MutAt enc k w b o l) (hk : ∀ x, (enc x).length = k) (hB : Bel w w') : MutAt enc k w' b o l := by
  refine ⟨h.1.bel hk hB, fun i hi j hj => ?_⟩
  have h0 := h.1 i hi j hj
  have h1 : (enc l[i])[j]? = some ((enc l[i])[j]'(by rw [hk]; exact hj)) := List.getElem?_eq_getElem _
  rw [h1] at h0
  rw [hB.frozen (p := ⟨b, o + i * k + j, none⟩) (lt_of_cell h0)]
  exact h.2 i hi j hj

theorem cell_set_same {w : World} {b o : Nat} {v u : Value} (h : w.cell? ⟨b, o, none⟩ = some u) : (w.setCell ⟨b, o, none⟩ v).cell? ⟨b, o, none⟩ = some v := by
  simp only [World.cell?, World.setCell] at *
  rw [Array.getElem?_modify, if_pos rfl]
  revert h
  cases hw : w.heap[b]? with
  | none => simp
  | some ob =>
    cases ob <;> simp
    case cells c e f =>
      intro h
      have : o < c.size := by
        rcases Nat.lt_or_ge o c.size with h' | h'
        · exact h'
        · rw [Array.getElem?_eq_none h'] at h; cases h
      rw [Array.getElem?_setIfInBounds_self_of_lt this]
theorem cell_set_other {w : World} {a : Addr} {b o : Nat} {v : Value} (h : a.block ≠ b ∨ a.off ≠ o) : (w.setCell ⟨b, o, none⟩ v).cell? a = w.cell? a := by
  simp only [World.cell?, World.setCell]
  rw [Array.getElem?_modify]
  by_cases hb : b = a.block
  · rw [if_pos hb]
    have ho : a.off ≠ o := by rcases h with h | h; exact absurd hb.symm h; exact h
    cases hw : w.heap[a.block]? with
    | none => simp
    | some ob =>
      cases ob <;> simp
      case cells c e f =>
        split
        · rfl
        · rw [Array.getElem?_setIfInBounds_ne (Ne.symm ho)]
  · rw [if_neg hb]
theorem frozen_set {w : World} {a p : Addr} {v : Value} : (w.setCell p v).frozen? a = w.frozen? a := by
  simp only [World.frozen?, World.setCell]
  rw [Array.getElem?_modify]
  by_cases hb : p.block = a.block
  · rw [if_pos hb]
    cases hw : w.heap[a.block]? with
    | none => simp
    | some ob => cases ob <;> simp
  · rw [if_neg hb]

/-- One cell of one element is written. -/
theorem MutAt.set {w : World} {b o : Nat} {l : List α} (h : MutAt enc k w b o l) (hk : ∀ x, (enc x).length = k) {i c : Nat} (hi : i < l.length) (hc : c < k) {u : Value} {y : α}
    (hy : enc y = (enc l[i]).set c u) : MutAt enc k (w.setCell ⟨b, o + i * k + c, none⟩ u) b o (l.set i y) := by
  have inj : ∀ i' j', j' < k → o + i' * k + j' = o + i * k + c → i' = i ∧ j' = c := by
    intro i' j' hj' e
    have e : i' * k + j' = i * k + c := by omega
    have h1 : (i' * k + j') / k = i' := by rw [Nat.mul_comm, Nat.mul_add_div (by omega), Nat.div_eq_of_lt hj']; omega
    have h2 : (i * k + c) / k = i := by rw [Nat.mul_comm, Nat.mul_add_div (by omega), Nat.div_eq_of_lt hc]; omega
    have : i' = i := by rw [← h1, e, h2]
    subst this
    exact ⟨rfl, by omega⟩
  refine ⟨fun i' hi' j hj => ?_, fun i' hi' j hj => ?_⟩
  · have hi'' : i' < l.length := by simpa using hi'
    have h0 := h.1 i' hi'' j hj
    by_cases e : i' = i ∧ j = c
    · obtain ⟨rfl, rfl⟩ := e
      have h1 : (enc l[i'])[j]? = some ((enc l[i'])[j]'(by rw [hk]; exact hj)) := List.getElem?_eq_getElem _
      rw [h1] at h0
      rw [cell_set_same h0]
      simp [hy, hk, hj]
    · have ne : (⟨b, o + i' * k + j, none⟩ : Addr).off ≠ o + i * k + c := fun e' => e (inj i' j hj e')
      rw [cell_set_other (Or.inr ne), h0]
      by_cases ei : i' = i
      · subst ei
        have : j ≠ c := fun e' => e ⟨rfl, e'⟩
        simp [hy, List.getElem?_set_ne (Ne.symm this)]
      · simp [List.getElem_set_ne (Ne.symm ei)]
  · rw [frozen_set]; exact h.2 i' (by simpa using hi') j hj
end

def I64 (x : Int) : Prop := -9223372036854775808 ≤ x ∧ x ≤ 9223372036854775807
instance (x : Int) : Decidable (I64 x) := by unfold I64; infer_instance

/-- An error as plain data: none; a number; a fault. -/
inductive Er where
  | nil
  | no (n : Int)
  | fault (part : List UInt8) (at_ : Int) (e : Er)
  deriving DecidableEq
end Go.Proofs.YtmnmoadkpidggaaDoor
