/- The form of a form is that form. No program in sight; no condition beside legs that may be. -/
import Derived.Test.YtdigfjpknckpfaaGreatDoorLegS
namespace Go.Proofs.YtdigfjpknckpfaaGreatDoor
set_option linter.unusedSimpArgs false
set_option linter.unusedVariables false
open Go.RowKit

theorem canon_unit {l : List Leg} (h : checkS l = .nil) : Unit1 (canonS l).1 := by
  have hu := unit_div (unit_of_check h)
  unfold canonS
  split
  · exact hu
  · intro x hx
    simp only at hx
    obtain ⟨y, hy, rfl⟩ := List.mem_map.1 hx
    rcases hu y hy with h | h
    · right; show wrap64 (-y.g) = -1; rw [h]; exact wrap_1
    · left; show wrap64 (-y.g) = 1; rw [h]; exact wrap_m1
theorem canon_pos {l : List Leg} (h : checkS l = .nil) {x : Leg} (hx : x ∈ (canonS l).1) : 1 ≤ x.s ∧ 1 ≤ x.r := by
  obtain ⟨i, hi, rfl⟩ := List.getElem_of_mem hx
  have hi2 : i < (sortS l).length := by rw [sortS_len]; rw [canon_len] at hi; exact hi
  have h1 := bad_facts ((check_ok h).2.2.1 _ ((sortS_perm l).mem_iff.1 (List.getElem_mem hi2)))
  have h2 := canon_mul h hi hi2
  have h3 := canon_bd h (List.getElem_mem hi)
  refine ⟨by rw [(canon_get h hi hi2).1]; exact h1.1, ?_⟩
  rcases Int.lt_or_le 0 (canonS l).1[i].r with h4 | h4
  · omega
  · have : (canonS l).1[i].r = 0 := by omega
    rw [this, Int.zero_mul] at h2
    omega
theorem bad_mk {x : Leg} (h1 : 1 ≤ x.s) (h2 : x.g = 1 ∨ x.g = -1) (h3 : 1 ≤ x.r) (h4 : x.r ≤ 4) : legBad x = false := by
  unfold legBad
  have e1 : decide (x.s < 1) = false := by simp; omega
  have e3 : decide (1 ≤ x.r ∧ x.r ≤ 4) = true := by simp; omega
  rw [e1, e3]
  rcases h2 with h | h <;> simp [h]
theorem canon_check {l : List Leg} (h : checkS l = .nil) : checkS (canonS l).1 = .nil := by
  obtain ⟨k1, k2, _, _⟩ := check_ok h
  refine check_mk (by rw [canon_len]; exact k1) (by rw [canon_len]; exact k2) ?_ ?_
  · intro x hx
    obtain ⟨p1, p2⟩ := canon_pos h hx
    exact bad_mk p1 (canon_unit h x hx) p2 (canon_bd h hx).2
  · rw [List.pairwise_iff_getElem]
    intro i j hi hj hij
    have key : ∀ d, ∀ hd : i + 1 + d < (canonS l).1.length, (canonS l).1[i].s < (canonS l).1[i + 1 + d].s := by
      intro d
      induction d with
      | zero => intro hd; exact canon_lt h hd
      | succ d ih =>
        intro hd
        have h1 := ih (by omega)
        have h2 := canon_lt (l := l) h (i := i + 1 + d) hd
        exact Int.lt_trans h1 h2
    have := key (j - i - 1) (by omega)
    simp only [show i + 1 + (j - i - 1) = j by omega] at this
    omega
theorem canon_sorted {l : List Leg} (h : checkS l = .nil) : sortS (canonS l).1 = (canonS l).1 := by
  have hc := canon_check h
  obtain ⟨_, _, _, hu⟩ := check_ok hc
  refine List.Perm.eq_of_pairwise (le := fun a b : Leg => a.s ≤ b.s) ?_ (sortS_pair _) ?_ (sortS_perm _)
  · intro a b ha hb hab hba
    exact hu a ((sortS_perm _).mem_iff.1 ha) b hb (by omega)
  · rw [List.pairwise_iff_getElem]
    intro i j hi hj hij
    have key : ∀ d, ∀ hd : i + 1 + d < (canonS l).1.length, (canonS l).1[i].s < (canonS l).1[i + 1 + d].s := by
      intro d
      induction d with
      | zero => intro hd; exact canon_lt h hd
      | succ d ih =>
        intro hd
        have h1 := ih (by omega)
        have h2 := canon_lt (l := l) h (i := i + 1 + d) hd
        exact Int.lt_trans h1 h2
    have := key (j - i - 1) (by omega)
    simp only [show i + 1 + (j - i - 1) = j by omega] at this
    omega
theorem canon_again {l : List Leg} (h : checkS l = .nil) : canonS (canonS l).1 = ((canonS l).1, false) := by
  have h1 : divS (canonS l).1 = (canonS l).1 := by
    unfold divS
    rw [canon_sorted h, canon_gcd h]
    have : ∀ o : List Leg, o.map (div1 1) = o := by
      intro o
      induction o with
      | nil => rfl
      | cons x t ih => rw [List.map_cons, ih]; simp [div1]
    exact this _
  have h2 := canon_up h
  show (if headUp (divS (canonS l).1) then (divS (canonS l).1, false) else (turnS (divS (canonS l).1), true)) = _
  rw [h1, h2]; rfl
/-- A fault of Check: its place and its number. -/
theorem check_fault {l : List Leg} (h : checkS l ≠ .nil) : ∃ a n, checkS l = .fault legW a (.no n) ∧ 0 ≤ a ∧ a ≤ 4 ∧ 1 ≤ n ∧ n ≤ 14 := by
  unfold checkS at h ⊢
  by_cases hl : l.length < 2 ∨ 4 < l.length
  · rw [if_pos hl]
    exact ⟨_, _, rfl, by omega, by omega, by decide, by decide⟩
  · rw [if_neg hl] at h ⊢
    cases hf : firstBad (legAt l) l.length with
    | none => rw [hf] at h; exact absurd rfl h
    | some y =>
      obtain ⟨i, e⟩ := y
      unfold firstBad at hf
      obtain ⟨j, hj0, hj⟩ := List.exists_of_findSome?_eq_some hf
      have hj1 : j < l.length := by simpa using hj0
      have hij : i = j ∧ legAt l j = some e := by
        cases hq : legAt l j with
        | none => rw [hq] at hj; cases hj
        | some z => rw [hq] at hj; simp at hj; exact ⟨hj.1.symm, by rw [hj.2]⟩
      obtain ⟨rfl, hle⟩ := hij
      have he : e = 1 ∨ e = 6 := by
        unfold legAt at hle
        split at hle
        · cases hle
        · split at hle
          · left; simpa using hle.symm
          · split at hle
            · right; simpa using hle.symm
            · cases hle
      exact ⟨_, _, rfl, by omega, by omega, by omega, by omega⟩
end Go.Proofs.YtdigfjpknckpfaaGreatDoor
