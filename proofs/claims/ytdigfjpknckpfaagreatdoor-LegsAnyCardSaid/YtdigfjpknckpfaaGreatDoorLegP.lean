/- Plain laws of legs: turned, their check, their form, their net. No program in sight. -/
import Derived.Test.YtdigfjpknckpfaaGreatDoorLegG
namespace Go.Proofs.YtdigfjpknckpfaaGreatDoor
set_option linter.unusedSimpArgs false
set_option linter.unusedVariables false
open Go.RowKit

theorem wrap_neg {g : Int} (h : I64 g) (h2 : g ≠ -9223372036854775808) : wrap64 (-g) = -g := by
  unfold I64 at h; unfold wrap64; omega
theorem wrap_least : wrap64 (-(-9223372036854775808)) = -9223372036854775808 := by decide +kernel
theorem wrap_m1 : wrap64 (-(-1)) = 1 := by decide +kernel
theorem wrap_1 : wrap64 (-1) = -1 := by decide +kernel
theorem wrap_p1 : wrap64 1 = 1 := by decide +kernel

theorem turn1_bad {x : Leg} (h : I64 x.g) : legBad (turn1 x) = legBad x := by
  have key : ((!(wrap64 (-x.g) == 1)) && !(wrap64 (-x.g) == -1)) = ((!(x.g == 1)) && !(x.g == -1)) := by
    by_cases h2 : x.g = -9223372036854775808
    · rw [h2]; decide +kernel
    · rw [wrap_neg h h2, Bool.eq_iff_iff]; simp; omega
  unfold legBad turn1
  simp only
  rw [key]
theorem turnS_len (l : List Leg) : (turnS l).length = l.length := by simp [turnS]
theorem turnS_check {l : List Leg} (h : ∀ x ∈ l, I64 x.g) : checkS (turnS l) = checkS l := by
  have hat : ∀ i, legAt (turnS l) i = legAt l i := by
    intro i
    unfold legAt turnS
    rw [List.getElem?_map]
    cases hx : l[i]? with
    | none => rfl
    | some x =>
      obtain ⟨hi, rfl⟩ := List.getElem?_eq_some_iff.1 hx
      simp only [Option.map_some]
      rw [turn1_bad (h _ (List.getElem_mem hi)), ← List.map_take, List.any_map]
      rfl
  unfold checkS
  rw [turnS_len, show legAt (turnS l) = legAt l from funext hat]

theorem insL_turn (x : Leg) (l : List Leg) : insL (turn1 x) (turnS l) = turnS (insL x l) := by
  induction l with
  | nil => rfl
  | cons y t ih =>
    show insL (turn1 x) (turn1 y :: turnS t) = _
    unfold insL
    show (if x.s ≤ y.s then _ else _) = _
    split
    · rfl
    · rw [ih]; rfl
theorem sortS_turn (l : List Leg) : sortS (turnS l) = turnS (sortS l) := by
  induction l with
  | nil => rfl
  | cons x t ih =>
    show insL (turn1 x) (sortS (turnS t)) = _
    rw [ih, insL_turn]; rfl
theorem gcdAll_turn (l : List Leg) : gcdAll (turnS l) = gcdAll l := by
  unfold gcdAll turnS
  rw [List.foldl_map]; rfl
theorem divS_turn (l : List Leg) : divS (turnS l) = turnS (divS l) := by
  unfold divS
  rw [sortS_turn, gcdAll_turn]
  unfold turnS
  rw [List.map_map, List.map_map]
  rfl
def Unit1 (l : List Leg) : Prop := ∀ x ∈ l, x.g = 1 ∨ x.g = -1
theorem turn_turn {l : List Leg} (h : Unit1 l) : turnS (turnS l) = l := by
  unfold turnS
  rw [List.map_map]
  conv => rhs; rw [← List.map_id l]
  refine List.map_congr_left fun x hx => ?_
  obtain ⟨s, g, r⟩ := x
  rcases h _ hx with h | h <;> (simp only at h; subst h; simp [turn1, wrap_m1, wrap_1, wrap_p1])
theorem unit_of_check {l : List Leg} (h : checkS l = .nil) : Unit1 l := fun x hx => (bad_facts ((check_ok h).2.2.1 x hx)).2.1
theorem unit_div {l : List Leg} (h : Unit1 l) : Unit1 (divS l) := by
  intro x hx
  unfold divS at hx
  obtain ⟨y, hy, rfl⟩ := List.mem_map.1 hx
  exact h y ((sortS_perm l).mem_iff.1 hy)
theorem head_turn {l : List Leg} (h : Unit1 l) (hne : l ≠ []) : headUp (turnS l) = !headUp l := by
  cases l with
  | nil => exact absurd rfl hne
  | cons x t =>
    obtain ⟨s, g, r⟩ := x
    rcases h _ (List.mem_cons_self) with h | h <;> (simp only at h; subst h; simp [turnS, turn1, headUp, wrap_m1, wrap_1, wrap_p1])
theorem canon_turn {l : List Leg} (h : checkS l = .nil) : canonS (turnS l) = ((canonS l).1, !(canonS l).2) := by
  have hu := unit_div (unit_of_check h)
  have hne : divS l ≠ [] := by
    intro e
    have := congrArg List.length e
    unfold divS at this
    have h2 := (check_ok h).1
    simp [sortS_len] at this
    rw [this] at h2; simp at h2
  unfold canonS
  rw [divS_turn, head_turn hu hne]
  cases headUp (divS l)
  · simp
  · simp [turn_turn hu]
theorem canon_len {l : List Leg} : (canonS l).1.length = l.length := by
  unfold canonS
  split
  · simp [divS, sortS_len]
  · simp [turnS, divS, sortS_len]

/-! ### Net of few legs at prices that are no giants -/
def sumG : List (Leg × Int) → Int
  | [] => 0
  | (x, p) :: t => x.g * x.r * p + sumG t
def FewG (t : List (Leg × Int)) : Prop := ∀ y ∈ t, (y.1.g = 1 ∨ y.1.g = -1) ∧ 1 ≤ y.1.r ∧ y.1.r ≤ 4 ∧ -1125899906842624 ≤ y.2 ∧ y.2 ≤ 1125899906842624
theorem part_few {x : Leg} {p : Int} (hg : x.g = 1 ∨ x.g = -1) (h1 : 1 ≤ x.r) (h4 : x.r ≤ 4) (hp : -1125899906842624 ≤ p) (hp2 : p ≤ 1125899906842624) :
    partS x p = (x.g * x.r * p, 0) ∧ -4503599627370496 ≤ x.g * x.r * p ∧ x.g * x.r * p ≤ 4503599627370496 := by
  have hr : x.r = 1 ∨ x.r = 2 ∨ x.r = 3 ∨ x.r = 4 := by omega
  obtain ⟨s, g, r⟩ := x
  simp only at *
  have key : I64 (g * r) ∧ I64 (g * r * p) ∧ -4503599627370496 ≤ g * r * p ∧ g * r * p ≤ 4503599627370496 := by
    unfold I64
    rcases hg with rfl | rfl <;> rcases hr with rfl | rfl | rfl | rfl <;> omega
  obtain ⟨k1, k2, k3⟩ := key
  refine ⟨?_, k3⟩
  unfold partS
  simp only
  rw [mulS_in k1]
  simp only [if_true]
  exact mulS_in k2
theorem netGo_few (t : List (Leg × Int)) : ∀ (a : Int), FewG t → t.length ≤ 4 → -18014398509481984 + (t.length : Int) * 4503599627370496 ≤ a → a ≤ 18014398509481984 - (t.length : Int) * 4503599627370496 → netGo t a = (a + sumG t, 0) := by
  induction t with
  | nil => intro a _ _ _ _; simp [netGo, sumG]
  | cons y t ih =>
    intro a hf hl h1 h2
    obtain ⟨x, p⟩ := y
    obtain ⟨g, r1, r4, p1, p2⟩ := hf (x, p) (List.mem_cons_self)
    obtain ⟨e, b1, b2⟩ := part_few g r1 r4 p1 p2
    have hf' : FewG t := fun y hy => hf y (List.mem_cons_of_mem _ hy)
    rw [netGo_cons, e]
    unfold sumG
    generalize x.g * x.r * p = q at b1 b2 ⊢
    rw [List.length_cons] at hl h1 h2
    have hin : I64 (a + q) := by unfold I64; omega
    rw [addS_in hin]
    simp only [if_true]
    rw [ih (a + q) hf' (by omega) (by omega) (by omega), Int.add_assoc]
theorem net_few {l : List Leg} {ps : List Int} (hc : checkS l = .nil) (hl : ps.length = l.length) (hp : ∀ p ∈ ps, -1125899906842624 ≤ p ∧ p ≤ 1125899906842624) : netS l ps = (sumG (l.zip ps), 0) := by
  obtain ⟨_, h4, hb, _⟩ := check_ok hc
  have hf : FewG (l.zip ps) := by
    intro y hy
    have h1 := bad_facts (hb _ (List.of_mem_zip hy).1)
    have h2 := hp _ (List.of_mem_zip hy).2
    exact ⟨h1.2.1, h1.2.2.1, h1.2.2.2, h2.1, h2.2⟩
  have hz : (l.zip ps).length ≤ 4 := by simp; omega
  unfold netS
  rw [if_pos ⟨hc, hl⟩, netGo_few _ 0 hf hz (by omega) (by omega), Int.zero_add]
theorem sum_turn {l : List Leg} (h : Unit1 l) : ∀ ps, sumG ((turnS l).zip ps) = -sumG (l.zip ps) := by
  induction l with
  | nil => intro ps; rfl
  | cons x t ih =>
    intro ps
    cases ps with
    | nil => rfl
    | cons p ps =>
      have e : sumG ((turnS (x :: t)).zip (p :: ps)) = (turn1 x).g * x.r * p + sumG ((turnS t).zip ps) := rfl
      have e2 : sumG ((x :: t).zip (p :: ps)) = x.g * x.r * p + sumG (t.zip ps) := rfl
      rw [e, e2, ih (fun y hy => h y (List.mem_cons_of_mem _ hy))]
      have hg : (turn1 x).g = -x.g := by
        obtain ⟨s, g, r⟩ := x
        rcases h _ (List.mem_cons_self) with h | h <;> (simp only at h; subst h; simp [turn1, wrap_m1, wrap_1, wrap_p1])
      rw [hg, Int.neg_mul, Int.neg_mul, Int.neg_add]
theorem net_turn {l : List Leg} {ps : List Int} (hc : checkS l = .nil) (hl : ps.length = l.length) (hp : ∀ p ∈ ps, -1125899906842624 ≤ p ∧ p ≤ 1125899906842624) : netS (turnS l) ps = (-(netS l ps).1, 0) := by
  have hu := unit_of_check hc
  have hc2 : checkS (turnS l) = .nil := by
    rw [turnS_check]; exact hc
    intro x hx
    rcases hu x hx with h | h <;> (rw [h]; decide)
  rw [net_few hc hl hp, net_few hc2 (by rw [turnS_len]; exact hl) hp, sum_turn hu]
end Go.Proofs.YtdigfjpknckpfaaGreatDoor
