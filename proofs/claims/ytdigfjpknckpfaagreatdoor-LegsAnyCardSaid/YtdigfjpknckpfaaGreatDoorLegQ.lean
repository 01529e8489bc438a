/- Plain laws of legs: the greatest divisor of all ratios. No program in sight. -/
import Derived.Test.YtdigfjpknckpfaaGreatDoorLegP
namespace Go.Proofs.YtdigfjpknckpfaaGreatDoor
set_option linter.unusedSimpArgs false
set_option linter.unusedVariables false
open Go.RowKit

def gN (l : List Leg) : Nat := l.foldl (fun a x => Nat.gcd a x.r.natAbs) 0
def Small (l : List Leg) : Prop := ∀ x ∈ l, 1 ≤ x.r ∧ x.r ≤ 4
theorem gcdS_small {a : Nat} {r : Int} (hr : 1 ≤ r) (h4 : r ≤ 4) : gcdS a r = ((Nat.gcd a r.natAbs : Nat) : Int) := by
  have h1 : Nat.gcd a r.natAbs ≤ r.natAbs := Nat.gcd_le_right _ (by omega)
  unfold gcdS
  rw [show ((a : Int)).natAbs = a from Int.natAbs_natCast a, if_pos (by omega)]
theorem foldl_small (l : List Leg) : ∀ a : Nat, Small l → l.foldl (fun a x => gcdS a x.r) (a : Int) = ((l.foldl (fun a x => Nat.gcd a x.r.natAbs) a : Nat) : Int) := by
  induction l with
  | nil => intro a _; rfl
  | cons x t ih =>
    intro a h
    have hx := h x (List.mem_cons_self)
    rw [List.foldl_cons, List.foldl_cons, gcdS_small hx.1 hx.2]
    exact ih _ (fun y hy => h y (List.mem_cons_of_mem _ hy))
theorem gcdAll_gN {l : List Leg} (h : Small l) : gcdAll l = (gN l : Int) := foldl_small l 0 h
theorem foldl_perm {l m : List Leg} (h : l.Perm m) : ∀ a : Nat, l.foldl (fun a x => Nat.gcd a x.r.natAbs) a = m.foldl (fun a x => Nat.gcd a x.r.natAbs) a := by
  induction h with
  | nil => intro a; rfl
  | cons x _ ih => intro a; exact ih _
  | swap x y t =>
    intro a
    simp only [List.foldl_cons]
    rw [Nat.gcd_assoc, Nat.gcd_comm y.r.natAbs, ← Nat.gcd_assoc]
  | trans _ _ ih1 ih2 => intro a; rw [ih1, ih2]
theorem gN_perm {l m : List Leg} (h : l.Perm m) : gN l = gN m := foldl_perm h 0
theorem foldl_dvd (l : List Leg) : ∀ a, (l.foldl (fun a x => Nat.gcd a x.r.natAbs) a ∣ a) ∧ ∀ x ∈ l, l.foldl (fun a x => Nat.gcd a x.r.natAbs) a ∣ x.r.natAbs := by
  induction l with
  | nil => intro a; exact ⟨Nat.dvd_refl _, by simp⟩
  | cons x t ih =>
    intro a
    obtain ⟨h1, h2⟩ := ih (Nat.gcd a x.r.natAbs)
    rw [List.foldl_cons]
    refine ⟨Nat.dvd_trans h1 (Nat.gcd_dvd_left _ _), fun y hy => ?_⟩
    rcases List.mem_cons.1 hy with rfl | hy
    · exact Nat.dvd_trans h1 (Nat.gcd_dvd_right _ _)
    · exact h2 y hy
theorem gN_dvd {l : List Leg} {x : Leg} (hx : x ∈ l) : gN l ∣ x.r.natAbs := (foldl_dvd l 0).2 x hx
theorem gN_pos {l : List Leg} (h : Small l) (hne : l ≠ []) : 1 ≤ gN l := by
  cases l with
  | nil => exact absurd rfl hne
  | cons x t =>
    have h1 := gN_dvd (l := x :: t) (List.mem_cons_self)
    have h2 := h x (List.mem_cons_self)
    have := Nat.pos_of_dvd_of_pos h1 (by omega)
    omega
theorem natAbs_div {r : Int} {d : Nat} (hr : 0 ≤ r) : (r / (d : Int)).natAbs = r.natAbs / d := by
  obtain ⟨n, rfl⟩ := Int.eq_ofNat_of_zero_le hr
  rw [← Int.natCast_ediv, Int.natAbs_natCast, Int.natAbs_natCast]
theorem foldl_div {d : Nat} (hd : 0 < d) (l : List Leg) : ∀ a, d ∣ a → (∀ x ∈ l, d ∣ x.r.natAbs ∧ 0 ≤ x.r) → (l.map (div1 d)).foldl (fun a x => Nat.gcd a x.r.natAbs) (a / d) = l.foldl (fun a x => Nat.gcd a x.r.natAbs) a / d := by
  induction l with
  | nil => intro a _ _; rfl
  | cons x t ih =>
    intro a ha h
    obtain ⟨hx, h0⟩ := h x (List.mem_cons_self)
    rw [List.map_cons, List.foldl_cons, List.foldl_cons]
    show List.foldl _ (Nat.gcd (a / d) ((x.r / (d : Int)).natAbs)) _ = _
    rw [natAbs_div h0, Nat.gcd_div ha hx]
    exact ih _ (Nat.dvd_gcd ha hx) (fun y hy => h y (List.mem_cons_of_mem _ hy))
theorem gN_div {l : List Leg} (h : Small l) (hne : l ≠ []) : gN (l.map (div1 (gN l))) = 1 := by
  have hp := gN_pos h hne
  have := foldl_div (d := gN l) (by omega) l 0 (Nat.dvd_zero _) (fun x hx => ⟨gN_dvd hx, by have := h x hx; omega⟩)
  rw [Nat.zero_div] at this
  unfold gN at this hp ⊢
  rw [this]
  exact Nat.div_self (by omega)
theorem small_sort {l : List Leg} (h : Small l) : Small (sortS l) := fun x hx => h x ((sortS_perm l).mem_iff.1 hx)
theorem small_of_check {l : List Leg} (h : checkS l = .nil) : Small l := fun x hx => (bad_facts ((check_ok h).2.2.1 x hx)).2.2
theorem ne_of_check {l : List Leg} (h : checkS l = .nil) : l ≠ [] := by intro e; have := (check_ok h).1; rw [e] at this; simp at this
theorem sort_ne {l : List Leg} (h : l ≠ []) : sortS l ≠ [] := by
  intro e; apply h
  have := sortS_len l
  rw [e] at this
  exact List.length_eq_zero_iff.1 this.symm

theorem check_distinct {l : List Leg} (h : checkS l = .nil) : l.Pairwise (fun a b => a.s ≠ b.s) := by
  rw [List.pairwise_iff_getElem]
  intro i j hi hj hij e
  have hn : ¬ (l.length < 2 ∨ 4 < l.length) := by have := check_ok h; omega
  unfold checkS at h
  rw [if_neg hn] at h
  split at h
  case h_2 => cases h
  rename_i hf
  unfold firstBad at hf
  rw [List.findSome?_eq_none_iff] at hf
  have h1 := hf j (by simpa using hj)
  have h2 : legAt l j = none := by
    cases hq : legAt l j with
    | none => rfl
    | some q => rw [hq] at h1; cases h1
  unfold legAt at h2
  rw [List.getElem?_eq_getElem hj] at h2
  simp only at h2
  split at h2
  · cases h2
  · split at h2
    · cases h2
    · rename_i h3
      apply h3
      rw [List.any_eq_true]
      exact ⟨l[i], by rw [List.mem_take_iff_getElem]; exact ⟨i, by omega, rfl⟩, by simpa using e⟩
theorem sort_distinct {l : List Leg} (h : checkS l = .nil) : (sortS l).Pairwise (fun a b => a.s ≠ b.s) :=
  ((sortS_perm l).pairwise_iff (fun h => Ne.symm h)).2 (check_distinct h)

/-- The ratios and series of the form. -/
theorem canon_get {l : List Leg} (h : checkS l = .nil) {i : Nat} (hi : i < (canonS l).1.length) (hi2 : i < (sortS l).length) :
    (canonS l).1[i].s = (sortS l)[i].s ∧ (canonS l).1[i].r = (sortS l)[i].r / (gN l : Int) := by
  have e : gcdAll (sortS l) = (gN l : Int) := by rw [gcdAll_gN (small_sort (small_of_check h)), gN_perm (sortS_perm l)]
  have key : ∀ (o : List Leg) (hd : o = divS l ∨ o = turnS (divS l)) (hi : i < o.length), o[i].s = (sortS l)[i].s ∧ o[i].r = (sortS l)[i].r / (gN l : Int) := by
    intro o hd hi
    have hdv : divS l = (sortS l).map (div1 (gN l)) := by unfold divS; rw [e]
    rw [hdv] at hd
    rcases hd with rfl | rfl
    · simp [div1]
    · unfold turnS; simp [div1, turn1]
  refine key (canonS l).1 ?_ hi
  unfold canonS
  split
  · exact Or.inl rfl
  · exact Or.inr rfl
theorem canon_gcd {l : List Leg} (h : checkS l = .nil) : gcdAll (canonS l).1 = 1 := by
  have e : gcdAll (sortS l) = (gN (sortS l) : Int) := gcdAll_gN (small_sort (small_of_check h))
  have hs := small_sort (small_of_check h)
  have hne := sort_ne (ne_of_check h)
  have hd : gcdAll (divS l) = 1 := by
    unfold divS
    rw [e, gcdAll_gN, gN_div hs hne]; rfl
    intro x hx
    obtain ⟨y, hy, rfl⟩ := List.mem_map.1 hx
    have hy2 := hs y hy
    have hp := gN_pos hs hne
    have hdv := Nat.le_of_dvd (by omega) (gN_dvd hy)
    show 1 ≤ y.r / (gN (sortS l) : Int) ∧ y.r / (gN (sortS l) : Int) ≤ 4
    refine ⟨?_, ?_⟩
    · exact (Int.le_ediv_iff_mul_le (by omega)).2 (by omega)
    · exact Int.le_trans (Int.ediv_le_self _ (by omega)) hy2.2
  unfold canonS
  split
  · exact hd
  · simp only; rw [gcdAll_turn]; exact hd
theorem canon_mul {l : List Leg} (h : checkS l = .nil) {i : Nat} (hi : i < (canonS l).1.length) (hi2 : i < (sortS l).length) : (sortS l)[i].r = (canonS l).1[i].r * gcdAll l := by
  rw [(canon_get h hi hi2).2, gcdAll_gN (small_of_check h)]
  have hx := small_sort (small_of_check h) _ (List.getElem_mem hi2)
  have hdv := gN_dvd (l := l) ((sortS_perm l).mem_iff.1 (List.getElem_mem hi2))
  rw [Int.ediv_mul_cancel]
  obtain ⟨c, hc⟩ := hdv
  exact ⟨c, by omega⟩
theorem canon_bd {l : List Leg} (h : checkS l = .nil) {x : Leg} (hx : x ∈ (canonS l).1) : 0 ≤ x.r ∧ x.r ≤ 4 := by
  obtain ⟨i, hi, rfl⟩ := List.getElem_of_mem hx
  have hi2 : i < (sortS l).length := by rw [sortS_len]; rw [canon_len] at hi; exact hi
  rw [(canon_get h hi hi2).2]
  have hx := small_sort (small_of_check h) _ (List.getElem_mem hi2)
  have hp := gN_pos (small_of_check h) (ne_of_check h)
  exact ⟨Int.ediv_nonneg (by omega) (by omega), Int.le_trans (Int.ediv_le_self _ (by omega)) hx.2⟩
theorem canon_lt {l : List Leg} (h : checkS l = .nil) {i : Nat} (hi : i + 1 < (canonS l).1.length) : (canonS l).1[i].s < (canonS l).1[i + 1].s := by
  have hi2 : i + 1 < (sortS l).length := by rw [sortS_len]; rw [canon_len] at hi; exact hi
  rw [(canon_get h (by omega) (by omega)).1, (canon_get h hi hi2).1]
  have hp := List.pairwise_iff_getElem.1 (sortS_pair l) i (i + 1) (by omega) hi2 (by omega)
  rcases Int.lt_or_eq_of_le hp with h1 | h1
  · exact h1
  · exfalso
    exact List.pairwise_iff_getElem.1 (sort_distinct h) i (i + 1) (by omega) hi2 (by omega) h1
theorem gcdS_I64 (a b : Int) : I64 (gcdS a b) := by unfold gcdS I64; split <;> omega
theorem gcdAll_I64 (l : List Leg) : I64 (gcdAll l) := by
  have key : ∀ (l : List Leg) a, I64 a → I64 (l.foldl (fun a x => gcdS a x.r) a) := by
    intro l
    induction l with
    | nil => intro a h; exact h
    | cons x t ih => intro a h; exact ih _ (gcdS_I64 _ _)
  exact key l 0 (by unfold I64; omega)
theorem canon_up {l : List Leg} (h : checkS l = .nil) : headUp (canonS l).1 = true := by
  have hu := unit_div (unit_of_check h)
  have hne : divS l ≠ [] := by
    unfold divS
    simp; exact sort_ne (ne_of_check h)
  unfold canonS
  split
  · assumption
  · rename_i h2
    rw [head_turn hu hne]
    simpa using h2
end Go.Proofs.YtdigfjpknckpfaaGreatDoor
