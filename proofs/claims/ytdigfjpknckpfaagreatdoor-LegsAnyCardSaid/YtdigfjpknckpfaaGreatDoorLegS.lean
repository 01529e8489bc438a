/- Plain laws of legs: turned about and scaled, the form is the same. No program in sight. -/
import Derived.Test.YtdigfjpknckpfaaGreatDoorLegQ
namespace Go.Proofs.YtdigfjpknckpfaaGreatDoor
set_option linter.unusedSimpArgs false
set_option linter.unusedVariables false
open Go.RowKit

def scl (k : Int) (x : Leg) : Leg := ⟨x.s, x.g, x.r * k⟩
theorem check_mk {l : List Leg} (h1 : 2 ≤ l.length) (h2 : l.length ≤ 4) (h3 : ∀ x ∈ l, legBad x = false) (h4 : l.Pairwise (fun a b => a.s ≠ b.s)) : checkS l = .nil := by
  unfold checkS
  rw [if_neg (by omega), firstBad_none]
  intro j hj
  unfold legAt
  rw [List.getElem?_eq_getElem hj]
  simp only [h3 _ (List.getElem_mem hj)]
  have e : (l.take j).any (fun y => y.s == l[j].s) = false := by
    rw [List.any_eq_false]
    intro x hx
    obtain ⟨i, hi, rfl⟩ := List.mem_take_iff_getElem.1 hx
    have := List.pairwise_iff_getElem.1 h4 i j (by omega) hj (by omega)
    simpa using this
  rw [e]; rfl
theorem insL_scl (k : Int) (x : Leg) (l : List Leg) : insL (scl k x) (l.map (scl k)) = (insL x l).map (scl k) := by
  induction l with
  | nil => rfl
  | cons y t ih =>
    show insL (scl k x) (scl k y :: t.map (scl k)) = _
    by_cases h : x.s ≤ y.s
    · have h' : (scl k x).s ≤ (scl k y).s := h
      rw [insL, if_pos h', insL, if_pos h]; rfl
    · have h' : ¬ (scl k x).s ≤ (scl k y).s := h
      rw [insL, if_neg h', insL, if_neg h, ih]; rfl
theorem sortS_scl (k : Int) (l : List Leg) : sortS (l.map (scl k)) = (sortS l).map (scl k) := by
  induction l with
  | nil => rfl
  | cons x t ih =>
    show insL (scl k x) (sortS (t.map (scl k))) = _
    rw [ih, insL_scl]; rfl
theorem sortS_perm_eq {l m : List Leg} (hu : Unlike l) (h : m.Perm l) : sortS m = sortS l := by
  refine List.Perm.eq_of_pairwise (le := fun a b : Leg => a.s ≤ b.s) ?_ (sortS_pair m) (sortS_pair l) ((sortS_perm m).trans (h.trans (sortS_perm l).symm))
  intro a b ha hb h1 h2
  exact hu a (h.mem_iff.1 ((sortS_perm m).mem_iff.1 ha)) b ((sortS_perm l).mem_iff.1 hb) (by omega)
theorem foldl_scl (k : Nat) (l : List Leg) : ∀ a : Nat, (l.map (scl k)).foldl (fun a x => Nat.gcd a x.r.natAbs) (a * k) = l.foldl (fun a x => Nat.gcd a x.r.natAbs) a * k := by
  induction l with
  | nil => intro a; rfl
  | cons x t ih =>
    intro a
    rw [List.map_cons, List.foldl_cons, List.foldl_cons, ← ih]
    show List.foldl _ (Nat.gcd (a * k) (x.r * (k : Int)).natAbs) _ = _
    rw [Int.natAbs_mul, Int.natAbs_natCast, Nat.gcd_mul_right]
theorem gN_scl (k : Nat) (l : List Leg) : gN (l.map (scl k)) = gN l * k := by
  have := foldl_scl k l 0
  rw [Nat.zero_mul] at this
  exact this
theorem check_shuf {l m : List Leg} {k : Nat} (hk : 1 ≤ k) (h : checkS l = .nil) (hm : m.Perm l) (h4 : ∀ x ∈ m, x.r * (k : Int) ≤ 4) : checkS (m.map (scl k)) = .nil := by
  obtain ⟨c1, c2, c3, c4⟩ := check_ok h
  have hl := hm.length_eq
  refine check_mk (by simp; omega) (by simp; omega) ?_ ?_
  · intro x hx
    obtain ⟨y, hy, rfl⟩ := List.mem_map.1 hx
    have hb := bad_facts (c3 y (hm.mem_iff.1 hy))
    have h4' := h4 y hy
    have h1 : 1 ≤ y.r * (k : Int) := by
      have : (1 : Int) * 1 ≤ y.r * (k : Int) := Int.mul_le_mul hb.2.2.1 (by omega) (by omega) (by omega)
      omega
    unfold legBad scl
    simp only
    rcases hb.2.1 with e | e <;> rw [e] <;> simp <;> omega
  · rw [List.pairwise_map]
    exact (hm.pairwise_iff (fun h => Ne.symm h)).2 (check_distinct h)
theorem canon_shuf {l m : List Leg} {k : Nat} (hk : 1 ≤ k) (h : checkS l = .nil) (hm : m.Perm l) (h4 : ∀ x ∈ m, x.r * (k : Int) ≤ 4) : canonS (m.map (scl k)) = canonS l := by
  have hs := check_shuf hk h hm h4
  have e : sortS (m.map (scl k)) = (sortS l).map (scl k) := by rw [sortS_scl, sortS_perm_eq (check_ok h).2.2.2 hm]
  have e1 : gcdAll (sortS l) = (gN l : Int) := by rw [gcdAll_gN (small_sort (small_of_check h)), gN_perm (sortS_perm l)]
  have e2 : gcdAll (sortS (m.map (scl k))) = ((gN l * k : Nat) : Int) := by
    rw [gcdAll_gN (small_sort (small_of_check hs)), gN_perm (sortS_perm _), gN_scl, gN_perm hm]
  have hd : divS (m.map (scl k)) = divS l := by
    unfold divS
    rw [e2, e, e1, List.map_map]
    refine List.map_congr_left fun x hx => ?_
    show (⟨x.s, x.g, x.r * (k : Int) / ((gN l * k : Nat) : Int)⟩ : Leg) = ⟨x.s, x.g, x.r / (gN l : Int)⟩
    rw [Int.natCast_mul, Int.mul_ediv_mul_of_pos_left _ _ (by omega)]
  unfold canonS
  rw [hd]

/-- Turned about by t places. -/
def rotS (l : List Leg) (t : Nat) : List Leg := (List.range l.length).map fun i => l[(i + t) % l.length]!
theorem rotS_perm (l : List Leg) (t : Nat) : (rotS l t).Perm l := by
  by_cases h0 : l.length = 0
  · obtain rfl := List.length_eq_zero_iff.1 h0
    exact List.Perm.refl _
  have ht : t % l.length < l.length := Nat.mod_lt _ (by omega)
  have e : rotS l t = l.drop (t % l.length) ++ l.take (t % l.length) := by
    unfold rotS
    refine List.ext_getElem (by simp; omega) fun i h1 h2 => ?_
    have hi : i < l.length := by simpa using h1
    have em : (i + t) % l.length = (i + t % l.length) % l.length := by rw [Nat.add_mod, Nat.add_mod i (t % l.length), Nat.mod_mod]
    rw [List.getElem_map, List.getElem_range, getElem!_pos l _ (Nat.mod_lt _ (by omega))]
    by_cases hlt : i + t % l.length < l.length
    · rw [List.getElem_append_left (by simp; omega), List.getElem_drop]
      congr 1
      rw [em, Nat.mod_eq_of_lt hlt]; omega
    · rw [List.getElem_append_right (by simp; omega), List.getElem_take]
      congr 1
      rw [em, Nat.mod_eq_sub_mod (by omega), Nat.mod_eq_of_lt (by omega)]
      simp; omega
  rw [e]
  exact List.perm_append_comm.trans (by rw [List.take_append_drop])
theorem rotS_len (l : List Leg) (t : Nat) : (rotS l t).length = l.length := by simp [rotS]
theorem rotS_get {l : List Leg} {t k : Nat} (hk : k < l.length) (h : (k + t) % l.length < l.length) : (rotS l t)[k]'(by rw [rotS_len]; exact hk) = l[(k + t) % l.length] := by
  simp only [rotS, List.getElem_map, List.getElem_range]
  rw [getElem!_pos l _ h]
end Go.Proofs.YtdigfjpknckpfaaGreatDoor
