/- Package legs: Same, part, Net: their contracts. Condition: the slices read as lists; the prices are int64 numbers. -/
import Derived.Test.YtdigfjpknckpfaaGreatDoorLegE
namespace Go.Proofs.YtdigfjpknckpfaaGreatDoor
set_option linter.unusedSimpArgs false
set_option linter.unusedVariables false
open Go.RowKit

theorem legs_neq (s1 g1 r1 s2 g2 r2 : Int) (W : World) : (binOp .neq 62 (.agg #[.int .i64 s1, .int .i64 g1, .int .i64 r1]) (.agg #[.int .i64 s2, .int .i64 g2, .int .i64 r2])).run Tryz.prog W = .ok (.bool (!decide ((⟨s1, g1, r1⟩ : Leg) = ⟨s2, g2, r2⟩))) W := by
  go_simp
  by_cases h1 : s1 = s2 <;> by_cases h2 : g1 = g2 <;> by_cases h3 : r1 = r2 <;> simp [h1, h2, h3]

theorem take_succ_eq {α : Type} {l1 l2 : List α} {k : Nat} (h1 : k < l1.length) (h2 : k < l2.length) (he : l1.take k = l2.take k) (hx : l1[k] = l2[k]) : l1.take (k + 1) = l2.take (k + 1) := by
  rw [List.take_succ_eq_append_getElem h1, List.take_succ_eq_append_getElem h2, he, hx]

set_option maxHeartbeats 400000 in
theorem legs_Equal (v1 v2 : Value) (l1 l2 : List Leg) (w : World) (h1 : SlLeg w v1 l1) (h2 : SlLeg w v2 l2) (hn1 : l1.length ≤ 1000000) (hn2 : l2.length ≤ 1000000) :
    Calls Tryz.prog 41 #[v1, v2] w fun e w' => e = .returned (.bool (decide (l1 = l2))) ∧ Bel w w' := by
  by_cases hl : l1.length = l2.length
  · rcases h1 with ⟨rfl, rfl⟩ | ⟨b1, o1, cap1, rfl, hcap1, hm1, hc1⟩
    · obtain rfl : l2 = [] := List.length_eq_zero_iff.1 hl.symm
      have hv2 : ∃ a c, v2 = .slice a 0 c := by
        rcases h2 with ⟨rfl, _⟩ | ⟨b, o, c, rfl, _⟩
        · exact ⟨_, _, rfl⟩
        · exact ⟨_, _, rfl⟩
      obtain ⟨a, c, rfl⟩ := hv2
      clear h2
      go_enter Tryz.func41, Tryz.ntmps41
      go_wp2
      go_loop [13] (fun i => i = .int .i64 0) (fun _ => 0)
      case atStart => rfl
      case round =>
        subst hrel
        go_wp2
        go_ret
        exact ⟨by simp, Bel.rfl'⟩
    · rcases h2 with ⟨rfl, rfl⟩ | ⟨b2, o2, cap2, rfl, hcap2, hm2, hc2⟩
      · obtain rfl : l1 = [] := List.length_eq_zero_iff.1 hl
        clear hc1
        go_enter Tryz.func41, Tryz.ntmps41
        go_wp2
        go_loop [13] (fun i => i = .int .i64 0) (fun _ => 0)
        case atStart => rfl
        case round =>
          subst hrel
          go_wp2
          go_ret
          exact ⟨by simp, Bel.rfl'⟩
      · rw [← hl] at hcap2 ⊢
        have HC1 := Lib.hid hc1
        have HC2 := Lib.hid hc2
        have HL := Lib.hid hl
        clear hc1 hc2 hl
        go_enter Tryz.func41, Tryz.ntmps41
        go_wp2
        go_loopw [13] (fun i wr => ∃ k : Nat, k ≤ l1.length ∧ i = .int .i64 k ∧ Bel w wr ∧ Hid (l1.take k = l2.take k)) (fun i _ => l1.length - (intOf i).toNat)
        case atStart => exact ⟨0, by omega, rfl, Bel.rfl', by simp [Hid]⟩
        case round =>
          obtain ⟨k, hk, rfl, hB, HP⟩ := hrel
          by_cases hlt : k < l1.length
          · have hlt2 : k < l2.length := by rw [← HL.out]; exact hlt
            obtain ⟨d0, d1, d2⟩ := leg_cells (HC1.out.bel encLeg_len hB) hlt
            obtain ⟨e0, e1, e2⟩ := leg_cells (HC2.out.bel encLeg_len hB) hlt2
            generalize hx : l1[k] = x at d0 d1 d2
            generalize hy : l2[k] = y at e0 e1 e2
            have HX := Lib.hid hx
            have HY := Lib.hid hy
            clear hx hy
            obtain ⟨s1, g1, r1⟩ := x
            obtain ⟨s2, g2, r2⟩ := y
            have hi0 : (0 : Int) ≤ (k : Int) := by omega
            have hi1 : (k : Int) < (l1.length : Int) := by omega
            have hne := fun W => legs_neq s1 g1 r1 s2 g2 r2 W
            by_cases hq : (⟨s1, g1, r1⟩ : Leg) = ⟨s2, g2, r2⟩
            · have hq' : decide ((⟨s1, g1, r1⟩ : Leg) = ⟨s2, g2, r2⟩) = true := by simpa using hq
              rw [hq'] at hne
              have HT := Lib.hid (take_succ_eq hlt hlt2 HP.out (by rw [HX.out, HY.out]; exact hq))
              simp only [Bool.not_true] at hne
              clear hq hq'
              go_wp2
              go_quiet (fail)
              go_wp2
              go_roundw
              case rel => exact ⟨k + 1, hlt, by go_num, hB.dn _, HT.out⟩
              case measure => simp [intOf]; omega
            · have hq' : decide ((⟨s1, g1, r1⟩ : Leg) = ⟨s2, g2, r2⟩) = false := by simpa using hq
              rw [hq'] at hne
              have HT : Hid (¬ l1 = l2) := by
                intro e; subst e; exact hq (by rw [← HX.out, ← HY.out])
              simp only [Bool.not_false] at hne
              clear hq hq'
              go_wp2
              go_quiet (fail)
              go_wp2
              go_ret
              exact ⟨by rw [decide_eq_false HT.out]; rfl, hB.dn _⟩
          · obtain rfl : k = l1.length := by omega
            have HT : Hid (l1 = l2) := by
              have := HP.out
              rw [List.take_of_length_le (Nat.le_refl _), List.take_of_length_le (by rw [HL.out]; exact Nat.le_refl _)] at this
              exact this
            go_wp2
            go_ret
            exact ⟨by rw [decide_eq_true HT.out]; rfl, hB⟩
  · have hv1 : ∃ a c, v1 = .slice a l1.length c := by
      rcases h1 with ⟨rfl, rfl⟩ | ⟨b, o, c, rfl, _⟩
      · exact ⟨_, _, rfl⟩
      · exact ⟨_, _, rfl⟩
    have hv2 : ∃ a c, v2 = .slice a l2.length c := by
      rcases h2 with ⟨rfl, rfl⟩ | ⟨b, o, c, rfl, _⟩
      · exact ⟨_, _, rfl⟩
      · exact ⟨_, _, rfl⟩
    obtain ⟨a1, c1, rfl⟩ := hv1
    obtain ⟨a2, c2, rfl⟩ := hv2
    have HT : Hid (¬ l1 = l2) := by intro e; subst e; exact hl rfl
    have hl' : ((l1.length : Int) != (l2.length : Int)) = true := by rw [bne_iff_ne]; omega
    clear h1 h2 hl
    go_enter Tryz.func41, Tryz.ntmps41
    go_wp2
    go_ret
    exact ⟨by rw [decide_eq_false HT.out]; rfl, Bel.rfl'⟩

theorem legs_Same (v1 v2 : Value) (l1 l2 : List Leg) (w : World) (h1 : SlLeg w v1 l1) (h2 : SlLeg w v2 l2) (hn1 : l1.length ≤ 1000000) (hn2 : l2.length ≤ 1000000) :
    Calls Tryz.prog 13 #[v1, v2] w fun e w' => e = .returned (.bool (decide (l1 = l2))) ∧ Bel w w' := by
  have H := Lib.hid (legs_Equal v1 v2 l1 l2 w h1 h2 hn1 hn2)
  clear h1 h2
  generalize decide (l1 = l2) = q at H ⊢
  go_enter Tryz.func13, Tryz.ntmps13
  go_wp2_with fail
  refine H.out.mono ?_
  rintro e w' ⟨rfl, hb⟩
  go_wp2_with fail
  go_ret
  exact ⟨rfl, hb⟩

/-! ### Net -/
def partS (x : Leg) (p : Int) : Int × Int := if (mulS x.g x.r).2 = 0 then mulS (mulS x.g x.r).1 p else (0, (mulS x.g x.r).2)

theorem mulS_I64 (a b : Int) : I64 (mulS a b).1 := by
  unfold mulS; split
  · assumption
  · unfold I64; simp
theorem addS_I64 (a b : Int) : I64 (addS a b).1 := by
  unfold addS; split
  · assumption
  · unfold I64; simp

set_option maxHeartbeats 400000 in
theorem legs_part (x : Leg) (p : Int) (w : World) (hg : I64 x.g) (hr : I64 x.r) (hp : I64 p) :
    Calls Tryz.prog 49 #[.agg #[.int .i64 x.s, .int .i64 x.g, .int .i64 x.r], .int .i64 p] w fun e w' => e = .returned (two .i64 (partS x p)) ∧ Bel w w' := by
  have h1 := fun W => num_Mul x.g x.r W hg hr
  have h2 := fun W => num_Mul (mulS x.g x.r).1 p W (mulS_I64 _ _) hp
  have h3 : partS x p = if (mulS x.g x.r).2 = 0 then mulS (mulS x.g x.r).1 p else (0, (mulS x.g x.r).2) := rfl
  generalize mulS x.g x.r = m at h1 h2 h3
  generalize mulS m.1 p = q at h2 h3
  rw [h3]
  unfold two at h1 h2
  obtain ⟨m1, m2⟩ := m
  obtain ⟨q1, q2⟩ := q
  have H1 := Lib.hid h1
  have H2 := Lib.hid h2
  clear h1 h2 h3 hg hr hp
  by_cases hm : m2 = 0
  · subst hm
    go_enter Tryz.func49, Tryz.ntmps49
    go_wp2_with fail
    refine (H1.out _).mono ?_
    rintro e w' ⟨rfl, rfl⟩
    go_wp2_with fail
    refine (H2.out _).mono ?_
    rintro e w' ⟨rfl, rfl⟩
    go_wp2_with fail
    go_ret2
    exact ⟨rfl, Bel.rfl'.al _⟩
  · have hm' : (m2 != 0) = true := by rw [bne_iff_ne]; exact hm
    have e1 : (if m2 = 0 then (q1, q2) else ((0 : Int), m2)) = (0, m2) := if_neg hm
    dsimp only
    rw [e1]
    clear e1 hm
    go_enter Tryz.func49, Tryz.ntmps49
    go_wp2_with fail
    refine (H1.out _).mono ?_
    rintro e w' ⟨rfl, rfl⟩
    go_wp2_with fail
    go_ret2
    exact ⟨rfl, Bel.rfl'.al _⟩

def encI (x : Int) : List Value := [.int .i64 x]
theorem encI_len (x : Int) : (encI x).length = 1 := rfl
abbrev SlI := Sl encI 1
theorem int_cell {w : World} {b o : Nat} {l : List Int} (h : RowAt encI 1 w b o l) {i : Nat} (hi : i < l.length) : w.cell? ⟨b, o + i, none⟩ = some (.int .i64 l[i]) := by
  have := h i hi 0 (by omega)
  simpa [encI] using this
end Go.Proofs.YtdigfjpknckpfaaGreatDoor
