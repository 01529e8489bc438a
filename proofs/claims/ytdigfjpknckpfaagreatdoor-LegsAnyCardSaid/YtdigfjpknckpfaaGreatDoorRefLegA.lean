/- The reference's legs: Check: the same plain function as the program's. Condition: the slice reads as a list of legs. -/
import Derived.Test.YtdigfjpknckpfaaGreatDoorWrongs
import Derived.Test.YtdigfjpknckpfaaGreatDoorLegD
import Derived.Deep.QuietTactic
import Derived.BigQuiet
namespace Go.Proofs.YtdigfjpknckpfaaGreatDoor
set_option linter.unusedSimpArgs false
set_option linter.unusedVariables false
open Go.RowKit

/-- What stands behind a call of At in Check. -/
theorem any_at {l : List Leg} {i : Nat} {s0 : Int} (hi : i ≤ l.length) {k : Nat} (hk : k < i) (hk2 : k < l.length) (h : (l[k].s == s0) = true) : (l.take i).any (fun y => y.s == s0) = true := by
  rw [List.any_eq_true]
  exact ⟨l[k], by rw [List.mem_take_iff_getElem]; exact ⟨k, by omega, rfl⟩, h⟩
theorem any_none {l : List Leg} {i : Nat} {s0 : Int} (h : ∀ k (hk : k < i) (hk2 : k < l.length), (l[k].s == s0) = false) : (l.take i).any (fun y => y.s == s0) = false := by
  rw [List.any_eq_false]
  intro x hx
  obtain ⟨k, hk, rfl⟩ := List.mem_take_iff_getElem.1 hx
  have := h k (by omega) (by omega)
  simpa using this

set_option maxRecDepth 100000 in
set_option maxHeartbeats 4000000 in
theorem ref_Check (v : Value) (l : List Leg) (w : World) (h : SlLeg w v l) (hn : l.length ≤ 1000000) : Calls Tryz.prog 6 #[v] w (Wrongs w (checkS l)) := by
  obtain ⟨a0, c0, rfl⟩ : ∃ a c, v = .slice a l.length c := by
    rcases h with ⟨rfl, rfl⟩ | ⟨b, o, c, rfl, _⟩
    · exact ⟨_, _, rfl⟩
    · exact ⟨_, _, rfl⟩
  by_cases hs : l.length < 2
  · have E := Lib.hid (checkS_small (Or.inl hs))
    have hm : (min (l.length : Int) 4) = l.length := by omega
    rw [hm] at E
    generalize checkS l = c at E ⊢
    have hs' : (l.length : Int) < 2 := by omega
    clear h hm
    go_enter Tryz.func6, Tryz.ntmps6
    go_wp2_with fail
    refine (ref_At legW l.length 1 _).mono ?_
    rintro en w1 ⟨v1, rfl, hv1, hB1⟩
    obtain ⟨r0, r1, rf0, rf1⟩ := new2 hB1
    obtain ⟨pv, rfl, hsl, hown⟩ := hv1
    obtain ⟨pa, pn, pc, rfl⟩ := sl_shape hsl
    have FIN := Lib.hid (wrongs_of hB1 hsl hown)
    clear hsl hown
    rw [show numOf (.fault legW l.length (.no 1)) = 1 from rfl] at FIN ⊢
    go_wp2_with fail
    exact bodyPost_ret (v := .agg #[.slice pa pn pc, .int .i64 1]) (by simp [results, Tryz.results6, go_sem, r0, r1, rf0, rf1]) rfl (by rw [E.out]; exact FIN.out)
  by_cases hg : 4 < l.length
  · have E := Lib.hid (checkS_small (Or.inr hg))
    have hm : (min (l.length : Int) 4) = 4 := by omega
    rw [hm] at E
    generalize checkS l = c at E ⊢
    have hs' : ¬ (l.length : Int) < 2 := by omega
    have hg' : (4 : Int) < (l.length : Int) := by omega
    clear h hm
    go_enter Tryz.func6, Tryz.ntmps6
    go_wp2_with fail
    refine (ref_At legW 4 1 _).mono ?_
    rintro en w1 ⟨v1, rfl, hv1, hB1⟩
    obtain ⟨r0, r1, rf0, rf1⟩ := new2 hB1
    obtain ⟨pv, rfl, hsl, hown⟩ := hv1
    obtain ⟨pa, pn, pc, rfl⟩ := sl_shape hsl
    have FIN := Lib.hid (wrongs_of hB1 hsl hown)
    clear hsl hown
    rw [show numOf (.fault legW 4 (.no 1)) = 1 from rfl] at FIN ⊢
    go_wp2_with fail
    exact bodyPost_ret (v := .agg #[.slice pa pn pc, .int .i64 1]) (by simp [results, Tryz.results6, go_sem, r0, r1, rf0, rf1]) rfl (by rw [E.out]; exact FIN.out)
  have hlen : ¬ (l.length < 2 ∨ 4 < l.length) := by omega
  have hs' : ¬ (l.length : Int) < 2 := by omega
  have hg' : ¬ (4 : Int) < (l.length : Int) := by omega
  obtain ⟨b, o, rfl, hc, hcap⟩ : ∃ b o, a0 = some ⟨b, o, none⟩ ∧ Hid (RowAt encLeg 3 w b o l) ∧ l.length ≤ c0 := by
    rcases h with ⟨h, _⟩ | ⟨b, o, c, h, h2, _, hr⟩
    · simp only [Value.slice.injEq] at h; omega
    · injection h with e1 _ e2; exact ⟨b, o, e1, hr, by omega⟩
  have HL := Lib.hid hlen
  clear hlen h
  go_enter Tryz.func6, Tryz.ntmps6
  go_wp2_with fail
  go_loopw [3] (fun i wr => ∃ k : Nat, k ≤ l.length ∧ i = .int .i64 k ∧ Bel (w.alloc (.cells #[.slice none 0 0, .int .i64 0] 26)) wr ∧ Hid (∀ (j : Nat), j < k → legAt l j = none)) (fun i _ => l.length - (intOf i).toNat)
  case atStart => exact ⟨0, by omega, rfl, Bel.rfl', fun j h => by omega⟩
  case round =>
    obtain ⟨wo, rfl⟩ : ∃ wo : World, wo = wr := ⟨_, rfl⟩
    obtain ⟨k, hk, rfl, hB, HP⟩ := hrel
    have hBw : Bel w wo := (Bel.rfl'.al _).step hB
    by_cases hlt : k < l.length
    · obtain ⟨d0, d1, d2⟩ := leg_cells (hc.out.bel encLeg_len hBw) hlt
      have hki : (0 : Int) ≤ (k : Int) := by omega
      have hki2 : (k : Int) < (l.length : Int) := by omega
      cases hbad : legBad l[k]
      · have hb' := bad_facts hbad
        have HBad := Lib.hid hbad
        generalize hx : l[k] = x at d0 d1 d2 hb'
        have HX := Lib.hid hx
        obtain ⟨b1, b2, b3, b4⟩ := hb'
        clear hbad hx
        obtain ⟨s, g, r⟩ := x
        dsimp only at d0 d1 d2 b1 b2 b3 b4
        rcases b2 with rfl | rfl
        all_goals
          go_wp2_with fail
          go_loopw [4] (fun i wi => ∃ j : Nat, j ≤ k ∧ i = .int .i64 j ∧ Bel wo wi ∧ Hid (∀ q (hq : q < j) (hq2 : q < l.length), (l[q].s == s) = false)) (fun i _ => k - (intOf i).toNat)
          case atStart => exact ⟨0, by omega, rfl, Bel.rfl', fun q h => by omega⟩
          case round =>
            obtain ⟨j, hj, rfl, hB2, HQ⟩ := hrel
            by_cases hjk : j < k
            · have hjl : j < l.length := by omega
              obtain ⟨f0, f1, f2⟩ := leg_cells (hc.out.bel encLeg_len (hBw.step hB2)) hjl
              have e0 := hB2.cellv d0
              generalize hy : l[j] = y at f0 f1 f2
              have HY := Lib.hid hy
              clear hy
              have hj1 : (0 : Int) ≤ (j : Int) := by omega
              have hj2 : (j : Int) < (l.length : Int) := by omega
              cases hq : (y.s == s)
              · go_wp2_with fail
                go_quiet (fail)
                go_wp2_with fail
                go_roundw
                case rel =>
                  refine ⟨j + 1, by omega, by go_num, hB2.dn _, fun q h h' => ?_⟩
                  rcases Nat.lt_succ_iff_lt_or_eq.1 h with h | rfl
                  · exact HQ.out q h h'
                  · rw [HY.out]; exact hq
                case measure => simp [intOf]; omega
              · have E := Lib.hid (checkS_at HL.out hlt HP.out (legAt_dup hlt HX.out (by rw [← HX.out]; exact HBad.out) (any_at (by omega) hjk hjl (by rw [HY.out]; exact hq))))
                go_wp2_with fail
                go_quiet (fail)
                go_wp2_with fail
                refine (ref_At legW k 6 _).mono ?_
                rintro en w1 ⟨v1, rfl, hv1, hB1⟩
                have hB3 := (hB.step hB2).dn nq |>.step hB1
                obtain ⟨r0, r1, rf0, rf1⟩ := new2 hB3
                obtain ⟨pv, rfl, hsl, hown⟩ := hv1
                obtain ⟨pa, pn, pc, rfl⟩ := sl_shape hsl
                have FIN := Lib.hid (wrongs_of hB3 hsl (fun g hg => Nat.le_trans (hB.step hB2).size (hown g hg)))
                clear hsl hown
                rw [show numOf (.fault legW k (.no 6)) = 6 from rfl] at FIN ⊢
                go_wp2_with fail
                exact bodyPost_ret (v := .agg #[.slice pa pn pc, .int .i64 6]) (by simp [results, Tryz.results6, go_sem, r0, r1, rf0, rf1]) rfl (by rw [E.out]; exact FIN.out)
            · obtain rfl : j = k := by omega
              have EA := Lib.hid (legAt_ok hlt HX.out (by rw [← HX.out]; exact HBad.out) (any_none (fun q h h2 => HQ.out q h h2)))
              go_wp2_with fail
              go_roundw
              case rel =>
                refine ⟨j + 1, by omega, by go_num, hB.step hB2, fun q h => ?_⟩
                rcases Nat.lt_succ_iff_lt_or_eq.1 h with h | rfl
                · exact HP.out q h
                · exact EA.out
              case measure => simp [intOf]; omega
      · have E := Lib.hid (checkS_at HL.out hlt HP.out (legAt_bad hlt rfl hbad))
        have HBad := Lib.hid hbad
        generalize hx : l[k] = x at d0 d1 d2
        rw [hx] at HBad
        clear hbad hx
        obtain ⟨s, g, r⟩ := x
        dsimp only at d0 d1 d2
        by_cases h1 : s < 1
        · clear HBad
          go_wp2_with fail
          refine (ref_At legW k 1 _).mono ?_
          rintro en w1 ⟨v1, rfl, hv1, hB1⟩
          have hB3 := hB.step hB1
          obtain ⟨r0, r1, rf0, rf1⟩ := new2 hB3
          obtain ⟨pv, rfl, hsl, hown⟩ := hv1
          obtain ⟨pa, pn, pc, rfl⟩ := sl_shape hsl
          have FIN := Lib.hid (wrongs_of hB3 hsl (fun g hg => Nat.le_trans hB.size (hown g hg)))
          clear hsl hown
          rw [show numOf (.fault legW k (.no 1)) = 1 from rfl] at FIN ⊢
          go_wp2_with fail
          exact bodyPost_ret (v := .agg #[.slice pa pn pc, .int .i64 1]) (by simp [results, Tryz.results6, go_sem, r0, r1, rf0, rf1]) rfl (by rw [E.out]; exact FIN.out)
        by_cases h2 : g = 1 ∨ g = -1
        · have h3 : r < 1 ∨ 4 < r := by
            have hb := HBad.out
            unfold legBad at hb
            simp only [Bool.or_eq_true, decide_eq_true_eq, Bool.not_eq_true', decide_eq_false_iff_not, Bool.and_eq_true, beq_eq_false_iff_ne] at hb
            omega
          clear HBad
          rcases h3 with h3 | h3
          all_goals
            rcases h2 with rfl | rfl
            all_goals
              go_wp2_with fail
              refine (ref_At legW k 1 _).mono ?_
              rintro en w1 ⟨v1, rfl, hv1, hB1⟩
              have hB3 := hB.step hB1
              obtain ⟨r0, r1, rf0, rf1⟩ := new2 hB3
              obtain ⟨pv, rfl, hsl, hown⟩ := hv1
              obtain ⟨pa, pn, pc, rfl⟩ := sl_shape hsl
              have FIN := Lib.hid (wrongs_of hB3 hsl (fun g hg => Nat.le_trans hB.size (hown g hg)))
              clear hsl hown
              rw [show numOf (.fault legW k (.no 1)) = 1 from rfl] at FIN ⊢
              go_wp2_with fail
              exact bodyPost_ret (v := .agg #[.slice pa pn pc, .int .i64 1]) (by simp [results, Tryz.results6, go_sem, r0, r1, rf0, rf1]) rfl (by rw [E.out]; exact FIN.out)
        have h3 : (g != 1) = true := by rw [bne_iff_ne]; omega
        have h4 : (g != -1) = true := by rw [bne_iff_ne]; omega
        clear HBad h2
        go_wp2_with fail
        refine (ref_At legW k 1 _).mono ?_
        rintro en w1 ⟨v1, rfl, hv1, hB1⟩
        have hB3 := hB.step hB1
        obtain ⟨r0, r1, rf0, rf1⟩ := new2 hB3
        obtain ⟨pv, rfl, hsl, hown⟩ := hv1
        obtain ⟨pa, pn, pc, rfl⟩ := sl_shape hsl
        have FIN := Lib.hid (wrongs_of hB3 hsl (fun g hg => Nat.le_trans hB.size (hown g hg)))
        clear hsl hown
        rw [show numOf (.fault legW k (.no 1)) = 1 from rfl] at FIN ⊢
        go_wp2_with fail
        exact bodyPost_ret (v := .agg #[.slice pa pn pc, .int .i64 1]) (by simp [results, Tryz.results6, go_sem, r0, r1, rf0, rf1]) rfl (by rw [E.out]; exact FIN.out)
    · obtain rfl : k = l.length := by omega
      have E := Lib.hid (checkS_nil HL.out HP.out)
      obtain ⟨r0, r1, rf0, rf1⟩ := new2 hB
      have FIN := Lib.hid (wrongs_of (e := .nil) hB (pv := .slice none 0 0) (Or.inl ⟨rfl, rfl⟩) (fun g hg => by cases hg))
      rw [show numOf .nil = 0 from rfl] at FIN
      go_wp2_with fail
      exact bodyPost_ret (v := .agg #[.slice none 0 0, .int .i64 0]) (by simp [results, Tryz.results6, go_sem, r0, r1, rf0, rf1]) rfl (by rw [E.out]; exact FIN.out)
end Go.Proofs.YtdigfjpknckpfaaGreatDoor
