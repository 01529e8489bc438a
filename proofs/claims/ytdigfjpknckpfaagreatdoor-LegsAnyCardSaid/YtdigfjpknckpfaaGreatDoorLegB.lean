/- Package legs: Check whole. Condition: the slice reads as a list of legs. -/
import Derived.Test.YtdigfjpknckpfaaGreatDoorLegA
namespace Go.Proofs.YtdigfjpknckpfaaGreatDoor
set_option linter.unusedSimpArgs false
set_option linter.unusedVariables false
open Go.RowKit

/-- An error handed back. -/
def Errs (w : World) (e : Er) (en : Ending) (w' : World) : Prop := ∃ v, en = .returned v ∧ ErAt w' v e ∧ Bel w w'

theorem checkS_small {l : List Leg} (h : l.length < 2 ∨ 4 < l.length) : checkS l = .fault legW (min (l.length : Int) 4) (.no 1) := if_pos h
theorem checkS_at {l : List Leg} (h : ¬ (l.length < 2 ∨ 4 < l.length)) {i : Nat} {e : Int} (hi : i < l.length) (hp : ∀ j, j < i → legAt l j = none) (he : legAt l i = some e) : checkS l = .fault legW i (.no e) := by
  unfold checkS; rw [if_neg h, firstBad_some hi hp he]
theorem checkS_nil {l : List Leg} (h : ¬ (l.length < 2 ∨ 4 < l.length)) (hp : ∀ j, j < l.length → legAt l j = none) : checkS l = .nil := by
  unfold checkS; rw [if_neg h, firstBad_none hp]

theorem legAt_bad {l : List Leg} {k : Nat} {x : Leg} (hk : k < l.length) (hx : l[k] = x) (hb : legBad x = true) : legAt l k = some 1 := by
  unfold legAt; rw [List.getElem?_eq_getElem hk, hx]; simp [hb]
theorem legAt_dup {l : List Leg} {k : Nat} {x : Leg} (hk : k < l.length) (hx : l[k] = x) (hb : legBad x = false) (hd : (l.take k).any (fun y => y.s == x.s) = true) : legAt l k = some 6 := by
  unfold legAt; rw [List.getElem?_eq_getElem hk, hx]; simp only [hb, hd]; rfl
theorem legAt_ok {l : List Leg} {k : Nat} {x : Leg} (hk : k < l.length) (hx : l[k] = x) (hb : legBad x = false) (hd : (l.take k).any (fun y => y.s == x.s) = false) : legAt l k = none := by
  unfold legAt; rw [List.getElem?_eq_getElem hk, hx]; simp only [hb, hd]; rfl

set_option maxHeartbeats 1000000 in
theorem legs_Check (v : Value) (l : List Leg) (w : World) (h : SlLeg w v l) (hn : l.length ≤ 1000000) : Calls Tryz.prog 11 #[v] w (Errs w (checkS l)) := by
  rcases h with ⟨rfl, rfl⟩ | ⟨b, o, cap, rfl, hcap, hm, hc⟩
  · go_enter Tryz.func11, Tryz.ntmps11
    go_wp2_with (go_at_call 37; refine (legs_fault _ _ _).mono ?_; rintro en w' ⟨v, rfl, hv, hb⟩)
    go_ret
    exact ⟨_, rfl, hv, hb⟩
  · by_cases hs : l.length < 2
    · have E := Lib.hid (checkS_small (Or.inl hs))
      generalize checkS l = c at E ⊢
      clear hc hm
      have hs' : (l.length : Int) < 2 := by omega
      go_enter Tryz.func11, Tryz.ntmps11
      go_wp2_with (go_at_call 37; refine (legs_fault _ _ _).mono ?_; rintro en w' ⟨v, rfl, hv, hb⟩)
      go_ret
      exact ⟨_, rfl, by rw [E.out]; exact hv, hb⟩
    · by_cases hg : 4 < l.length
      · have E := Lib.hid (checkS_small (Or.inr hg))
        generalize checkS l = c at E ⊢
        clear hc hm
        have hs' : ¬ (l.length : Int) < 2 := by omega
        have hg' : (4 : Int) < (l.length : Int) := by omega
        go_enter Tryz.func11, Tryz.ntmps11
        go_wp2_with (go_at_call 37; refine (legs_fault _ _ _).mono ?_; rintro en w' ⟨v, rfl, hv, hb⟩)
        go_ret
        exact ⟨_, rfl, by rw [E.out]; exact hv, hb⟩
      · have hlen : ¬ (l.length < 2 ∨ 4 < l.length) := by omega
        have hs' : ¬ (l.length : Int) < 2 := by omega
        have hg' : ¬ (4 : Int) < (l.length : Int) := by omega
        have HC := Lib.hid hc
        have HL := Lib.hid hlen
        clear hc hlen
        go_enter Tryz.func11, Tryz.ntmps11
        go_wp2
        go_loopw [19] (fun i wr => ∃ k : Nat, k ≤ l.length ∧ i = .int .i64 k ∧ Bel w wr ∧ Hid (∀ (j : Nat), j < k → legAt l j = none)) (fun i _ => l.length - (intOf i).toNat)
        case atStart => exact ⟨0, by omega, rfl, Bel.rfl', fun j h => by omega⟩
        case round =>
          obtain ⟨k, hk, rfl, hB, HP⟩ := hrel
          by_cases hlt : k < l.length
          · obtain ⟨d0, d1, d2⟩ := leg_cells (HC.out.bel encLeg_len hB) hlt
            generalize hx : l[k] = x at d0 d1 d2
            have HX := Lib.hid hx
            clear hx
            have hrow : RowAt encLeg 3 wr b o (l.take k) := fun i hi j hj => by
              have := (HC.out.bel encLeg_len hB) i (by simp at hi; omega) j hj
              rw [this]; simp
            have htk : (l.take k).length = k := by simp; omega
            obtain ⟨s, g, r⟩ := x
            have hcont := cont34 b o cap (l.take k) ⟨wr.heap.size, 0, none⟩ s (wr.alloc (.cells #[.int .i64 s, .int .i64 g, .int .i64 r] 62)) (by omega) (by simp) (hrow.bel encLeg_len (Bel.rfl'.al _))
            rw [htk] at hcont
            have hin := fun W => num_In r 1 4 W
            cases hbad : legBad ⟨s, g, r⟩
            · have hb' := hbad
              unfold legBad at hb'
              simp only [Bool.or_eq_false_iff, decide_eq_false_iff_not, Bool.not_eq_false', decide_eq_true_eq, Bool.and_eq_false_iff] at hb'
              obtain ⟨⟨hb1, hb2⟩, hb3⟩ := hb'
              rw [show decide (1 ≤ r ∧ r ≤ 4) = true by simp; omega] at hin
              have hgg : g = 1 ∨ g = -1 := by rcases hb2 with h | h <;> simp at h <;> omega
              have HIN := Lib.hid hin
              have HB := Lib.hid hbad
              clear hbad hb2 hin
              cases hd : (l.take k).any (fun y => y.s == s)
              · have EA := Lib.hid (legAt_ok hlt HX.out HB.out hd)
                rw [hd] at hcont
                have HCT := Lib.hid hcont
                clear hcont hrow htk hd
                rcases hgg with rfl | rfl
                all_goals
                  go_wp2_with (first | (go_at_call 38; refine (HIN.out _).mono ?_; rintro e w' ⟨rfl, rfl⟩) | (go_at_call 39; refine HCT.out.mono ?_; rintro e w' ⟨rfl, hb⟩))
                  go_roundw
                  case rel =>
                    refine ⟨k+1, hlt, by go_num, (hB.al _).step hb, fun j h => ?_⟩
                    rcases Nat.lt_succ_iff_lt_or_eq.1 h with h | rfl
                    · exact HP.out j h
                    · exact EA.out
                  case measure => simp [intOf]; omega
              · have E := Lib.hid (checkS_at HL.out hlt HP.out (legAt_dup hlt HX.out HB.out hd))
                rw [hd] at hcont
                have HCT := Lib.hid hcont
                clear hcont hrow htk hd
                generalize checkS l = c at E ⊢
                rcases hgg with rfl | rfl
                all_goals
                  go_wp2_with (first | (go_at_call 38; refine (HIN.out _).mono ?_; rintro e w' ⟨rfl, rfl⟩) | (go_at_call 39; refine HCT.out.mono ?_; rintro e w' ⟨rfl, hb⟩) | (go_at_call 37; refine (legs_fault _ _ _).mono ?_; rintro en w' ⟨v, rfl, hv, hb2⟩))
                  go_ret
                  exact ⟨_, rfl, by rw [E.out]; exact hv, ((hB.al _).step hb).step hb2⟩
            · have E := Lib.hid (checkS_at HL.out hlt HP.out (legAt_bad hlt HX.out hbad))
              generalize checkS l = c at E ⊢
              clear hcont hrow htk
              by_cases h1 : s < 1
              · clear hbad hin
                go_wp2_with (go_at_call 37; refine (legs_fault _ _ _).mono ?_; rintro en w' ⟨v, rfl, hv, hb2⟩)
                go_ret
                exact ⟨_, rfl, by rw [E.out]; exact hv, (hB.al _).step hb2⟩
              · by_cases h2 : g = 1 ∨ g = -1
                · have h3 : decide (1 ≤ r ∧ r ≤ 4) = false := by
                    cases h4 : decide (1 ≤ r ∧ r ≤ 4)
                    · rfl
                    · unfold legBad at hbad; rcases h2 with rfl | rfl <;> simp [h4] at hbad <;> simp at h4 <;> omega
                  rw [h3] at hin
                  have HIN := Lib.hid hin
                  clear hin h3 hbad
                  rcases h2 with rfl | rfl
                  all_goals
                    go_wp2_with (first | (go_at_call 38; refine (HIN.out _).mono ?_; rintro e w' ⟨rfl, rfl⟩) | (go_at_call 37; refine (legs_fault _ _ _).mono ?_; rintro en w' ⟨v, rfl, hv, hb2⟩))
                    go_ret
                    exact ⟨_, rfl, by rw [E.out]; exact hv, (hB.al _).step hb2⟩
                · have h3 : (g != 1) = true := by rw [bne_iff_ne]; omega
                  have h4 : (g != -1) = true := by rw [bne_iff_ne]; omega
                  clear hin hbad h2
                  go_wp2_with (go_at_call 37; refine (legs_fault _ _ _).mono ?_; rintro en w' ⟨v, rfl, hv, hb2⟩)
                  go_ret
                  exact ⟨_, rfl, by rw [E.out]; exact hv, (hB.al _).step hb2⟩
          · obtain rfl : k = l.length := by omega
            have E := Lib.hid (checkS_nil HL.out HP.out)
            go_wp2
            go_ret
            exact ⟨_, rfl, by rw [E.out]; rfl, hB⟩

end Go.Proofs.YtdigfjpknckpfaaGreatDoor
