/- The law LegsLimits walked: it returns true. Condition: n is a byte, ratio an int64. -/
import Derived.Test.YtdigfjpknckpfaaDoorLegK
namespace Go.Proofs.YtdigfjpknckpfaaDoor
set_option linter.unusedSimpArgs false
set_option linter.unusedVariables false
open Go.RowKit

def mkL (r : Int) (k : Nat) : List Leg := (List.range k).map fun i : Nat => (⟨(i : Int) + 1, 1, r⟩ : Leg)
theorem mkL_succ (r : Int) (k : Nat) : mkL r (k + 1) = mkL r k ++ [⟨(k : Int) + 1, 1, r⟩] := by simp [mkL, List.range_succ]
theorem mkL_len (r : Int) (k : Nat) : (mkL r k).length = k := by simp [mkL]
theorem limits_ok (k : Nat) (r : Int) (h1 : 2 ≤ k) (h2 : k ≤ 4) (h3 : 1 ≤ r) (h4 : r ≤ 4) : checkS (mkL r k) = .nil ∧ canonS (mkL r k) = (mkL 1 k, false) := by
  have hr : r = 1 ∨ r = 2 ∨ r = 3 ∨ r = 4 := by omega
  have hk : k = 2 ∨ k = 3 ∨ k = 4 := by omega
  rcases hk with rfl | rfl | rfl <;> rcases hr with rfl | rfl | rfl | rfl <;> decide +kernel
theorem limits_bad (k : Nat) (r : Int) (h : k < 2 ∨ 4 < k ∨ r < 1 ∨ 4 < r) : checkS (mkL r k) ≠ .nil := by
  intro e
  by_cases hk : k < 2 ∨ 4 < k
  · rw [checkS_small (by rw [mkL_len]; exact hk)] at e; cases e
  · obtain ⟨_, _, h3, _⟩ := check_ok e
    have h0 : (⟨((0 : Nat) : Int) + 1, 1, r⟩ : Leg) ∈ mkL r k := List.mem_map.2 ⟨0, by simp; omega, rfl⟩
    have := (bad_facts (h3 _ h0)).2.2
    simp only at this
    omega

theorem leg_info : (Tryd.prog.info? 39).map (fun i => (i.zero, i.size, i.bytes)) = some (some (.agg #[.int .i64 0, .int .i64 0, .int .i64 0]), 3, 24) := by kernel_rfl

set_option maxRecDepth 100000 in
set_option maxHeartbeats 2000000 in
theorem limits_walk (n r : Int) (w : World) (hn0 : 0 ≤ n) (hn : n ≤ 255) :
    Calls Tryd.prog 6 #[.int .u8 n, .int .i64 r] w fun e w' => e = .returned (.bool true) ∧ Bel w w' := by
  obtain ⟨i0, hi, hz0, hz1, hz2⟩ := info_parts leg_info
  obtain ⟨q, hq⟩ : ∃ q : Nat, n % 8 = (q : Int) := ⟨(n % 8).toNat, by omega⟩
  have hq8 : (q : Int) < 8 := by omega
  go_enter Tryd.func6, Tryd.ntmps6
  go_wp2_with fail
  refine (known17 _).mono ?_
  rintro e w1 ⟨rfl, hB1⟩
  go_wp2_with fail
  have hz1' := hB1.size
  go_loopw [6, 7] (fun v i wr => ∃ k : Nat, k ≤ q ∧ i = .int .i64 k ∧ Bel w wr ∧ wr.ownsRow w.heap.size 39 3 v k ((mkL r k).flatMap encLeg)) (fun _ i _ => q - (intOf i).toNat)
  case atStart => exact ⟨0, by omega, rfl, hB1, World.ownsRow_nil _ _ _ _⟩
  case round =>
    obtain ⟨k, hk, rfl, hB, hown⟩ := hrel
    by_cases hlt : k < q
    · have HX : Hid ((mkL r (k + 1)).flatMap encLeg = (mkL r k).flatMap encLeg ++ [.int .i64 ((k : Int) + 1), .int .i64 1, .int .i64 r]) := by
        unfold Hid; rw [mkL_succ, List.flatMap_append]; simp [encLeg]
      generalize (mkL r k).flatMap encLeg = xs at hown HX
      have OW := Lib.hid hown
      have hbs := hB.size
      clear hown hq
      go_wp2_with (at_builtin; refine wpList_append_lies _ (by rfl) _ _ _ (by rfl) w.heap.size 39 i0 _ 3 24 Tryd.underlying22 hi hz0 hz1 hz2 rfl (by omega) u6 k xs (by rfl) (OW.out.alloc _) ⟨wr.heap.size, 0, none⟩ 1 1 [.int .i64 ((k : Int) + 1), .int .i64 1, .int .i64 r] (by rfl) (by rfl) (World.news_of_block (cs := #[.int .i64 ((k : Int) + 1), .int .i64 1, .int .i64 r]) (t := 39) (fr := (0, 0)) (heap_alloc_new wr _)) (by simp [Value.oneCell']) (by omega) (by unfold maxLen; omega) (by omega) (by simp; omega) (wr.heap.size + 1) (by simp) ?_; intro gg cap w2 hown1 hgrow hat hlt2)
      have HB1 : Bel w w2 := Below.grown (hB.al _) hgrow (by simp; omega) (fun p h => (OW.out.lt p h).1)
      go_roundw
      case rel => exact ⟨k + 1, by omega, by go_num, HB1, by rw [HX.out]; exact hown1⟩
      case measure => simp [intOf]; omega
    · obtain rfl : k = q := by omega
      have hsl : SlLeg wr u6 (mkL r k) := own_sl encLeg_len rfl (by rw [mkL_len]; exact hown)
      have HS := Lib.hid hsl
      clear hown hsl hq
      by_cases c1 : k < 2
      · have c1' : (k : Int) < 2 := by omega
        have HC := Lib.hid (legs_Canon_bad u6 (mkL r k) wr HS.out (by rw [mkL_len]; omega) (limits_bad k r (by omega)))
        have hbb : isNilB (checkS (mkL r k)) = false := by
          cases hq : checkS (mkL r k) with
          | nil => exact absurd hq (limits_bad k r (by omega))
          | no n => rfl
          | fault a b c => rfl
        have HB := Lib.hid hbb
        clear hbb
        go_wp2_with fail
        refine HC.out.mono ?_
        rintro e w2 ⟨v2, rfl, hv2, hB2⟩
        have hq2 := fun W => ErAt.eqlNil (W := W) hv2
        have hg2 := fun W op x => ErAt.guard (W := W) hv2 op x
        rw [HB.out] at hq2
        go_wp2_with fail
        refine (legs_Check u6 (mkL r k) _ (HS.out.bel encLeg_len hB2) (by rw [mkL_len]; omega)).mono ?_
        rintro e w3 ⟨v3, rfl, hv3, hB3⟩
        have hq3 := fun W => ErAt.eqlNil (W := W) hv3
        have hg3 := fun W op x => ErAt.guard (W := W) hv3 op x
        rw [HB.out] at hq3
        clear hv2 hv3 HC
        go_wp2_with fail
        go_loop [12] (fun i => i = .int .i64 0) (fun _ => 0)
        case atStart => rfl
        case round =>
          subst hrel
          go_wp2_with fail
          go_ret
          exact ⟨rfl, (hB.step hB2).step hB3⟩
      by_cases c2 : 4 < k
      · have c1' : ¬ (k : Int) < 2 := by omega
        have c2' : (4 : Int) < (k : Int) := by omega
        have HC := Lib.hid (legs_Canon_bad u6 (mkL r k) wr HS.out (by rw [mkL_len]; omega) (limits_bad k r (by omega)))
        have hbb : isNilB (checkS (mkL r k)) = false := by
          cases hq : checkS (mkL r k) with
          | nil => exact absurd hq (limits_bad k r (by omega))
          | no n => rfl
          | fault a b c => rfl
        have HB := Lib.hid hbb
        clear hbb
        go_wp2_with fail
        refine HC.out.mono ?_
        rintro e w2 ⟨v2, rfl, hv2, hB2⟩
        have hq2 := fun W => ErAt.eqlNil (W := W) hv2
        have hg2 := fun W op x => ErAt.guard (W := W) hv2 op x
        rw [HB.out] at hq2
        go_wp2_with fail
        refine (legs_Check u6 (mkL r k) _ (HS.out.bel encLeg_len hB2) (by rw [mkL_len]; omega)).mono ?_
        rintro e w3 ⟨v3, rfl, hv3, hB3⟩
        have hq3 := fun W => ErAt.eqlNil (W := W) hv3
        have hg3 := fun W op x => ErAt.guard (W := W) hv3 op x
        rw [HB.out] at hq3
        clear hv2 hv3 HC
        go_wp2_with fail
        go_loop [12] (fun i => i = .int .i64 0) (fun _ => 0)
        case atStart => rfl
        case round =>
          subst hrel
          go_wp2_with fail
          go_ret
          exact ⟨rfl, (hB.step hB2).step hB3⟩
      by_cases c3 : r < 1
      · have c1' : ¬ (k : Int) < 2 := by omega
        have c2' : ¬ (4 : Int) < (k : Int) := by omega
        have HC := Lib.hid (legs_Canon_bad u6 (mkL r k) wr HS.out (by rw [mkL_len]; omega) (limits_bad k r (by omega)))
        have hbb : isNilB (checkS (mkL r k)) = false := by
          cases hq : checkS (mkL r k) with
          | nil => exact absurd hq (limits_bad k r (by omega))
          | no n => rfl
          | fault a b c => rfl
        have HB := Lib.hid hbb
        clear hbb
        go_wp2_with fail
        refine HC.out.mono ?_
        rintro e w2 ⟨v2, rfl, hv2, hB2⟩
        have hq2 := fun W => ErAt.eqlNil (W := W) hv2
        have hg2 := fun W op x => ErAt.guard (W := W) hv2 op x
        rw [HB.out] at hq2
        go_wp2_with fail
        refine (legs_Check u6 (mkL r k) _ (HS.out.bel encLeg_len hB2) (by rw [mkL_len]; omega)).mono ?_
        rintro e w3 ⟨v3, rfl, hv3, hB3⟩
        have hq3 := fun W => ErAt.eqlNil (W := W) hv3
        have hg3 := fun W op x => ErAt.guard (W := W) hv3 op x
        rw [HB.out] at hq3
        clear hv2 hv3 HC
        go_wp2_with fail
        go_loop [12] (fun i => i = .int .i64 0) (fun _ => 0)
        case atStart => rfl
        case round =>
          subst hrel
          go_wp2_with fail
          go_ret
          exact ⟨rfl, (hB.step hB2).step hB3⟩
      by_cases c4 : 4 < r
      · have c1' : ¬ (k : Int) < 2 := by omega
        have c2' : ¬ (4 : Int) < (k : Int) := by omega
        have HC := Lib.hid (legs_Canon_bad u6 (mkL r k) wr HS.out (by rw [mkL_len]; omega) (limits_bad k r (by omega)))
        have hbb : isNilB (checkS (mkL r k)) = false := by
          cases hq : checkS (mkL r k) with
          | nil => exact absurd hq (limits_bad k r (by omega))
          | no n => rfl
          | fault a b c => rfl
        have HB := Lib.hid hbb
        clear hbb
        go_wp2_with fail
        refine HC.out.mono ?_
        rintro e w2 ⟨v2, rfl, hv2, hB2⟩
        have hq2 := fun W => ErAt.eqlNil (W := W) hv2
        have hg2 := fun W op x => ErAt.guard (W := W) hv2 op x
        rw [HB.out] at hq2
        go_wp2_with fail
        refine (legs_Check u6 (mkL r k) _ (HS.out.bel encLeg_len hB2) (by rw [mkL_len]; omega)).mono ?_
        rintro e w3 ⟨v3, rfl, hv3, hB3⟩
        have hq3 := fun W => ErAt.eqlNil (W := W) hv3
        have hg3 := fun W op x => ErAt.guard (W := W) hv3 op x
        rw [HB.out] at hq3
        clear hv2 hv3 HC
        go_wp2_with fail
        go_loop [12] (fun i => i = .int .i64 0) (fun _ => 0)
        case atStart => rfl
        case round =>
          subst hrel
          go_wp2_with fail
          go_ret
          exact ⟨rfl, (hB.step hB2).step hB3⟩
      have c1' : ¬ (k : Int) < 2 := by omega
      have c2' : ¬ (4 : Int) < (k : Int) := by omega
      obtain ⟨o1, o2⟩ := limits_ok k r (by omega) (by omega) (by omega) (by omega)
      have hcn := legs_Canon_ok u6 (mkL r k) wr HS.out (by rw [mkL_len]; omega) o1
      rw [o2] at hcn
      have HC := Lib.hid hcn
      have O1 := Lib.hid o1
      clear hcn o1 o2
      go_wp2_with fail
      refine HC.out.mono ?_
      rintro e w2 ⟨v2, rfl, hf2, hB2⟩
      rcases hf2 with ⟨_, h⟩ | ⟨g, cap, rfl, hcap, hm, hg, hltg, hM⟩
      · have := congrArg List.length h; rw [mkL_len] at this; simp at this; omega
      rw [mkL_len] at hcap ⊢
      have HM := Lib.hid hM
      clear hM HC
      go_wp2_with fail
      refine (legs_Check u6 (mkL r k) _ (HS.out.bel encLeg_len hB2) (by rw [mkL_len]; omega)).mono ?_
      rintro e w3 ⟨v3, rfl, hv3, hB3⟩
      rw [O1.out] at hv3
      obtain rfl := nil_of hv3
      clear hv3
      go_wp2_with fail
      go_loopw [12] (fun i w4 => ∃ j : Nat, j ≤ k ∧ i = .int .i64 j ∧ Bel w3 w4) (fun i _ => k - (intOf i).toNat)
      case atStart => exact ⟨0, by omega, rfl, Bel.rfl'⟩
      case round =>
        obtain ⟨j, hj, rfl, hB4⟩ := hrel
        by_cases hjk : j < k
        · have hjl : j < (mkL 1 k).length := by rw [mkL_len]; exact hjk
          obtain ⟨d0, d1, d2⟩ := leg_cells0 (HM.out.bel encLeg_len (hB3.step hB4)).1 hjl
          have e0 : (mkL 1 k)[j] = ⟨(j : Int) + 1, 1, 1⟩ := by simp [mkL]
          rw [e0] at d0 d1 d2
          clear e0 hjl
          go_wp2_with fail
          go_roundw
          case rel => exact ⟨j + 1, hjk, by go_num, hB4⟩
          case measure => simp [intOf]; omega
        · obtain rfl : j = k := by omega
          go_wp2_with fail
          go_ret
          exact ⟨rfl, ((hB.step hB2).step hB3).step hB4⟩
end Go.Proofs.YtdigfjpknckpfaaDoor
