/- The law LegsNet walked: it returns true. Condition: the arguments read as a list of legs and a list of int64 numbers. -/
import Derived.Test.YtdigfjpknckpfaaDoorRound
import Derived.Test.YtdigfjpknckpfaaDoorRefLegB
namespace Go.Proofs.YtdigfjpknckpfaaDoor
set_option linter.unusedSimpArgs false
set_option linter.unusedVariables false
open Go.RowKit

theorem net_neg {l : List Leg} {ps : List Int} (hl : ∀ x ∈ l, I64 x.g) (hp : ∀ p ∈ ps, -1125899906842624 ≤ p ∧ p ≤ 1125899906842624) : netS (turnS l) ps = (-(netS l ps).1, (netS l ps).2) := by
  by_cases hc : checkS l = .nil ∧ ps.length = l.length
  · rw [net_turn hc.1 hc.2 hp, net_few hc.1 hc.2 hp]
  · have e1 : netS l ps = (0, 1) := if_neg hc
    have e2 : netS (turnS l) ps = (0, 1) := if_neg (by rw [turnS_check hl, turnS_len]; exact hc)
    rw [e1, e2]; rfl

set_option maxRecDepth 100000 in
set_option maxHeartbeats 4000000 in
theorem net_walk (v1 v2 : Value) (l : List Leg) (ps : List Int) (w : World) (h1 : SlLeg w v1 l) (h2 : SlI w v2 ps) (hl : ∀ x ∈ l, LegOk x) (hp : ∀ p ∈ ps, I64 p) :
    Calls Tryd.prog 3 #[v1, v2] w fun e w' => e = .returned (.bool true) ∧ Bel w w' := by
  obtain ⟨a1, c1, e1⟩ := sl_len h1
  obtain ⟨a2, c2, e2⟩ := sl_len h2
  have K := Lib.hid (known17 w)
  by_cases q1 : 20 < l.length
  · subst e1 e2
    have q1' : (20 : Int) < (l.length : Int) := by omega
    clear h1 h2 hl hp
    go_enter Tryd.func3, Tryd.ntmps3
    go_wp2_with fail
    refine K.out.mono ?_
    rintro e w1 ⟨rfl, hB1⟩
    go_wp2_with fail
    go_ret
    exact ⟨rfl, hB1⟩
  have q1' : ¬ (20 : Int) < (l.length : Int) := by omega
  by_cases q2 : 20 < ps.length
  · subst e1 e2
    have q2' : (20 : Int) < (ps.length : Int) := by omega
    clear h1 h2 hl hp
    go_enter Tryd.func3, Tryd.ntmps3
    go_wp2_with fail
    refine K.out.mono ?_
    rintro e w1 ⟨rfl, hB1⟩
    go_wp2_with fail
    go_ret
    exact ⟨rfl, hB1⟩
  have q2' : ¬ (20 : Int) < (ps.length : Int) := by omega
  have HN := Lib.hid (fun W (hW : Bel w W) => legs_Net v1 v2 l ps W (h1.bel encLeg_len hW) (h2.bel encI_len hW) (by omega) (by omega) hp)
  have HO := Lib.hid (fun W (hW : Bel w W) => legs_Of v1 l W (h1.bel encLeg_len hW) (by omega))
  have HR := Lib.hid (fun u W (hW : Bel w W) (hu : SlLeg W u l) => ref_Net u v2 l ps W hu (h2.bel encI_len hW) (by omega) (by omega) hp)
  have HT := Lib.hid (fun W (hW : Bel w W) => legs_Turned v1 l W (h1.bel encLeg_len hW) (by omega))
  have HNT := Lib.hid (fun u W (hW : Bel w W) (hu : SlLeg W u (turnS l)) => legs_Net u v2 (turnS l) ps W hu (h2.bel encI_len hW) (by rw [turnS_len]; omega) (by omega) hp)
  have HNG := Lib.hid (fun hb => net_neg (l := l) (ps := ps) (fun x hx => (hl x hx).2.1) hb)
  have HI := Lib.hid (netS_I64 (turnS l) ps)
  generalize netS (turnS l) ps = M at HNT HNG HI
  generalize netS l ps = N at HN HR HNG
  obtain ⟨n, ne⟩ := N
  obtain ⟨m, me⟩ := M
  have H2 := Lib.hid h2
  clear h1 h2 hl hp
  subst e1
  go_enter Tryd.func3, Tryd.ntmps3
  go_wp2_with fail
  refine K.out.mono ?_
  rintro e w1 ⟨rfl, hB1⟩
  subst e2
  go_wp2_with fail
  refine (HN.out _ hB1).mono ?_
  rintro e w2 ⟨rfl, hB2⟩
  unfold two
  go_wp2_with fail
  refine (HO.out _ (hB1.step hB2)).mono ?_
  rintro e w3 ⟨v3, rfl, hf3, hB3⟩
  go_wp2_with fail
  refine (HR.out _ _ ((hB1.step hB2).step hB3) hf3.sl).mono ?_
  rintro e w4 ⟨rfl, hB4⟩
  clear hf3
  unfold two
  have hB5 : Bel w w4 := ((hB1.step hB2).step hB3).step hB4
  go_wp2_with fail
  go_loopw [9] (fun i wr => ∃ k : Nat, k ≤ ps.length ∧ i = .int .i64 k ∧ Bel w4 wr ∧ Hid (∀ (j : Nat) (_ : j < k) (h : j < ps.length), -1125899906842624 ≤ ps[j] ∧ ps[j] ≤ 1125899906842624)) (fun i _ => ps.length - (intOf i).toNat)
  case atStart => exact ⟨0, by omega, rfl, Bel.rfl', fun j h => by omega⟩
  case round =>
    obtain ⟨k, hk, rfl, hB, HP⟩ := hrel
    by_cases hlt : k < ps.length
    · rcases H2.out.bel encI_len (hB5.step hB) with ⟨h, _⟩ | ⟨b, o, c, h, hc1, hc2, hrow⟩
      · simp only [Value.slice.injEq] at h; omega
      obtain ⟨rfl, rfl⟩ : a2 = some ⟨b, o, none⟩ ∧ c2 = c := by
        injection h with e1 _ e2
        exact ⟨e1, e2⟩
      have d0 := int_cell hrow hlt
      clear h hrow
      have hki : (0 : Int) ≤ (k : Int) := by omega
      have hki2 : (k : Int) < (ps.length : Int) := by omega
      by_cases b1 : ps[k] < -1125899906842624
      · generalize ps[k] = p at d0 b1
        go_wp2_with fail
        go_ret
        exact ⟨rfl, hB5.step hB⟩
      · by_cases b2 : 1125899906842624 < ps[k]
        · generalize ps[k] = p at d0 b1 b2
          go_wp2_with fail
          go_ret
          exact ⟨rfl, hB5.step hB⟩
        · have HP1 : Hid (∀ (j : Nat) (_ : j < k + 1) (h : j < ps.length), -1125899906842624 ≤ ps[j] ∧ ps[j] ≤ 1125899906842624) := by
            intro j hj h
            rcases Nat.lt_succ_iff_lt_or_eq.1 hj with hj | rfl
            · exact HP.out j hj h
            · omega
          generalize ps[k] = p at d0 b1 b2
          go_wp2_with fail
          go_roundw
          case rel => exact ⟨k + 1, by omega, by go_num, hB, HP1⟩
          case measure => simp [intOf]; omega
    · obtain rfl : k = ps.length := by omega
      have hng := HNG.out (fun p h => by
        obtain ⟨j, hj, rfl⟩ := List.getElem_of_mem h
        exact HP.out j hj hj)
      simp only [Prod.mk.injEq] at hng
      obtain ⟨rfl, rfl⟩ := hng
      have hi := HI.out
      unfold I64 at hi
      obtain ⟨i1, i2⟩ := hi
      have n5 : -9223372036854775807 ≤ n := by omega
      have n6 : n ≤ 9223372036854775808 := by omega
      go_wp2_with fail
      refine (HT.out _ (hB5.step hB)).mono ?_
      rintro e w5 ⟨v5, rfl, hf5, hB6⟩
      go_wp2_with fail
      refine (HNT.out _ _ ((hB5.step hB).step hB6) hf5.sl).mono ?_
      rintro e w6 ⟨rfl, hB7⟩
      unfold two
      clear hf5
      go_wp2_with fail
      go_ret
      exact ⟨by simp, ((hB5.step hB).step hB6).step hB7⟩
end Go.Proofs.YtdigfjpknckpfaaDoor
