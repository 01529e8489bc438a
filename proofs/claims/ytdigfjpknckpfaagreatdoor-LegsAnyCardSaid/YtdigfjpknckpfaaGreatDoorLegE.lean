/- Package legs: Canon: its contract. Condition: the slice reads as a list of legs. -/
import Derived.Test.YtdigfjpknckpfaaGreatDoorLegD
namespace Go.Proofs.YtdigfjpknckpfaaGreatDoor
set_option linter.unusedSimpArgs false
set_option linter.unusedVariables false
open Go.RowKit

set_option maxHeartbeats 400000 in
theorem legs_Canon_bad (v : Value) (l : List Leg) (w : World) (h : SlLeg w v l) (hn : l.length ≤ 1000000) (hc : checkS l ≠ .nil) :
    Calls Tryz.prog 8 #[v] w fun e w' => ∃ v', e = .returned (.tuple #[.slice none 0 0, .bool false, v']) ∧ ErAt w' v' (checkS l) ∧ Bel w w' := by
  have HC := Lib.hid (legs_Check v l w h hn)
  have hb : isNilB (checkS l) = false := by
    cases hq : checkS l with
    | nil => exact absurd hq hc
    | no n => rfl
    | fault a b c => rfl
  clear h hc
  generalize checkS l = c at HC hb ⊢
  go_enter Tryz.func8, Tryz.ntmps8
  go_wp2_with fail
  refine HC.out.mono ?_
  rintro e w1 ⟨v1, rfl, hv, hB⟩
  have hq := fun W => ErAt.neqNil (W := W) hv
  have hg := fun W op x => ErAt.guard (W := W) hv op x
  rw [hb] at hq
  simp only [Bool.not_false] at hq
  have HV := Lib.hid hv
  clear hv hb HC
  go_wp2_with fail
  go_ret3
  exact ⟨_, rfl, HV.out, hB⟩

theorem I64_small {x : Int} (h0 : 0 ≤ x) (h1 : x ≤ 4) : I64 x := by unfold I64; omega
theorem gcd_le {a r : Int} (ha : 0 ≤ a) (ha4 : a ≤ 4) (hr : 1 ≤ r) (hr4 : r ≤ 4) : 1 ≤ gcdS a r ∧ gcdS a r ≤ 4 := by
  have h1 : Nat.gcd a.natAbs r.natAbs ≤ r.natAbs := Nat.gcd_le_right _ (by omega)
  have h2 : 0 < Nat.gcd a.natAbs r.natAbs := Nat.gcd_pos_of_pos_right _ (by omega)
  unfold gcdS
  split <;> omega
def gcdTo (l : List Leg) (k : Nat) : Int := gcdAll (l.take k)
theorem gcdTo_zero (l : List Leg) : gcdTo l 0 = 0 := by simp [gcdTo, gcdAll]
theorem gcdTo_succ {l : List Leg} {k : Nat} (h : k < l.length) : gcdTo l (k + 1) = gcdS (gcdTo l k) l[k].r := by
  unfold gcdTo gcdAll
  rw [List.take_succ_eq_append_getElem h, List.foldl_append]; rfl
theorem gcdTo_all (l : List Leg) : gcdTo l l.length = gcdAll l := by simp [gcdTo]

theorem gcdTo_bd {l : List Leg} (hr : ∀ x ∈ l, 1 ≤ x.r ∧ x.r ≤ 4) : ∀ k, k ≤ l.length → 0 ≤ gcdTo l k ∧ gcdTo l k ≤ 4 ∧ (0 < k → 1 ≤ gcdTo l k) := by
  intro k
  induction k with
  | zero => intro _; rw [gcdTo_zero]; exact ⟨by omega, by omega, fun h => by omega⟩
  | succ k ih =>
    intro hk
    obtain ⟨a, b, _⟩ := ih (by omega)
    have := hr l[k] (List.getElem_mem (by omega))
    rw [gcdTo_succ (by omega)]
    have g := gcd_le a b this.1 this.2
    exact ⟨by omega, g.2, fun _ => g.1⟩

set_option maxHeartbeats 1000000 in
theorem legs_Canon_ok (v : Value) (l : List Leg) (w : World) (h : SlLeg w v l) (hn : l.length ≤ 1000000) (hc : checkS l = .nil) :
    Calls Tryz.prog 8 #[v] w fun e w' => ∃ v', e = .returned (.tuple #[v', .bool (canonS l).2, .nilIface]) ∧ Fresh encLeg 3 w.heap.size w' v' (canonS l).1 ∧ Bel w w' := by
  have HC := Lib.hid (legs_Check v l w h hn)
  obtain ⟨k1, k2, k3, k4⟩ := check_ok hc
  rw [hc] at HC
  have H := Lib.hid h
  have hne : l ≠ [] := by intro e; subst e; simp at k1
  have K3 := Lib.hid k3
  have K4 := Lib.hid k4
  have HN := Lib.hid hne
  clear h hc k3 k4 hne
  go_enter Tryz.func8, Tryz.ntmps8
  go_wp2_with fail
  refine HC.out.mono ?_
  rintro e w1 ⟨v1, rfl, hv, hB1⟩
  obtain rfl : v1 = .nilIface := hv
  clear HC
  go_wp2_with fail
  refine (legs_Clone v l _ (H.out.bel encLeg_len hB1) hn).mono ?_
  rintro e w2 ⟨v2, rfl, hf2, hB2⟩
  go_wp2_with fail
  refine (legs_Clip v2 l _ hf2).mono ?_
  rintro e w3 ⟨⟨v3, rfl, hf3⟩, rfl⟩
  go_wp2_with fail
  have hz : w.heap.size ≤ w1.heap.size := hB1.size
  have hz2 : w1.heap.size ≤ w3.heap.size := hB2.size
  refine (legs_Sort (B := w1.heap.size) (w0 := w1) v3 l _ hf3 HN.out K4.out hB2 hz2 hn).mono ?_
  rintro e w4 ⟨rfl, hf4, hB4⟩
  have hB5 : Bel w w4 := hB1.trans (hB4.mono hz)
  have hr : ∀ x ∈ sortS l, 1 ≤ x.r ∧ x.r ≤ 4 := fun x hx => (bad_facts (K3.out x ((sortS_perm l).mem_iff.1 hx))).2.2
  have hl := sortS_len l
  generalize ho : sortS l = o at hf4 hr hl
  have HO := Lib.hid ho
  rcases hf4 with ⟨rfl, rfl⟩ | ⟨g, cap, rfl, hcap, hm, hg, hlt, hM⟩
  · simp at hl; omega
  have HR := Lib.hid hr
  have HL := Lib.hid hl
  have HM4 := Lib.hid hM
  have hlo : 2 ≤ o.length := by omega
  have hlo2 : o.length ≤ 4 := by omega
  clear hf2 hf3 hM hr hl ho hB4 hB2 hB1 H K3 K4 HN
  go_wp2_with fail
  go_loopw [7, 23] (fun a i wr => ∃ k : Nat, k ≤ o.length ∧ i = .int .i64 k ∧ a = .int .i64 (gcdTo o k) ∧ Bel w4 wr) (fun _ i _ => o.length - (intOf i).toNat)
  case atStart => exact ⟨0, by omega, rfl, by rw [gcdTo_zero], Bel.rfl'⟩
  case round =>
    obtain ⟨k, hk, rfl, rfl, hB⟩ := hrel
    by_cases hlk : k < o.length
    · obtain ⟨d0, d1, d2⟩ := leg_cells0 (HM4.out.bel encLeg_len hB).1 hlk
      obtain ⟨q1, q2, _⟩ := gcdTo_bd HR.out k hk
      have hx := HR.out o[k] (List.getElem_mem hlk)
      have GS := Lib.hid (gcdTo_succ hlk)
      have HG := fun W => num_Gcd (gcdTo o k) o[k].r W (I64_small q1 q2) (I64_small (by omega) hx.2)
      rw [← GS.out] at HG
      have HG' := Lib.hid HG
      clear HG GS hx q1 q2
      generalize o[k] = x at d0 d1 d2 HG'
      generalize gcdTo o k = a0 at HG' ⊢
      go_wp2_with (go_at_call 32; refine (HG'.out _).mono ?_; rintro e w' ⟨rfl, hb⟩)
      go_roundw
      case rel => exact ⟨k + 1, hlk, by go_num, rfl, (hB.al _).step hb⟩
      case measure => simp [intOf]; omega
    · obtain rfl : k = o.length := by omega
      have hgb := (gcdTo_bd HR.out o.length (Nat.le_refl _))
      rw [gcdTo_all] at hgb ⊢
      obtain ⟨_, hg4, hg1⟩ := hgb
      have hg1 := hg1 (by omega)
      have HD : divS l = o.map (div1 (gcdAll o)) := by unfold divS; rw [HO.out]
      generalize gcdAll o = d at hg4 hg1 HD ⊢
      have HDV := Lib.hid HD
      have HM5 : Hid (MutAt encLeg 3 wr g 0 (mapTo (div1 d) 0 o)) := by unfold Hid; rw [mapTo_zero]; exact HM4.out.bel encLeg_len hB
      have hgl : g < wr.heap.size := Nat.lt_of_lt_of_le hlt hB.size
      have hBw := hB5.step hB
      have hBz := hB.size
      clear HD HM4
      go_wp2_with fail
      go_loopw [34] (fun i wr' => ∃ k : Nat, k ≤ o.length ∧ i = .int .i64 k ∧ Bel w wr' ∧ g < wr'.heap.size ∧ Hid (MutAt encLeg 3 wr' g 0 (mapTo (div1 d) k o))) (fun i _ => o.length - (intOf i).toNat)
      case atStart => exact ⟨0, by omega, rfl, hBw, hgl, HM5.out⟩
      case round =>
        obtain ⟨k, hk, rfl, hB', hgl', HM⟩ := hrel
        by_cases hlk : k < o.length
        · have hlk' : k < (mapTo (div1 d) k o).length := by rw [mapTo_len]; exact hlk
          obtain ⟨d0, d1, d2⟩ := leg_cells0 HM.out.1 hlk'
          obtain ⟨f0, f1, f2⟩ := leg_froz0 HM.out hlk'
          have hx : (mapTo (div1 d) k o)[k] = o[k] := mapTo_get hlk
          rw [hx] at d0 d1 d2
          have HS := Lib.hid (leg_set0 HM.out hlk' (c := 2) (by omega) (u := .int .i64 (o[k].r / d)) (y := div1 d o[k]) (by rw [hx]; rfl))
          rw [mapTo_set hlk] at HS
          obtain ⟨r1, r4⟩ := HR.out o[k] (List.getElem_mem hlk)
          clear hx hlk'
          generalize o[k] = x at d0 d1 d2 HS r1 r4
          go_wp2
          go_roundw
          case rel => exact ⟨k + 1, hlk, by go_num, hB'.st (by simp; omega) _, by simp [World.setCell]; exact hgl', HS.out⟩
          case measure => simp [intOf]; omega
        · obtain rfl : k = o.length := by omega
          have hM := HM.out
          rw [mapTo_all, ← HDV.out] at hM
          have hdl : (divS l).length = o.length := by rw [HDV.out]; simp
          obtain ⟨y, ys, hy⟩ : ∃ y ys, divS l = y :: ys := by
            cases hq : divS l with
            | nil => rw [hq] at hdl; simp at hdl; omega
            | cons y ys => exact ⟨y, ys, rfl⟩
          have hd0 := leg_cells0 hM.1 (i := 0) (by omega)
          obtain ⟨d0, d1, d2⟩ := hd0
          simp only [hy, List.getElem_cons_zero, Nat.zero_mul, Nat.zero_add] at d0 d1 d2
          have hF : Fresh encLeg 3 w.heap.size wr (.slice (some ⟨g, 0, none⟩) o.length cap) (divS l) := Or.inr ⟨g, cap, by rw [hdl], by omega, hm, by omega, hgl', hM⟩
          have hcan : canonS l = if (y.g == 1) = true then (divS l, false) else (turnS (divS l), true) := by unfold canonS; rw [hy]; rfl
          cases hq : (y.g == 1)
          · rw [hq] at hcan
            have HCAN := Lib.hid hcan
            have HT := legs_Turned _ (divS l) wr hF.sl (by omega)
            have HT' := Lib.hid HT
            clear hcan hF hM hy hdl HT HDV HM HO
            generalize divS l = dv at HT' HCAN
            go_wp2_with (go_at_call 16; refine HT'.out.mono ?_; rintro e w' ⟨v', rfl, hf, hb⟩)
            go_ret3
            refine ⟨_, by rw [HCAN.out]; rfl, ?_, hB'.step hb⟩
            rw [HCAN.out]
            rcases hf with hf | ⟨g', cap', h1, h2, h3, h4, h5, h6⟩
            · exact Or.inl hf
            · exact Or.inr ⟨g', cap', h1, h2, h3, Nat.le_trans hB'.size h4, h5, h6⟩
          · rw [hq] at hcan
            have HCAN := Lib.hid hcan
            have HF := Lib.hid hF
            clear hcan hF hM hy hdl HDV HM HO
            generalize divS l = dv at HF HCAN
            go_wp2_with fail
            go_ret3
            exact ⟨_, by rw [HCAN.out]; rfl, by rw [HCAN.out]; exact HF.out, hB'⟩

end Go.Proofs.YtdigfjpknckpfaaGreatDoor
