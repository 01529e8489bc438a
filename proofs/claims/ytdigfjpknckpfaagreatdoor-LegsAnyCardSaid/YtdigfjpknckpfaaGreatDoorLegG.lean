/- Package legs: Net: its contract. Condition: the slices read as lists; the prices are int64 numbers. -/
import Derived.Test.YtdigfjpknckpfaaGreatDoorLegF
import Derived.Deep.RegionHeld3
import Derived.Deep.DrawnRows
namespace Go.Proofs.YtdigfjpknckpfaaGreatDoor
set_option linter.unusedSimpArgs false
set_option linter.unusedVariables false
open Go.RowKit

def netGo : List (Leg × Int) → Int → Int × Int
  | [], a => (a, 0)
  | (x, p) :: t, a => if (partS x p).2 = 0 then (if (addS a (partS x p).1).2 = 0 then netGo t (addS a (partS x p).1).1 else (0, (addS a (partS x p).1).2)) else (0, (partS x p).2)
theorem netGo_cons (x : Leg) (p : Int) (t : List (Leg × Int)) (a : Int) : netGo ((x, p) :: t) a = if (partS x p).2 = 0 then (if (addS a (partS x p).1).2 = 0 then netGo t (addS a (partS x p).1).1 else (0, (addS a (partS x p).1).2)) else (0, (partS x p).2) := rfl
def netS (l : List Leg) (ps : List Int) : Int × Int := if checkS l = .nil ∧ ps.length = l.length then netGo (l.zip ps) 0 else (0, 1)

theorem partS_I64 (x : Leg) (p : Int) : I64 (partS x p).1 := by
  unfold partS; split
  · exact mulS_I64 _ _
  · unfold I64; simp

set_option maxHeartbeats 1000000 in
theorem legs_Net (v1 v2 : Value) (l : List Leg) (ps : List Int) (w : World) (h1 : SlLeg w v1 l) (h2 : SlI w v2 ps) (hn1 : l.length ≤ 1000000) (hn2 : ps.length ≤ 1000000) (hp : ∀ p ∈ ps, I64 p) :
    Calls Tryz.prog 26 #[v1, v2] w fun e w' => e = .returned (two .i64 (netS l ps)) ∧ Bel w w' := by
  have HC := Lib.hid (legs_Check v1 l w h1 hn1)
  have hv2 : ∃ a c, v2 = .slice a ps.length c := by
    rcases h2 with ⟨rfl, rfl⟩ | ⟨b, o, c, rfl, _⟩
    · exact ⟨_, _, rfl⟩
    · exact ⟨_, _, rfl⟩
  by_cases hc : checkS l = .nil
  · by_cases hlen : ps.length = l.length
    · have HN : Hid (netS l ps = netGo (l.zip ps) 0) := if_pos ⟨hc, hlen⟩
      obtain ⟨k1, k2, k3, k4⟩ := check_ok hc
      rw [hc] at HC
      rcases h1 with ⟨rfl, rfl⟩ | ⟨b1, o1, cap1, rfl, hcap1, hm1, hc1⟩
      · simp at k1
      rcases h2 with ⟨rfl, rfl⟩ | ⟨b2, o2, cap2, rfl, hcap2, hm2, hc2⟩
      · simp at hlen; omega
      rw [hlen] at hcap2 ⊢
      have K3 := Lib.hid k3
      have HP := Lib.hid hp
      have HL := Lib.hid hlen
      have HC1 := Lib.hid hc1
      have HC2 := Lib.hid hc2
      clear hc hlen k3 k4 hv2 hp hc1 hc2
      have hbe : ((l.length : Int) != (l.length : Int)) = false := by simp
      go_enter Tryz.func26, Tryz.ntmps26
      go_wp2_with fail
      refine HC.out.mono ?_
      rintro e w1 ⟨v1, rfl, hv, hB1⟩
      obtain rfl : v1 = .nilIface := hv
      go_wp2_with fail
      go_loopw [6, 23] (fun a i wr => ∃ k : Nat, ∃ s : Int, k ≤ l.length ∧ i = .int .i64 k ∧ a = .int .i64 s ∧ Bel w wr ∧ Hid (I64 s) ∧ Hid (netGo (l.zip ps) 0 = netGo ((l.zip ps).drop k) s)) (fun _ i _ => l.length - (intOf i).toNat)
      case atStart => exact ⟨0, 0, by omega, rfl, rfl, hB1, by unfold Hid I64; omega, rfl⟩
      case round =>
        obtain ⟨k, s, hk, rfl, rfl, hB, HS, HG⟩ := hrel
        by_cases hlt : k < l.length
        · have hlt2 : k < ps.length := by rw [HL.out]; exact hlt
          obtain ⟨d0, d1, d2⟩ := leg_cells (HC1.out.bel encLeg_len hB) hlt
          have d3 := int_cell (HC2.out.bel encI_len hB) hlt2
          obtain ⟨_, g1, r1, r4⟩ := bad_facts (K3.out l[k] (List.getElem_mem hlt))
          have hzk : (l.zip ps)[k]'(by simp; omega) = (l[k], ps[k]) := List.getElem_zip
          have hz : (l.zip ps).drop k = (l[k], ps[k]) :: (l.zip ps).drop (k + 1) := by
            rw [List.drop_eq_getElem_cons (by simp; omega), hzk]
          have hg := HG.out
          rw [hz] at hg
          have ip := HP.out ps[k] (List.getElem_mem hlt2)
          clear hzk hz
          generalize l[k] = x at d0 d1 d2 g1 r1 r4 hg
          generalize ps[k] = p at d3 ip hg
          have hpart := fun W => legs_part x p W (by unfold I64; omega) (by unfold I64; omega) ip
          have ipa := partS_I64 x p
          rw [netGo_cons] at hg
          generalize hq : partS x p = q at hpart ipa hg
          obtain ⟨q1, q2⟩ := q
          have hadd := fun W => num_Add s q1 W HS.out ipa
          have ia := addS_I64 s q1
          dsimp only at hg
          generalize hr : addS s q1 = r at hadd ia hg
          obtain ⟨r1', r2'⟩ := r
          unfold two at hpart hadd
          have HPA := Lib.hid hpart
          have HAD := Lib.hid hadd
          have IA := Lib.hid ia
          have HG2 := Lib.hid hg
          clear hpart hadd ia hg hq hr ipa ip g1 HG
          have hki : (0 : Int) ≤ (k : Int) := by omega
          by_cases hq2 : q2 = 0
          · subst hq2
            by_cases hr2 : r2' = 0
            · subst hr2
              have HG3 : Hid (netGo (l.zip ps) 0 = netGo (List.drop (k + 1) (l.zip ps)) r1') := by
                have := HG2.out
                simp only [if_true] at this
                exact this
              go_wp2_with fail
              go_region_held3 (fun w' => w'.cell? ⟨wr.heap.size, 0, none⟩ = some (.int .i64 x.s) ∧ w'.cell? ⟨wr.heap.size, 1, none⟩ = some (.int .i64 x.g) ∧ w'.cell? ⟨wr.heap.size, 2, none⟩ = some (.int .i64 x.r) ∧ w'.cell? ⟨b2, o2 + k, none⟩ = some (.int .i64 p)) (first | go_keep | (go_split_ands; exact ⟨hb.cellv (by assumption), hb.cellv (by assumption), hb.cellv (by assumption), hb.cellv (by assumption)⟩)) (first | (go_at_call 49; refine (HPA.out _).mono ?_; rintro e w' ⟨rfl, hb⟩))
              all_goals
                go_wp2_with (go_at_call 50; refine (HAD.out _).mono ?_; rintro e w' ⟨rfl, rfl⟩)
                go_roundw
                case rel => exact ⟨k + 1, r1', hlt, by go_num, rfl, ((hB.al _).dr).step hb, IA.out, HG3.out⟩
                case measure => simp [intOf]; omega
            · have hr2' : (r2' != 0) = true := by rw [bne_iff_ne]; exact hr2
              have HG3 : Hid (netS l ps = (0, r2')) := by
                unfold Hid
                rw [HN.out, HG2.out]
                simp [hr2]
              clear hr2
              go_wp2_with fail
              go_region_held3 (fun w' => w'.cell? ⟨wr.heap.size, 0, none⟩ = some (.int .i64 x.s) ∧ w'.cell? ⟨wr.heap.size, 1, none⟩ = some (.int .i64 x.g) ∧ w'.cell? ⟨wr.heap.size, 2, none⟩ = some (.int .i64 x.r) ∧ w'.cell? ⟨b2, o2 + k, none⟩ = some (.int .i64 p)) (first | go_keep | (go_split_ands; exact ⟨hb.cellv (by assumption), hb.cellv (by assumption), hb.cellv (by assumption), hb.cellv (by assumption)⟩)) (first | (go_at_call 49; refine (HPA.out _).mono ?_; rintro e w' ⟨rfl, hb⟩))
              all_goals
                go_wp2_with (go_at_call 50; refine (HAD.out _).mono ?_; rintro e w' ⟨rfl, rfl⟩)
                go_ret2
                exact ⟨by rw [HG3.out]; rfl, ((hB.al _).dr).step hb⟩
          · have hq2' : (q2 != 0) = true := by rw [bne_iff_ne]; exact hq2
            have HG3 : Hid (netS l ps = (0, q2)) := by
              unfold Hid
              rw [HN.out, HG2.out]
              simp [hq2]
            clear hq2
            go_wp2_with fail
            go_region_held3 (fun w' => w'.cell? ⟨wr.heap.size, 0, none⟩ = some (.int .i64 x.s) ∧ w'.cell? ⟨wr.heap.size, 1, none⟩ = some (.int .i64 x.g) ∧ w'.cell? ⟨wr.heap.size, 2, none⟩ = some (.int .i64 x.r) ∧ w'.cell? ⟨b2, o2 + k, none⟩ = some (.int .i64 p)) (first | go_keep | (go_split_ands; exact ⟨hb.cellv (by assumption), hb.cellv (by assumption), hb.cellv (by assumption), hb.cellv (by assumption)⟩)) (first | (go_at_call 49; refine (HPA.out _).mono ?_; rintro e w' ⟨rfl, hb⟩))
            all_goals
              go_wp2_with (go_at_call 50; refine (HAD.out _).mono ?_; rintro e w' ⟨rfl, rfl⟩)
              go_ret2
              exact ⟨by rw [HG3.out]; rfl, ((hB.al _).dr).step hb⟩
        · obtain rfl : k = l.length := by omega
          have HG3 : Hid (netS l ps = (s, 0)) := by
            unfold Hid
            rw [HN.out, HG.out, List.drop_of_length_le (by simp; omega)]
            rfl
          go_wp2
          go_ret2
          exact ⟨by rw [HG3.out]; rfl, hB⟩
    · have HN : Hid (netS l ps = (0, 1)) := if_neg (fun h => hlen h.2)
      have hbe : ((ps.length : Int) != (l.length : Int)) = true := by rw [bne_iff_ne]; omega
      have hv1 : ∃ a c, v1 = .slice a l.length c := by
        rcases h1 with ⟨rfl, rfl⟩ | ⟨b, o, c, rfl, _⟩
        · exact ⟨_, _, rfl⟩
        · exact ⟨_, _, rfl⟩
      rw [hc] at HC
      obtain ⟨a1, c1, rfl⟩ := hv1
      obtain ⟨a2, c2, rfl⟩ := hv2
      clear h1 h2 hlen hc hp
      go_enter Tryz.func26, Tryz.ntmps26
      go_wp2_with fail
      refine HC.out.mono ?_
      rintro e w1 ⟨v1, rfl, hv, hB1⟩
      obtain rfl : v1 = .nilIface := hv
      go_wp2_with fail
      go_ret2
      exact ⟨by rw [HN.out]; rfl, hB1⟩
  · have HN : Hid (netS l ps = (0, 1)) := if_neg (fun h => hc h.1)
    have hb : isNilB (checkS l) = false := by
      cases hq : checkS l with
      | nil => exact absurd hq hc
      | no n => rfl
      | fault a b c => rfl
    clear h1 h2 hc hp
    go_enter Tryz.func26, Tryz.ntmps26
    go_wp2_with fail
    refine HC.out.mono ?_
    rintro e w1 ⟨v1, rfl, hv, hB1⟩
    have hq := fun W => ErAt.neqNil (W := W) hv
    have hg := fun W op x => ErAt.guard (W := W) hv op x
    rw [hb] at hq
    simp only [Bool.not_false] at hq
    clear hv hb HC
    go_wp2_with fail
    go_ret2
    exact ⟨by rw [HN.out]; rfl, hB1⟩
end Go.Proofs.YtdigfjpknckpfaaGreatDoor
