/- The reference's legs: Of (legs as the reference's), Net: their contracts. Condition: the slices read as lists. -/
import Derived.Test.YtdigfjpknckpfaaDoorRefLegA
import Derived.Test.YtdigfjpknckpfaaDoorRef1
import Derived.Test.YtdigfjpknckpfaaDoorLegG
import Derived.Deep.RegionHeld3
import Derived.Deep.DrawnRows
namespace Go.Proofs.YtdigfjpknckpfaaDoor
set_option linter.unusedSimpArgs false
set_option linter.unusedVariables false
open Go.RowKit

theorem rleg_info : (Tryd.prog.info? 56).map (fun i => (i.zero, i.size, i.bytes)) = some (some (.agg #[.int .i64 0, .int .i64 0, .int .i64 0]), 3, 24) := by kernel_rfl

set_option maxRecDepth 100000 in
set_option maxHeartbeats 2000000 in
theorem legs_Of (v : Value) (l : List Leg) (w : World) (h : SlLeg w v l) (hn : l.length ≤ 1000000) :
    Calls Tryd.prog 11 #[v] w fun e w' => ∃ v', e = .returned v' ∧ Fresh encLeg 3 w.heap.size w' v' l ∧ Bel w w' := by
  obtain ⟨i0, hi, hz0, hz1, hz2⟩ := info_parts rleg_info
  obtain ⟨a0, c0, rfl⟩ : ∃ a c, v = .slice a l.length c := by
    rcases h with ⟨rfl, rfl⟩ | ⟨b, o, c, rfl, _⟩
    · exact ⟨_, _, rfl⟩
    · exact ⟨_, _, rfl⟩
  have HS := Lib.hid h
  clear h
  go_enter Tryd.func11, Tryd.ntmps11
  go_wp2_with fail
  go_loopw [3, 4] (fun ov i wr => ∃ k : Nat, k ≤ l.length ∧ i = .int .i64 k ∧ Bel w wr ∧ wr.ownsRow w.heap.size 56 3 ov k ((l.take k).flatMap encLeg)) (fun _ i _ => l.length - (intOf i).toNat)
  case atStart => exact ⟨0, by omega, rfl, Bel.rfl', World.ownsRow_nil _ _ _ _⟩
  case round =>
    obtain ⟨k, hk, rfl, hB, hown⟩ := hrel
    by_cases hlt : k < l.length
    · obtain ⟨b, o, rfl, hc, hcap, hbw⟩ : ∃ b o, a0 = some ⟨b, o, none⟩ ∧ RowAt encLeg 3 wr b o l ∧ l.length ≤ c0 ∧ b < w.heap.size := by
        rcases HS.out with ⟨h, _⟩ | ⟨b, o, c, h, h2, _, hr⟩
        · simp only [Value.slice.injEq] at h; omega
        · injection h with e1 _ e2; exact ⟨b, o, e1, hr.bel encLeg_len hB, by omega, lt_of_cell (leg_cells hr hlt).1⟩
      obtain ⟨d0, d1, d2⟩ := leg_cells hc hlt
      have HX : Hid ((l.take (k + 1)).flatMap encLeg = (l.take k).flatMap encLeg ++ [.int .i64 l[k].s, .int .i64 l[k].g, .int .i64 l[k].r]) := by
        unfold Hid; rw [List.take_succ_eq_append_getElem hlt, List.flatMap_append]; simp [encLeg]
      clear hc
      generalize l[k] = x at d0 d1 d2 HX
      have OW := Lib.hid hown
      have hne : u3.ownBlock ≠ some b := fun h => by have := (hown.lt _ h).1; omega
      clear hown
      have hbs := hB.size
      have hki : (0 : Int) ≤ (k : Int) := by omega
      have hki2 : (k : Int) < (l.length : Int) := by omega
      go_wp2_with fail
      go_region_held3 (fun w' => w'.cell? ⟨b, o + k * 3, none⟩ = some (.int .i64 x.s) ∧ w'.cell? ⟨b, o + k * 3 + 1, none⟩ = some (.int .i64 x.g) ∧ w'.cell? ⟨b, o + k * 3 + 2, none⟩ = some (.int .i64 x.r))
          (first | go_keep | (go_split_ands; exact ⟨(hgrow.cell_far _ (by simp; omega) (Ne.symm hne)).trans (by assumption), (hgrow.cell_far _ (by simp; omega) (Ne.symm hne)).trans (by assumption), (hgrow.cell_far _ (by simp; omega) (Ne.symm hne)).trans (by assumption)⟩))
          ((refine step_append_lies _ (by rfl) _ _ _ (by rfl) w.heap.size 56 i0 _ 3 24 Tryd.underlying30 hi hz0 hz1 hz2 rfl (by omega) u3 k _ (by rfl) ((OW.out.drew).alloc _) ⟨wr.heap.size, 0, none⟩ 1 1 [.int .i64 x.s, .int .i64 x.g, .int .i64 x.r] (by rfl) (by rfl) (World.news_of_block (cs := #[.int .i64 x.s, .int .i64 x.g, .int .i64 x.r]) (t := 56) (fr := (0, 0)) (heap_alloc_new wr.drew _)) (by simp [Value.oneCell']) (by omega) (by unfold maxLen; omega) (by omega) (by simp; omega) (wr.heap.size + 1) (by simp) ?_; intro gg cap w1 hown1 hgrow hat hlt))
      all_goals
        have HB1 : Bel w w1 := Below.grown ((hB.dr).al _) hgrow (by simp; omega) (fun q h => (OW.out.lt q h).1)
        go_wp2_with fail
        go_roundw
        case rel => exact ⟨k + 1, by omega, by go_num, HB1, by rw [HX.out]; exact hown1⟩
        case measure => simp [intOf]; omega
    · obtain rfl : k = l.length := by omega
      rw [List.take_of_length_le (Nat.le_refl _)] at hown
      have F := Lib.hid (own_fresh encLeg_len rfl hown)
      clear hown
      go_wp2_with fail
      go_ret
      exact ⟨_, rfl, F.out, hB⟩

theorem num_check {l : List Leg} (h : checkS l ≠ .nil) : numOf (checkS l) ≠ 0 := by
  unfold checkS at h ⊢
  by_cases hl : l.length < 2 ∨ 4 < l.length
  · rw [if_pos hl]; show (1 : Int) ≠ 0; decide
  · rw [if_neg hl] at h ⊢
    cases hf : firstBad (legAt l) l.length with
    | none => rw [hf] at h; exact absurd rfl h
    | some y =>
      obtain ⟨i, e⟩ := y
      show e ≠ 0
      unfold firstBad at hf
      obtain ⟨j, _, hj⟩ := List.exists_of_findSome?_eq_some hf
      unfold legAt at hj
      split at hj
      · cases hj
      · split at hj
        · simp at hj; obtain ⟨_, rfl⟩ := hj; decide
        · split at hj
          · simp at hj; obtain ⟨_, rfl⟩ := hj; decide
          · cases hj
theorem part_ok {x : Leg} {p : Int} (hg : x.g = 1 ∨ x.g = -1) (h1 : 1 ≤ x.r) (h4 : x.r ≤ 4) : partS x p = mulS (x.g * x.r) p := by
  have hin : I64 (x.g * x.r) := by
    unfold I64
    rcases hg with h | h <;> rw [h] <;> omega
  unfold partS
  rw [mulS_in hin]; simp

set_option maxRecDepth 100000 in
set_option maxHeartbeats 2000000 in
theorem ref_Net (v1 v2 : Value) (l : List Leg) (ps : List Int) (w : World) (h1 : SlLeg w v1 l) (h2 : SlI w v2 ps) (hn1 : l.length ≤ 1000000) (hn2 : ps.length ≤ 1000000) (hp : ∀ p ∈ ps, I64 p) :
    Calls Tryd.prog 10 #[v1, v2] w fun e w' => e = .returned (two .i64 (netS l ps)) ∧ Bel w w' := by
  have HC := Lib.hid (ref_Check v1 l w h1 hn1)
  have hv2 : ∃ a c, v2 = .slice a ps.length c := by
    rcases h2 with ⟨rfl, rfl⟩ | ⟨b, o, c, rfl, _⟩
    · exact ⟨_, _, rfl⟩
    · exact ⟨_, _, rfl⟩
  by_cases hc : checkS l = .nil
  · by_cases hlen : ps.length = l.length
    · have HN : Hid (netS l ps = netGo (l.zip ps) 0) := if_pos ⟨hc, hlen⟩
      obtain ⟨k1, k2, k3, k4⟩ := check_ok hc
      rw [hc] at HC
      rcases h1 with ⟨rfl, rfl⟩ | ⟨b1, o1, cap1, rfl, hcap1, hm1, hc1⟩
      · simp at k1
      rcases h2 with ⟨rfl, rfl⟩ | ⟨b2, o2, cap2, rfl, hcap2, hm2, hc2⟩
      · simp at hlen; omega
      rw [hlen] at hcap2 ⊢
      have K3 := Lib.hid k3
      have HP := Lib.hid hp
      have HL := Lib.hid hlen
      have HC1 := Lib.hid hc1
      have HC2 := Lib.hid hc2
      clear hc hlen k3 k4 hv2 hp hc1 hc2
      have hbe : ((l.length : Int) != (l.length : Int)) = false := by simp
      go_enter Tryd.func10, Tryd.ntmps10
      go_wp2_with fail
      refine HC.out.mono ?_
      rintro e w1 ⟨v1, rfl, ⟨pv, rfl, hsl, _⟩, hB1⟩
      obtain ⟨pa, pn, pc, rfl⟩ := sl_shape hsl
      clear hsl
      rw [show numOf .nil = 0 from rfl]
      go_wp2_with fail
      go_loopw [7, 8] (fun a i wr => ∃ k : Nat, ∃ s : Int, k ≤ l.length ∧ i = .int .i64 k ∧ a = .int .i64 s ∧ Bel w wr ∧ Hid (I64 s) ∧ Hid (netGo (l.zip ps) 0 = netGo ((l.zip ps).drop k) s)) (fun _ i _ => l.length - (intOf i).toNat)
      case atStart => exact ⟨0, 0, by omega, rfl, rfl, hB1.al _, by unfold Hid I64; omega, rfl⟩
      case round =>
        obtain ⟨k, s, hk, rfl, rfl, hB, HS, HG⟩ := hrel
        by_cases hlt : k < l.length
        · have hlt2 : k < ps.length := by rw [HL.out]; exact hlt
          obtain ⟨d0, d1, d2⟩ := leg_cells (HC1.out.bel encLeg_len hB) hlt
          have d3 := int_cell (HC2.out.bel encI_len hB) hlt2
          obtain ⟨_, g1, r1, r4⟩ := bad_facts (K3.out l[k] (List.getElem_mem hlt))
          have hzk : (l.zip ps)[k]'(by simp; omega) = (l[k], ps[k]) := List.getElem_zip
          have hz : (l.zip ps).drop k = (l[k], ps[k]) :: (l.zip ps).drop (k + 1) := by
            rw [List.drop_eq_getElem_cons (by simp; omega), hzk]
          have hg := HG.out
          rw [hz] at hg
          have ip := HP.out ps[k] (List.getElem_mem hlt2)
          clear hzk hz
          generalize l[k] = x at d0 d1 d2 g1 r1 r4 hg
          generalize ps[k] = p at d3 ip hg
          have hin : I64 (x.g * x.r) := by
            unfold I64
            rcases g1 with h | h <;> rw [h] <;> omega
          have hw1 : wrap64 (x.g * x.r) = x.g * x.r := wrap_I64 hin
          have hw2 : IntKind.i64.wrap (x.g * x.r) = x.g * x.r := by
            have := hin; unfold I64 at this; generalize x.g * x.r = q at *; simp [IntKind.wrap, IntKind.bits, IntKind.signed]; omega
          have hpart := fun W => ref_Mul (x.g * x.r) p W hin ip
          rw [← part_ok g1 r1 r4] at hpart
          have ipa := partS_I64 x p
          rw [netGo_cons] at hg
          generalize hq : partS x p = q at hpart ipa hg
          obtain ⟨q1, q2⟩ := q
          have hadd := fun W => ref_Add s q1 W HS.out ipa
          have ia := addS_I64 s q1
          dsimp only at hg
          generalize hr : addS s q1 = r at hadd ia hg
          obtain ⟨r1', r2'⟩ := r
          unfold two at hpart hadd
          have HPA := Lib.hid hpart
          have HAD := Lib.hid hadd
          have IA := Lib.hid ia
          have HG2 := Lib.hid hg
          clear hpart hadd ia hg hq hr ipa ip g1 HG hin
          have hki : (0 : Int) ≤ (k : Int) := by omega
          have hki2 : (k : Int) < (l.length : Int) := by omega
          by_cases hq2 : q2 = 0
          · subst hq2
            by_cases hr2 : r2' = 0
            · subst hr2
              have HG3 : Hid (netGo (l.zip ps) 0 = netGo (List.drop (k + 1) (l.zip ps)) r1') := by
                have := HG2.out
                simp only [if_true] at this
                exact this
              go_wp2_with fail
              go_region_held3 (fun w' => w'.cell? ⟨b1, o1 + k * 3 + 1, none⟩ = some (.int .i64 x.g) ∧ w'.cell? ⟨b1, o1 + k * 3 + 2, none⟩ = some (.int .i64 x.r) ∧ w'.cell? ⟨b2, o2 + k, none⟩ = some (.int .i64 p)) (go_keep) (first | (go_at_call 21; refine (HPA.out _).mono ?_; rintro e w' ⟨rfl, rfl⟩))
              all_goals
                go_wp2_with (go_at_call 22; refine (HAD.out _).mono ?_; rintro e w' ⟨rfl, rfl⟩)
                go_roundw
                case rel => exact ⟨k + 1, r1', hlt, by go_num, rfl, hB.dr, IA.out, HG3.out⟩
                case measure => simp [intOf]; omega
            · have hr2' : (r2' != 0) = true := by rw [bne_iff_ne]; exact hr2
              have HG3 : Hid (netS l ps = (0, r2')) := by
                unfold Hid
                rw [HN.out, HG2.out]
                simp [hr2]
              clear hr2
              go_wp2_with fail
              go_region_held3 (fun w' => w'.cell? ⟨b1, o1 + k * 3 + 1, none⟩ = some (.int .i64 x.g) ∧ w'.cell? ⟨b1, o1 + k * 3 + 2, none⟩ = some (.int .i64 x.r) ∧ w'.cell? ⟨b2, o2 + k, none⟩ = some (.int .i64 p)) (go_keep) (first | (go_at_call 21; refine (HPA.out _).mono ?_; rintro e w' ⟨rfl, rfl⟩))
              all_goals
                go_wp2_with (go_at_call 22; refine (HAD.out _).mono ?_; rintro e w' ⟨rfl, rfl⟩)
                go_ret2
                exact ⟨by rw [HG3.out]; rfl, hB.dr⟩
          · have hq2' : (q2 != 0) = true := by rw [bne_iff_ne]; exact hq2
            have HG3 : Hid (netS l ps = (0, q2)) := by
              unfold Hid
              rw [HN.out, HG2.out]
              simp [hq2]
            clear hq2
            go_wp2_with fail
            go_region_held3 (fun w' => w'.cell? ⟨b1, o1 + k * 3 + 1, none⟩ = some (.int .i64 x.g) ∧ w'.cell? ⟨b1, o1 + k * 3 + 2, none⟩ = some (.int .i64 x.r) ∧ w'.cell? ⟨b2, o2 + k, none⟩ = some (.int .i64 p)) (go_keep) (first | (go_at_call 21; refine (HPA.out _).mono ?_; rintro e w' ⟨rfl, rfl⟩))
            all_goals
              go_wp2_with fail
              go_ret2
              exact ⟨by rw [HG3.out]; rfl, hB.dr⟩
        · obtain rfl : k = l.length := by omega
          have HG3 : Hid (netS l ps = (s, 0)) := by
            unfold Hid
            rw [HN.out, HG.out, List.drop_of_length_le (by simp; omega)]
            rfl
          go_wp2
          go_ret2
          exact ⟨by rw [HG3.out]; rfl, hB⟩
    · have HN : Hid (netS l ps = (0, 1)) := if_neg (fun h => hlen h.2)
      have hbe : ((l.length : Int) != (ps.length : Int)) = true := by rw [bne_iff_ne]; omega
      have hv1 : ∃ a c, v1 = .slice a l.length c := by
        rcases h1 with ⟨rfl, rfl⟩ | ⟨b, o, c, rfl, _⟩
        · exact ⟨_, _, rfl⟩
        · exact ⟨_, _, rfl⟩
      rw [hc] at HC
      obtain ⟨a1, c1, rfl⟩ := hv1
      obtain ⟨a2, c2, rfl⟩ := hv2
      clear h1 h2 hlen hc hp
      go_enter Tryd.func10, Tryd.ntmps10
      go_wp2_with fail
      refine HC.out.mono ?_
      rintro e w1 ⟨v1, rfl, ⟨pv, rfl, hsl, _⟩, hB1⟩
      obtain ⟨pa, pn, pc, rfl⟩ := sl_shape hsl
      clear hsl
      rw [show numOf .nil = 0 from rfl]
      go_wp2_with fail
      go_ret2
      exact ⟨by rw [HN.out]; rfl, hB1.al _⟩
  · have HN : Hid (netS l ps = (0, 1)) := if_neg (fun h => hc h.1)
    have hb : (numOf (checkS l) != 0) = true := by rw [bne_iff_ne]; exact num_check hc
    clear h1 h2 hc hp
    generalize checkS l = c at HC hb
    go_enter Tryd.func10, Tryd.ntmps10
    go_wp2_with fail
    refine HC.out.mono ?_
    rintro e w1 ⟨v1, rfl, ⟨pv, rfl, hsl, _⟩, hB1⟩
    obtain ⟨pa, pn, pc, rfl⟩ := sl_shape hsl
    clear hsl
    generalize numOf c = nc at hb ⊢
    go_wp2_with fail
    go_ret2
    exact ⟨by rw [HN.out]; rfl, hB1.al _⟩
end Go.Proofs.YtdigfjpknckpfaaDoor
