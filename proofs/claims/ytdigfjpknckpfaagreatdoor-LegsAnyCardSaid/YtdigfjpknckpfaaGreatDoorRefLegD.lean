/- The reference's legs: Same at the same legs, Turned, Text: their contracts. Condition: the slices read as lists of legs. -/
import Derived.Test.YtdigfjpknckpfaaGreatDoorRefLegB
import Derived.Test.YtdigfjpknckpfaaGreatDoorRefText
namespace Go.Proofs.YtdigfjpknckpfaaGreatDoor
set_option linter.unusedSimpArgs false
set_option linter.unusedVariables false
open Go.RowKit

set_option maxRecDepth 100000 in
set_option maxHeartbeats 2000000 in
theorem ref_Same (v1 v2 : Value) (l : List Leg) (w : World) (h1 : SlLeg w v1 l) (h2 : SlLeg w v2 l) (hn : l.length ≤ 1000000) :
    Calls Tryz.prog 12 #[v1, v2] w fun e w' => e = .returned (.bool true) ∧ Bel w w' := by
  obtain ⟨a1, c1, rfl⟩ : ∃ a c, v1 = .slice a l.length c := by
    rcases h1 with ⟨rfl, rfl⟩ | ⟨b, o, c, rfl, _⟩
    · exact ⟨_, _, rfl⟩
    · exact ⟨_, _, rfl⟩
  obtain ⟨a2, c2, rfl⟩ : ∃ a c, v2 = .slice a l.length c := by
    rcases h2 with ⟨rfl, rfl⟩ | ⟨b, o, c, rfl, _⟩
    · exact ⟨_, _, rfl⟩
    · exact ⟨_, _, rfl⟩
  have H1 := Lib.hid h1
  have H2 := Lib.hid h2
  clear h1 h2
  have hbe : ((l.length : Int) != (l.length : Int)) = false := by simp
  go_enter Tryz.func12, Tryz.ntmps12
  go_wp2_with fail
  go_loopw [5] (fun i wr => ∃ k : Nat, k ≤ l.length ∧ i = .int .i64 k ∧ Bel w wr) (fun i _ => l.length - (intOf i).toNat)
  case atStart => exact ⟨0, by omega, rfl, Bel.rfl'⟩
  case round =>
    obtain ⟨k, hk, rfl, hB⟩ := hrel
    by_cases hlt : k < l.length
    · rcases H1.out.bel encLeg_len hB with ⟨h, _⟩ | ⟨b1, o1, cc1, h, _, _, r1⟩
      · simp only [Value.slice.injEq] at h; omega
      obtain ⟨rfl, rfl⟩ : a1 = some ⟨b1, o1, none⟩ ∧ c1 = cc1 := by injection h with e1 _ e2; exact ⟨e1, e2⟩
      rcases H2.out.bel encLeg_len hB with ⟨h2, _⟩ | ⟨b2, o2, cc2, h2, _, _, r2⟩
      · simp only [Value.slice.injEq] at h2; omega
      obtain ⟨rfl, rfl⟩ : a2 = some ⟨b2, o2, none⟩ ∧ c2 = cc2 := by injection h2 with e1 _ e2; exact ⟨e1, e2⟩
      obtain ⟨d0, d1, d2⟩ := leg_cells r1 hlt
      obtain ⟨f0, f1, f2⟩ := leg_cells r2 hlt
      clear h h2 r1 r2
      generalize l[k] = x at d0 d1 d2 f0 f1 f2
      have hki : (0 : Int) ≤ (k : Int) := by omega
      have hki2 : (k : Int) < (l.length : Int) := by omega
      have q0 : (x.s != x.s) = false := by simp
      have q1 : (x.g != x.g) = false := by simp
      have q2 : (x.r != x.r) = false := by simp
      go_wp2_with fail
      first
        | (go_roundw; done)
        | (go_quiet (fail); go_wp2_with fail; go_roundw)
      case rel => exact ⟨k + 1, by omega, by go_num, by first | exact hB | exact hB.dr | exact hB.dn _⟩
      case measure => simp [intOf]; omega
    · obtain rfl : k = l.length := by omega
      go_wp2_with fail
      go_ret
      exact ⟨rfl, hB⟩

set_option maxRecDepth 100000 in
set_option maxHeartbeats 2000000 in
theorem ref_Turned (v : Value) (l : List Leg) (w : World) (h : SlLeg w v l) (hn : l.length ≤ 1000000) :
    Calls Tryz.prog 17 #[v] w fun e w' => ∃ v', e = .returned v' ∧ Fresh encLeg 3 w.heap.size w' v' (turnS l) ∧ Bel w w' := by
  obtain ⟨i0, hi, hz0, hz1, hz2⟩ := info_parts rleg_info
  obtain ⟨a0, c0, rfl⟩ : ∃ a c, v = .slice a l.length c := by
    rcases h with ⟨rfl, rfl⟩ | ⟨b, o, c, rfl, _⟩
    · exact ⟨_, _, rfl⟩
    · exact ⟨_, _, rfl⟩
  have HS := Lib.hid h
  clear h
  go_enter Tryz.func17, Tryz.ntmps17
  go_wp2_with fail
  go_loopw [3, 4] (fun ov i wr => ∃ k : Nat, k ≤ l.length ∧ i = .int .i64 k ∧ Bel w wr ∧ wr.ownsRow w.heap.size 58 3 ov k ((turnS (l.take k)).flatMap encLeg)) (fun _ i _ => l.length - (intOf i).toNat)
  case atStart => exact ⟨0, by omega, rfl, Bel.rfl', World.ownsRow_nil _ _ _ _⟩
  case round =>
    obtain ⟨k, hk, rfl, hB, hown⟩ := hrel
    by_cases hlt : k < l.length
    · obtain ⟨b, o, rfl, hc, hcap, hbw⟩ : ∃ b o, a0 = some ⟨b, o, none⟩ ∧ RowAt encLeg 3 wr b o l ∧ l.length ≤ c0 ∧ b < w.heap.size := by
        rcases HS.out with ⟨h, _⟩ | ⟨b, o, c, h, h2, _, hr⟩
        · simp only [Value.slice.injEq] at h; omega
        · injection h with e1 _ e2; exact ⟨b, o, e1, hr.bel encLeg_len hB, by omega, lt_of_cell (leg_cells hr hlt).1⟩
      obtain ⟨d0, d1, d2⟩ := leg_cells hc hlt
      have HX : Hid ((turnS (l.take (k + 1))).flatMap encLeg = (turnS (l.take k)).flatMap encLeg ++ [.int .i64 l[k].s, .int .i64 (wrap64 (-l[k].g)), .int .i64 l[k].r]) := by
        unfold Hid turnS; rw [List.take_succ_eq_append_getElem hlt, List.map_append, List.flatMap_append]; simp [encLeg, turn1]
      clear hc
      generalize l[k] = x at d0 d1 d2 HX
      have OW := Lib.hid hown
      have hne : u3.ownBlock ≠ some b := fun h => by have := (hown.lt _ h).1; omega
      clear hown
      have hbs := hB.size
      have hki : (0 : Int) ≤ (k : Int) := by omega
      have hki2 : (k : Int) < (l.length : Int) := by omega
      have hz : IntKind.i64.wrap (-x.g) = wrap64 (-x.g) := by
        simp [IntKind.wrap, IntKind.bits, IntKind.signed, wrap64]; split <;> omega
      generalize wrap64 (-x.g) = xg at hz HX
      go_wp2_with fail
      go_region_held3 (fun w' => w'.cell? ⟨b, o + k * 3, none⟩ = some (.int .i64 x.s) ∧ w'.cell? ⟨b, o + k * 3 + 1, none⟩ = some (.int .i64 x.g) ∧ w'.cell? ⟨b, o + k * 3 + 2, none⟩ = some (.int .i64 x.r))
          (first | go_keep | (go_split_ands; exact ⟨(hgrow.cell_far _ (by simp; omega) (Ne.symm hne)).trans (by assumption), (hgrow.cell_far _ (by simp; omega) (Ne.symm hne)).trans (by assumption), (hgrow.cell_far _ (by simp; omega) (Ne.symm hne)).trans (by assumption)⟩))
          ((refine step_append_lies _ (by rfl) _ _ _ (by rfl) w.heap.size 58 i0 _ 3 24 Tryz.underlying28 hi hz0 hz1 hz2 rfl (by omega) u3 k _ (by rfl) ((OW.out.drew).alloc _) ⟨wr.heap.size, 0, none⟩ 1 1 [.int .i64 x.s, .int .i64 xg, .int .i64 x.r] (by rfl) (by rfl) (World.news_of_block (cs := #[.int .i64 x.s, .int .i64 xg, .int .i64 x.r]) (t := 58) (fr := (0, 0)) (heap_alloc_new wr.drew _)) (by simp [Value.oneCell']) (by omega) (by unfold maxLen; omega) (by omega) (by simp; omega) (wr.heap.size + 1) (by simp) ?_; intro gg cap w1 hown1 hgrow hat hlt))
      all_goals
        have HB1 : Bel w w1 := Below.grown ((hB.dr).al _) hgrow (by simp; omega) (fun q h => (OW.out.lt q h).1)
        go_wp2_with fail
        go_roundw
        case rel => exact ⟨k + 1, by omega, by go_num, HB1, by rw [HX.out]; exact hown1⟩
        case measure => simp [intOf]; omega
    · obtain rfl : k = l.length := by omega
      rw [List.take_of_length_le (Nat.le_refl _)] at hown
      have F := Lib.hid (own_fresh encLeg_len rfl (by rw [show l.length = (turnS l).length by simp [turnS]] at hown; exact hown))
      clear hown
      go_wp2_with fail
      go_ret
      exact ⟨_, rfl, F.out, hB⟩
end Go.Proofs.YtdigfjpknckpfaaGreatDoor
