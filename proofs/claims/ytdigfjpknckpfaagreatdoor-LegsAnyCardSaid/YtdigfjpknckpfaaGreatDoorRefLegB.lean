/- The reference's legs: Of (legs as the reference's), Net: their contracts. Condition: the slices read as lists. -/
import Derived.Test.YtdigfjpknckpfaaGreatDoorRefLegA
import Derived.Test.YtdigfjpknckpfaaGreatDoorRef1
import Derived.Test.YtdigfjpknckpfaaGreatDoorLegG
import Derived.Deep.RegionHeld3
import Derived.Deep.DrawnRows
namespace Go.Proofs.YtdigfjpknckpfaaGreatDoor
set_option linter.unusedSimpArgs false
set_option linter.unusedVariables false
open Go.RowKit

theorem rleg_info : (Tryz.prog.info? 58).map (fun i => (i.zero, i.size, i.bytes)) = some (some (.agg #[.int .i64 0, .int .i64 0, .int .i64 0]), 3, 24) := by kernel_rfl

set_option maxRecDepth 100000 in
set_option maxHeartbeats 2000000 in
theorem legs_Of (v : Value) (l : List Leg) (w : World) (h : SlLeg w v l) (hn : l.length ≤ 1000000) :
    Calls Tryz.prog 7 #[v] w fun e w' => ∃ v', e = .returned v' ∧ Fresh encLeg 3 w.heap.size w' v' l ∧ Bel w w' := by
  obtain ⟨i0, hi, hz0, hz1, hz2⟩ := info_parts rleg_info
  obtain ⟨a0, c0, rfl⟩ : ∃ a c, v = .slice a l.length c := by
    rcases h with ⟨rfl, rfl⟩ | ⟨b, o, c, rfl, _⟩
    · exact ⟨_, _, rfl⟩
    · exact ⟨_, _, rfl⟩
  have HS := Lib.hid h
  clear h
  go_enter Tryz.func7, Tryz.ntmps7
  go_wp2_with fail
  go_loopw [3, 4] (fun ov i wr => ∃ k : Nat, k ≤ l.length ∧ i = .int .i64 k ∧ Bel w wr ∧ wr.ownsRow w.heap.size 58 3 ov k ((l.take k).flatMap encLeg)) (fun _ i _ => l.length - (intOf i).toNat)
  case atStart => exact ⟨0, by omega, rfl, Bel.rfl', World.ownsRow_nil _ _ _ _⟩
  case round =>
    obtain ⟨k, hk, rfl, hB, hown⟩ := hrel
    by_cases hlt : k < l.length
    · obtain ⟨b, o, rfl, hc, hcap, hbw⟩ : ∃ b o, a0 = some ⟨b, o, none⟩ ∧ RowAt encLeg 3 wr b o l ∧ l.length ≤ c0 ∧ b < w.heap.size := by
        rcases HS.out with ⟨h, _⟩ | ⟨b, o, c, h, h2, _, hr⟩
        · simp only [Value.slice.injEq] at h; omega
        · injection h with e1 _ e2; exact ⟨b, o, e1, hr.bel encLeg_len hB, by omega, lt_of_cell (leg_cells hr hlt).1⟩
      obtain ⟨d0, d1, d2⟩ := leg_cells hc hlt
      have HX : Hid ((l.take (k + 1)).flatMap encLeg = (l.take k).flatMap encLeg ++ [.int .i64 l[k].s, .int .i64 l[k].g, .int .i64 l[k].r]) := by
        unfold Hid; rw [List.take_succ_eq_append_getElem hlt, List.flatMap_append]; simp [encLeg]
      clear hc
      generalize l[k] = x at d0 d1 d2 HX
      have OW := Lib.hid hown
      have hne : u3.ownBlock ≠ some b := fun h => by have := (hown.lt _ h).1; omega
      clear hown
      have hbs := hB.size
      have hki : (0 : Int) ≤ (k : Int) := by omega
      have hki2 : (k : Int) < (l.length : Int) := by omega
      go_wp2_with fail
      go_region_held3 (fun w' => w'.cell? ⟨b, o + k * 3, none⟩ = some (.int .i64 x.s) ∧ w'.cell? ⟨b, o + k * 3 + 1, none⟩ = some (.int .i64 x.g) ∧ w'.cell? ⟨b, o + k * 3 + 2, none⟩ = some (.int .i64 x.r))
          (first | go_keep | (go_split_ands; exact ⟨(hgrow.cell_far _ (by simp; omega) (Ne.symm hne)).trans (by assumption), (hgrow.cell_far _ (by simp; omega) (Ne.symm hne)).trans (by assumption), (hgrow.cell_far _ (by simp; omega) (Ne.symm hne)).trans (by assumption)⟩))
          ((refine step_append_lies _ (by rfl) _ _ _ (by rfl) w.heap.size 58 i0 _ 3 24 Tryz.underlying28 hi hz0 hz1 hz2 rfl (by omega) u3 k _ (by rfl) ((OW.out.drew).alloc _) ⟨wr.heap.size, 0, none⟩ 1 1 [.int .i64 x.s, .int .i64 x.g, .int .i64 x.r] (by rfl) (by rfl) (World.news_of_block (cs := #[.int .i64 x.s, .int .i64 x.g, .int .i64 x.r]) (t := 58) (fr := (0, 0)) (heap_alloc_new wr.drew _)) (by simp [Value.oneCell']) (by omega) (by unfold maxLen; omega) (by omega) (by simp; omega) (wr.heap.size + 1) (by simp) ?_; intro gg cap w1 hown1 hgrow hat hlt))
      all_goals
        have HB1 : Bel w w1 := Below.grown ((hB.dr).al _) hgrow (by simp; omega) (fun q h => (OW.out.lt q h).1)
        go_wp2_with fail
        go_roundw
        case rel => exact ⟨k + 1, by omega, by go_num, HB1, by rw [HX.out]; exact hown1⟩
        case measure => simp [intOf]; omega
    · obtain rfl : k = l.length := by omega
      rw [List.take_of_length_le (Nat.le_refl _)] at hown
      have F := Lib.hid (own_fresh encLeg_len rfl hown)
      clear hown
      go_wp2_with fail
      go_ret
      exact ⟨_, rfl, F.out, hB⟩

theorem num_check {l : List Leg} (h : checkS l ≠ .nil) : numOf (checkS l) ≠ 0 := by
  unfold checkS at h ⊢
  by_cases hl : l.length < 2 ∨ 4 < l.length
  · rw [if_pos hl]; show (1 : Int) ≠ 0; decide
  · rw [if_neg hl] at h ⊢
    cases hf : firstBad (legAt l) l.length with
    | none => rw [hf] at h; exact absurd rfl h
    | some y =>
      obtain ⟨i, e⟩ := y
      show e ≠ 0
      unfold firstBad at hf
      obtain ⟨j, _, hj⟩ := List.exists_of_findSome?_eq_some hf
      unfold legAt at hj
      split at hj
      · cases hj
      · split at hj
        · simp at hj; obtain ⟨_, rfl⟩ := hj; decide
        · split at hj
          · simp at hj; obtain ⟨_, rfl⟩ := hj; decide
          · cases hj
theorem part_ok {x : Leg} {p : Int} (hg : x.g = 1 ∨ x.g = -1) (h1 : 1 ≤ x.r) (h4 : x.r ≤ 4) : partS x p = mulS (x.g * x.r) p := by
  have hin : I64 (x.g * x.r) := by
    unfold I64
    rcases hg with h | h <;> rw [h] <;> omega
  unfold partS
  rw [mulS_in hin]; simp

end Go.Proofs.YtdigfjpknckpfaaGreatDoor
