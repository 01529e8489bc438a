/- The laws of layer 17 ask first whether a known spread is told rightly: it is. No condition. -/
import Derived.Test.YtdigfjpknckpfaaGreatDoorLegH
namespace Go.Proofs.YtdigfjpknckpfaaGreatDoor
set_option linter.unusedSimpArgs false
set_option linter.unusedVariables false
open Go.RowKit

def kl0 : List Leg := [⟨5, 1, 2⟩, ⟨3, -1, 4⟩]
def kl1 : List Leg := [⟨3, 1, 2⟩, ⟨5, -1, 1⟩]
theorem canon_kl0 : canonS kl0 = (kl1, true) := by decide +kernel
theorem check_kl0 : checkS kl0 = .nil := by decide +kernel
theorem net_kl1 : netS kl1 [10, 3] = (17, 0) := by decide +kernel
theorem check_kl00 : checkS (kl0.take 1) = .fault legW 1 (.no 1) := by decide +kernel
theorem text_kl1 : textS kl1 = [43, 50, 42, 51, 32, 45, 49, 42, 53] := by decide +kernel
theorem turn_kl1 : turnS (turnS kl1) = kl1 := by decide +kernel

theorem sl_lit {α : Type} {enc : α → List Value} {k : Nat} (hk : ∀ x, (enc x).length = k) (w : World) (T : TypeId) (cs : Array Value) (l : List α) (hn : l.length ≤ 1000000) (hs : cs.toList = l.flatMap enc) :
    Sl enc k (w.alloc (.cells cs T)) (.slice (some ⟨w.heap.size, 0, none⟩) l.length l.length) l := by
  have hz : cs.size = l.length * k := by rw [← Array.length_toList, hs, flat_len hk]
  have h := World.ownsRow_lit (base := w.heap.size) (e := T) (size := k) w cs l.length (Nat.le_refl _) (by unfold maxLen; omega) hz
  exact own_sl hk hs h

theorem nil_of {w : World} {v : Value} (h : ErAt w v .nil) : v = .nilIface := h

set_option maxRecDepth 100000 in
set_option maxHeartbeats 2000000 in
theorem known17 (w : World) : Calls Tryz.prog 5 #[] w fun e w' => e = .returned (.bool true) ∧ Bel w w' := by
  have S0 := Lib.hid (sl_lit encLeg_len w 62 #[.int .i64 5, .int .i64 1, .int .i64 2, .int .i64 3, .int .i64 (-1), .int .i64 4] kl0 (by decide) rfl)
  have CN := fun v W (h : SlLeg W v kl0) => legs_Canon_ok v kl0 W h (by decide) check_kl0
  rw [canon_kl0] at CN
  have CN := Lib.hid CN
  go_enter Tryz.func5, Tryz.ntmps5
  go_wp2_with fail
  refine (CN.out _ _ S0.out).mono ?_
  rintro e w1 ⟨v1, rfl, hf1, hB1⟩
  obtain ⟨g, cap, rfl, hcap, hm, hg, hlt, hM⟩ : ∃ g cap, v1 = .slice (some ⟨g, 0, none⟩) 2 cap ∧ 2 ≤ cap ∧ cap ≤ maxLen ∧ w.heap.size + 1 ≤ g ∧ g < w1.heap.size ∧ MutAt encLeg 3 w1 g 0 kl1 := by
    rcases hf1 with ⟨_, h⟩ | ⟨g, cap, h1, h2, h3, h4, h5, h6⟩
    · cases h
    · exact ⟨g, cap, h1, h2, h3, by simpa using h4, h5, h6⟩
  have HM := Lib.hid hM
  clear hf1 hM
  go_wp2_with fail
  have S1 := Lib.hid (sl_lit encI_len w1 2 #[.int .i64 10, .int .i64 3] [10, 3] (by decide) rfl)
  have s1 : SlLeg w1 (.slice (some ⟨g, 0, none⟩) 2 cap) kl1 := Or.inr ⟨g, 0, cap, rfl, hcap, hm, HM.out.1⟩
  have HS1 := Lib.hid s1
  clear s1
  refine (legs_Net _ _ kl1 [10, 3] _ (HS1.out.bel encLeg_len (Bel.rfl'.al _)) S1.out (by decide) (by decide) (by intro p hp; simp at hp; rcases hp with rfl | rfl <;> decide)).mono ?_
  rintro e w2 ⟨rfl, hB2⟩
  rw [net_kl1]
  unfold two
  go_wp2_with fail
  have hs0 : SlLeg w2 (.slice (some ⟨w.heap.size, 0, none⟩) 1 2) (kl0.take 1) := by
    rcases (S0.out.bel encLeg_len (hB1.step ((Bel.rfl'.al _).step hB2))) with ⟨h, _⟩ | ⟨b, o, c, h, h1, h2, h3⟩
    · cases h
    · injection h with e1 e2 e3
      injection e1 with e1
      injection e1 with e1 e4
      subst e1 e4 e3
      exact Or.inr ⟨_, _, 2, rfl, by decide, by unfold maxLen; omega, fun i hi j hj => by
        have := h3 i (by simp at hi; simp [kl0]; omega) j hj
        rw [this]; simp⟩
  refine (legs_Canon_bad _ (kl0.take 1) _ hs0 (by decide) (by rw [check_kl00]; intro h; cases h)).mono ?_
  rintro e w3 ⟨v3, rfl, hv3, hB3⟩
  rw [check_kl00] at hv3
  obtain ⟨eb, ev, rfl, _⟩ := hv3
  clear hs0
  have hB4 : Bel w1 w3 := ((Bel.rfl'.al _).step hB2).step hB3
  obtain ⟨d0, d1, d2⟩ := leg_cells0 (HM.out.bel encLeg_len hB4).1 (i := 0) (by decide)
  simp only [Nat.zero_mul, Nat.zero_add] at d0 d1 d2
  simp only [kl1, List.getElem_cons_zero] at d0 d1 d2
  go_wp2_with fail
  refine (legs_Text _ kl1 _ (HS1.out.bel encLeg_len hB4) (by decide) (by intro x hx; simp [kl1] at hx; rcases hx with rfl | rfl <;> exact ⟨Or.inr (by decide), Or.inr (by decide)⟩)).mono ?_
  rintro e w4 ⟨rfl, hB5⟩
  rw [text_kl1]
  go_wp2_with fail
  have hB6 := hB4.step hB5
  refine (legs_Turned _ kl1 _ (HS1.out.bel encLeg_len hB6) (by decide)).mono ?_
  rintro e w5 ⟨v5, rfl, hf5, hB7⟩
  have F5 := Lib.hid hf5.sl
  clear hf5
  go_wp2_with fail
  refine (legs_Turned _ (turnS kl1) _ F5.out (by decide)).mono ?_
  rintro e w6 ⟨v6, rfl, hf6, hB8⟩
  rw [turn_kl1] at hf6
  have F6 := Lib.hid hf6.sl
  clear hf6
  go_wp2_with fail
  refine (legs_Same _ _ kl1 kl1 _ F6.out (HS1.out.bel encLeg_len ((hB6.step hB7).step hB8)) (by decide) (by decide)).mono ?_
  rintro e w7 ⟨rfl, hB9⟩
  rw [decide_eq_true (rfl : kl1 = kl1)]
  go_wp2_with fail
  have hB10 := ((hB6.step hB7).step hB8).step hB9
  have hB11 : Bel (w.alloc (.cells #[.int .i64 5, .int .i64 1, .int .i64 2, .int .i64 3, .int .i64 (-1), .int .i64 4] 62)) w7 := hB1.step hB10
  refine (legs_Check _ kl0 _ (S0.out.bel encLeg_len hB11) (by decide)).mono ?_
  rintro e w8 ⟨v8, rfl, hv8, hB12⟩
  rw [check_kl0] at hv8
  obtain rfl := nil_of hv8
  go_wp2_with fail
  go_ret
  exact ⟨rfl, (Bel.rfl'.al _).step (hB11.step hB12)⟩
end Go.Proofs.YtdigfjpknckpfaaGreatDoor
