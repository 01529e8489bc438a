/- The reference's Canon where Check tells a fault. Condition: the slice reads as a list of legs. -/
import Derived.Test.YtdigfjpknckpfaaGreatDoorRefLegD
import Derived.Test.YtdigfjpknckpfaaGreatDoorLegQ
namespace Go.Proofs.YtdigfjpknckpfaaGreatDoor
set_option linter.unusedSimpArgs false
set_option linter.unusedVariables false
open Go.RowKit

set_option maxRecDepth 100000 in
set_option maxHeartbeats 2000000 in
theorem ref_Canon_bad (v : Value) (l : List Leg) (w : World) (h : SlLeg w v l) (hn : l.length ≤ 1000000) (hc : checkS l ≠ .nil) :
    Calls Tryz.prog 9 #[v] w fun e w' => ∃ wv, e = .returned (.tuple #[.slice none 0 0, .bool false, wv]) ∧ WrAt 0 w' wv (checkS l) ∧ Bel w w' := by
  have HC := Lib.hid (fun W (hW : Bel w W) => ref_Check v l W (h.bel encLeg_len hW) hn)
  have hnum := num_check hc
  have hnb : (numOf (checkS l) != 0) = true := by rw [bne_iff_ne]; exact hnum
  clear h hc hnum
  generalize checkS l = c at HC hnb ⊢
  go_enter Tryz.func9, Tryz.ntmps9
  go_wp2_with fail
  refine (HC.out _ (Bel.rfl'.al _)).mono ?_
  rintro en w1 ⟨v1, rfl, hv1, hB1⟩
  obtain ⟨r0, r1, rf0, rf1⟩ := new2 hB1
  obtain ⟨pv, rfl, hsl, hown⟩ := hv1
  obtain ⟨pa, pn, pc, rfl⟩ := sl_shape hsl
  have HS := Lib.hid hsl
  have hlt := hB1.size
  simp at hlt
  have hfr := fun g hg => hown g hg
  clear hsl
  have hlt1 : w.heap.size < w1.heap.size := by omega
  go_wp2_with fail
  go_region
  go_wp2_with fail
  obtain ⟨wv, hwv, hwr, hbel⟩ := wrongs_of (e := c) hB1 HS.out hown
  injection hwv with hwv
  subst hwv
  exact bodyPost_ret (v := .tuple #[.slice none 0 0, .bool false, .agg #[.slice pa pn pc, .int .i64 (numOf c)]]) (by simp [results, Tryz.results9, go_sem, r0, r1, rf0, rf1, hlt1]) rfl ⟨_, rfl, (hwr.mono (Nat.zero_le _)).bel ((Bel.rfl'.al _).dr), (hbel.al _).dr⟩
end Go.Proofs.YtdigfjpknckpfaaGreatDoor
