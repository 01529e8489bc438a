/- The reference's numbers: size, Gcd: the same plain functions as the program's. Condition: int64 numbers. -/
import Derived.Test.YtdigfjpknckpfaaGreatDoorNum
import Derived.Test.YtdigfjpknckpfaaGreatDoorRefSz
namespace Go.Proofs.YtdigfjpknckpfaaGreatDoor
set_option linter.unusedSimpArgs false
set_option linter.unusedVariables false
open Go.RowKit

set_option maxHeartbeats 400000 in
theorem ref_Gcd (a b : Int) (w : World) (ha : I64 a) (hb : I64 b) : Calls Tryz.prog 33 #[.int .i64 a, .int .i64 b] w fun e w' => e = .returned (.int .i64 (gcdS a b)) ∧ Bel w w' := by
  have EA : Hid (gcdS a b = if (Nat.gcd a.natAbs b.natAbs : Int) ≤ 9223372036854775807 then (Nat.gcd a.natAbs b.natAbs : Int) else 9223372036854775807) := rfl
  have HA := Lib.hid ha
  have HB := Lib.hid hb
  clear ha hb
  go_enter Tryz.func33, Tryz.ntmps33
  go_wp2_with fail
  refine (ref_size a _ HA.out).mono ?_
  rintro e w' ⟨rfl, rfl⟩
  go_wp2_with fail
  refine (ref_size b _ HB.out).mono ?_
  rintro e w' ⟨rfl, rfl⟩
  go_wp2_with fail
  go_loopw [5, 6] (fun x y wr => ∃ p q : Nat, x = .int .u64 p ∧ y = .int .u64 q ∧ Hid (Nat.gcd p q = Nat.gcd a.natAbs b.natAbs) ∧ Bel w' wr) (fun _ y _ => (intOf y).toNat)
  case atStart => exact ⟨a.natAbs, b.natAbs, rfl, rfl, rfl, Bel.rfl'⟩
  case round =>
    obtain ⟨p, q, rfl, rfl, hg, hB⟩ := hrel
    by_cases hq : 0 < q
    · have hq' : (0 : Int) < (q : Int) := by omega
      go_wp2
      go_quiet (fail)
      go_wp2
      go_roundw
      case rel => exact ⟨q, p % q, by trivial, by simp, by unfold Hid; rw [← hg.out, Nat.gcd_comm p q, Nat.gcd_rec q p, Nat.gcd_comm], hB.dn _⟩
      case measure => simp only [intOf]; have := Nat.mod_lt p hq; simp; omega
    · obtain rfl : q = 0 := by omega
      by_cases hp : (p : Int) ≤ 9223372036854775807
      · have E : Hid (gcdS a b = (p : Int)) := by
          unfold Hid; rw [EA.out, ← hg.out, Nat.gcd_zero_right, if_pos hp]
        have hp' : ¬ (9223372036854775807 : Int) < (p : Int) := by omega
        go_wp2
        go_ret
        exact ⟨ret_int E.out.symm, hB⟩
      · have E : Hid (gcdS a b = 9223372036854775807) := by
          unfold Hid; rw [EA.out, ← hg.out, Nat.gcd_zero_right, if_neg hp]
        have hp' : (9223372036854775807 : Int) < (p : Int) := by omega
        go_wp2
        go_ret
        exact ⟨ret_int E.out.symm, hB⟩

end Go.Proofs.YtdigfjpknckpfaaGreatDoor
