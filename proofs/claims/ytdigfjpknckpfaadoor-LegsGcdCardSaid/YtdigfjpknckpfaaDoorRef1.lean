/- The reference's numbers: size, Gcd, Add, Mul: the same plain functions as the program's. Condition: int64 numbers. -/
import Derived.Test.YtdigfjpknckpfaaDoorNum
namespace Go.Proofs.YtdigfjpknckpfaaDoor
set_option linter.unusedSimpArgs false
set_option linter.unusedVariables false
open Go.RowKit

set_option maxHeartbeats 400000 in
theorem ref_size (n : Int) (w : World) (h : I64 n) : Calls Tryd.prog 35 #[.int .i64 n] w fun e w' => e = .returned (.int .u64 (sizeS n)) ∧ w' = w := by
  have hs1 : n < 0 → IntKind.u64.wrap (IntKind.u64.wrap (0 - (n + 1)) + 1) = sizeS n := by
    unfold I64 at h
    unfold sizeS
    simp [IntKind.wrap, IntKind.bits, IntKind.signed]; omega
  have hs2 : ¬ n < 0 → IntKind.u64.wrap n = sizeS n := by
    unfold I64 at h
    unfold sizeS
    simp [IntKind.wrap, IntKind.bits, IntKind.signed]; omega
  by_cases hn : n < 0
  · have H := Lib.hid (hs1 hn)
    have hb := h.1
    clear hs1 hs2 h
    go_enter Tryd.func35, Tryd.ntmps35
    go_wp2
    go_ret
    exact ⟨ret_int (by unfold sizeS; omega), rfl⟩
  · have H := Lib.hid (hs2 hn)
    clear hs1 hs2 h
    go_enter Tryd.func35, Tryd.ntmps35
    go_wp2
    go_ret
    exact ⟨ret_int H.out, rfl⟩

set_option maxHeartbeats 400000 in
theorem ref_Gcd (a b : Int) (w : World) (ha : I64 a) (hb : I64 b) : Calls Tryd.prog 17 #[.int .i64 a, .int .i64 b] w fun e w' => e = .returned (.int .i64 (gcdS a b)) ∧ Bel w w' := by
  have EA : Hid (gcdS a b = if (Nat.gcd a.natAbs b.natAbs : Int) ≤ 9223372036854775807 then (Nat.gcd a.natAbs b.natAbs : Int) else 9223372036854775807) := rfl
  have HA := Lib.hid ha
  have HB := Lib.hid hb
  clear ha hb
  go_enter Tryd.func17, Tryd.ntmps17
  go_wp2_with fail
  refine (ref_size a _ HA.out).mono ?_
  rintro e w' ⟨rfl, rfl⟩
  go_wp2_with fail
  refine (ref_size b _ HB.out).mono ?_
  rintro e w' ⟨rfl, rfl⟩
  go_wp2_with fail
  go_loopw [5, 6] (fun x y wr => ∃ p q : Nat, x = .int .u64 p ∧ y = .int .u64 q ∧ Hid (Nat.gcd p q = Nat.gcd a.natAbs b.natAbs) ∧ Bel w' wr) (fun _ y _ => (intOf y).toNat)
  case atStart => exact ⟨a.natAbs, b.natAbs, rfl, rfl, rfl, Bel.rfl'⟩
  case round =>
    obtain ⟨p, q, rfl, rfl, hg, hB⟩ := hrel
    by_cases hq : 0 < q
    · have hq' : (0 : Int) < (q : Int) := by omega
      go_wp2
      go_quiet (fail)
      go_wp2
      go_roundw
      case rel => exact ⟨q, p % q, by trivial, by simp, by unfold Hid; rw [← hg.out, Nat.gcd_comm p q, Nat.gcd_rec q p, Nat.gcd_comm], hB.dn _⟩
      case measure => simp only [intOf]; have := Nat.mod_lt p hq; simp; omega
    · obtain rfl : q = 0 := by omega
      by_cases hp : (p : Int) ≤ 9223372036854775807
      · have E : Hid (gcdS a b = (p : Int)) := by
          unfold Hid; rw [EA.out, ← hg.out, Nat.gcd_zero_right, if_pos hp]
        have hp' : ¬ (9223372036854775807 : Int) < (p : Int) := by omega
        go_wp2
        go_ret
        exact ⟨ret_int E.out.symm, hB⟩
      · have E : Hid (gcdS a b = 9223372036854775807) := by
          unfold Hid; rw [EA.out, ← hg.out, Nat.gcd_zero_right, if_neg hp]
        have hp' : (9223372036854775807 : Int) < (p : Int) := by omega
        go_wp2
        go_ret
        exact ⟨ret_int E.out.symm, hB⟩
end Go.Proofs.YtdigfjpknckpfaaDoor
