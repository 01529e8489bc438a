/- The reference's numbers: size, Gcd, Add, Mul: the same plain functions as the program's. Condition: int64 numbers. -/
import Derived.Test.YtdigfjpknckpfaaDoorNum
namespace Go.Proofs.YtdigfjpknckpfaaDoor
set_option linter.unusedSimpArgs false
set_option linter.unusedVariables false
open Go.RowKit

set_option maxHeartbeats 400000 in
theorem ref_size (n : Int) (w : World) (h : I64 n) : Calls Tryd.prog 35 #[.int .i64 n] w fun e w' => e = .returned (.int .u64 (sizeS n)) ∧ w' = w := by
  have hs1 : n < 0 → IntKind.u64.wrap (IntKind.u64.wrap (0 - (n + 1)) + 1) = sizeS n := by
    unfold I64 at h
    unfold sizeS
    simp [IntKind.wrap, IntKind.bits, IntKind.signed]; omega
  have hs2 : ¬ n < 0 → IntKind.u64.wrap n = sizeS n := by
    unfold I64 at h
    unfold sizeS
    simp [IntKind.wrap, IntKind.bits, IntKind.signed]; omega
  by_cases hn : n < 0
  · have H := Lib.hid (hs1 hn)
    have hb := h.1
    clear hs1 hs2 h
    go_enter Tryd.func35, Tryd.ntmps35
    go_wp2
    go_ret
    exact ⟨ret_int (by unfold sizeS; omega), rfl⟩
  · have H := Lib.hid (hs2 hn)
    clear hs1 hs2 h
    go_enter Tryd.func35, Tryd.ntmps35
    go_wp2
    go_ret
    exact ⟨ret_int H.out, rfl⟩

set_option maxHeartbeats 400000 in
theorem ref_Gcd (a b : Int) (w : World) (ha : I64 a) (hb : I64 b) : Calls Tryd.prog 17 #[.int .i64 a, .int .i64 b] w fun e w' => e = .returned (.int .i64 (gcdS a b)) ∧ Bel w w' := by
  have EA : Hid (gcdS a b = if (Nat.gcd a.natAbs b.natAbs : Int) ≤ 9223372036854775807 then (Nat.gcd a.natAbs b.natAbs : Int) else 9223372036854775807) := rfl
  have HA := Lib.hid ha
  have HB := Lib.hid hb
  clear ha hb
  go_enter Tryd.func17, Tryd.ntmps17
  go_wp2_with fail
  refine (ref_size a _ HA.out).mono ?_
  rintro e w' ⟨rfl, rfl⟩
  go_wp2_with fail
  refine (ref_size b _ HB.out).mono ?_
  rintro e w' ⟨rfl, rfl⟩
  go_wp2_with fail
  go_loopw [5, 6] (fun x y wr => ∃ p q : Nat, x = .int .u64 p ∧ y = .int .u64 q ∧ Hid (Nat.gcd p q = Nat.gcd a.natAbs b.natAbs) ∧ Bel w' wr) (fun _ y _ => (intOf y).toNat)
  case atStart => exact ⟨a.natAbs, b.natAbs, rfl, rfl, rfl, Bel.rfl'⟩
  case round =>
    obtain ⟨p, q, rfl, rfl, hg, hB⟩ := hrel
    by_cases hq : 0 < q
    · have hq' : (0 : Int) < (q : Int) := by omega
      go_wp2
      go_quiet (fail)
      go_wp2
      go_roundw
      case rel => exact ⟨q, p % q, by trivial, by simp, by unfold Hid; rw [← hg.out, Nat.gcd_comm p q, Nat.gcd_rec q p, Nat.gcd_comm], hB.dn _⟩
      case measure => simp only [intOf]; have := Nat.mod_lt p hq; simp; omega
    · obtain rfl : q = 0 := by omega
      by_cases hp : (p : Int) ≤ 9223372036854775807
      · have E : Hid (gcdS a b = (p : Int)) := by
          unfold Hid; rw [EA.out, ← hg.out, Nat.gcd_zero_right, if_pos hp]
        have hp' : ¬ (9223372036854775807 : Int) < (p : Int) := by omega
        go_wp2
        go_ret
        exact ⟨ret_int E.out.symm, hB⟩
      · have E : Hid (gcdS a b = 9223372036854775807) := by
          unfold Hid; rw [EA.out, ← hg.out, Nat.gcd_zero_right, if_neg hp]
        have hp' : (9223372036854775807 : Int) < (p : Int) := by omega
        go_wp2
        go_ret
        exact ⟨ret_int E.out.symm, hB⟩

set_option maxHeartbeats 400000 in
theorem ref_Add (a b : Int) (w : World) (ha : I64 a) (hb : I64 b) : Calls Tryd.prog 22 #[.int .i64 a, .int .i64 b] w fun e w' => e = .returned (two .i64 (addS a b)) ∧ w' = w := by
  obtain ⟨a1, a2⟩ := ha
  obtain ⟨b1, b2⟩ := hb
  by_cases h1 : 0 < b
  · have h1' : ¬ b < 0 := by omega
    by_cases h2 : 9223372036854775807 - b < a
    · have E := Lib.hid (addS_out (a := a) (b := b) (by unfold I64; omega))
      go_enter Tryd.func22, Tryd.ntmps22
      go_wp2
      go_ret2
      exact ⟨by rw [E.out]; simp [two], rfl⟩
    · have E := Lib.hid (addS_in (a := a) (b := b) (by unfold I64; omega))
      go_enter Tryd.func22, Tryd.ntmps22
      go_wp2
      go_ret2
      exact ⟨by rw [E.out]; simp [two], rfl⟩
  · by_cases h3 : b < 0
    · by_cases h2 : a < -9223372036854775808 - b
      · have E := Lib.hid (addS_out (a := a) (b := b) (by unfold I64; omega))
        go_enter Tryd.func22, Tryd.ntmps22
        go_wp2
        go_ret2
        exact ⟨by rw [E.out]; simp [two], rfl⟩
      · have E := Lib.hid (addS_in (a := a) (b := b) (by unfold I64; omega))
        go_enter Tryd.func22, Tryd.ntmps22
        go_wp2
        go_ret2
        exact ⟨by rw [E.out]; simp [two], rfl⟩
    · obtain rfl : b = 0 := by omega
      have E := Lib.hid (addS_in (a := a) (b := 0) (by unfold I64; omega))
      go_enter Tryd.func22, Tryd.ntmps22
      go_wp2
      go_ret2
      exact ⟨by rw [E.out]; simp [two], rfl⟩

theorem mul_out_pos {a b : Int} (hs : a * b = ((a.natAbs * b.natAbs : Nat) : Int)) (h0 : 0 < a.natAbs) (h : 9223372036854775807 / a.natAbs < b.natAbs) : mulS a b = (0, 9) := by
  apply mulS_out
  rw [hs]
  have := (Nat.div_lt_iff_lt_mul h0).1 h
  rw [Nat.mul_comm] at this
  unfold I64; omega
theorem mul_in_pos {a b : Int} (hs : a * b = ((a.natAbs * b.natAbs : Nat) : Int)) (h : a.natAbs = 0 ∨ ¬ 9223372036854775807 / a.natAbs < b.natAbs) : I64 (a * b) := by
  rw [hs]
  rcases Nat.eq_zero_or_pos a.natAbs with h0 | h0
  · rw [h0, Nat.zero_mul]; unfold I64; omega
  · have h : ¬ 9223372036854775807 / a.natAbs < b.natAbs := by rcases h with h | h; omega; exact h
    have := (Nat.le_div_iff_mul_le h0).1 (Nat.le_of_not_lt h)
    rw [Nat.mul_comm] at this
    unfold I64; omega
theorem mul_out_neg {a b : Int} (hs : a * b = -((a.natAbs * b.natAbs : Nat) : Int)) (h0 : 0 < a.natAbs) (h : 9223372036854775808 / a.natAbs < b.natAbs) : mulS a b = (0, 9) := by
  apply mulS_out
  rw [hs]
  have := (Nat.div_lt_iff_lt_mul h0).1 h
  rw [Nat.mul_comm] at this
  unfold I64; omega
theorem mul_in_neg {a b : Int} (hs : a * b = -((a.natAbs * b.natAbs : Nat) : Int)) (h : a.natAbs = 0 ∨ ¬ 9223372036854775808 / a.natAbs < b.natAbs) : I64 (a * b) := by
  rw [hs]
  rcases Nat.eq_zero_or_pos a.natAbs with h0 | h0
  · rw [h0, Nat.zero_mul]; unfold I64; omega
  · have h : ¬ 9223372036854775808 / a.natAbs < b.natAbs := by rcases h with h | h; omega; exact h
    have := (Nat.le_div_iff_mul_le h0).1 (Nat.le_of_not_lt h)
    rw [Nat.mul_comm] at this
    unfold I64; omega
theorem wrap_I64 {x : Int} (h : I64 x) : wrap64 x = x := by unfold I64 at h; unfold wrap64; omega

set_option maxRecDepth 100000 in
set_option maxHeartbeats 2000000 in
theorem ref_Mul (a b : Int) (w : World) (ha : I64 a) (hb : I64 b) : Calls Tryd.prog 21 #[.int .i64 a, .int .i64 b] w fun e w' => e = .returned (two .i64 (mulS a b)) ∧ w' = w := by
  have sa := sizeS_bd a ha
  have sb := sizeS_bd b hb
  have c1 := ref_size a w ha
  have c2 := ref_size b w hb
  rw [sizeS_nat] at c1 c2
  have hs := mul_sign a b _ rfl
  have C1 := Lib.hid c1
  have C2 := Lib.hid c2
  clear c1 c2
  rcases sgn a with ⟨s1, t1⟩ | ⟨s1, t1⟩ <;> rcases sgn b with ⟨s2, t2⟩ | ⟨s2, t2⟩
  all_goals simp only [t1, t2, bne_self_eq_false, Bool.true_bne, Bool.false_bne, Bool.not_false, Bool.not_true, if_true, if_false, Bool.false_eq_true] at hs
  · by_cases h0 : a.natAbs = 0
    · have hin := mul_in_pos hs (Or.inl h0)
      have E := Lib.hid (mulS_in hin)
      have hw := wrap_I64 hin
      generalize mulS a b = r at E ⊢
      have HW := Lib.hid hw
      clear hw
      rw [h0] at C1
      generalize b.natAbs = y at *
      clear hs h0 ha hb hin
      go_enter Tryd.func21, Tryd.ntmps21
      go_wp2_with fail
      refine C1.out.mono ?_
      rintro e w' ⟨rfl, rfl⟩
      go_wp2_with fail
      refine C2.out.mono ?_
      rintro e w' ⟨rfl, rfl⟩
      go_wp2_with fail
      go_ret2
      exact ⟨by rw [E.out]; exact congrArg (fun z : Int => Ending.returned (.tuple #[.int .i64 z, .int .i64 0])) HW.out, rfl⟩
    have h0' : (((a.natAbs : Nat) : Int) != 0) = true := by rw [bne_iff_ne]; omega
    by_cases h1 : 9223372036854775807 / a.natAbs < b.natAbs
    · have E := Lib.hid (mul_out_pos hs (by omega) h1)
      have h1' : (9223372036854775807 : Int) / ((a.natAbs : Nat) : Int) < ((b.natAbs : Nat) : Int) := by
        have : ((9223372036854775807 / a.natAbs : Nat) : Int) < ((b.natAbs : Nat) : Int) := by omega
        simpa using this
      generalize mulS a b = r at E ⊢
      generalize a.natAbs = x at *
      generalize b.natAbs = y at *
      clear h1 ha hb hs
      go_enter Tryd.func21, Tryd.ntmps21
      go_wp2_with fail
      refine C1.out.mono ?_
      rintro e w' ⟨rfl, rfl⟩
      go_wp2_with fail
      refine C2.out.mono ?_
      rintro e w' ⟨rfl, rfl⟩
      go_wp2_with fail
      go_ret2
      exact ⟨by rw [E.out]; rfl, rfl⟩
    · have hin := mul_in_pos hs (Or.inr h1)
      have E := Lib.hid (mulS_in hin)
      have hw := wrap_I64 hin
      have h1' : ¬ (9223372036854775807 : Int) / ((a.natAbs : Nat) : Int) < ((b.natAbs : Nat) : Int) := by
        have : ¬ ((9223372036854775807 / a.natAbs : Nat) : Int) < ((b.natAbs : Nat) : Int) := by omega
        simpa using this
      generalize mulS a b = r at E ⊢
      generalize a.natAbs = x at *
      generalize b.natAbs = y at *
      have HW := Lib.hid hw
      clear hw
      clear h1 ha hb hs hin
      go_enter Tryd.func21, Tryd.ntmps21
      go_wp2_with fail
      refine C1.out.mono ?_
      rintro e w' ⟨rfl, rfl⟩
      go_wp2_with fail
      refine C2.out.mono ?_
      rintro e w' ⟨rfl, rfl⟩
      go_wp2_with fail
      go_ret2
      exact ⟨by rw [E.out]; exact congrArg (fun z : Int => Ending.returned (.tuple #[.int .i64 z, .int .i64 0])) HW.out, rfl⟩
  · by_cases h0 : a.natAbs = 0
    · have hin := mul_in_neg hs (Or.inl h0)
      have E := Lib.hid (mulS_in hin)
      have hw := wrap_I64 hin
      generalize mulS a b = r at E ⊢
      have HW := Lib.hid hw
      clear hw
      rw [h0] at C1
      generalize b.natAbs = y at *
      clear hs h0 ha hb hin
      go_enter Tryd.func21, Tryd.ntmps21
      go_wp2_with fail
      refine C1.out.mono ?_
      rintro e w' ⟨rfl, rfl⟩
      go_wp2_with fail
      refine C2.out.mono ?_
      rintro e w' ⟨rfl, rfl⟩
      go_wp2_with fail
      go_ret2
      exact ⟨by rw [E.out]; exact congrArg (fun z : Int => Ending.returned (.tuple #[.int .i64 z, .int .i64 0])) HW.out, rfl⟩
    have h0' : (((a.natAbs : Nat) : Int) != 0) = true := by rw [bne_iff_ne]; omega
    by_cases h1 : 9223372036854775808 / a.natAbs < b.natAbs
    · have E := Lib.hid (mul_out_neg hs (by omega) h1)
      have h1' : (9223372036854775808 : Int) / ((a.natAbs : Nat) : Int) < ((b.natAbs : Nat) : Int) := by
        have : ((9223372036854775808 / a.natAbs : Nat) : Int) < ((b.natAbs : Nat) : Int) := by omega
        simpa using this
      generalize mulS a b = r at E ⊢
      generalize a.natAbs = x at *
      generalize b.natAbs = y at *
      clear h1 ha hb hs
      go_enter Tryd.func21, Tryd.ntmps21
      go_wp2_with fail
      refine C1.out.mono ?_
      rintro e w' ⟨rfl, rfl⟩
      go_wp2_with fail
      refine C2.out.mono ?_
      rintro e w' ⟨rfl, rfl⟩
      go_wp2_with fail
      go_ret2
      exact ⟨by rw [E.out]; rfl, rfl⟩
    · have hin := mul_in_neg hs (Or.inr h1)
      have E := Lib.hid (mulS_in hin)
      have hw := wrap_I64 hin
      have h1' : ¬ (9223372036854775808 : Int) / ((a.natAbs : Nat) : Int) < ((b.natAbs : Nat) : Int) := by
        have : ¬ ((9223372036854775808 / a.natAbs : Nat) : Int) < ((b.natAbs : Nat) : Int) := by omega
        simpa using this
      generalize mulS a b = r at E ⊢
      generalize a.natAbs = x at *
      generalize b.natAbs = y at *
      have HW := Lib.hid hw
      clear hw
      clear h1 ha hb hs hin
      go_enter Tryd.func21, Tryd.ntmps21
      go_wp2_with fail
      refine C1.out.mono ?_
      rintro e w' ⟨rfl, rfl⟩
      go_wp2_with fail
      refine C2.out.mono ?_
      rintro e w' ⟨rfl, rfl⟩
      go_wp2_with fail
      go_ret2
      exact ⟨by rw [E.out]; exact congrArg (fun z : Int => Ending.returned (.tuple #[.int .i64 z, .int .i64 0])) HW.out, rfl⟩
  · by_cases h0 : a.natAbs = 0
    · have hin := mul_in_neg hs (Or.inl h0)
      have E := Lib.hid (mulS_in hin)
      have hw := wrap_I64 hin
      generalize mulS a b = r at E ⊢
      have HW := Lib.hid hw
      clear hw
      rw [h0] at C1
      generalize b.natAbs = y at *
      clear hs h0 ha hb hin
      go_enter Tryd.func21, Tryd.ntmps21
      go_wp2_with fail
      refine C1.out.mono ?_
      rintro e w' ⟨rfl, rfl⟩
      go_wp2_with fail
      refine C2.out.mono ?_
      rintro e w' ⟨rfl, rfl⟩
      go_wp2_with fail
      go_ret2
      exact ⟨by rw [E.out]; exact congrArg (fun z : Int => Ending.returned (.tuple #[.int .i64 z, .int .i64 0])) HW.out, rfl⟩
    have h0' : (((a.natAbs : Nat) : Int) != 0) = true := by rw [bne_iff_ne]; omega
    by_cases h1 : 9223372036854775808 / a.natAbs < b.natAbs
    · have E := Lib.hid (mul_out_neg hs (by omega) h1)
      have h1' : (9223372036854775808 : Int) / ((a.natAbs : Nat) : Int) < ((b.natAbs : Nat) : Int) := by
        have : ((9223372036854775808 / a.natAbs : Nat) : Int) < ((b.natAbs : Nat) : Int) := by omega
        simpa using this
      generalize mulS a b = r at E ⊢
      generalize a.natAbs = x at *
      generalize b.natAbs = y at *
      clear h1 ha hb hs
      go_enter Tryd.func21, Tryd.ntmps21
      go_wp2_with fail
      refine C1.out.mono ?_
      rintro e w' ⟨rfl, rfl⟩
      go_wp2_with fail
      refine C2.out.mono ?_
      rintro e w' ⟨rfl, rfl⟩
      go_wp2_with fail
      go_ret2
      exact ⟨by rw [E.out]; rfl, rfl⟩
    · have hin := mul_in_neg hs (Or.inr h1)
      have E := Lib.hid (mulS_in hin)
      have hw := wrap_I64 hin
      have h1' : ¬ (9223372036854775808 : Int) / ((a.natAbs : Nat) : Int) < ((b.natAbs : Nat) : Int) := by
        have : ¬ ((9223372036854775808 / a.natAbs : Nat) : Int) < ((b.natAbs : Nat) : Int) := by omega
        simpa using this
      generalize mulS a b = r at E ⊢
      generalize a.natAbs = x at *
      generalize b.natAbs = y at *
      have HW := Lib.hid hw
      clear hw
      clear h1 ha hb hs hin
      go_enter Tryd.func21, Tryd.ntmps21
      go_wp2_with fail
      refine C1.out.mono ?_
      rintro e w' ⟨rfl, rfl⟩
      go_wp2_with fail
      refine C2.out.mono ?_
      rintro e w' ⟨rfl, rfl⟩
      go_wp2_with fail
      go_ret2
      exact ⟨by rw [E.out]; exact congrArg (fun z : Int => Ending.returned (.tuple #[.int .i64 z, .int .i64 0])) HW.out, rfl⟩
  · by_cases h0 : a.natAbs = 0
    · have hin := mul_in_pos hs (Or.inl h0)
      have E := Lib.hid (mulS_in hin)
      have hw := wrap_I64 hin
      generalize mulS a b = r at E ⊢
      have HW := Lib.hid hw
      clear hw
      rw [h0] at C1
      generalize b.natAbs = y at *
      clear hs h0 ha hb hin
      go_enter Tryd.func21, Tryd.ntmps21
      go_wp2_with fail
      refine C1.out.mono ?_
      rintro e w' ⟨rfl, rfl⟩
      go_wp2_with fail
      refine C2.out.mono ?_
      rintro e w' ⟨rfl, rfl⟩
      go_wp2_with fail
      go_ret2
      exact ⟨by rw [E.out]; exact congrArg (fun z : Int => Ending.returned (.tuple #[.int .i64 z, .int .i64 0])) HW.out, rfl⟩
    have h0' : (((a.natAbs : Nat) : Int) != 0) = true := by rw [bne_iff_ne]; omega
    by_cases h1 : 9223372036854775807 / a.natAbs < b.natAbs
    · have E := Lib.hid (mul_out_pos hs (by omega) h1)
      have h1' : (9223372036854775807 : Int) / ((a.natAbs : Nat) : Int) < ((b.natAbs : Nat) : Int) := by
        have : ((9223372036854775807 / a.natAbs : Nat) : Int) < ((b.natAbs : Nat) : Int) := by omega
        simpa using this
      generalize mulS a b = r at E ⊢
      generalize a.natAbs = x at *
      generalize b.natAbs = y at *
      clear h1 ha hb hs
      go_enter Tryd.func21, Tryd.ntmps21
      go_wp2_with fail
      refine C1.out.mono ?_
      rintro e w' ⟨rfl, rfl⟩
      go_wp2_with fail
      refine C2.out.mono ?_
      rintro e w' ⟨rfl, rfl⟩
      go_wp2_with fail
      go_ret2
      exact ⟨by rw [E.out]; rfl, rfl⟩
    · have hin := mul_in_pos hs (Or.inr h1)
      have E := Lib.hid (mulS_in hin)
      have hw := wrap_I64 hin
      have h1' : ¬ (9223372036854775807 : Int) / ((a.natAbs : Nat) : Int) < ((b.natAbs : Nat) : Int) := by
        have : ¬ ((9223372036854775807 / a.natAbs : Nat) : Int) < ((b.natAbs : Nat) : Int) := by omega
        simpa using this
      generalize mulS a b = r at E ⊢
      generalize a.natAbs = x at *
      generalize b.natAbs = y at *
      have HW := Lib.hid hw
      clear hw
      clear h1 ha hb hs hin
      go_enter Tryd.func21, Tryd.ntmps21
      go_wp2_with fail
      refine C1.out.mono ?_
      rintro e w' ⟨rfl, rfl⟩
      go_wp2_with fail
      refine C2.out.mono ?_
      rintro e w' ⟨rfl, rfl⟩
      go_wp2_with fail
      go_ret2
      exact ⟨by rw [E.out]; exact congrArg (fun z : Int => Ending.returned (.tuple #[.int .i64 z, .int .i64 0])) HW.out, rfl⟩
end Go.Proofs.YtdigfjpknckpfaaDoor
