/- The functions of package num that this seat reaches: their contracts, as plain integers. Condition: the arguments are int64 numbers. -/
import Derived.Test.YtdigfjpknckpfaaGreatDoorNumA
import Derived.Deep.QuietTactic
import Derived.BigQuiet
namespace Go.Proofs.YtdigfjpknckpfaaGreatDoor
set_option linter.unusedSimpArgs false
set_option linter.unusedVariables false
open Go.RowKit

def addS (a b : Int) : Int × Int := if I64 (a + b) then (a + b, 0) else (0, 9)
def mulS (a b : Int) : Int × Int := if I64 (a * b) then (a * b, 0) else (0, 9)
def gcdS (a b : Int) : Int := if (Nat.gcd a.natAbs b.natAbs : Int) ≤ 9223372036854775807 then Nat.gcd a.natAbs b.natAbs else 9223372036854775807

set_option maxHeartbeats 400000 in
theorem num_size (n : Int) (w : World) (h : I64 n) : Calls Tryz.prog 54 #[.int .i64 n] w fun e w' => e = .returned (.int .u64 (sizeS n)) ∧ w' = w := by
  have hs : sizeS n = if n < 0 then IntKind.u64.wrap (-(IntKind.u64.wrap n)) else IntKind.u64.wrap n := by
    unfold I64 at h
    unfold sizeS
    split <;> simp [IntKind.wrap, IntKind.bits, IntKind.signed] <;> omega
  rw [hs]; clear hs
  by_cases hn : n < 0
  · go_enter Tryz.func54, Tryz.ntmps54
    go_wp2
    go_ret
    exact ⟨rfl, rfl⟩
  · go_enter Tryz.func54, Tryz.ntmps54
    go_wp2
    go_ret
    exact ⟨rfl, rfl⟩

set_option maxHeartbeats 400000 in
theorem num_Gcd (a b : Int) (w : World) (ha : I64 a) (hb : I64 b) : Calls Tryz.prog 32 #[.int .i64 a, .int .i64 b] w fun e w' => e = .returned (.int .i64 (gcdS a b)) ∧ Bel w w' := by
  have ea : gcdS a b = min ((Nat.gcd a.natAbs b.natAbs : Nat) : Int) 9223372036854775807 := by unfold gcdS; split <;> omega
  have EA := Lib.hid ea
  have HA := Lib.hid ha
  have HB := Lib.hid hb
  clear ea ha hb
  go_enter Tryz.func32, Tryz.ntmps32
  go_wp2_with fail
  refine (num_size a _ HA.out).mono ?_
  rintro e w' ⟨rfl, rfl⟩
  go_wp2_with fail
  refine (num_size b _ HB.out).mono ?_
  rintro e w' ⟨rfl, rfl⟩
  go_wp2_with fail
  go_loopw [5, 6] (fun x y wr => ∃ p q : Nat, x = .int .u64 p ∧ y = .int .u64 q ∧ Hid (Nat.gcd p q = Nat.gcd a.natAbs b.natAbs) ∧ Bel w' wr) (fun _ y _ => (intOf y).toNat)
  case atStart => exact ⟨a.natAbs, b.natAbs, rfl, rfl, rfl, Bel.rfl'⟩
  case round =>
    obtain ⟨p, q, rfl, rfl, hg, hB⟩ := hrel
    by_cases hq : 0 < q
    · have hq' : (0 : Int) < (q : Int) := by omega
      go_wp2
      go_quiet (fail)
      go_wp2
      go_roundw
      case rel => exact ⟨q, p % q, by trivial, by simp, by unfold Hid; rw [← hg.out, Nat.gcd_comm p q, Nat.gcd_rec q p, Nat.gcd_comm], hB.dn _⟩
      case measure => simp only [intOf]; have := Nat.mod_lt p hq; simp; omega
    · obtain rfl : q = 0 := by omega
      go_wp2
      go_ret
      exact ⟨by rw [EA.out, ← hg.out, Nat.gcd_zero_right]; rfl, hB⟩

theorem addS_in {a b : Int} (h : I64 (a + b)) : addS a b = (a + b, 0) := if_pos h
theorem addS_out {a b : Int} (h : ¬ I64 (a + b)) : addS a b = (0, 9) := if_neg h
theorem mulS_in {a b : Int} (h : I64 (a * b)) : mulS a b = (a * b, 0) := if_pos h
theorem mulS_out {a b : Int} (h : ¬ I64 (a * b)) : mulS a b = (0, 9) := if_neg h

set_option maxHeartbeats 400000 in
theorem num_Add (a b : Int) (w : World) (ha : I64 a) (hb : I64 b) : Calls Tryz.prog 50 #[.int .i64 a, .int .i64 b] w fun e w' => e = .returned (two .i64 (addS a b)) ∧ w' = w := by
  have HA := Lib.hid ha
  have HB := Lib.hid hb
  obtain ⟨a1, a2⟩ := ha
  obtain ⟨b1, b2⟩ := hb
  by_cases h1 : 0 < b
  · have h1' : ¬ b < 0 := by omega
    by_cases h2 : 9223372036854775807 - b < a
    · have E := Lib.hid (addS_out (a := a) (b := b) (by unfold I64; omega))
      go_enter Tryz.func50, Tryz.ntmps50
      go_wp2
      go_ret2
      exact ⟨by rw [E.out]; simp [two], rfl⟩
    · have E := Lib.hid (addS_in (a := a) (b := b) (by unfold I64; omega))
      go_enter Tryz.func50, Tryz.ntmps50
      go_wp2
      go_ret2
      exact ⟨by rw [E.out]; simp [two], rfl⟩
  · by_cases h3 : b < 0
    · by_cases h2 : a < -9223372036854775808 - b
      · have E := Lib.hid (addS_out (a := a) (b := b) (by unfold I64; omega))
        go_enter Tryz.func50, Tryz.ntmps50
        go_wp2
        go_ret2
        exact ⟨by rw [E.out]; simp [two], rfl⟩
      · have E := Lib.hid (addS_in (a := a) (b := b) (by unfold I64; omega))
        go_enter Tryz.func50, Tryz.ntmps50
        go_wp2
        go_ret2
        exact ⟨by rw [E.out]; simp [two], rfl⟩
    · obtain rfl : b = 0 := by omega
      have E := Lib.hid (addS_in (a := a) (b := 0) (by unfold I64; omega))
      go_enter Tryz.func50, Tryz.ntmps50
      go_wp2
      go_ret2
      exact ⟨by rw [E.out]; simp [two], rfl⟩

/-- What Mul does behind its sizes. -/
theorem mul_facts (a b : Int) (hi lo : Nat) (h1 : hi = a.natAbs * b.natAbs / 18446744073709551616) (h2 : lo = a.natAbs * b.natAbs % 18446744073709551616) :
    hi * 18446744073709551616 + lo = a.natAbs * b.natAbs ∧ lo < 18446744073709551616 := by
  omega
theorem mul_sign (a b : Int) (s : Bool) (hs : s = ((decide (a < 0)) != (decide (b < 0)))) : a * b = if s then -((a.natAbs * b.natAbs : Nat) : Int) else ((a.natAbs * b.natAbs : Nat) : Int) := by
  subst hs
  rw [Int.natCast_mul]
  by_cases h1 : a < 0 <;> by_cases h2 : b < 0 <;> simp only [h1, h2, decide_true, decide_false, bne_self_eq_false, Bool.true_bne, Bool.false_bne, Bool.not_false, if_true, if_false, Bool.false_eq_true]
  · rw [Int.ofNat_natAbs_of_nonpos (by omega), Int.ofNat_natAbs_of_nonpos (by omega), Int.neg_mul_neg]
  · rw [Int.ofNat_natAbs_of_nonpos (by omega), Int.natAbs_of_nonneg (by omega), Int.neg_mul, Int.neg_neg]
  · rw [Int.natAbs_of_nonneg (by omega), Int.ofNat_natAbs_of_nonpos (by omega), Int.mul_neg, Int.neg_neg]
  · rw [Int.natAbs_of_nonneg (by omega), Int.natAbs_of_nonneg (by omega)]

theorem mul_big {a b : Int} {s : Bool} {hi lo : Nat} (hs : a * b = if s then -((a.natAbs * b.natAbs : Nat) : Int) else ((a.natAbs * b.natAbs : Nat) : Int))
    (h : hi * 18446744073709551616 + lo = a.natAbs * b.natAbs) (hb : 0 < hi ∨ 9223372036854775808 < lo ∨ (lo = 9223372036854775808 ∧ s = false)) : mulS a b = (0, 9) := by
  apply mulS_out
  unfold I64
  generalize a.natAbs * b.natAbs = n at *
  rw [hs]
  rcases hb with hb | hb | ⟨hb, rfl⟩
  · cases s <;> simp <;> omega
  · cases s <;> simp <;> omega
  · simp; omega
theorem mul_ok {a b : Int} {s : Bool} {lo : Nat} (hs : a * b = if s then -((a.natAbs * b.natAbs : Nat) : Int) else ((a.natAbs * b.natAbs : Nat) : Int))
    (h : lo = a.natAbs * b.natAbs) (hb : lo < 9223372036854775808 ∨ (lo = 9223372036854775808 ∧ s = true)) : mulS a b = (if s then -(lo : Int) else lo, 0) := by
  subst h
  rw [mulS_in, hs]
  unfold I64
  generalize a.natAbs * b.natAbs = n at *
  rw [hs]
  cases s <;> simp at * <;> omega
theorem sgn (a : Int) : (a < 0 ∧ decide (a < 0) = true) ∨ (¬ a < 0 ∧ decide (a < 0) = false) := by by_cases h : a < 0 <;> simp [h]
theorem wrap_neg_u64 (lo : Nat) (h : (lo : Int) ≤ 9223372036854775808) : wrap64 (IntKind.u64.wrap (-(lo : Int))) = -(lo : Int) := by
  simp [wrap64, IntKind.wrap, IntKind.bits, IntKind.signed]; omega

set_option maxRecDepth 100000 in
set_option maxHeartbeats 1000000 in
theorem num_Mul (a b : Int) (w : World) (ha : I64 a) (hb : I64 b) : Calls Tryz.prog 75 #[.int .i64 a, .int .i64 b] w fun e w' => e = .returned (two .i64 (mulS a b)) ∧ w' = w := by
  have sa := sizeS_bd a ha
  have sb := sizeS_bd b hb
  have cm := Tryz.bits_Mul64 a.natAbs b.natAbs (by omega) (by omega) w
  have c1 := num_size a w ha
  have c2 := num_size b w hb
  obtain ⟨hi, h1⟩ : ∃ hi, hi = a.natAbs * b.natAbs / 18446744073709551616 := ⟨_, rfl⟩
  obtain ⟨lo, h2⟩ : ∃ lo, lo = a.natAbs * b.natAbs % 18446744073709551616 := ⟨_, rfl⟩
  obtain ⟨f1, f2⟩ := mul_facts a b hi lo h1 h2
  rw [← h1, ← h2] at cm
  rw [sizeS_nat] at c1 c2
  have hs := mul_sign a b _ rfl
  have hr : mulS a b = if (0 < hi ∨ 9223372036854775808 < lo ∨ (lo = 9223372036854775808 ∧ ((decide (a < 0)) != (decide (b < 0))) = false)) then (0, 9) else (if ((decide (a < 0)) != (decide (b < 0))) then -(lo : Int) else lo, 0) := by
    split
    case isTrue h => exact mul_big hs f1 h
    case isFalse h =>
      have h0 : hi = 0 := by omega
      subst h0
      refine mul_ok hs (by omega) ?_
      rcases Nat.lt_or_ge lo 9223372036854775808 with h3 | h3
      · exact Or.inl h3
      · refine Or.inr ⟨by omega, ?_⟩
        cases hq : ((decide (a < 0)) != (decide (b < 0)))
        · exact absurd (Or.inr (Or.inr ⟨by omega, hq⟩)) h
        · rfl
  have C1 := Lib.hid c1
  have C2 := Lib.hid c2
  have CM := Lib.hid cm
  have HR := Lib.hid hr
  clear c1 c2 cm hr hs h1 h2 f1 sa sb
  generalize mulS a b = r at HR
  generalize a.natAbs = x at *
  generalize b.natAbs = y at *
  by_cases g1 : 0 < hi
  · have g1' : (0 : Int) < (hi : Int) := by omega
    have E : Hid (r = (0, 9)) := by unfold Hid; rw [HR.out, if_pos (Or.inl g1)]
    clear HR
    rcases sgn a with ⟨s1, t1⟩ | ⟨s1, t1⟩ <;> rcases sgn b with ⟨s2, t2⟩ | ⟨s2, t2⟩
    all_goals
      go_enter Tryz.func75, Tryz.ntmps75
      go_wp2_with fail
      refine C1.out.mono ?_
      rintro e w' ⟨rfl, rfl⟩
      go_wp2_with fail
      refine C2.out.mono ?_
      rintro e w' ⟨rfl, rfl⟩
      go_wp2_with fail
      refine CM.out.mono ?_
      rintro e w' ⟨rfl, rfl⟩
      go_wp2_with fail
      go_ret2
      exact ⟨by rw [E.out]; rfl, rfl⟩
  · obtain rfl : hi = 0 := by omega
    by_cases g2 : 9223372036854775808 < lo
    · have g2' : (9223372036854775808 : Int) < (lo : Int) := by omega
      have E : Hid (r = (0, 9)) := by unfold Hid; rw [HR.out, if_pos (Or.inr (Or.inl g2))]
      clear HR
      rcases sgn a with ⟨s1, t1⟩ | ⟨s1, t1⟩ <;> rcases sgn b with ⟨s2, t2⟩ | ⟨s2, t2⟩
      all_goals
        go_enter Tryz.func75, Tryz.ntmps75
        go_wp2_with fail
        refine C1.out.mono ?_
        rintro e w' ⟨rfl, rfl⟩
        go_wp2_with fail
        refine C2.out.mono ?_
        rintro e w' ⟨rfl, rfl⟩
        go_wp2_with fail
        refine CM.out.mono ?_
        rintro e w' ⟨rfl, rfl⟩
        go_wp2_with fail
        go_ret2
        exact ⟨by rw [E.out]; rfl, rfl⟩
    · have g2' : (lo : Int) ≤ (9223372036854775808 : Int) := by omega
      by_cases g3 : lo = 9223372036854775808
      · have g3' : ((lo : Int) == 9223372036854775808) = true := by simp; omega
        have E : ∀ q : Bool, ((decide (a < 0)) != (decide (b < 0))) = q → Hid (r = if q then (-(lo : Int), 0) else (0, 9)) := by
          intro q hq; rw [hq] at HR; unfold Hid; rw [HR.out]; cases q <;> simp [g3]
        clear HR
        have G3 := Lib.hid g3
        clear g3
        rcases sgn a with ⟨s1, t1⟩ | ⟨s1, t1⟩ <;> rcases sgn b with ⟨s2, t2⟩ | ⟨s2, t2⟩
        all_goals
          have E1 := E _ rfl
          clear E
          simp only [t1, t2, decide_true, decide_false, bne_self_eq_false, Bool.true_bne, Bool.false_bne, Bool.not_false, Bool.not_true, if_true, if_false, Bool.false_eq_true] at E1
          go_enter Tryz.func75, Tryz.ntmps75
          go_wp2_with fail
          refine C1.out.mono ?_
          rintro e w' ⟨rfl, rfl⟩
          go_wp2_with fail
          refine C2.out.mono ?_
          rintro e w' ⟨rfl, rfl⟩
          go_wp2_with fail
          refine CM.out.mono ?_
          rintro e w' ⟨rfl, rfl⟩
          go_wp2_with fail
          go_ret2
          exact ⟨by rw [E1.out]; first | rfl | exact congrArg (fun z : Int => Ending.returned (.tuple #[.int .i64 z, .int .i64 0])) (wrap_neg_u64 lo (by omega)), rfl⟩
      · have g4 : (lo : Int) ≤ (9223372036854775807 : Int) := by omega
        have g3' : ((lo : Int) == 9223372036854775808) = false := by rw [beq_eq_false_iff_ne]; omega
        have g5 : decide ((9223372036854775808 : Int) < (lo : Int)) = false := by rw [decide_eq_false_iff_not]; omega
        have E : ∀ q : Bool, ((decide (a < 0)) != (decide (b < 0))) = q → Hid (r = (if q then -(lo : Int) else lo, 0)) := by
          intro q hq; rw [hq] at HR; unfold Hid; rw [HR.out, if_neg (by omega)]
        clear HR g3 g2 f2 g2'
        rcases sgn a with ⟨s1, t1⟩ | ⟨s1, t1⟩ <;> rcases sgn b with ⟨s2, t2⟩ | ⟨s2, t2⟩
        all_goals
          have E1 := E _ rfl
          clear E
          simp only [t1, t2, decide_true, decide_false, bne_self_eq_false, Bool.true_bne, Bool.false_bne, Bool.not_false, Bool.not_true, if_true, if_false, Bool.false_eq_true] at E1
          go_enter Tryz.func75, Tryz.ntmps75
          go_wp2_with fail
          refine C1.out.mono ?_
          rintro e w' ⟨rfl, rfl⟩
          go_wp2_with fail
          refine C2.out.mono ?_
          rintro e w' ⟨rfl, rfl⟩
          go_wp2_with fail
          refine CM.out.mono ?_
          rintro e w' ⟨rfl, rfl⟩
          go_wp2_with fail
          go_ret2
          exact ⟨by rw [E1.out]; first | rfl | exact congrArg (fun z : Int => Ending.returned (.tuple #[.int .i64 z, .int .i64 0])) (wrap_neg_u64 lo (by omega)), rfl⟩
end Go.Proofs.YtdigfjpknckpfaaGreatDoor
