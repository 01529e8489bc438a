/- Numbers between two bounds: num.In; words of numbers. No condition. -/
import Derived.Test.YtmnmoadkpidggaaDoorBase
import Derived.Test.YtmnmoadkpidggaaDoorProg
import Derived.Test.YtmnmoadkpidggaaDoorShelf
import Derived.Deep.QuietTactic
import Derived.BigQuiet
import Derived.Deep.RegionHeld3
import Derived.Deep.DrawnRows
import Derived.Deep.AppendLies
import Derived.Handy
namespace Go.Proofs.YtmnmoadkpidggaaDoor
set_option linter.unusedSimpArgs false
set_option linter.unusedVariables false
open Go.RowKit

theorem wrap_u64_neg (x : Int) (h : I64 x) (hx : x < 0) : IntKind.u64.wrap x = x + 18446744073709551616 := by
  unfold I64 at h; simp [IntKind.wrap, IntKind.bits, IntKind.signed]; omega

def sizeS (n : Int) : Int := n.natAbs

theorem ret_int {k : IntKind} {a b : Int} (h : a = b) : Ending.returned (.int k a) = .returned (.int k b) := by rw [h]

theorem sizeS_nat (n : Int) : sizeS n = (n.natAbs : Int) := rfl
theorem sizeS_bd (n : Int) (h : I64 n) : n.natAbs ≤ 9223372036854775808 := by unfold I64 at h; omega

def two (k : IntKind) (p : Int × Int) : Value := .tuple #[.int .i64 p.1, .int k p.2]

set_option maxHeartbeats 400000 in
theorem num_In (n lo hi : Int) (w : World) : Calls Tryd.prog 75 #[.int .i64 n, .int .i64 lo, .int .i64 hi] w fun e w' => e = .returned (.bool (decide (lo ≤ n ∧ n ≤ hi))) ∧ w' = w := by
  by_cases h1 : lo ≤ n
  · by_cases h2 : n ≤ hi
    · have e : decide (lo ≤ n ∧ n ≤ hi) = true := by simp [h1, h2]
      rw [e]; clear e
      go_enter Tryd.func75, Tryd.ntmps75
      go_wp2
      go_ret
      exact ⟨by simp, rfl⟩
    · have e : decide (lo ≤ n ∧ n ≤ hi) = false := by simp [h2]
      rw [e]; clear e
      go_enter Tryd.func75, Tryd.ntmps75
      go_wp2
      go_ret
      exact ⟨by simp, rfl⟩
  · have e : decide (lo ≤ n ∧ n ≤ hi) = false := by simp [h1]
    rw [e]; clear e
    go_enter Tryd.func75, Tryd.ntmps75
    go_wp2
    go_ret
    exact ⟨by simp, rfl⟩

end Go.Proofs.YtmnmoadkpidggaaDoor
