/- The reference's number without its sign. Condition: an int64 number. -/
import Derived.Test.YtmnmoadkpidggaaDoorNumA
namespace Go.Proofs.YtmnmoadkpidggaaDoor
set_option linter.unusedSimpArgs false
set_option linter.unusedVariables false
open Go.RowKit

set_option maxHeartbeats 400000 in
theorem ref_size (n : Int) (w : World) (h : I64 n) : Calls Tryd.prog 80 #[.int .i64 n] w fun e w' => e = .returned (.int .u64 (sizeS n)) ∧ w' = w := by
  have hs1 : n < 0 → IntKind.u64.wrap (IntKind.u64.wrap (0 - (n + 1)) + 1) = sizeS n := by
    unfold I64 at h
    unfold sizeS
    simp [IntKind.wrap, IntKind.bits, IntKind.signed]; omega
  have hs2 : ¬ n < 0 → IntKind.u64.wrap n = sizeS n := by
    unfold I64 at h
    unfold sizeS
    simp [IntKind.wrap, IntKind.bits, IntKind.signed]; omega
  by_cases hn : n < 0
  · have H := Lib.hid (hs1 hn)
    have hb := h.1
    clear hs1 hs2 h
    go_enter Tryd.func80, Tryd.ntmps80
    go_wp2
    go_ret
    exact ⟨ret_int (by unfold sizeS; omega), rfl⟩
  · have H := Lib.hid (hs2 hn)
    clear hs1 hs2 h
    go_enter Tryd.func80, Tryd.ntmps80
    go_wp2
    go_ret
    exact ⟨ret_int H.out, rfl⟩

end Go.Proofs.YtmnmoadkpidggaaDoor
