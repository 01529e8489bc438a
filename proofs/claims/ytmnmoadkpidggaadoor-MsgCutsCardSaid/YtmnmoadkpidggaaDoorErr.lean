/- How an error reads in memory: nil, an Errno, a fault that wraps one. No condition. -/
import Derived.Test.YtmnmoadkpidggaaDoorBase
import Derived.Test.YtmnmoadkpidggaaDoorProg
namespace Go.Proofs.YtmnmoadkpidggaaDoor
set_option linter.unusedSimpArgs false
set_option linter.unusedVariables false
open Go.RowKit

def ErAt (w : World) : Value → Er → Prop
  | v, .nil => v = .nilIface
  | v, .no n => v = .iface 87 (.int .i64 n)
  | v, .fault p a e => ∃ b ev, v = .iface 88 (.pointer (some ⟨b, 0, none⟩)) ∧ w.cell? ⟨b, 0, none⟩ = some (.string ⟨p.toArray⟩) ∧ w.cell? ⟨b, 1, none⟩ = some (.int .i64 a) ∧ w.cell? ⟨b, 2, none⟩ = some ev ∧ ErAt w ev e

theorem ErAt.bel {w w' : World} (hB : Bel w w') : ∀ {e : Er} {v : Value}, ErAt w v e → ErAt w' v e
  | .nil, _, h => h
  | .no _, _, h => h
  | .fault _ _ e, _, ⟨b, ev, h1, h2, h3, h4, h5⟩ => ⟨b, ev, h1, hB.cellv h2, hB.cellv h3, hB.cellv h4, ErAt.bel hB (e := e) h5⟩

def isNilB : Er → Bool
  | .nil => true
  | _ => false

/-- 'err != nil', 'err == nil' at an error that reads so. -/
theorem ErAt.neqNil {w W : World} {v : Value} {e : Er} (h : ErAt w v e) : (binOp .neq 34 v .nilIface).run Tryd.prog W = .ok (.bool (!isNilB e)) W := by
  cases e with
  | nil => obtain rfl := h; kernel_rfl
  | no n => obtain rfl := h; kernel_rfl
  | fault p a e => obtain ⟨b, ev, rfl, _⟩ := h; kernel_rfl
theorem ErAt.eqlNil {w W : World} {v : Value} {e : Er} (h : ErAt w v e) : (binOp .eql 34 v .nilIface).run Tryd.prog W = .ok (.bool (isNilB e)) W := by
  cases e with
  | nil => obtain rfl := h; kernel_rfl
  | no n => obtain rfl := h; kernel_rfl
  | fault p a e => obtain ⟨b, ev, rfl, _⟩ := h; kernel_rfl
/-- .. its guard. -/
theorem ErAt.guard {w W : World} {v : Value} {e : Er} (h : ErAt w v e) (op : BinOp) (x : Operand) : (eqGuard op 34 x (.const .nilIface) v .nilIface).run Tryd.prog W = .ok () W := by
  cases e with
  | nil => obtain rfl := h; cases op <;> first | rfl | (cases x <;> rfl)
  | no n => obtain rfl := h; cases op <;> rfl
  | fault p a e => obtain ⟨b, ev, rfl, _⟩ := h; cases op <;> rfl
end Go.Proofs.YtmnmoadkpidggaaDoor
