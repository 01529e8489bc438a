/- errors.Is at a fault's chain and an Errno: the chain's end. No condition beside the chain's reading. -/
import Derived.Test.YtmnmoadkpidggaaDoorRefErr
import Derived.WalkKit
import Derived.LaidEql
import Derived.Stop.Asserts
import Derived.Lib.IfaceEq
import Derived.RowKitTokens
import Derived.Handy
namespace Go.Proofs.YtmnmoadkpidggaaDoor
set_option linter.unusedSimpArgs false
set_option linter.unusedVariables false
open Go.RowKit Go.Extern.Stop Go.Stop Go.Extern

theorem isTypeOf (v : Value) (w : World) : (Extern.ReflectliteType.typeOf #[.iface 87 v]).run Tryd.prog w = .ok (.iface 154 (.agg #[.pointer (some ⟨5, 87, none⟩)])) w := by kernel_rfl
def cmpF : Array Value → Sem Value := Extern.ReflectliteType.method fun t => do Extern.Rtype.noPackHeld "Comparable" t; pure (.bool (← typeInfo t).comparable)
theorem isComparable (w : World) : (cmpF #[.agg #[.pointer (some ⟨5, 87, none⟩)]]).run Tryd.prog w = .ok (.bool true) w := by kernel_rfl
theorem noIsF (v : Value) (xT : TypeId) (w : World) : (Instr.typeAssert (.iface 88 v) xT 156 true).run Tryd.prog w = .ok (.tuple #[.nilIface, .bool false]) w := run_typeAssert_lacksB Tryd.underlying156 (by kernel_rfl) (by kernel_rfl) v xT w
theorem hasUnwrapF (v : Value) (xT : TypeId) (w : World) : (Instr.typeAssert (.iface 88 v) xT 159 true).run Tryd.prog w = .ok (.tuple #[.iface 88 v, .bool true]) w := run_typeAssert_hasB Tryd.underlying159 (by kernel_rfl) v xT w
theorem eql_no (a b : Int) (w : World) : (binOp .eql 34 (.iface 87 (.int .i64 a)) (.iface 87 (.int .i64 b))).run Tryd.prog w = .ok (.bool (a == b)) w :=
  Lib.run_eql_iface_int w a b Tryd.underlying34 (by kernel_rfl) Tryd.underlying87
theorem eql_other (v : Value) (b : Int) (w : World) : (binOp .eql 34 (.iface 88 v) (.iface 87 (.int .i64 b))).run Tryd.prog w = .ok (.bool false) w :=
  run_eql_iface_types 88 87 v _ Tryd.underlying34 (by decide) w

set_option maxRecDepth 100000 in
set_option maxHeartbeats 4000000 in
theorem is1 (p0 : List UInt8) (a0 n : Int) (v : Value) (w : World) (h : ErAt w v (.fault p0 a0 (.no n))) :
    Calls Tryd.prog 70 #[v, .iface 87 (.int .i64 n), .bool true] w fun e w' => e = .returned (.bool true) ∧ Bel w w' := by
  obtain ⟨b0, ev0, rfl, h01, h02, h03, rfl⟩ := h
  have nI := noIsF
  have hU := hasUnwrapF
  have e1 := eql_no n n
  have e2 := fun v => eql_other v n
  rw [beq_self_eq_true] at e1
  have hb0 := lt_of_cell h01
  go_enter Tryd.func70, Tryd.ntmps70
  go_wp2
  refine wp_loop_rounds 2 ?_
  rw [rounds_succ]
  go_wp2
  rw [rounds_succ]
  go_wp2
  go_ret
  exact ⟨rfl, Bel.rfl'⟩

set_option maxRecDepth 100000 in
set_option maxHeartbeats 4000000 in
theorem is2 (p0 p1 : List UInt8) (a0 a1 n : Int) (v : Value) (w : World) (h : ErAt w v (.fault p0 a0 (.fault p1 a1 (.no n)))) :
    Calls Tryd.prog 70 #[v, .iface 87 (.int .i64 n), .bool true] w fun e w' => e = .returned (.bool true) ∧ Bel w w' := by
  obtain ⟨b0, ev0, rfl, h01, h02, h03, ⟨b1, ev1, rfl, h11, h12, h13, rfl⟩⟩ := h
  have nI := noIsF
  have hU := hasUnwrapF
  have e1 := eql_no n n
  have e2 := fun v => eql_other v n
  rw [beq_self_eq_true] at e1
  have hb0 := lt_of_cell h01
  have hb1 := lt_of_cell h11
  go_enter Tryd.func70, Tryd.ntmps70
  go_wp2
  refine wp_loop_rounds 3 ?_
  rw [rounds_succ]
  go_wp2
  rw [rounds_succ]
  go_wp2
  rw [rounds_succ]
  go_wp2
  go_ret
  exact ⟨rfl, Bel.rfl'⟩

/-- How deep a chain is. -/
def deep : Er → Nat
  | .fault _ _ e => deep e + 1
  | _ => 0
theorem is_any (e : Er) (v : Value) (w : World) (h : ErAt w v e) (h1 : 1 ≤ deep e) (h2 : deep e ≤ 2) (n : Int) (hn : numOf e = n) (hnn : n ≠ 0) :
    Calls Tryd.prog 70 #[v, .iface 87 (.int .i64 n), .bool true] w fun e w' => e = .returned (.bool true) ∧ Bel w w' := by
  match e, h, h1, h2, hn with
  | .fault p a (.no m), h, _, _, hn => obtain rfl : m = n := hn; exact is1 _ _ _ v w h
  | .fault p a (.fault p' a' (.no m)), h, _, _, hn => obtain rfl : m = n := hn; exact is2 _ _ _ _ _ v w h
  | .fault p a .nil, h, _, _, hn => exact absurd hn.symm hnn
  | .fault p a (.fault p' a' .nil), h, _, _, hn => exact absurd hn.symm hnn
  | .fault p a (.fault p' a' (.fault _ _ e)), h, _, h2, hn => simp [deep] at h2

set_option maxRecDepth 100000 in
set_option maxHeartbeats 4000000 in
theorem errors_Is (e : Er) (v : Value) (w : World) (h : ErAt w v e) (h1 : 1 ≤ deep e) (h2 : deep e ≤ 2) (n : Int) (hn : numOf e = n) (hnn : n ≠ 0) :
    Calls Tryd.prog 40 #[v, .iface 87 (.int .i64 n)] w fun e w' => e = .returned (.bool true) ∧ Bel w w' := by
  have HI := Lib.hid (fun W (hW : Bel w W) => is_any e v W (h.bel hW) h1 h2 n hn hnn)
  have h8 := @run_callFunc_extern Tryd.prog 69 _ Extern.ReflectliteType.typeOf Tryd.func69 (by kernel_rfl) (by kernel_rfl) (by kernel_rfl) (by kernel_rfl)
  have h32 := @run_callFunc_extern Tryd.prog 133 _ cmpF Tryd.func133 (by kernel_rfl) (by kernel_rfl) (by kernel_rfl) (by kernel_rfl)
  have tT := isTypeOf
  have cT := isComparable
  obtain ⟨b, rfl⟩ : ∃ b, v = .iface 88 (.pointer (some ⟨b, 0, none⟩)) := by
    match e, h, h1 with
    | .fault p a e, ⟨b, _, hv, _⟩, _ => exact ⟨b, hv⟩
  clear h h1 h2 hn hnn
  go_enter Tryd.func40, Tryd.ntmps40
  go_wp2_with fail
  refine (HI.out _ Bel.rfl').mono ?_
  rintro e w' ⟨rfl, hb1⟩
  go_wp2_with fail
  go_ret
  exact ⟨rfl, hb1⟩
end Go.Proofs.YtmnmoadkpidggaaDoor
