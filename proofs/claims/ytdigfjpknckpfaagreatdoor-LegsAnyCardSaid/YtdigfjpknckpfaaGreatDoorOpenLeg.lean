/- Legs, as an argument's reading tells them. No condition. -/
import Derived.Test.YtdigfjpknckpfaaGreatDoorOpen
import Derived.Test.YtdigfjpknckpfaaGreatDoorLegA
namespace Go.Proofs.YtdigfjpknckpfaaGreatDoor
set_option linter.unusedSimpArgs false
set_option linter.unusedVariables false
open Go.RowKit Go.ChangeShapes Go.WideShapes

theorem len3 {α : Type _} {l : List α} (h : l.length = 3) : ∃ a b c, l = [a, b, c] := by
  match l, h with
  | [a, b, c], _ => exact ⟨a, b, c, rfl⟩

section
variable {H : Type} {en : TypeId × Value → H} {w : World} {base : Nat} {spare : Nat → Bool} {held : Bool}
def LegOk (x : Leg) : Prop := I64 x.s ∧ I64 x.g ∧ I64 x.r
set_option maxRecDepth 100000 in
theorem rd_leg : Rd en Tryz.prog w base spare held encLeg LegOk 62 := by
  intro n cs y h
  obtain ⟨xs, n', rfl, rfl, hl, hlen, hf⟩ := DataW.trod_struct Tryz.underlying62 h
  have e39 : Tryz.prog.cellsOf 62 = 3 := by kernel_rfl
  have hl : cs.length = 3 := hl.trans e39
  obtain ⟨c0, c1, c2, rfl⟩ := len3 hl
  obtain ⟨y0, y1, y2, rfl⟩ := len3 (show xs.length = 3 from hlen)
  have h0 := hf 0 _ rfl
  have h1 := hf 1 _ rfl
  have h2 := hf 2 _ rfl
  have e3 : Tryz.prog.cellsOf 3 = 1 := by kernel_rfl
  have e2 : Tryz.prog.cellsOf 2 = 1 := by kernel_rfl
  simp only [e3, e2, List.drop_zero, List.drop_succ_cons, List.take_succ_cons, List.take_zero, List.getElem?_cons_zero, List.getElem?_cons_succ] at h0 h1 h2
  obtain ⟨a, ha, _, wa⟩ := DataW.trod_int Tryz.underlying3 h0
  obtain ⟨b, hb, _, wb⟩ := DataW.trod_int Tryz.underlying3 h1
  obtain ⟨c, hc, _, wc⟩ := DataW.trod_int Tryz.underlying2 h2
  obtain rfl := (List.cons.inj ha).1
  obtain rfl := (List.cons.inj hb).1
  obtain rfl := (List.cons.inj hc).1
  exact ⟨⟨a, b, c⟩, rfl, bounds_i64 wa, bounds_i64 wb, bounds_i64 wc⟩
end
end Go.Proofs.YtdigfjpknckpfaaGreatDoor
