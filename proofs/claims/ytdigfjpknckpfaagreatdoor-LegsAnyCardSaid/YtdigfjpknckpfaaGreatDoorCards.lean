/-
  DERIVED. GIVEN WITH THE SEED: THE CARDS: each row of YtdigfjpknckpfaaGreatDoorRows.lean that lists a variable, with what it lists TIED to the program's text (the seventh form; the later family's looks); each row that meets fmt, with fmt's text TOLD by the authors' own Lean function (tested against real Go, not proved from fmt's source: count such statements apart). THE CARD IS WHAT COUNTS. Prove the row's statement (the work); the ties are given (YtdigfjpknckpfaaGreatDoorTie.lean); close each card by the builder's one call (the guide's Derived/Test/ToyasCard.lean, 'card_holds'). Laid BY PROGRAM, IN A SANDBOX (cutbox-door.mjs). By AI agents, Wed Nov 11 2026. No macro, syntax, notation, axiom, sorry.
-/
import Derived.Test.YtdigfjpknckpfaaGreatDoorRows
import GoSem.ClaimSeven
namespace Go.Proofs.YtdigfjpknckpfaaGreatDoor
namespace Rows

/-- THE TIED CARD OF 'straddlelaw17.LegsAny'. -/
def legsAnyCard : Claim7 := { stood := { row := legsAnyRow, standIns := [], harness := (true, "6e0f0e833ed580dd66a32bd3c5673d82decad370285ccb1d5f1b23df81ffa5f4"), looks := true }, kinds := [], alts := [], laidByText := true, laidKinds := [.data, .data, .data, .handle], laidTests := true, laidLooks := .later }
def LegsAnyCardSaid : Prop := Claim7.holds Tryz.pinned (.plain (OpenSpec.ofChange legsAnySpec)) legsAnyCard

/-- THE TIED CARD OF 'straddlelaw18.StratPlays'. -/
def stratPlaysCard : Claim7 := { stood := { row := stratPlaysRow, standIns := [], harness := (true, "6e0f0e833ed580dd66a32bd3c5673d82decad370285ccb1d5f1b23df81ffa5f4"), looks := true }, kinds := [], alts := [], laidByText := true, laidKinds := [.handle], laidTests := true, laidLooks := .later }
def StratPlaysCardSaid : Prop := Claim7.holds Tryz.pinned (.plain (OpenSpec.ofChange stratPlaysSpec)) stratPlaysCard

/-- THE SECOND FORM's CARD OF 'straddlelaw17.LegsAny'. -/
def legsAnyUptoCard : Claim7 := { stood := { row := legsAnyUptoRow, standIns := [], harness := (true, "6e0f0e833ed580dd66a32bd3c5673d82decad370285ccb1d5f1b23df81ffa5f4"), looks := true }, kinds := [], alts := [], laidByText := true, laidKinds := [.data, .data, .data, .handle], laidTests := true, laidLooks := .later }
def LegsAnyUptoCardSaid : Prop := Claim7.holds Tryz.pinned (.plain (OpenSpec.upto legsAnySpec)) legsAnyUptoCard

/-- THE SECOND FORM's CARD OF 'straddlelaw18.StratPlays'. -/
def stratPlaysUptoCard : Claim7 := { stood := { row := stratPlaysUptoRow, standIns := [], harness := (true, "6e0f0e833ed580dd66a32bd3c5673d82decad370285ccb1d5f1b23df81ffa5f4"), looks := true }, kinds := [], alts := [], laidByText := true, laidKinds := [.handle], laidTests := true, laidLooks := .later }
def StratPlaysUptoCardSaid : Prop := Claim7.holds Tryz.pinned (.plain (OpenSpec.upto stratPlaysSpec)) stratPlaysUptoCard
end Rows
end Go.Proofs.YtdigfjpknckpfaaGreatDoor
