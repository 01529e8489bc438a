/-
  DERIVED. GIVEN WITH THE SEED: THE CARDS: each row of YtdigfjpknckpfaaDoorRows.lean that lists a variable, with what it lists TIED to the program's text (the seventh form; the later family's looks); each row that meets fmt, with fmt's text TOLD by the authors' own Lean function (tested against real Go, not proved from fmt's source: count such statements apart). THE CARD IS WHAT COUNTS. Prove the row's statement (the work); the ties are given (YtdigfjpknckpfaaDoorTie.lean); close each card by the builder's one call (the guide's Derived/Test/ToyasCard.lean, 'card_holds'). Laid BY PROGRAM, IN A SANDBOX (cutbox-door.mjs). By AI agents, Wed Nov 11 2026. No macro, syntax, notation, axiom, sorry.
-/
import Derived.Test.YtdigfjpknckpfaaDoorRows
import GoSem.ClaimSeven
namespace Go.Proofs.YtdigfjpknckpfaaDoor
namespace Rows

/-- THE TIED CARD OF 'straddlelaw17.LegsNet'. -/
def legsNetCard : Claim7 := { stood := { row := legsNetRow, standIns := [], harness := (true, "0366e11efc4ea74d315e99bd02e6714ee1ee2611bead3c4d0b89ebd35a236068"), looks := false }, kinds := [], alts := [], laidByText := true, laidKinds := [.data, .data, .data], laidTests := true, laidLooks := .later }
def LegsNetCardSaid : Prop := Claim7.holds Tryd.pinned (.plain (OpenSpec.ofChange legsNetSpec)) legsNetCard

/-- THE TIED CARD OF 'straddlelaw17.LegsShuffled'. -/
def legsShuffledCard : Claim7 := { stood := { row := legsShuffledRow, standIns := [], harness := (true, "0366e11efc4ea74d315e99bd02e6714ee1ee2611bead3c4d0b89ebd35a236068"), looks := false }, kinds := [], alts := [], laidByText := true, laidKinds := [.data, .data, .data], laidTests := true, laidLooks := .later }
def LegsShuffledCardSaid : Prop := Claim7.holds Tryd.pinned (.plain (OpenSpec.ofChange legsShuffledSpec)) legsShuffledCard

/-- THE TIED CARD OF 'straddlelaw17.LegsRound'. -/
def legsRoundCard : Claim7 := { stood := { row := legsRoundRow, standIns := [], harness := (true, "0366e11efc4ea74d315e99bd02e6714ee1ee2611bead3c4d0b89ebd35a236068"), looks := false }, kinds := [], alts := [], laidByText := true, laidKinds := [.data, .data, .data], laidTests := true, laidLooks := .later }
def LegsRoundCardSaid : Prop := Claim7.holds Tryd.pinned (.plain (OpenSpec.ofChange legsRoundSpec)) legsRoundCard

/-- THE TIED CARD OF 'straddlelaw17.LegsLimits'. -/
def legsLimitsCard : Claim7 := { stood := { row := legsLimitsRow, standIns := [], harness := (true, "0366e11efc4ea74d315e99bd02e6714ee1ee2611bead3c4d0b89ebd35a236068"), looks := false }, kinds := [], alts := [], laidByText := true, laidKinds := [.data, .data, .data], laidTests := true, laidLooks := .later }
def LegsLimitsCardSaid : Prop := Claim7.holds Tryd.pinned (.plain (OpenSpec.ofChange legsLimitsSpec)) legsLimitsCard

/-- THE TIED CARD OF 'straddlelaw17.LegsGcd'. -/
def legsGcdCard : Claim7 := { stood := { row := legsGcdRow, standIns := [], harness := (true, "0366e11efc4ea74d315e99bd02e6714ee1ee2611bead3c4d0b89ebd35a236068"), looks := false }, kinds := [], alts := [], laidByText := true, laidKinds := [.data, .data, .data], laidTests := true, laidLooks := .later }
def LegsGcdCardSaid : Prop := Claim7.holds Tryd.pinned (.plain (OpenSpec.ofChange legsGcdSpec)) legsGcdCard

/-- THE SECOND FORM's CARD OF 'straddlelaw17.LegsNet'. -/
def legsNetUptoCard : Claim7 := { stood := { row := legsNetUptoRow, standIns := [], harness := (true, "0366e11efc4ea74d315e99bd02e6714ee1ee2611bead3c4d0b89ebd35a236068"), looks := false }, kinds := [], alts := [], laidByText := true, laidKinds := [.data, .data, .data], laidTests := true, laidLooks := .later }
def LegsNetUptoCardSaid : Prop := Claim7.holds Tryd.pinned (.plain (OpenSpec.upto legsNetSpec)) legsNetUptoCard

/-- THE SECOND FORM's CARD OF 'straddlelaw17.LegsShuffled'. -/
def legsShuffledUptoCard : Claim7 := { stood := { row := legsShuffledUptoRow, standIns := [], harness := (true, "0366e11efc4ea74d315e99bd02e6714ee1ee2611bead3c4d0b89ebd35a236068"), looks := false }, kinds := [], alts := [], laidByText := true, laidKinds := [.data, .data, .data], laidTests := true, laidLooks := .later }
def LegsShuffledUptoCardSaid : Prop := Claim7.holds Tryd.pinned (.plain (OpenSpec.upto legsShuffledSpec)) legsShuffledUptoCard

/-- THE SECOND FORM's CARD OF 'straddlelaw17.LegsRound'. -/
def legsRoundUptoCard : Claim7 := { stood := { row := legsRoundUptoRow, standIns := [], harness := (true, "0366e11efc4ea74d315e99bd02e6714ee1ee2611bead3c4d0b89ebd35a236068"), looks := false }, kinds := [], alts := [], laidByText := true, laidKinds := [.data, .data, .data], laidTests := true, laidLooks := .later }
def LegsRoundUptoCardSaid : Prop := Claim7.holds Tryd.pinned (.plain (OpenSpec.upto legsRoundSpec)) legsRoundUptoCard

/-- THE SECOND FORM's CARD OF 'straddlelaw17.LegsLimits'. -/
def legsLimitsUptoCard : Claim7 := { stood := { row := legsLimitsUptoRow, standIns := [], harness := (true, "0366e11efc4ea74d315e99bd02e6714ee1ee2611bead3c4d0b89ebd35a236068"), looks := false }, kinds := [], alts := [], laidByText := true, laidKinds := [.data, .data, .data], laidTests := true, laidLooks := .later }
def LegsLimitsUptoCardSaid : Prop := Claim7.holds Tryd.pinned (.plain (OpenSpec.upto legsLimitsSpec)) legsLimitsUptoCard

/-- THE SECOND FORM's CARD OF 'straddlelaw17.LegsGcd'. -/
def legsGcdUptoCard : Claim7 := { stood := { row := legsGcdUptoRow, standIns := [], harness := (true, "0366e11efc4ea74d315e99bd02e6714ee1ee2611bead3c4d0b89ebd35a236068"), looks := false }, kinds := [], alts := [], laidByText := true, laidKinds := [.data, .data, .data], laidTests := true, laidLooks := .later }
def LegsGcdUptoCardSaid : Prop := Claim7.holds Tryd.pinned (.plain (OpenSpec.upto legsGcdSpec)) legsGcdUptoCard
end Rows
end Go.Proofs.YtdigfjpknckpfaaDoor
