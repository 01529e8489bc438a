/-
  DERIVED. GIVEN WITH THE SEED: THE CARDS: each row of YtmnmoadkpidggaaDoorRows.lean that lists a variable, with what it lists TIED to the program's text (the seventh form; the later family's looks); each row that meets fmt, with fmt's text TOLD by the authors' own Lean function (tested against real Go, not proved from fmt's source: count such statements apart). THE CARD IS WHAT COUNTS. Prove the row's statement (the work); the ties are given (YtmnmoadkpidggaaDoorTie.lean); close each card by the builder's one call (the guide's Derived/Test/ToyasCard.lean, 'card_holds'). Laid BY PROGRAM, IN A SANDBOX (cutbox-door.mjs). By AI agents, Wed Nov 11 2026. No macro, syntax, notation, axiom, sorry.
-/
import Derived.Test.YtmnmoadkpidggaaDoorRows
import GoSem.ClaimSeven
namespace Go.Proofs.YtmnmoadkpidggaaDoor
namespace Rows

/-- THE TIED CARD OF 'straddlelaw5.FrameBytes'. -/
def frameBytesCard : Claim7 := { stood := { row := frameBytesRow, standIns := [], harness := (true, "d794564cde2c74ad1eec9a2f583b622c78d850e3d1a2ff804ce3f51e1753270d"), looks := true }, kinds := [], alts := [], laidByText := true, laidKinds := [.handle], laidTests := true, laidLooks := .later }
def FrameBytesCardSaid : Prop := Claim7.holds Tryd.pinned (.plain (OpenSpec.ofChange frameBytesSpec)) frameBytesCard

/-- THE TIED CARD OF 'straddlelaw4.MsgBack'. -/
def msgBackCard : Claim7 := { stood := { row := msgBackRow, standIns := [], harness := (true, "d794564cde2c74ad1eec9a2f583b622c78d850e3d1a2ff804ce3f51e1753270d"), looks := true }, kinds := [], alts := [], laidByText := true, laidKinds := [.data, .data, .data, .handle], laidTests := true, laidLooks := .later }
def MsgBackCardSaid : Prop := Claim7.holds Tryd.pinned (.plain (OpenSpec.ofChange msgBackSpec)) msgBackCard

/-- THE TIED CARD OF 'straddlelaw4.MsgBytes'. -/
def msgBytesCard : Claim7 := { stood := { row := msgBytesRow, standIns := [], harness := (true, "d794564cde2c74ad1eec9a2f583b622c78d850e3d1a2ff804ce3f51e1753270d"), looks := true }, kinds := [], alts := [], laidByText := true, laidKinds := [.data, .data, .data, .handle], laidTests := true, laidLooks := .later }
def MsgBytesCardSaid : Prop := Claim7.holds Tryd.pinned (.plain (OpenSpec.ofChange msgBytesSpec)) msgBytesCard

/-- THE TIED CARD OF 'straddlelaw4.MsgRows'. -/
def msgRowsCard : Claim7 := { stood := { row := msgRowsRow, standIns := [], harness := (true, "d794564cde2c74ad1eec9a2f583b622c78d850e3d1a2ff804ce3f51e1753270d"), looks := true }, kinds := [], alts := [], laidByText := true, laidKinds := [.data, .data, .data, .handle], laidTests := true, laidLooks := .later }
def MsgRowsCardSaid : Prop := Claim7.holds Tryd.pinned (.plain (OpenSpec.ofChange msgRowsSpec)) msgRowsCard

/-- THE TIED CARD OF 'straddlelaw4.MsgCuts'. -/
def msgCutsCard : Claim7 := { stood := { row := msgCutsRow, standIns := [], harness := (true, "d794564cde2c74ad1eec9a2f583b622c78d850e3d1a2ff804ce3f51e1753270d"), looks := true }, kinds := [], alts := [], laidByText := true, laidKinds := [.data, .data, .data, .handle], laidTests := true, laidLooks := .later }
def MsgCutsCardSaid : Prop := Claim7.holds Tryd.pinned (.plain (OpenSpec.ofChange msgCutsSpec)) msgCutsCard

/-- THE SECOND FORM's CARD OF 'straddlelaw5.FrameBytes'. -/
def frameBytesUptoCard : Claim7 := { stood := { row := frameBytesUptoRow, standIns := [], harness := (true, "d794564cde2c74ad1eec9a2f583b622c78d850e3d1a2ff804ce3f51e1753270d"), looks := true }, kinds := [], alts := [], laidByText := true, laidKinds := [.handle], laidTests := true, laidLooks := .later }
def FrameBytesUptoCardSaid : Prop := Claim7.holds Tryd.pinned (.plain (OpenSpec.upto frameBytesSpec)) frameBytesUptoCard

/-- THE SECOND FORM's CARD OF 'straddlelaw4.MsgBack'. -/
def msgBackUptoCard : Claim7 := { stood := { row := msgBackUptoRow, standIns := [], harness := (true, "d794564cde2c74ad1eec9a2f583b622c78d850e3d1a2ff804ce3f51e1753270d"), looks := true }, kinds := [], alts := [], laidByText := true, laidKinds := [.data, .data, .data, .handle], laidTests := true, laidLooks := .later }
def MsgBackUptoCardSaid : Prop := Claim7.holds Tryd.pinned (.plain (OpenSpec.upto msgBackSpec)) msgBackUptoCard

/-- THE SECOND FORM's CARD OF 'straddlelaw4.MsgBytes'. -/
def msgBytesUptoCard : Claim7 := { stood := { row := msgBytesUptoRow, standIns := [], harness := (true, "d794564cde2c74ad1eec9a2f583b622c78d850e3d1a2ff804ce3f51e1753270d"), looks := true }, kinds := [], alts := [], laidByText := true, laidKinds := [.data, .data, .data, .handle], laidTests := true, laidLooks := .later }
def MsgBytesUptoCardSaid : Prop := Claim7.holds Tryd.pinned (.plain (OpenSpec.upto msgBytesSpec)) msgBytesUptoCard

/-- THE SECOND FORM's CARD OF 'straddlelaw4.MsgRows'. -/
def msgRowsUptoCard : Claim7 := { stood := { row := msgRowsUptoRow, standIns := [], harness := (true, "d794564cde2c74ad1eec9a2f583b622c78d850e3d1a2ff804ce3f51e1753270d"), looks := true }, kinds := [], alts := [], laidByText := true, laidKinds := [.data, .data, .data, .handle], laidTests := true, laidLooks := .later }
def MsgRowsUptoCardSaid : Prop := Claim7.holds Tryd.pinned (.plain (OpenSpec.upto msgRowsSpec)) msgRowsUptoCard

/-- THE SECOND FORM's CARD OF 'straddlelaw4.MsgCuts'. -/
def msgCutsUptoCard : Claim7 := { stood := { row := msgCutsUptoRow, standIns := [], harness := (true, "d794564cde2c74ad1eec9a2f583b622c78d850e3d1a2ff804ce3f51e1753270d"), looks := true }, kinds := [], alts := [], laidByText := true, laidKinds := [.data, .data, .data, .handle], laidTests := true, laidLooks := .later }
def MsgCutsUptoCardSaid : Prop := Claim7.holds Tryd.pinned (.plain (OpenSpec.upto msgCutsSpec)) msgCutsUptoCard
end Rows
end Go.Proofs.YtmnmoadkpidggaaDoor
