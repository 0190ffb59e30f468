/-
  DERIVED. GIVEN WITH THE SEED: THE CARDS: each row of YtollgfhpcidkgaaGreatDoorRows.lean that lists a variable, with what it lists TIED to the program's text (the seventh form; the later family's looks); each row that meets fmt, with fmt's text TOLD by the authors' own Lean function (tested against real Go, not proved from fmt's source: count such statements apart). THE CARD IS WHAT COUNTS. Prove the row's statement (the work); the ties are given (YtollgfhpcidkgaaGreatDoorTie.lean); close each card by the builder's one call (the guide's Derived/Test/ToyasCard.lean, 'card_holds'). Laid BY PROGRAM, IN A SANDBOX (cutbox-door.mjs). By AI agents, Wed Nov 11 2026. No macro, syntax, notation, axiom, sorry.
-/
import Derived.Test.YtollgfhpcidkgaaGreatDoorRows
import GoSem.ClaimSeven
namespace Go.Proofs.YtollgfhpcidkgaaGreatDoor
namespace Rows

/-- THE TIED CARD OF 'quadrillekeep.DeskPieces'. -/
def deskPiecesCard : Claim7 := { stood := { row := deskPiecesRow, standIns := [], harness := (true, "47d1c0b6a1b4bd7974a19d83ed1a978d96f56873ce36dd3a2f4a3b1f56593715"), looks := true }, kinds := [], alts := [], goes := true, laidByText := true, laidKinds := [.data, .data, .data, .data, .handle, .sentinel, .sentinel, .data, .pinned], laidTests := true, laidLooks := .later }
def DeskPiecesCardSaid : Prop := Claim7.holds Tryz.pinned (.plain (OpenSpec.ofChange deskPiecesSpec)) deskPiecesCard

/-- THE TIED CARD OF 'quadrillekeep.ManyWorkers'. -/
def manyWorkersCard : Claim7 := { stood := { row := manyWorkersRow, standIns := [], harness := (true, "47d1c0b6a1b4bd7974a19d83ed1a978d96f56873ce36dd3a2f4a3b1f56593715"), looks := true }, kinds := [], alts := [], goes := true, laidByText := true, laidKinds := [.data, .data, .data, .data, .handle, .sentinel, .sentinel, .data, .pinned], laidTests := true, laidLooks := .later }
def ManyWorkersCardSaid : Prop := Claim7.holds Tryz.pinned (.plain (OpenSpec.ofChange manyWorkersSpec)) manyWorkersCard

/-- THE TIED CARD OF 'quadrillekeep.DeskJudges'. -/
def deskJudgesCard : Claim7 := { stood := { row := deskJudgesRow, standIns := [], harness := (true, "47d1c0b6a1b4bd7974a19d83ed1a978d96f56873ce36dd3a2f4a3b1f56593715"), looks := true }, kinds := [], alts := [], goes := true, laidByText := true, laidKinds := [.data, .data, .data, .data, .handle, .sentinel, .sentinel, .data, .pinned], laidTests := true, laidLooks := .later }
def DeskJudgesCardSaid : Prop := Claim7.holds Tryz.pinned (.plain (OpenSpec.ofChange deskJudgesSpec)) deskJudgesCard

/-- THE SECOND FORM's CARD OF 'quadrillekeep.DeskPieces'. -/
def deskPiecesUptoCard : Claim7 := { stood := { row := deskPiecesUptoRow, standIns := [], harness := (true, "47d1c0b6a1b4bd7974a19d83ed1a978d96f56873ce36dd3a2f4a3b1f56593715"), looks := true }, kinds := [], alts := [], goes := true, laidByText := true, laidKinds := [.data, .data, .data, .data, .handle, .sentinel, .sentinel, .data, .pinned], laidTests := true, laidLooks := .later }
def DeskPiecesUptoCardSaid : Prop := Claim7.holds Tryz.pinned (.plain (OpenSpec.upto deskPiecesSpec)) deskPiecesUptoCard

/-- THE SECOND FORM's CARD OF 'quadrillekeep.ManyWorkers'. -/
def manyWorkersUptoCard : Claim7 := { stood := { row := manyWorkersUptoRow, standIns := [], harness := (true, "47d1c0b6a1b4bd7974a19d83ed1a978d96f56873ce36dd3a2f4a3b1f56593715"), looks := true }, kinds := [], alts := [], goes := true, laidByText := true, laidKinds := [.data, .data, .data, .data, .handle, .sentinel, .sentinel, .data, .pinned], laidTests := true, laidLooks := .later }
def ManyWorkersUptoCardSaid : Prop := Claim7.holds Tryz.pinned (.plain (OpenSpec.upto manyWorkersSpec)) manyWorkersUptoCard

/-- THE SECOND FORM's CARD OF 'quadrillekeep.DeskJudges'. -/
def deskJudgesUptoCard : Claim7 := { stood := { row := deskJudgesUptoRow, standIns := [], harness := (true, "47d1c0b6a1b4bd7974a19d83ed1a978d96f56873ce36dd3a2f4a3b1f56593715"), looks := true }, kinds := [], alts := [], goes := true, laidByText := true, laidKinds := [.data, .data, .data, .data, .handle, .sentinel, .sentinel, .data, .pinned], laidTests := true, laidLooks := .later }
def DeskJudgesUptoCardSaid : Prop := Claim7.holds Tryz.pinned (.plain (OpenSpec.upto deskJudgesSpec)) deskJudgesUptoCard
end Rows
end Go.Proofs.YtollgfhpcidkgaaGreatDoor
