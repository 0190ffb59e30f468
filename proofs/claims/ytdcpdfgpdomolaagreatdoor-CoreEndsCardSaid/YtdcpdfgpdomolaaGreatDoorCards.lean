/-
  DERIVED. GIVEN WITH THE SEED: THE CARDS: each row of YtdcpdfgpdomolaaGreatDoorRows.lean that lists a variable, with what it lists TIED to the program's text (the seventh form; the later family's looks); each row that meets fmt, with fmt's text TOLD by the authors' own Lean function (tested against real Go, not proved from fmt's source: count such statements apart). THE CARD IS WHAT COUNTS. Prove the row's statement (the work); the ties are given (YtdcpdfgpdomolaaGreatDoorTie.lean); close each card by the builder's one call (the guide's Derived/Test/ToyasCard.lean, 'card_holds'). Laid BY PROGRAM, IN A SANDBOX (cutbox-door.mjs). By AI agents, Wed Nov 11 2026. No macro, syntax, notation, axiom, sorry.
-/
import Derived.Test.YtdcpdfgpdomolaaGreatDoorRows
import GoSem.ClaimSeven
namespace Go.Proofs.YtdcpdfgpdomolaaGreatDoor
namespace Rows

/-- THE TIED CARD OF 'quadrillekeep.CoreSleeps'. -/
def coreSleepsCard : Claim7 := { stood := { row := coreSleepsRow, standIns := [], harness := (true, "90a16f39142151d9f056e8d513840df076117f67e201a29fae5a9e6ced79d334"), looks := true }, kinds := [], alts := [], laidByText := true, laidKinds := [.data, .data, .data, .data, .handle, .sentinel, .sentinel, .pinned], laidTests := true, laidLooks := .later }
def CoreSleepsCardSaid : Prop := Claim7.holds Tryz.pinned (.plain (OpenSpec.ofChange coreSleepsSpec)) coreSleepsCard

/-- THE TIED CARD OF 'quadrillekeep.CoreActs'. -/
def coreActsCard : Claim7 := { stood := { row := coreActsRow, standIns := [], harness := (true, "90a16f39142151d9f056e8d513840df076117f67e201a29fae5a9e6ced79d334"), looks := true }, kinds := [], alts := [], laidByText := true, laidKinds := [.data, .data, .data, .data, .handle, .sentinel, .sentinel, .pinned], laidTests := true, laidLooks := .later }
def CoreActsCardSaid : Prop := Claim7.holds Tryz.pinned (.plain (OpenSpec.ofChange coreActsSpec)) coreActsCard

/-- THE TIED CARD OF 'quadrillekeep.CoreEnds'. -/
def coreEndsCard : Claim7 := { stood := { row := coreEndsRow, standIns := [], harness := (true, "90a16f39142151d9f056e8d513840df076117f67e201a29fae5a9e6ced79d334"), looks := true }, kinds := [], alts := [], laidByText := true, laidKinds := [.data, .data, .data, .data, .handle, .sentinel, .sentinel, .pinned], laidTests := true, laidLooks := .later }
def CoreEndsCardSaid : Prop := Claim7.holds Tryz.pinned (.plain (OpenSpec.ofChange coreEndsSpec)) coreEndsCard

/-- THE SECOND FORM's CARD OF 'quadrillekeep.CoreSleeps'. -/
def coreSleepsUptoCard : Claim7 := { stood := { row := coreSleepsUptoRow, standIns := [], harness := (true, "90a16f39142151d9f056e8d513840df076117f67e201a29fae5a9e6ced79d334"), looks := true }, kinds := [], alts := [], laidByText := true, laidKinds := [.data, .data, .data, .data, .handle, .sentinel, .sentinel, .pinned], laidTests := true, laidLooks := .later }
def CoreSleepsUptoCardSaid : Prop := Claim7.holds Tryz.pinned (.plain (OpenSpec.upto coreSleepsSpec)) coreSleepsUptoCard

/-- THE SECOND FORM's CARD OF 'quadrillekeep.CoreActs'. -/
def coreActsUptoCard : Claim7 := { stood := { row := coreActsUptoRow, standIns := [], harness := (true, "90a16f39142151d9f056e8d513840df076117f67e201a29fae5a9e6ced79d334"), looks := true }, kinds := [], alts := [], laidByText := true, laidKinds := [.data, .data, .data, .data, .handle, .sentinel, .sentinel, .pinned], laidTests := true, laidLooks := .later }
def CoreActsUptoCardSaid : Prop := Claim7.holds Tryz.pinned (.plain (OpenSpec.upto coreActsSpec)) coreActsUptoCard

/-- THE SECOND FORM's CARD OF 'quadrillekeep.CoreEnds'. -/
def coreEndsUptoCard : Claim7 := { stood := { row := coreEndsUptoRow, standIns := [], harness := (true, "90a16f39142151d9f056e8d513840df076117f67e201a29fae5a9e6ced79d334"), looks := true }, kinds := [], alts := [], laidByText := true, laidKinds := [.data, .data, .data, .data, .handle, .sentinel, .sentinel, .pinned], laidTests := true, laidLooks := .later }
def CoreEndsUptoCardSaid : Prop := Claim7.holds Tryz.pinned (.plain (OpenSpec.upto coreEndsSpec)) coreEndsUptoCard
end Rows
end Go.Proofs.YtdcpdfgpdomolaaGreatDoor
