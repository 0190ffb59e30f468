/-
  DERIVED. GIVEN WITH THE SEED: THE CARDS: each row of YtlimhldkkbaohaaGreatDoorRows.lean that lists a variable, with what it lists TIED to the program's text (the seventh form; the later family's looks); each row that meets fmt, with fmt's text TOLD by the authors' own Lean function (tested against real Go, not proved from fmt's source: count such statements apart). THE CARD IS WHAT COUNTS. Prove the row's statement (the work); the ties are given (YtlimhldkkbaohaaGreatDoorTie.lean); close each card by the builder's one call (the guide's Derived/Test/ToyasCard.lean, 'card_holds'). Laid BY PROGRAM, IN A SANDBOX (cutbox-door.mjs). By AI agents, Wed Nov 11 2026. No macro, syntax, notation, axiom, sorry.
-/
import Derived.Test.YtlimhldkkbaohaaGreatDoorRows
import GoSem.ClaimSeven
namespace Go.Proofs.YtlimhldkkbaohaaGreatDoor
namespace Rows

/-- THE TIED CARD OF 'quadrillekeep.DanceRight'. -/
def danceRightCard : Claim7 := { stood := { row := danceRightRow, standIns := [], harness := (true, "bf11caf1ac3daa28c5ef1f9a31a890d7b944b3f551998b37aa8b217340c54992"), looks := true }, kinds := [], alts := [], laidByText := true, laidKinds := [.data, .data, .data, .data, .handle, .sentinel, .sentinel, .pinned], laidTests := true, laidLooks := .later }
def DanceRightCardSaid : Prop := Claim7.holds Tryz.pinned (.plain (OpenSpec.ofChange danceRightSpec)) danceRightCard

/-- THE TIED CARD OF 'quadrillekeep.StoryTrue'. -/
def storyTrueCard : Claim7 := { stood := { row := storyTrueRow, standIns := [], harness := (true, "bf11caf1ac3daa28c5ef1f9a31a890d7b944b3f551998b37aa8b217340c54992"), looks := true }, kinds := [], alts := [], laidByText := true, laidKinds := [.data, .data, .data, .data, .handle, .sentinel, .sentinel, .data, .pinned], laidTests := true, laidLooks := .later }
def StoryTrueCardSaid : Prop := Claim7.holds Tryz.pinned (.plain (OpenSpec.ofChange storyTrueSpec)) storyTrueCard

/-- THE TIED CARD OF 'quadrillekeep.DanceThin'. -/
def danceThinCard : Claim7 := { stood := { row := danceThinRow, standIns := [], harness := (true, "bf11caf1ac3daa28c5ef1f9a31a890d7b944b3f551998b37aa8b217340c54992"), looks := true }, kinds := [], alts := [], laidByText := true, laidKinds := [.handle], laidTests := true, laidLooks := .later }
def DanceThinCardSaid : Prop := Claim7.holds Tryz.pinned (.plain (OpenSpec.ofChange danceThinSpec)) danceThinCard

/-- THE SECOND FORM's CARD OF 'quadrillekeep.DanceRight'. -/
def danceRightUptoCard : Claim7 := { stood := { row := danceRightUptoRow, standIns := [], harness := (true, "bf11caf1ac3daa28c5ef1f9a31a890d7b944b3f551998b37aa8b217340c54992"), looks := true }, kinds := [], alts := [], laidByText := true, laidKinds := [.data, .data, .data, .data, .handle, .sentinel, .sentinel, .pinned], laidTests := true, laidLooks := .later }
def DanceRightUptoCardSaid : Prop := Claim7.holds Tryz.pinned (.plain (OpenSpec.upto danceRightSpec)) danceRightUptoCard

/-- THE SECOND FORM's CARD OF 'quadrillekeep.StoryTrue'. -/
def storyTrueUptoCard : Claim7 := { stood := { row := storyTrueUptoRow, standIns := [], harness := (true, "bf11caf1ac3daa28c5ef1f9a31a890d7b944b3f551998b37aa8b217340c54992"), looks := true }, kinds := [], alts := [], laidByText := true, laidKinds := [.data, .data, .data, .data, .handle, .sentinel, .sentinel, .data, .pinned], laidTests := true, laidLooks := .later }
def StoryTrueUptoCardSaid : Prop := Claim7.holds Tryz.pinned (.plain (OpenSpec.upto storyTrueSpec)) storyTrueUptoCard

/-- THE SECOND FORM's CARD OF 'quadrillekeep.DanceThin'. -/
def danceThinUptoCard : Claim7 := { stood := { row := danceThinUptoRow, standIns := [], harness := (true, "bf11caf1ac3daa28c5ef1f9a31a890d7b944b3f551998b37aa8b217340c54992"), looks := true }, kinds := [], alts := [], laidByText := true, laidKinds := [.handle], laidTests := true, laidLooks := .later }
def DanceThinUptoCardSaid : Prop := Claim7.holds Tryz.pinned (.plain (OpenSpec.upto danceThinSpec)) danceThinUptoCard
end Rows
end Go.Proofs.YtlimhldkkbaohaaGreatDoor
