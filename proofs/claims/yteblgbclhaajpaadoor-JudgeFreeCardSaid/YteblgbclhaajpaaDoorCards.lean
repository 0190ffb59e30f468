/-
  DERIVED. GIVEN WITH THE SEED: THE CARDS: each row of YteblgbclhaajpaaDoorRows.lean that lists a variable, with what it lists TIED to the program's text (the seventh form; the later family's looks); each row that meets fmt, with fmt's text TOLD by the authors' own Lean function (tested against real Go, not proved from fmt's source: count such statements apart). THE CARD IS WHAT COUNTS. Prove the row's statement (the work); the ties are given (YteblgbclhaajpaaDoorTie.lean); close each card by the builder's one call (the guide's Derived/Test/ToyasCard.lean, 'card_holds'). Laid BY PROGRAM, IN A SANDBOX (cutbox-door.mjs). By AI agents, Wed Nov 11 2026. No macro, syntax, notation, axiom, sorry.
-/
import Derived.Test.YteblgbclhaajpaaDoorRows
import GoSem.ClaimSeven
namespace Go.Proofs.YteblgbclhaajpaaDoor
namespace Rows

/-- THE TIED CARD OF 'quadrillekeep.JudgeFree'. -/
def judgeFreeCard : Claim7 := { stood := { row := judgeFreeRow, standIns := [], harness := (true, "62133b02df0e4dc40026d251b58e8de93625eee89e0d8c27e8f6c6b3cd29bfa0"), looks := true }, kinds := [], alts := [], laidByText := true, laidKinds := [.handle], laidTests := true, laidLooks := .later }
def JudgeFreeCardSaid : Prop := Claim7.holds Tryd.pinned (.plain (OpenSpec.ofChange judgeFreeSpec)) judgeFreeCard

/-- THE TIED CARD OF 'quadrillekeep.JudgeCut'. -/
def judgeCutCard : Claim7 := { stood := { row := judgeCutRow, standIns := [], harness := (true, "62133b02df0e4dc40026d251b58e8de93625eee89e0d8c27e8f6c6b3cd29bfa0"), looks := true }, kinds := [], alts := [], laidByText := true, laidKinds := [.handle], laidTests := true, laidLooks := .later }
def JudgeCutCardSaid : Prop := Claim7.holds Tryd.pinned (.plain (OpenSpec.ofChange judgeCutSpec)) judgeCutCard

/-- THE TIED CARD OF 'quadrillekeep.JudgeNames'. -/
def judgeNamesCard : Claim7 := { stood := { row := judgeNamesRow, standIns := [], harness := (true, "62133b02df0e4dc40026d251b58e8de93625eee89e0d8c27e8f6c6b3cd29bfa0"), looks := true }, kinds := [], alts := [], laidByText := true, laidKinds := [.handle], laidTests := true, laidLooks := .later }
def JudgeNamesCardSaid : Prop := Claim7.holds Tryd.pinned (.plain (OpenSpec.ofChange judgeNamesSpec)) judgeNamesCard

/-- THE TIED CARD OF 'quadrillekeep.JudgeRounds'. -/
def judgeRoundsCard : Claim7 := { stood := { row := judgeRoundsRow, standIns := [], harness := (true, "62133b02df0e4dc40026d251b58e8de93625eee89e0d8c27e8f6c6b3cd29bfa0"), looks := true }, kinds := [], alts := [], laidByText := true, laidKinds := [.handle], laidTests := true, laidLooks := .later }
def JudgeRoundsCardSaid : Prop := Claim7.holds Tryd.pinned (.plain (OpenSpec.ofChange judgeRoundsSpec)) judgeRoundsCard

/-- THE SECOND FORM's CARD OF 'quadrillekeep.JudgeFree'. -/
def judgeFreeUptoCard : Claim7 := { stood := { row := judgeFreeUptoRow, standIns := [], harness := (true, "62133b02df0e4dc40026d251b58e8de93625eee89e0d8c27e8f6c6b3cd29bfa0"), looks := true }, kinds := [], alts := [], laidByText := true, laidKinds := [.handle], laidTests := true, laidLooks := .later }
def JudgeFreeUptoCardSaid : Prop := Claim7.holds Tryd.pinned (.plain (OpenSpec.upto judgeFreeSpec)) judgeFreeUptoCard

/-- THE SECOND FORM's CARD OF 'quadrillekeep.JudgeCut'. -/
def judgeCutUptoCard : Claim7 := { stood := { row := judgeCutUptoRow, standIns := [], harness := (true, "62133b02df0e4dc40026d251b58e8de93625eee89e0d8c27e8f6c6b3cd29bfa0"), looks := true }, kinds := [], alts := [], laidByText := true, laidKinds := [.handle], laidTests := true, laidLooks := .later }
def JudgeCutUptoCardSaid : Prop := Claim7.holds Tryd.pinned (.plain (OpenSpec.upto judgeCutSpec)) judgeCutUptoCard

/-- THE SECOND FORM's CARD OF 'quadrillekeep.JudgeNames'. -/
def judgeNamesUptoCard : Claim7 := { stood := { row := judgeNamesUptoRow, standIns := [], harness := (true, "62133b02df0e4dc40026d251b58e8de93625eee89e0d8c27e8f6c6b3cd29bfa0"), looks := true }, kinds := [], alts := [], laidByText := true, laidKinds := [.handle], laidTests := true, laidLooks := .later }
def JudgeNamesUptoCardSaid : Prop := Claim7.holds Tryd.pinned (.plain (OpenSpec.upto judgeNamesSpec)) judgeNamesUptoCard

/-- THE SECOND FORM's CARD OF 'quadrillekeep.JudgeRounds'. -/
def judgeRoundsUptoCard : Claim7 := { stood := { row := judgeRoundsUptoRow, standIns := [], harness := (true, "62133b02df0e4dc40026d251b58e8de93625eee89e0d8c27e8f6c6b3cd29bfa0"), looks := true }, kinds := [], alts := [], laidByText := true, laidKinds := [.handle], laidTests := true, laidLooks := .later }
def JudgeRoundsUptoCardSaid : Prop := Claim7.holds Tryd.pinned (.plain (OpenSpec.upto judgeRoundsSpec)) judgeRoundsUptoCard
end Rows
end Go.Proofs.YteblgbclhaajpaaDoor
