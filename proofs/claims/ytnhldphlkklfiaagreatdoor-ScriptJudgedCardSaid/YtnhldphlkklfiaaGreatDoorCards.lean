/-
  DERIVED. GIVEN WITH THE SEED: THE CARDS: each row of YtnhldphlkklfiaaGreatDoorRows.lean that lists a variable, with what it lists TIED to the program's text (the seventh form; the later family's looks); each row that meets fmt, with fmt's text TOLD by the authors' own Lean function (tested against real Go, not proved from fmt's source: count such statements apart). THE CARD IS WHAT COUNTS. Prove the row's statement (the work); the ties are given (YtnhldphlkklfiaaGreatDoorTie.lean); close each card by the builder's one call (the guide's Derived/Test/ToyasCard.lean, 'card_holds'). Laid BY PROGRAM, IN A SANDBOX (cutbox-door.mjs). By AI agents, Wed Nov 11 2026. No macro, syntax, notation, axiom, sorry.
-/
import Derived.Test.YtnhldphlkklfiaaGreatDoorRows
import GoSem.ClaimSeven
namespace Go.Proofs.YtnhldphlkklfiaaGreatDoor
namespace Rows

/-- THE TIED CARD OF 'quadrillekeep.DanceUp'. -/
def danceUpCard : Claim7 := { stood := { row := danceUpRow, standIns := [], harness := (true, "ed7eee77e21312d74d93e7f4f527f0a508641d122f1c0c292daf8426a961a59e"), looks := true }, kinds := [], alts := [], laidByText := true, laidKinds := [.handle], laidTests := true, laidLooks := .later }
def DanceUpCardSaid : Prop := Claim7.holds Tryz.pinned (.plain (OpenSpec.ofChange danceUpSpec)) danceUpCard

/-- THE TIED CARD OF 'quadrillekeep.DanceDown'. -/
def danceDownCard : Claim7 := { stood := { row := danceDownRow, standIns := [], harness := (true, "ed7eee77e21312d74d93e7f4f527f0a508641d122f1c0c292daf8426a961a59e"), looks := true }, kinds := [], alts := [], laidByText := true, laidKinds := [.handle], laidTests := true, laidLooks := .later }
def DanceDownCardSaid : Prop := Claim7.holds Tryz.pinned (.plain (OpenSpec.ofChange danceDownSpec)) danceDownCard

/-- THE TIED CARD OF 'quadrillekeep.DanceThin'. -/
def danceThinCard : Claim7 := { stood := { row := danceThinRow, standIns := [], harness := (true, "ed7eee77e21312d74d93e7f4f527f0a508641d122f1c0c292daf8426a961a59e"), looks := true }, kinds := [], alts := [], laidByText := true, laidKinds := [.handle], laidTests := true, laidLooks := .later }
def DanceThinCardSaid : Prop := Claim7.holds Tryz.pinned (.plain (OpenSpec.ofChange danceThinSpec)) danceThinCard

/-- THE TIED CARD OF 'quadrillekeep.CentralLeaves'. -/
def centralLeavesCard : Claim7 := { stood := { row := centralLeavesRow, standIns := [], harness := (true, "ed7eee77e21312d74d93e7f4f527f0a508641d122f1c0c292daf8426a961a59e"), looks := true }, kinds := [], alts := [], laidByText := true, laidKinds := [.handle], laidTests := true, laidLooks := .later }
def CentralLeavesCardSaid : Prop := Claim7.holds Tryz.pinned (.plain (OpenSpec.ofChange centralLeavesSpec)) centralLeavesCard

/-- THE TIED CARD OF 'quadrillekeep.CombineLeaves'. -/
def combineLeavesCard : Claim7 := { stood := { row := combineLeavesRow, standIns := [], harness := (true, "ed7eee77e21312d74d93e7f4f527f0a508641d122f1c0c292daf8426a961a59e"), looks := true }, kinds := [], alts := [], laidByText := true, laidKinds := [.handle], laidTests := true, laidLooks := .later }
def CombineLeavesCardSaid : Prop := Claim7.holds Tryz.pinned (.plain (OpenSpec.ofChange combineLeavesSpec)) combineLeavesCard

/-- THE TIED CARD OF 'quadrillekeep.DanceGates'. -/
def danceGatesCard : Claim7 := { stood := { row := danceGatesRow, standIns := [], harness := (true, "ed7eee77e21312d74d93e7f4f527f0a508641d122f1c0c292daf8426a961a59e"), looks := true }, kinds := [], alts := [], laidByText := true, laidKinds := [.handle], laidTests := true, laidLooks := .later }
def DanceGatesCardSaid : Prop := Claim7.holds Tryz.pinned (.plain (OpenSpec.ofChange danceGatesSpec)) danceGatesCard

/-- THE TIED CARD OF 'quadrillekeep.DanceWaits'. -/
def danceWaitsCard : Claim7 := { stood := { row := danceWaitsRow, standIns := [], harness := (true, "ed7eee77e21312d74d93e7f4f527f0a508641d122f1c0c292daf8426a961a59e"), looks := true }, kinds := [], alts := [], laidByText := true, laidKinds := [.handle], laidTests := true, laidLooks := .later }
def DanceWaitsCardSaid : Prop := Claim7.holds Tryz.pinned (.plain (OpenSpec.ofChange danceWaitsSpec)) danceWaitsCard

/-- THE TIED CARD OF 'quadrillekeep.StaticLeaves'. -/
def staticLeavesCard : Claim7 := { stood := { row := staticLeavesRow, standIns := [], harness := (true, "ed7eee77e21312d74d93e7f4f527f0a508641d122f1c0c292daf8426a961a59e"), looks := true }, kinds := [], alts := [], laidByText := true, laidKinds := [.handle], laidTests := true, laidLooks := .later }
def StaticLeavesCardSaid : Prop := Claim7.holds Tryz.pinned (.plain (OpenSpec.ofChange staticLeavesSpec)) staticLeavesCard

/-- THE TIED CARD OF 'quadrillekeep.SpreadLeaves'. -/
def spreadLeavesCard : Claim7 := { stood := { row := spreadLeavesRow, standIns := [], harness := (true, "ed7eee77e21312d74d93e7f4f527f0a508641d122f1c0c292daf8426a961a59e"), looks := true }, kinds := [], alts := [], laidByText := true, laidKinds := [.handle], laidTests := true, laidLooks := .later }
def SpreadLeavesCardSaid : Prop := Claim7.holds Tryz.pinned (.plain (OpenSpec.ofChange spreadLeavesSpec)) spreadLeavesCard

/-- THE TIED CARD OF 'quadrillekeep.TourneyLeaves'. -/
def tourneyLeavesCard : Claim7 := { stood := { row := tourneyLeavesRow, standIns := [], harness := (true, "ed7eee77e21312d74d93e7f4f527f0a508641d122f1c0c292daf8426a961a59e"), looks := true }, kinds := [], alts := [], laidByText := true, laidKinds := [.handle], laidTests := true, laidLooks := .later }
def TourneyLeavesCardSaid : Prop := Claim7.holds Tryz.pinned (.plain (OpenSpec.ofChange tourneyLeavesSpec)) tourneyLeavesCard

/-- THE TIED CARD OF 'quadrillekeep.McsLeaves'. -/
def mcsLeavesCard : Claim7 := { stood := { row := mcsLeavesRow, standIns := [], harness := (true, "ed7eee77e21312d74d93e7f4f527f0a508641d122f1c0c292daf8426a961a59e"), looks := true }, kinds := [], alts := [], laidByText := true, laidKinds := [.handle], laidTests := true, laidLooks := .later }
def McsLeavesCardSaid : Prop := Claim7.holds Tryz.pinned (.plain (OpenSpec.ofChange mcsLeavesSpec)) mcsLeavesCard

/-- THE TIED CARD OF 'quadrillekeep.DanceWords'. -/
def danceWordsCard : Claim7 := { stood := { row := danceWordsRow, standIns := [], harness := (true, "ed7eee77e21312d74d93e7f4f527f0a508641d122f1c0c292daf8426a961a59e"), looks := true }, kinds := [], alts := [], laidByText := true, laidKinds := [.handle], laidTests := true, laidLooks := .later }
def DanceWordsCardSaid : Prop := Claim7.holds Tryz.pinned (.plain (OpenSpec.ofChange danceWordsSpec)) danceWordsCard

/-- THE TIED CARD OF 'quadrillekeep.JudgeMissing'. -/
def judgeMissingCard : Claim7 := { stood := { row := judgeMissingRow, standIns := [], harness := (true, "ed7eee77e21312d74d93e7f4f527f0a508641d122f1c0c292daf8426a961a59e"), looks := true }, kinds := [], alts := [], laidByText := true, laidKinds := [.handle], laidTests := true, laidLooks := .later }
def JudgeMissingCardSaid : Prop := Claim7.holds Tryz.pinned (.plain (OpenSpec.ofChange judgeMissingSpec)) judgeMissingCard

/-- THE TIED CARD OF 'quadrillekeep.DancePokes'. -/
def dancePokesCard : Claim7 := { stood := { row := dancePokesRow, standIns := [], harness := (true, "ed7eee77e21312d74d93e7f4f527f0a508641d122f1c0c292daf8426a961a59e"), looks := true }, kinds := [], alts := [], laidByText := true, laidKinds := [.handle], laidTests := true, laidLooks := .later }
def DancePokesCardSaid : Prop := Claim7.holds Tryz.pinned (.plain (OpenSpec.ofChange dancePokesSpec)) dancePokesCard

/-- THE TIED CARD OF 'quadrillekeep.DanceFair'. -/
def danceFairCard : Claim7 := { stood := { row := danceFairRow, standIns := [], harness := (true, "ed7eee77e21312d74d93e7f4f527f0a508641d122f1c0c292daf8426a961a59e"), looks := true }, kinds := [], alts := [], laidByText := true, laidKinds := [.handle], laidTests := true, laidLooks := .later }
def DanceFairCardSaid : Prop := Claim7.holds Tryz.pinned (.plain (OpenSpec.ofChange danceFairSpec)) danceFairCard

/-- THE TIED CARD OF 'quadrillekeep.FairAgain'. -/
def fairAgainCard : Claim7 := { stood := { row := fairAgainRow, standIns := [], harness := (true, "ed7eee77e21312d74d93e7f4f527f0a508641d122f1c0c292daf8426a961a59e"), looks := true }, kinds := [], alts := [], laidByText := true, laidKinds := [.handle], laidTests := true, laidLooks := .later }
def FairAgainCardSaid : Prop := Claim7.holds Tryz.pinned (.plain (OpenSpec.ofChange fairAgainSpec)) fairAgainCard

/-- THE TIED CARD OF 'quadrillekeep.ScriptJudged'. -/
def scriptJudgedCard : Claim7 := { stood := { row := scriptJudgedRow, standIns := [], harness := (true, "ed7eee77e21312d74d93e7f4f527f0a508641d122f1c0c292daf8426a961a59e"), looks := true }, kinds := [], alts := [], laidByText := true, laidKinds := [.handle], laidTests := true, laidLooks := .later }
def ScriptJudgedCardSaid : Prop := Claim7.holds Tryz.pinned (.plain (OpenSpec.ofChange scriptJudgedSpec)) scriptJudgedCard

/-- THE SECOND FORM's CARD OF 'quadrillekeep.DanceUp'. -/
def danceUpUptoCard : Claim7 := { stood := { row := danceUpUptoRow, standIns := [], harness := (true, "ed7eee77e21312d74d93e7f4f527f0a508641d122f1c0c292daf8426a961a59e"), looks := true }, kinds := [], alts := [], laidByText := true, laidKinds := [.handle], laidTests := true, laidLooks := .later }
def DanceUpUptoCardSaid : Prop := Claim7.holds Tryz.pinned (.plain (OpenSpec.upto danceUpSpec)) danceUpUptoCard

/-- THE SECOND FORM's CARD OF 'quadrillekeep.DanceDown'. -/
def danceDownUptoCard : Claim7 := { stood := { row := danceDownUptoRow, standIns := [], harness := (true, "ed7eee77e21312d74d93e7f4f527f0a508641d122f1c0c292daf8426a961a59e"), looks := true }, kinds := [], alts := [], laidByText := true, laidKinds := [.handle], laidTests := true, laidLooks := .later }
def DanceDownUptoCardSaid : Prop := Claim7.holds Tryz.pinned (.plain (OpenSpec.upto danceDownSpec)) danceDownUptoCard

/-- THE SECOND FORM's CARD OF 'quadrillekeep.DanceThin'. -/
def danceThinUptoCard : Claim7 := { stood := { row := danceThinUptoRow, standIns := [], harness := (true, "ed7eee77e21312d74d93e7f4f527f0a508641d122f1c0c292daf8426a961a59e"), looks := true }, kinds := [], alts := [], laidByText := true, laidKinds := [.handle], laidTests := true, laidLooks := .later }
def DanceThinUptoCardSaid : Prop := Claim7.holds Tryz.pinned (.plain (OpenSpec.upto danceThinSpec)) danceThinUptoCard

/-- THE SECOND FORM's CARD OF 'quadrillekeep.CentralLeaves'. -/
def centralLeavesUptoCard : Claim7 := { stood := { row := centralLeavesUptoRow, standIns := [], harness := (true, "ed7eee77e21312d74d93e7f4f527f0a508641d122f1c0c292daf8426a961a59e"), looks := true }, kinds := [], alts := [], laidByText := true, laidKinds := [.handle], laidTests := true, laidLooks := .later }
def CentralLeavesUptoCardSaid : Prop := Claim7.holds Tryz.pinned (.plain (OpenSpec.upto centralLeavesSpec)) centralLeavesUptoCard

/-- THE SECOND FORM's CARD OF 'quadrillekeep.CombineLeaves'. -/
def combineLeavesUptoCard : Claim7 := { stood := { row := combineLeavesUptoRow, standIns := [], harness := (true, "ed7eee77e21312d74d93e7f4f527f0a508641d122f1c0c292daf8426a961a59e"), looks := true }, kinds := [], alts := [], laidByText := true, laidKinds := [.handle], laidTests := true, laidLooks := .later }
def CombineLeavesUptoCardSaid : Prop := Claim7.holds Tryz.pinned (.plain (OpenSpec.upto combineLeavesSpec)) combineLeavesUptoCard

/-- THE SECOND FORM's CARD OF 'quadrillekeep.DanceGates'. -/
def danceGatesUptoCard : Claim7 := { stood := { row := danceGatesUptoRow, standIns := [], harness := (true, "ed7eee77e21312d74d93e7f4f527f0a508641d122f1c0c292daf8426a961a59e"), looks := true }, kinds := [], alts := [], laidByText := true, laidKinds := [.handle], laidTests := true, laidLooks := .later }
def DanceGatesUptoCardSaid : Prop := Claim7.holds Tryz.pinned (.plain (OpenSpec.upto danceGatesSpec)) danceGatesUptoCard

/-- THE SECOND FORM's CARD OF 'quadrillekeep.DanceWaits'. -/
def danceWaitsUptoCard : Claim7 := { stood := { row := danceWaitsUptoRow, standIns := [], harness := (true, "ed7eee77e21312d74d93e7f4f527f0a508641d122f1c0c292daf8426a961a59e"), looks := true }, kinds := [], alts := [], laidByText := true, laidKinds := [.handle], laidTests := true, laidLooks := .later }
def DanceWaitsUptoCardSaid : Prop := Claim7.holds Tryz.pinned (.plain (OpenSpec.upto danceWaitsSpec)) danceWaitsUptoCard

/-- THE SECOND FORM's CARD OF 'quadrillekeep.StaticLeaves'. -/
def staticLeavesUptoCard : Claim7 := { stood := { row := staticLeavesUptoRow, standIns := [], harness := (true, "ed7eee77e21312d74d93e7f4f527f0a508641d122f1c0c292daf8426a961a59e"), looks := true }, kinds := [], alts := [], laidByText := true, laidKinds := [.handle], laidTests := true, laidLooks := .later }
def StaticLeavesUptoCardSaid : Prop := Claim7.holds Tryz.pinned (.plain (OpenSpec.upto staticLeavesSpec)) staticLeavesUptoCard

/-- THE SECOND FORM's CARD OF 'quadrillekeep.SpreadLeaves'. -/
def spreadLeavesUptoCard : Claim7 := { stood := { row := spreadLeavesUptoRow, standIns := [], harness := (true, "ed7eee77e21312d74d93e7f4f527f0a508641d122f1c0c292daf8426a961a59e"), looks := true }, kinds := [], alts := [], laidByText := true, laidKinds := [.handle], laidTests := true, laidLooks := .later }
def SpreadLeavesUptoCardSaid : Prop := Claim7.holds Tryz.pinned (.plain (OpenSpec.upto spreadLeavesSpec)) spreadLeavesUptoCard

/-- THE SECOND FORM's CARD OF 'quadrillekeep.TourneyLeaves'. -/
def tourneyLeavesUptoCard : Claim7 := { stood := { row := tourneyLeavesUptoRow, standIns := [], harness := (true, "ed7eee77e21312d74d93e7f4f527f0a508641d122f1c0c292daf8426a961a59e"), looks := true }, kinds := [], alts := [], laidByText := true, laidKinds := [.handle], laidTests := true, laidLooks := .later }
def TourneyLeavesUptoCardSaid : Prop := Claim7.holds Tryz.pinned (.plain (OpenSpec.upto tourneyLeavesSpec)) tourneyLeavesUptoCard

/-- THE SECOND FORM's CARD OF 'quadrillekeep.McsLeaves'. -/
def mcsLeavesUptoCard : Claim7 := { stood := { row := mcsLeavesUptoRow, standIns := [], harness := (true, "ed7eee77e21312d74d93e7f4f527f0a508641d122f1c0c292daf8426a961a59e"), looks := true }, kinds := [], alts := [], laidByText := true, laidKinds := [.handle], laidTests := true, laidLooks := .later }
def McsLeavesUptoCardSaid : Prop := Claim7.holds Tryz.pinned (.plain (OpenSpec.upto mcsLeavesSpec)) mcsLeavesUptoCard

/-- THE SECOND FORM's CARD OF 'quadrillekeep.DanceWords'. -/
def danceWordsUptoCard : Claim7 := { stood := { row := danceWordsUptoRow, standIns := [], harness := (true, "ed7eee77e21312d74d93e7f4f527f0a508641d122f1c0c292daf8426a961a59e"), looks := true }, kinds := [], alts := [], laidByText := true, laidKinds := [.handle], laidTests := true, laidLooks := .later }
def DanceWordsUptoCardSaid : Prop := Claim7.holds Tryz.pinned (.plain (OpenSpec.upto danceWordsSpec)) danceWordsUptoCard

/-- THE SECOND FORM's CARD OF 'quadrillekeep.JudgeMissing'. -/
def judgeMissingUptoCard : Claim7 := { stood := { row := judgeMissingUptoRow, standIns := [], harness := (true, "ed7eee77e21312d74d93e7f4f527f0a508641d122f1c0c292daf8426a961a59e"), looks := true }, kinds := [], alts := [], laidByText := true, laidKinds := [.handle], laidTests := true, laidLooks := .later }
def JudgeMissingUptoCardSaid : Prop := Claim7.holds Tryz.pinned (.plain (OpenSpec.upto judgeMissingSpec)) judgeMissingUptoCard

/-- THE SECOND FORM's CARD OF 'quadrillekeep.DancePokes'. -/
def dancePokesUptoCard : Claim7 := { stood := { row := dancePokesUptoRow, standIns := [], harness := (true, "ed7eee77e21312d74d93e7f4f527f0a508641d122f1c0c292daf8426a961a59e"), looks := true }, kinds := [], alts := [], laidByText := true, laidKinds := [.handle], laidTests := true, laidLooks := .later }
def DancePokesUptoCardSaid : Prop := Claim7.holds Tryz.pinned (.plain (OpenSpec.upto dancePokesSpec)) dancePokesUptoCard

/-- THE SECOND FORM's CARD OF 'quadrillekeep.DanceFair'. -/
def danceFairUptoCard : Claim7 := { stood := { row := danceFairUptoRow, standIns := [], harness := (true, "ed7eee77e21312d74d93e7f4f527f0a508641d122f1c0c292daf8426a961a59e"), looks := true }, kinds := [], alts := [], laidByText := true, laidKinds := [.handle], laidTests := true, laidLooks := .later }
def DanceFairUptoCardSaid : Prop := Claim7.holds Tryz.pinned (.plain (OpenSpec.upto danceFairSpec)) danceFairUptoCard

/-- THE SECOND FORM's CARD OF 'quadrillekeep.FairAgain'. -/
def fairAgainUptoCard : Claim7 := { stood := { row := fairAgainUptoRow, standIns := [], harness := (true, "ed7eee77e21312d74d93e7f4f527f0a508641d122f1c0c292daf8426a961a59e"), looks := true }, kinds := [], alts := [], laidByText := true, laidKinds := [.handle], laidTests := true, laidLooks := .later }
def FairAgainUptoCardSaid : Prop := Claim7.holds Tryz.pinned (.plain (OpenSpec.upto fairAgainSpec)) fairAgainUptoCard

/-- THE SECOND FORM's CARD OF 'quadrillekeep.ScriptJudged'. -/
def scriptJudgedUptoCard : Claim7 := { stood := { row := scriptJudgedUptoRow, standIns := [], harness := (true, "ed7eee77e21312d74d93e7f4f527f0a508641d122f1c0c292daf8426a961a59e"), looks := true }, kinds := [], alts := [], laidByText := true, laidKinds := [.handle], laidTests := true, laidLooks := .later }
def ScriptJudgedUptoCardSaid : Prop := Claim7.holds Tryz.pinned (.plain (OpenSpec.upto scriptJudgedSpec)) scriptJudgedUptoCard
end Rows
end Go.Proofs.YtnhldphlkklfiaaGreatDoor
