/-
  DERIVED. GIVEN WITH THE SEED: THE CARDS: each row of YtljglfophhagjaaDoorRows.lean that lists a variable, with what it lists TIED to the program's text (the seventh form; the later family's looks); each row that meets fmt, with fmt's text TOLD by the authors' own Lean function (tested against real Go, not proved from fmt's source: count such statements apart). THE CARD IS WHAT COUNTS. Prove the row's statement (the work); the ties are given (YtljglfophhagjaaDoorTie.lean); close each card by the builder's one call (the guide's Derived/Test/ToyasCard.lean, 'card_holds'). Laid BY PROGRAM, IN A SANDBOX (cutbox-door.mjs). By AI agents, Wed Nov 11 2026. No macro, syntax, notation, axiom, sorry.
-/
import Derived.Test.YtljglfophhagjaaDoorRows
import GoSem.ClaimSeven
namespace Go.Proofs.YtljglfophhagjaaDoor
namespace Rows

/-- THE TIED CARD OF 'quadrillekeep.JudgeSwaps'. -/
def judgeSwapsCard : Claim7 := { stood := { row := judgeSwapsRow, standIns := [], harness := (true, "2652d5551dacb7e46a661fe73b8e96b46e791ce6cf25d8087bb057bd73c99da4"), looks := true }, kinds := [], alts := [], laidByText := true, laidKinds := [.handle], laidTests := true, laidLooks := .later }
def JudgeSwapsCardSaid : Prop := Claim7.holds Tryd.pinned (.plain (OpenSpec.ofChange judgeSwapsSpec)) judgeSwapsCard

/-- THE TIED CARD OF 'quadrillekeep.ParkOnce'. -/
def parkOnceCard : Claim7 := { stood := { row := parkOnceRow, standIns := [], harness := (true, "2652d5551dacb7e46a661fe73b8e96b46e791ce6cf25d8087bb057bd73c99da4"), looks := true }, kinds := [], alts := [], laidByText := true, laidKinds := [.handle], laidTests := true, laidLooks := .later }
def ParkOnceCardSaid : Prop := Claim7.holds Tryd.pinned (.plain (OpenSpec.ofChange parkOnceSpec)) parkOnceCard

/-- THE TIED CARD OF 'quadrillekeep.CoreSums'. -/
def coreSumsCard : Claim7 := { stood := { row := coreSumsRow, standIns := [], harness := (true, "2652d5551dacb7e46a661fe73b8e96b46e791ce6cf25d8087bb057bd73c99da4"), looks := true }, kinds := [], alts := [], laidByText := true, laidKinds := [.handle], laidTests := true, laidLooks := .later }
def CoreSumsCardSaid : Prop := Claim7.holds Tryd.pinned (.plain (OpenSpec.ofChange coreSumsSpec)) coreSumsCard

/-- THE TIED CARD OF 'quadrillekeep.CoreFields'. -/
def coreFieldsCard : Claim7 := { stood := { row := coreFieldsRow, standIns := [], harness := (true, "2652d5551dacb7e46a661fe73b8e96b46e791ce6cf25d8087bb057bd73c99da4"), looks := true }, kinds := [], alts := [], laidByText := true, laidKinds := [.handle], laidTests := true, laidLooks := .later }
def CoreFieldsCardSaid : Prop := Claim7.holds Tryd.pinned (.plain (OpenSpec.ofChange coreFieldsSpec)) coreFieldsCard

/-- THE TIED CARD OF 'quadrillekeep.CoreOrders'. -/
def coreOrdersCard : Claim7 := { stood := { row := coreOrdersRow, standIns := [], harness := (true, "2652d5551dacb7e46a661fe73b8e96b46e791ce6cf25d8087bb057bd73c99da4"), looks := true }, kinds := [], alts := [], laidByText := true, laidKinds := [.handle], laidTests := true, laidLooks := .later }
def CoreOrdersCardSaid : Prop := Claim7.holds Tryd.pinned (.plain (OpenSpec.ofChange coreOrdersSpec)) coreOrdersCard

/-- THE TIED CARD OF 'quadrillekeep.PartAwaits'. -/
def partAwaitsCard : Claim7 := { stood := { row := partAwaitsRow, standIns := [], harness := (true, "2652d5551dacb7e46a661fe73b8e96b46e791ce6cf25d8087bb057bd73c99da4"), looks := true }, kinds := [], alts := [], laidByText := true, laidKinds := [.handle], laidTests := true, laidLooks := .later }
def PartAwaitsCardSaid : Prop := Claim7.holds Tryd.pinned (.plain (OpenSpec.ofChange partAwaitsSpec)) partAwaitsCard

/-- THE TIED CARD OF 'quadrillekeep.CoreFetches'. -/
def coreFetchesCard : Claim7 := { stood := { row := coreFetchesRow, standIns := [], harness := (true, "2652d5551dacb7e46a661fe73b8e96b46e791ce6cf25d8087bb057bd73c99da4"), looks := true }, kinds := [], alts := [], laidByText := true, laidKinds := [.handle], laidTests := true, laidLooks := .later }
def CoreFetchesCardSaid : Prop := Claim7.holds Tryd.pinned (.plain (OpenSpec.ofChange coreFetchesSpec)) coreFetchesCard

/-- THE TIED CARD OF 'quadrillekeep.CoreLoses'. -/
def coreLosesCard : Claim7 := { stood := { row := coreLosesRow, standIns := [], harness := (true, "2652d5551dacb7e46a661fe73b8e96b46e791ce6cf25d8087bb057bd73c99da4"), looks := true }, kinds := [], alts := [], laidByText := true, laidKinds := [.handle], laidTests := true, laidLooks := .later }
def CoreLosesCardSaid : Prop := Claim7.holds Tryd.pinned (.plain (OpenSpec.ofChange coreLosesSpec)) coreLosesCard

/-- THE TIED CARD OF 'quadrillekeep.CoreSwaps'. -/
def coreSwapsCard : Claim7 := { stood := { row := coreSwapsRow, standIns := [], harness := (true, "2652d5551dacb7e46a661fe73b8e96b46e791ce6cf25d8087bb057bd73c99da4"), looks := true }, kinds := [], alts := [], laidByText := true, laidKinds := [.handle], laidTests := true, laidLooks := .later }
def CoreSwapsCardSaid : Prop := Claim7.holds Tryd.pinned (.plain (OpenSpec.ofChange coreSwapsSpec)) coreSwapsCard

/-- THE SECOND FORM's CARD OF 'quadrillekeep.JudgeSwaps'. -/
def judgeSwapsUptoCard : Claim7 := { stood := { row := judgeSwapsUptoRow, standIns := [], harness := (true, "2652d5551dacb7e46a661fe73b8e96b46e791ce6cf25d8087bb057bd73c99da4"), looks := true }, kinds := [], alts := [], laidByText := true, laidKinds := [.handle], laidTests := true, laidLooks := .later }
def JudgeSwapsUptoCardSaid : Prop := Claim7.holds Tryd.pinned (.plain (OpenSpec.upto judgeSwapsSpec)) judgeSwapsUptoCard

/-- THE SECOND FORM's CARD OF 'quadrillekeep.ParkOnce'. -/
def parkOnceUptoCard : Claim7 := { stood := { row := parkOnceUptoRow, standIns := [], harness := (true, "2652d5551dacb7e46a661fe73b8e96b46e791ce6cf25d8087bb057bd73c99da4"), looks := true }, kinds := [], alts := [], laidByText := true, laidKinds := [.handle], laidTests := true, laidLooks := .later }
def ParkOnceUptoCardSaid : Prop := Claim7.holds Tryd.pinned (.plain (OpenSpec.upto parkOnceSpec)) parkOnceUptoCard

/-- THE SECOND FORM's CARD OF 'quadrillekeep.CoreSums'. -/
def coreSumsUptoCard : Claim7 := { stood := { row := coreSumsUptoRow, standIns := [], harness := (true, "2652d5551dacb7e46a661fe73b8e96b46e791ce6cf25d8087bb057bd73c99da4"), looks := true }, kinds := [], alts := [], laidByText := true, laidKinds := [.handle], laidTests := true, laidLooks := .later }
def CoreSumsUptoCardSaid : Prop := Claim7.holds Tryd.pinned (.plain (OpenSpec.upto coreSumsSpec)) coreSumsUptoCard

/-- THE SECOND FORM's CARD OF 'quadrillekeep.CoreFields'. -/
def coreFieldsUptoCard : Claim7 := { stood := { row := coreFieldsUptoRow, standIns := [], harness := (true, "2652d5551dacb7e46a661fe73b8e96b46e791ce6cf25d8087bb057bd73c99da4"), looks := true }, kinds := [], alts := [], laidByText := true, laidKinds := [.handle], laidTests := true, laidLooks := .later }
def CoreFieldsUptoCardSaid : Prop := Claim7.holds Tryd.pinned (.plain (OpenSpec.upto coreFieldsSpec)) coreFieldsUptoCard

/-- THE SECOND FORM's CARD OF 'quadrillekeep.CoreOrders'. -/
def coreOrdersUptoCard : Claim7 := { stood := { row := coreOrdersUptoRow, standIns := [], harness := (true, "2652d5551dacb7e46a661fe73b8e96b46e791ce6cf25d8087bb057bd73c99da4"), looks := true }, kinds := [], alts := [], laidByText := true, laidKinds := [.handle], laidTests := true, laidLooks := .later }
def CoreOrdersUptoCardSaid : Prop := Claim7.holds Tryd.pinned (.plain (OpenSpec.upto coreOrdersSpec)) coreOrdersUptoCard

/-- THE SECOND FORM's CARD OF 'quadrillekeep.PartAwaits'. -/
def partAwaitsUptoCard : Claim7 := { stood := { row := partAwaitsUptoRow, standIns := [], harness := (true, "2652d5551dacb7e46a661fe73b8e96b46e791ce6cf25d8087bb057bd73c99da4"), looks := true }, kinds := [], alts := [], laidByText := true, laidKinds := [.handle], laidTests := true, laidLooks := .later }
def PartAwaitsUptoCardSaid : Prop := Claim7.holds Tryd.pinned (.plain (OpenSpec.upto partAwaitsSpec)) partAwaitsUptoCard

/-- THE SECOND FORM's CARD OF 'quadrillekeep.CoreFetches'. -/
def coreFetchesUptoCard : Claim7 := { stood := { row := coreFetchesUptoRow, standIns := [], harness := (true, "2652d5551dacb7e46a661fe73b8e96b46e791ce6cf25d8087bb057bd73c99da4"), looks := true }, kinds := [], alts := [], laidByText := true, laidKinds := [.handle], laidTests := true, laidLooks := .later }
def CoreFetchesUptoCardSaid : Prop := Claim7.holds Tryd.pinned (.plain (OpenSpec.upto coreFetchesSpec)) coreFetchesUptoCard

/-- THE SECOND FORM's CARD OF 'quadrillekeep.CoreLoses'. -/
def coreLosesUptoCard : Claim7 := { stood := { row := coreLosesUptoRow, standIns := [], harness := (true, "2652d5551dacb7e46a661fe73b8e96b46e791ce6cf25d8087bb057bd73c99da4"), looks := true }, kinds := [], alts := [], laidByText := true, laidKinds := [.handle], laidTests := true, laidLooks := .later }
def CoreLosesUptoCardSaid : Prop := Claim7.holds Tryd.pinned (.plain (OpenSpec.upto coreLosesSpec)) coreLosesUptoCard

/-- THE SECOND FORM's CARD OF 'quadrillekeep.CoreSwaps'. -/
def coreSwapsUptoCard : Claim7 := { stood := { row := coreSwapsUptoRow, standIns := [], harness := (true, "2652d5551dacb7e46a661fe73b8e96b46e791ce6cf25d8087bb057bd73c99da4"), looks := true }, kinds := [], alts := [], laidByText := true, laidKinds := [.handle], laidTests := true, laidLooks := .later }
def CoreSwapsUptoCardSaid : Prop := Claim7.holds Tryd.pinned (.plain (OpenSpec.upto coreSwapsSpec)) coreSwapsUptoCard
end Rows
end Go.Proofs.YtljglfophhagjaaDoor
