/-
  DERIVED. GIVEN WITH THE SEED: THE CARDS: each row of YtlimhldkkbaohaaDoorRows.lean that lists a variable, with what it lists TIED to the program's text (the seventh form; the later family's looks); each row that meets fmt, with fmt's text TOLD by the authors' own Lean function (tested against real Go, not proved from fmt's source: count such statements apart). THE CARD IS WHAT COUNTS. Prove the row's statement (the work); the ties are given (YtlimhldkkbaohaaDoorTie.lean); close each card by the builder's one call (the guide's Derived/Test/ToyasCard.lean, 'card_holds'). Laid BY PROGRAM, IN A SANDBOX (cutbox-door.mjs). By AI agents, Wed Nov 11 2026. No macro, syntax, notation, axiom, sorry.
-/
import Derived.Test.YtlimhldkkbaohaaDoorRows
import GoSem.ClaimSeven
namespace Go.Proofs.YtlimhldkkbaohaaDoor
namespace Rows

/-- THE TIED CARD OF 'quadrillekeep.GatherJoins'. -/
def gatherJoinsCard : Claim7 := { stood := { row := gatherJoinsRow, standIns := [], harness := (true, "21b61841d785ffdf0ccdfa6860d5524c90ed48e62fdfe6a25371c827e31133ce"), looks := true }, kinds := [], alts := [], laidByText := true, laidKinds := [.handle], laidTests := true, laidLooks := .later }
def GatherJoinsCardSaid : Prop := Claim7.holds Tryd.pinned (.plain (OpenSpec.ofChange gatherJoinsSpec)) gatherJoinsCard

/-- THE TIED CARD OF 'quadrillekeep.CodeBack'. -/
def codeBackCard : Claim7 := { stood := { row := codeBackRow, standIns := [], harness := (true, "21b61841d785ffdf0ccdfa6860d5524c90ed48e62fdfe6a25371c827e31133ce"), looks := true }, kinds := [], alts := [], laidByText := true, laidKinds := [.data, .data, .data, .data, .sentinel, .sentinel, .pinned], laidTests := true, laidLooks := .later }
def CodeBackCardSaid : Prop := Claim7.holds Tryd.pinned (.plain (OpenSpec.ofChange codeBackSpec)) codeBackCard

/-- THE TIED CARD OF 'quadrillekeep.CodeOnly'. -/
def codeOnlyCard : Claim7 := { stood := { row := codeOnlyRow, standIns := [], harness := (true, "21b61841d785ffdf0ccdfa6860d5524c90ed48e62fdfe6a25371c827e31133ce"), looks := true }, kinds := [], alts := [], laidByText := true, laidKinds := [.data, .data, .data, .data, .sentinel, .sentinel, .pinned], laidTests := true, laidLooks := .later }
def CodeOnlyCardSaid : Prop := Claim7.holds Tryd.pinned (.plain (OpenSpec.ofChange codeOnlySpec)) codeOnlyCard

/-- THE TIED CARD OF 'quadrillekeep.CodeJoins'. -/
def codeJoinsCard : Claim7 := { stood := { row := codeJoinsRow, standIns := [], harness := (true, "21b61841d785ffdf0ccdfa6860d5524c90ed48e62fdfe6a25371c827e31133ce"), looks := true }, kinds := [], alts := [], laidByText := true, laidKinds := [.data, .data, .data, .data, .sentinel, .sentinel, .pinned], laidTests := true, laidLooks := .later }
def CodeJoinsCardSaid : Prop := Claim7.holds Tryd.pinned (.plain (OpenSpec.ofChange codeJoinsSpec)) codeJoinsCard

/-- THE TIED CARD OF 'quadrillekeep.StoryBack'. -/
def storyBackCard : Claim7 := { stood := { row := storyBackRow, standIns := [], harness := (true, "21b61841d785ffdf0ccdfa6860d5524c90ed48e62fdfe6a25371c827e31133ce"), looks := true }, kinds := [], alts := [], laidByText := true, laidKinds := [.data, .data, .data, .data, .sentinel, .sentinel, .data, .pinned], laidTests := true, laidLooks := .later }
def StoryBackCardSaid : Prop := Claim7.holds Tryd.pinned (.plain (OpenSpec.ofChange storyBackSpec)) storyBackCard

/-- THE TIED CARD OF 'quadrillekeep.StoryJoins'. -/
def storyJoinsCard : Claim7 := { stood := { row := storyJoinsRow, standIns := [], harness := (true, "21b61841d785ffdf0ccdfa6860d5524c90ed48e62fdfe6a25371c827e31133ce"), looks := true }, kinds := [], alts := [], laidByText := true, laidKinds := [.data, .data, .data, .data, .sentinel, .sentinel, .data, .pinned], laidTests := true, laidLooks := .later }
def StoryJoinsCardSaid : Prop := Claim7.holds Tryd.pinned (.plain (OpenSpec.ofChange storyJoinsSpec)) storyJoinsCard

/-- THE TIED CARD OF 'quadrillekeep.GatherAlone'. -/
def gatherAloneCard : Claim7 := { stood := { row := gatherAloneRow, standIns := [], harness := (true, "21b61841d785ffdf0ccdfa6860d5524c90ed48e62fdfe6a25371c827e31133ce"), looks := true }, kinds := [], alts := [], laidByText := true, laidKinds := [.handle], laidTests := true, laidLooks := .later }
def GatherAloneCardSaid : Prop := Claim7.holds Tryd.pinned (.plain (OpenSpec.ofChange gatherAloneSpec)) gatherAloneCard

/-- THE TIED CARD OF 'quadrillekeep.TradePairs'. -/
def tradePairsCard : Claim7 := { stood := { row := tradePairsRow, standIns := [], harness := (true, "21b61841d785ffdf0ccdfa6860d5524c90ed48e62fdfe6a25371c827e31133ce"), looks := true }, kinds := [], alts := [], laidByText := true, laidKinds := [.handle], laidTests := true, laidLooks := .later }
def TradePairsCardSaid : Prop := Claim7.holds Tryd.pinned (.plain (OpenSpec.ofChange tradePairsSpec)) tradePairsCard

/-- THE TIED CARD OF 'quadrillekeep.GatherPasses'. -/
def gatherPassesCard : Claim7 := { stood := { row := gatherPassesRow, standIns := [], harness := (true, "21b61841d785ffdf0ccdfa6860d5524c90ed48e62fdfe6a25371c827e31133ce"), looks := true }, kinds := [], alts := [], laidByText := true, laidKinds := [.handle], laidTests := true, laidLooks := .later }
def GatherPassesCardSaid : Prop := Claim7.holds Tryd.pinned (.plain (OpenSpec.ofChange gatherPassesSpec)) gatherPassesCard

/-- THE TIED CARD OF 'quadrillekeep.LinOrder'. -/
def linOrderCard : Claim7 := { stood := { row := linOrderRow, standIns := [], harness := (true, "21b61841d785ffdf0ccdfa6860d5524c90ed48e62fdfe6a25371c827e31133ce"), looks := true }, kinds := [], alts := [], laidByText := true, laidKinds := [.handle], laidTests := true, laidLooks := .later }
def LinOrderCardSaid : Prop := Claim7.holds Tryd.pinned (.plain (OpenSpec.ofChange linOrderSpec)) linOrderCard

/-- THE TIED CARD OF 'quadrillekeep.GatherWithin'. -/
def gatherWithinCard : Claim7 := { stood := { row := gatherWithinRow, standIns := [], harness := (true, "21b61841d785ffdf0ccdfa6860d5524c90ed48e62fdfe6a25371c827e31133ce"), looks := true }, kinds := [], alts := [], laidByText := true, laidKinds := [.handle], laidTests := true, laidLooks := .later }
def GatherWithinCardSaid : Prop := Claim7.holds Tryd.pinned (.plain (OpenSpec.ofChange gatherWithinSpec)) gatherWithinCard

/-- THE TIED CARD OF 'quadrillekeep.LinGrows'. -/
def linGrowsCard : Claim7 := { stood := { row := linGrowsRow, standIns := [], harness := (true, "21b61841d785ffdf0ccdfa6860d5524c90ed48e62fdfe6a25371c827e31133ce"), looks := true }, kinds := [], alts := [], laidByText := true, laidKinds := [.handle], laidTests := true, laidLooks := .later }
def LinGrowsCardSaid : Prop := Claim7.holds Tryd.pinned (.plain (OpenSpec.ofChange linGrowsSpec)) linGrowsCard

/-- THE TIED CARD OF 'quadrillekeep.GatherLin'. -/
def gatherLinCard : Claim7 := { stood := { row := gatherLinRow, standIns := [], harness := (true, "21b61841d785ffdf0ccdfa6860d5524c90ed48e62fdfe6a25371c827e31133ce"), looks := true }, kinds := [], alts := [], laidByText := true, laidKinds := [.handle], laidTests := true, laidLooks := .later }
def GatherLinCardSaid : Prop := Claim7.holds Tryd.pinned (.plain (OpenSpec.ofChange gatherLinSpec)) gatherLinCard

/-- THE SECOND FORM's CARD OF 'quadrillekeep.GatherJoins'. -/
def gatherJoinsUptoCard : Claim7 := { stood := { row := gatherJoinsUptoRow, standIns := [], harness := (true, "21b61841d785ffdf0ccdfa6860d5524c90ed48e62fdfe6a25371c827e31133ce"), looks := true }, kinds := [], alts := [], laidByText := true, laidKinds := [.handle], laidTests := true, laidLooks := .later }
def GatherJoinsUptoCardSaid : Prop := Claim7.holds Tryd.pinned (.plain (OpenSpec.upto gatherJoinsSpec)) gatherJoinsUptoCard

/-- THE SECOND FORM's CARD OF 'quadrillekeep.CodeBack'. -/
def codeBackUptoCard : Claim7 := { stood := { row := codeBackUptoRow, standIns := [], harness := (true, "21b61841d785ffdf0ccdfa6860d5524c90ed48e62fdfe6a25371c827e31133ce"), looks := true }, kinds := [], alts := [], laidByText := true, laidKinds := [.data, .data, .data, .data, .sentinel, .sentinel, .pinned], laidTests := true, laidLooks := .later }
def CodeBackUptoCardSaid : Prop := Claim7.holds Tryd.pinned (.plain (OpenSpec.upto codeBackSpec)) codeBackUptoCard

/-- THE SECOND FORM's CARD OF 'quadrillekeep.CodeOnly'. -/
def codeOnlyUptoCard : Claim7 := { stood := { row := codeOnlyUptoRow, standIns := [], harness := (true, "21b61841d785ffdf0ccdfa6860d5524c90ed48e62fdfe6a25371c827e31133ce"), looks := true }, kinds := [], alts := [], laidByText := true, laidKinds := [.data, .data, .data, .data, .sentinel, .sentinel, .pinned], laidTests := true, laidLooks := .later }
def CodeOnlyUptoCardSaid : Prop := Claim7.holds Tryd.pinned (.plain (OpenSpec.upto codeOnlySpec)) codeOnlyUptoCard

/-- THE SECOND FORM's CARD OF 'quadrillekeep.CodeJoins'. -/
def codeJoinsUptoCard : Claim7 := { stood := { row := codeJoinsUptoRow, standIns := [], harness := (true, "21b61841d785ffdf0ccdfa6860d5524c90ed48e62fdfe6a25371c827e31133ce"), looks := true }, kinds := [], alts := [], laidByText := true, laidKinds := [.data, .data, .data, .data, .sentinel, .sentinel, .pinned], laidTests := true, laidLooks := .later }
def CodeJoinsUptoCardSaid : Prop := Claim7.holds Tryd.pinned (.plain (OpenSpec.upto codeJoinsSpec)) codeJoinsUptoCard

/-- THE SECOND FORM's CARD OF 'quadrillekeep.StoryBack'. -/
def storyBackUptoCard : Claim7 := { stood := { row := storyBackUptoRow, standIns := [], harness := (true, "21b61841d785ffdf0ccdfa6860d5524c90ed48e62fdfe6a25371c827e31133ce"), looks := true }, kinds := [], alts := [], laidByText := true, laidKinds := [.data, .data, .data, .data, .sentinel, .sentinel, .data, .pinned], laidTests := true, laidLooks := .later }
def StoryBackUptoCardSaid : Prop := Claim7.holds Tryd.pinned (.plain (OpenSpec.upto storyBackSpec)) storyBackUptoCard

/-- THE SECOND FORM's CARD OF 'quadrillekeep.StoryJoins'. -/
def storyJoinsUptoCard : Claim7 := { stood := { row := storyJoinsUptoRow, standIns := [], harness := (true, "21b61841d785ffdf0ccdfa6860d5524c90ed48e62fdfe6a25371c827e31133ce"), looks := true }, kinds := [], alts := [], laidByText := true, laidKinds := [.data, .data, .data, .data, .sentinel, .sentinel, .data, .pinned], laidTests := true, laidLooks := .later }
def StoryJoinsUptoCardSaid : Prop := Claim7.holds Tryd.pinned (.plain (OpenSpec.upto storyJoinsSpec)) storyJoinsUptoCard

/-- THE SECOND FORM's CARD OF 'quadrillekeep.GatherAlone'. -/
def gatherAloneUptoCard : Claim7 := { stood := { row := gatherAloneUptoRow, standIns := [], harness := (true, "21b61841d785ffdf0ccdfa6860d5524c90ed48e62fdfe6a25371c827e31133ce"), looks := true }, kinds := [], alts := [], laidByText := true, laidKinds := [.handle], laidTests := true, laidLooks := .later }
def GatherAloneUptoCardSaid : Prop := Claim7.holds Tryd.pinned (.plain (OpenSpec.upto gatherAloneSpec)) gatherAloneUptoCard

/-- THE SECOND FORM's CARD OF 'quadrillekeep.TradePairs'. -/
def tradePairsUptoCard : Claim7 := { stood := { row := tradePairsUptoRow, standIns := [], harness := (true, "21b61841d785ffdf0ccdfa6860d5524c90ed48e62fdfe6a25371c827e31133ce"), looks := true }, kinds := [], alts := [], laidByText := true, laidKinds := [.handle], laidTests := true, laidLooks := .later }
def TradePairsUptoCardSaid : Prop := Claim7.holds Tryd.pinned (.plain (OpenSpec.upto tradePairsSpec)) tradePairsUptoCard

/-- THE SECOND FORM's CARD OF 'quadrillekeep.GatherPasses'. -/
def gatherPassesUptoCard : Claim7 := { stood := { row := gatherPassesUptoRow, standIns := [], harness := (true, "21b61841d785ffdf0ccdfa6860d5524c90ed48e62fdfe6a25371c827e31133ce"), looks := true }, kinds := [], alts := [], laidByText := true, laidKinds := [.handle], laidTests := true, laidLooks := .later }
def GatherPassesUptoCardSaid : Prop := Claim7.holds Tryd.pinned (.plain (OpenSpec.upto gatherPassesSpec)) gatherPassesUptoCard

/-- THE SECOND FORM's CARD OF 'quadrillekeep.LinOrder'. -/
def linOrderUptoCard : Claim7 := { stood := { row := linOrderUptoRow, standIns := [], harness := (true, "21b61841d785ffdf0ccdfa6860d5524c90ed48e62fdfe6a25371c827e31133ce"), looks := true }, kinds := [], alts := [], laidByText := true, laidKinds := [.handle], laidTests := true, laidLooks := .later }
def LinOrderUptoCardSaid : Prop := Claim7.holds Tryd.pinned (.plain (OpenSpec.upto linOrderSpec)) linOrderUptoCard

/-- THE SECOND FORM's CARD OF 'quadrillekeep.GatherWithin'. -/
def gatherWithinUptoCard : Claim7 := { stood := { row := gatherWithinUptoRow, standIns := [], harness := (true, "21b61841d785ffdf0ccdfa6860d5524c90ed48e62fdfe6a25371c827e31133ce"), looks := true }, kinds := [], alts := [], laidByText := true, laidKinds := [.handle], laidTests := true, laidLooks := .later }
def GatherWithinUptoCardSaid : Prop := Claim7.holds Tryd.pinned (.plain (OpenSpec.upto gatherWithinSpec)) gatherWithinUptoCard

/-- THE SECOND FORM's CARD OF 'quadrillekeep.LinGrows'. -/
def linGrowsUptoCard : Claim7 := { stood := { row := linGrowsUptoRow, standIns := [], harness := (true, "21b61841d785ffdf0ccdfa6860d5524c90ed48e62fdfe6a25371c827e31133ce"), looks := true }, kinds := [], alts := [], laidByText := true, laidKinds := [.handle], laidTests := true, laidLooks := .later }
def LinGrowsUptoCardSaid : Prop := Claim7.holds Tryd.pinned (.plain (OpenSpec.upto linGrowsSpec)) linGrowsUptoCard

/-- THE SECOND FORM's CARD OF 'quadrillekeep.GatherLin'. -/
def gatherLinUptoCard : Claim7 := { stood := { row := gatherLinUptoRow, standIns := [], harness := (true, "21b61841d785ffdf0ccdfa6860d5524c90ed48e62fdfe6a25371c827e31133ce"), looks := true }, kinds := [], alts := [], laidByText := true, laidKinds := [.handle], laidTests := true, laidLooks := .later }
def GatherLinUptoCardSaid : Prop := Claim7.holds Tryd.pinned (.plain (OpenSpec.upto gatherLinSpec)) gatherLinUptoCard
end Rows
end Go.Proofs.YtlimhldkkbaohaaDoor
