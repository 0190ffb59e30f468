/-
  DERIVED. GIVEN WITH THE SEED: THE CARDS: each row of YtnkmddcadkcdcaaDoorRows.lean that lists a variable, with what it lists TIED to the program's text (the seventh form; the later family's looks); each row that meets fmt, with fmt's text TOLD by the authors' own Lean function (tested against real Go, not proved from fmt's source: count such statements apart). THE CARD IS WHAT COUNTS. Prove the row's statement (the work); the ties are given (YtnkmddcadkcdcaaDoorTie.lean); close each card by the builder's one call (the guide's Derived/Test/ToyasCard.lean, 'card_holds'). Laid BY PROGRAM, IN A SANDBOX (cutbox-door.mjs). By AI agents, Wed Nov 11 2026. No macro, syntax, notation, axiom, sorry.
-/
import Derived.Test.YtnkmddcadkcdcaaDoorRows
import GoSem.ClaimSeven
namespace Go.Proofs.YtnkmddcadkcdcaaDoor
namespace Rows

/-- THE TIED CARD OF 'quadrillekeep.TicketOrder'. -/
def ticketOrderCard : Claim7 := { stood := { row := ticketOrderRow, standIns := [], harness := (true, "c3156bcfa14bf3663195abe16d120e74c949d07b45740f49a5330c446f296aec"), looks := true }, kinds := [], alts := [], laidByText := true, laidKinds := [.handle], laidTests := true, laidLooks := .later }
def TicketOrderCardSaid : Prop := Claim7.holds Tryd.pinned (.plain (OpenSpec.ofChange ticketOrderSpec)) ticketOrderCard

/-- THE TIED CARD OF 'quadrillekeep.TicketTold'. -/
def ticketToldCard : Claim7 := { stood := { row := ticketToldRow, standIns := [], harness := (true, "c3156bcfa14bf3663195abe16d120e74c949d07b45740f49a5330c446f296aec"), looks := true }, kinds := [], alts := [], laidByText := true, laidKinds := [.handle], laidTests := true, laidLooks := .later }
def TicketToldCardSaid : Prop := Claim7.holds Tryd.pinned (.plain (OpenSpec.ofChange ticketToldSpec)) ticketToldCard

/-- THE TIED CARD OF 'quadrillekeep.SemaAlone'. -/
def semaAloneCard : Claim7 := { stood := { row := semaAloneRow, standIns := [], harness := (true, "c3156bcfa14bf3663195abe16d120e74c949d07b45740f49a5330c446f296aec"), looks := true }, kinds := [], alts := [], laidByText := true, laidKinds := [.handle], laidTests := true, laidLooks := .later }
def SemaAloneCardSaid : Prop := Claim7.holds Tryd.pinned (.plain (OpenSpec.ofChange semaAloneSpec)) semaAloneCard

/-- THE TIED CARD OF 'quadrillekeep.LatchWaits'. -/
def latchWaitsCard : Claim7 := { stood := { row := latchWaitsRow, standIns := [], harness := (true, "c3156bcfa14bf3663195abe16d120e74c949d07b45740f49a5330c446f296aec"), looks := true }, kinds := [], alts := [], laidByText := true, laidKinds := [.handle], laidTests := true, laidLooks := .later }
def LatchWaitsCardSaid : Prop := Claim7.holds Tryd.pinned (.plain (OpenSpec.ofChange latchWaitsSpec)) latchWaitsCard

/-- THE TIED CARD OF 'quadrillekeep.LatchCounts'. -/
def latchCountsCard : Claim7 := { stood := { row := latchCountsRow, standIns := [], harness := (true, "c3156bcfa14bf3663195abe16d120e74c949d07b45740f49a5330c446f296aec"), looks := true }, kinds := [], alts := [], laidByText := true, laidKinds := [.handle], laidTests := true, laidLooks := .later }
def LatchCountsCardSaid : Prop := Claim7.holds Tryd.pinned (.plain (OpenSpec.ofChange latchCountsSpec)) latchCountsCard

/-- THE TIED CARD OF 'quadrillekeep.CoreFetches'. -/
def coreFetchesCard : Claim7 := { stood := { row := coreFetchesRow, standIns := [], harness := (true, "c3156bcfa14bf3663195abe16d120e74c949d07b45740f49a5330c446f296aec"), looks := true }, kinds := [], alts := [], laidByText := true, laidKinds := [.handle], laidTests := true, laidLooks := .later }
def CoreFetchesCardSaid : Prop := Claim7.holds Tryd.pinned (.plain (OpenSpec.ofChange coreFetchesSpec)) coreFetchesCard

/-- THE TIED CARD OF 'quadrillekeep.CoreLoses'. -/
def coreLosesCard : Claim7 := { stood := { row := coreLosesRow, standIns := [], harness := (true, "c3156bcfa14bf3663195abe16d120e74c949d07b45740f49a5330c446f296aec"), looks := true }, kinds := [], alts := [], laidByText := true, laidKinds := [.handle], laidTests := true, laidLooks := .later }
def CoreLosesCardSaid : Prop := Claim7.holds Tryd.pinned (.plain (OpenSpec.ofChange coreLosesSpec)) coreLosesCard

/-- THE TIED CARD OF 'quadrillekeep.CoreSwaps'. -/
def coreSwapsCard : Claim7 := { stood := { row := coreSwapsRow, standIns := [], harness := (true, "c3156bcfa14bf3663195abe16d120e74c949d07b45740f49a5330c446f296aec"), looks := true }, kinds := [], alts := [], laidByText := true, laidKinds := [.handle], laidTests := true, laidLooks := .later }
def CoreSwapsCardSaid : Prop := Claim7.holds Tryd.pinned (.plain (OpenSpec.ofChange coreSwapsSpec)) coreSwapsCard

/-- THE TIED CARD OF 'quadrillekeep.RwEnds'. -/
def rwEndsCard : Claim7 := { stood := { row := rwEndsRow, standIns := [], harness := (true, "c3156bcfa14bf3663195abe16d120e74c949d07b45740f49a5330c446f296aec"), looks := true }, kinds := [], alts := [], laidByText := true, laidKinds := [.handle], laidTests := true, laidLooks := .later }
def RwEndsCardSaid : Prop := Claim7.holds Tryd.pinned (.plain (OpenSpec.ofChange rwEndsSpec)) rwEndsCard

/-- THE TIED CARD OF 'quadrillekeep.RwApart'. -/
def rwApartCard : Claim7 := { stood := { row := rwApartRow, standIns := [], harness := (true, "c3156bcfa14bf3663195abe16d120e74c949d07b45740f49a5330c446f296aec"), looks := true }, kinds := [], alts := [], laidByText := true, laidKinds := [.handle], laidTests := true, laidLooks := .later }
def RwApartCardSaid : Prop := Claim7.holds Tryd.pinned (.plain (OpenSpec.ofChange rwApartSpec)) rwApartCard

/-- THE TIED CARD OF 'quadrillekeep.RwMany'. -/
def rwManyCard : Claim7 := { stood := { row := rwManyRow, standIns := [], harness := (true, "c3156bcfa14bf3663195abe16d120e74c949d07b45740f49a5330c446f296aec"), looks := true }, kinds := [], alts := [], laidByText := true, laidKinds := [.handle], laidTests := true, laidLooks := .later }
def RwManyCardSaid : Prop := Claim7.holds Tryd.pinned (.plain (OpenSpec.ofChange rwManySpec)) rwManyCard

/-- THE TIED CARD OF 'quadrillekeep.TradeSlots'. -/
def tradeSlotsCard : Claim7 := { stood := { row := tradeSlotsRow, standIns := [], harness := (true, "c3156bcfa14bf3663195abe16d120e74c949d07b45740f49a5330c446f296aec"), looks := true }, kinds := [], alts := [], laidByText := true, laidKinds := [.handle], laidTests := true, laidLooks := .later }
def TradeSlotsCardSaid : Prop := Claim7.holds Tryd.pinned (.plain (OpenSpec.ofChange tradeSlotsSpec)) tradeSlotsCard

/-- THE TIED CARD OF 'quadrillekeep.TradeEnds'. -/
def tradeEndsCard : Claim7 := { stood := { row := tradeEndsRow, standIns := [], harness := (true, "c3156bcfa14bf3663195abe16d120e74c949d07b45740f49a5330c446f296aec"), looks := true }, kinds := [], alts := [], laidByText := true, laidKinds := [.handle], laidTests := true, laidLooks := .later }
def TradeEndsCardSaid : Prop := Claim7.holds Tryd.pinned (.plain (OpenSpec.ofChange tradeEndsSpec)) tradeEndsCard

/-- THE TIED CARD OF 'quadrillekeep.TradePairs'. -/
def tradePairsCard : Claim7 := { stood := { row := tradePairsRow, standIns := [], harness := (true, "c3156bcfa14bf3663195abe16d120e74c949d07b45740f49a5330c446f296aec"), looks := true }, kinds := [], alts := [], laidByText := true, laidKinds := [.handle], laidTests := true, laidLooks := .later }
def TradePairsCardSaid : Prop := Claim7.holds Tryd.pinned (.plain (OpenSpec.ofChange tradePairsSpec)) tradePairsCard

/-- THE TIED CARD OF 'quadrillekeep.GatherMisses'. -/
def gatherMissesCard : Claim7 := { stood := { row := gatherMissesRow, standIns := [], harness := (true, "c3156bcfa14bf3663195abe16d120e74c949d07b45740f49a5330c446f296aec"), looks := true }, kinds := [], alts := [], laidByText := true, laidKinds := [.handle], laidTests := true, laidLooks := .later }
def GatherMissesCardSaid : Prop := Claim7.holds Tryd.pinned (.plain (OpenSpec.ofChange gatherMissesSpec)) gatherMissesCard

/-- THE TIED CARD OF 'quadrillekeep.GatherCloses'. -/
def gatherClosesCard : Claim7 := { stood := { row := gatherClosesRow, standIns := [], harness := (true, "c3156bcfa14bf3663195abe16d120e74c949d07b45740f49a5330c446f296aec"), looks := true }, kinds := [], alts := [], laidByText := true, laidKinds := [.handle], laidTests := true, laidLooks := .later }
def GatherClosesCardSaid : Prop := Claim7.holds Tryd.pinned (.plain (OpenSpec.ofChange gatherClosesSpec)) gatherClosesCard

/-- THE TIED CARD OF 'quadrillekeep.GatherPasses'. -/
def gatherPassesCard : Claim7 := { stood := { row := gatherPassesRow, standIns := [], harness := (true, "c3156bcfa14bf3663195abe16d120e74c949d07b45740f49a5330c446f296aec"), looks := true }, kinds := [], alts := [], laidByText := true, laidKinds := [.handle], laidTests := true, laidLooks := .later }
def GatherPassesCardSaid : Prop := Claim7.holds Tryd.pinned (.plain (OpenSpec.ofChange gatherPassesSpec)) gatherPassesCard

/-- THE TIED CARD OF 'quadrillekeep.GatherAlone'. -/
def gatherAloneCard : Claim7 := { stood := { row := gatherAloneRow, standIns := [], harness := (true, "c3156bcfa14bf3663195abe16d120e74c949d07b45740f49a5330c446f296aec"), looks := true }, kinds := [], alts := [], laidByText := true, laidKinds := [.handle], laidTests := true, laidLooks := .later }
def GatherAloneCardSaid : Prop := Claim7.holds Tryd.pinned (.plain (OpenSpec.ofChange gatherAloneSpec)) gatherAloneCard

/-- THE TIED CARD OF 'quadrillekeep.GatherJoins'. -/
def gatherJoinsCard : Claim7 := { stood := { row := gatherJoinsRow, standIns := [], harness := (true, "c3156bcfa14bf3663195abe16d120e74c949d07b45740f49a5330c446f296aec"), looks := true }, kinds := [], alts := [], laidByText := true, laidKinds := [.handle], laidTests := true, laidLooks := .later }
def GatherJoinsCardSaid : Prop := Claim7.holds Tryd.pinned (.plain (OpenSpec.ofChange gatherJoinsSpec)) gatherJoinsCard

/-- THE SECOND FORM's CARD OF 'quadrillekeep.TicketOrder'. -/
def ticketOrderUptoCard : Claim7 := { stood := { row := ticketOrderUptoRow, standIns := [], harness := (true, "c3156bcfa14bf3663195abe16d120e74c949d07b45740f49a5330c446f296aec"), looks := true }, kinds := [], alts := [], laidByText := true, laidKinds := [.handle], laidTests := true, laidLooks := .later }
def TicketOrderUptoCardSaid : Prop := Claim7.holds Tryd.pinned (.plain (OpenSpec.upto ticketOrderSpec)) ticketOrderUptoCard

/-- THE SECOND FORM's CARD OF 'quadrillekeep.TicketTold'. -/
def ticketToldUptoCard : Claim7 := { stood := { row := ticketToldUptoRow, standIns := [], harness := (true, "c3156bcfa14bf3663195abe16d120e74c949d07b45740f49a5330c446f296aec"), looks := true }, kinds := [], alts := [], laidByText := true, laidKinds := [.handle], laidTests := true, laidLooks := .later }
def TicketToldUptoCardSaid : Prop := Claim7.holds Tryd.pinned (.plain (OpenSpec.upto ticketToldSpec)) ticketToldUptoCard

/-- THE SECOND FORM's CARD OF 'quadrillekeep.SemaAlone'. -/
def semaAloneUptoCard : Claim7 := { stood := { row := semaAloneUptoRow, standIns := [], harness := (true, "c3156bcfa14bf3663195abe16d120e74c949d07b45740f49a5330c446f296aec"), looks := true }, kinds := [], alts := [], laidByText := true, laidKinds := [.handle], laidTests := true, laidLooks := .later }
def SemaAloneUptoCardSaid : Prop := Claim7.holds Tryd.pinned (.plain (OpenSpec.upto semaAloneSpec)) semaAloneUptoCard

/-- THE SECOND FORM's CARD OF 'quadrillekeep.LatchWaits'. -/
def latchWaitsUptoCard : Claim7 := { stood := { row := latchWaitsUptoRow, standIns := [], harness := (true, "c3156bcfa14bf3663195abe16d120e74c949d07b45740f49a5330c446f296aec"), looks := true }, kinds := [], alts := [], laidByText := true, laidKinds := [.handle], laidTests := true, laidLooks := .later }
def LatchWaitsUptoCardSaid : Prop := Claim7.holds Tryd.pinned (.plain (OpenSpec.upto latchWaitsSpec)) latchWaitsUptoCard

/-- THE SECOND FORM's CARD OF 'quadrillekeep.LatchCounts'. -/
def latchCountsUptoCard : Claim7 := { stood := { row := latchCountsUptoRow, standIns := [], harness := (true, "c3156bcfa14bf3663195abe16d120e74c949d07b45740f49a5330c446f296aec"), looks := true }, kinds := [], alts := [], laidByText := true, laidKinds := [.handle], laidTests := true, laidLooks := .later }
def LatchCountsUptoCardSaid : Prop := Claim7.holds Tryd.pinned (.plain (OpenSpec.upto latchCountsSpec)) latchCountsUptoCard

/-- THE SECOND FORM's CARD OF 'quadrillekeep.CoreFetches'. -/
def coreFetchesUptoCard : Claim7 := { stood := { row := coreFetchesUptoRow, standIns := [], harness := (true, "c3156bcfa14bf3663195abe16d120e74c949d07b45740f49a5330c446f296aec"), looks := true }, kinds := [], alts := [], laidByText := true, laidKinds := [.handle], laidTests := true, laidLooks := .later }
def CoreFetchesUptoCardSaid : Prop := Claim7.holds Tryd.pinned (.plain (OpenSpec.upto coreFetchesSpec)) coreFetchesUptoCard

/-- THE SECOND FORM's CARD OF 'quadrillekeep.CoreLoses'. -/
def coreLosesUptoCard : Claim7 := { stood := { row := coreLosesUptoRow, standIns := [], harness := (true, "c3156bcfa14bf3663195abe16d120e74c949d07b45740f49a5330c446f296aec"), looks := true }, kinds := [], alts := [], laidByText := true, laidKinds := [.handle], laidTests := true, laidLooks := .later }
def CoreLosesUptoCardSaid : Prop := Claim7.holds Tryd.pinned (.plain (OpenSpec.upto coreLosesSpec)) coreLosesUptoCard

/-- THE SECOND FORM's CARD OF 'quadrillekeep.CoreSwaps'. -/
def coreSwapsUptoCard : Claim7 := { stood := { row := coreSwapsUptoRow, standIns := [], harness := (true, "c3156bcfa14bf3663195abe16d120e74c949d07b45740f49a5330c446f296aec"), looks := true }, kinds := [], alts := [], laidByText := true, laidKinds := [.handle], laidTests := true, laidLooks := .later }
def CoreSwapsUptoCardSaid : Prop := Claim7.holds Tryd.pinned (.plain (OpenSpec.upto coreSwapsSpec)) coreSwapsUptoCard

/-- THE SECOND FORM's CARD OF 'quadrillekeep.RwEnds'. -/
def rwEndsUptoCard : Claim7 := { stood := { row := rwEndsUptoRow, standIns := [], harness := (true, "c3156bcfa14bf3663195abe16d120e74c949d07b45740f49a5330c446f296aec"), looks := true }, kinds := [], alts := [], laidByText := true, laidKinds := [.handle], laidTests := true, laidLooks := .later }
def RwEndsUptoCardSaid : Prop := Claim7.holds Tryd.pinned (.plain (OpenSpec.upto rwEndsSpec)) rwEndsUptoCard

/-- THE SECOND FORM's CARD OF 'quadrillekeep.RwApart'. -/
def rwApartUptoCard : Claim7 := { stood := { row := rwApartUptoRow, standIns := [], harness := (true, "c3156bcfa14bf3663195abe16d120e74c949d07b45740f49a5330c446f296aec"), looks := true }, kinds := [], alts := [], laidByText := true, laidKinds := [.handle], laidTests := true, laidLooks := .later }
def RwApartUptoCardSaid : Prop := Claim7.holds Tryd.pinned (.plain (OpenSpec.upto rwApartSpec)) rwApartUptoCard

/-- THE SECOND FORM's CARD OF 'quadrillekeep.RwMany'. -/
def rwManyUptoCard : Claim7 := { stood := { row := rwManyUptoRow, standIns := [], harness := (true, "c3156bcfa14bf3663195abe16d120e74c949d07b45740f49a5330c446f296aec"), looks := true }, kinds := [], alts := [], laidByText := true, laidKinds := [.handle], laidTests := true, laidLooks := .later }
def RwManyUptoCardSaid : Prop := Claim7.holds Tryd.pinned (.plain (OpenSpec.upto rwManySpec)) rwManyUptoCard

/-- THE SECOND FORM's CARD OF 'quadrillekeep.TradeSlots'. -/
def tradeSlotsUptoCard : Claim7 := { stood := { row := tradeSlotsUptoRow, standIns := [], harness := (true, "c3156bcfa14bf3663195abe16d120e74c949d07b45740f49a5330c446f296aec"), looks := true }, kinds := [], alts := [], laidByText := true, laidKinds := [.handle], laidTests := true, laidLooks := .later }
def TradeSlotsUptoCardSaid : Prop := Claim7.holds Tryd.pinned (.plain (OpenSpec.upto tradeSlotsSpec)) tradeSlotsUptoCard

/-- THE SECOND FORM's CARD OF 'quadrillekeep.TradeEnds'. -/
def tradeEndsUptoCard : Claim7 := { stood := { row := tradeEndsUptoRow, standIns := [], harness := (true, "c3156bcfa14bf3663195abe16d120e74c949d07b45740f49a5330c446f296aec"), looks := true }, kinds := [], alts := [], laidByText := true, laidKinds := [.handle], laidTests := true, laidLooks := .later }
def TradeEndsUptoCardSaid : Prop := Claim7.holds Tryd.pinned (.plain (OpenSpec.upto tradeEndsSpec)) tradeEndsUptoCard

/-- THE SECOND FORM's CARD OF 'quadrillekeep.TradePairs'. -/
def tradePairsUptoCard : Claim7 := { stood := { row := tradePairsUptoRow, standIns := [], harness := (true, "c3156bcfa14bf3663195abe16d120e74c949d07b45740f49a5330c446f296aec"), looks := true }, kinds := [], alts := [], laidByText := true, laidKinds := [.handle], laidTests := true, laidLooks := .later }
def TradePairsUptoCardSaid : Prop := Claim7.holds Tryd.pinned (.plain (OpenSpec.upto tradePairsSpec)) tradePairsUptoCard

/-- THE SECOND FORM's CARD OF 'quadrillekeep.GatherMisses'. -/
def gatherMissesUptoCard : Claim7 := { stood := { row := gatherMissesUptoRow, standIns := [], harness := (true, "c3156bcfa14bf3663195abe16d120e74c949d07b45740f49a5330c446f296aec"), looks := true }, kinds := [], alts := [], laidByText := true, laidKinds := [.handle], laidTests := true, laidLooks := .later }
def GatherMissesUptoCardSaid : Prop := Claim7.holds Tryd.pinned (.plain (OpenSpec.upto gatherMissesSpec)) gatherMissesUptoCard

/-- THE SECOND FORM's CARD OF 'quadrillekeep.GatherCloses'. -/
def gatherClosesUptoCard : Claim7 := { stood := { row := gatherClosesUptoRow, standIns := [], harness := (true, "c3156bcfa14bf3663195abe16d120e74c949d07b45740f49a5330c446f296aec"), looks := true }, kinds := [], alts := [], laidByText := true, laidKinds := [.handle], laidTests := true, laidLooks := .later }
def GatherClosesUptoCardSaid : Prop := Claim7.holds Tryd.pinned (.plain (OpenSpec.upto gatherClosesSpec)) gatherClosesUptoCard

/-- THE SECOND FORM's CARD OF 'quadrillekeep.GatherPasses'. -/
def gatherPassesUptoCard : Claim7 := { stood := { row := gatherPassesUptoRow, standIns := [], harness := (true, "c3156bcfa14bf3663195abe16d120e74c949d07b45740f49a5330c446f296aec"), looks := true }, kinds := [], alts := [], laidByText := true, laidKinds := [.handle], laidTests := true, laidLooks := .later }
def GatherPassesUptoCardSaid : Prop := Claim7.holds Tryd.pinned (.plain (OpenSpec.upto gatherPassesSpec)) gatherPassesUptoCard

/-- THE SECOND FORM's CARD OF 'quadrillekeep.GatherAlone'. -/
def gatherAloneUptoCard : Claim7 := { stood := { row := gatherAloneUptoRow, standIns := [], harness := (true, "c3156bcfa14bf3663195abe16d120e74c949d07b45740f49a5330c446f296aec"), looks := true }, kinds := [], alts := [], laidByText := true, laidKinds := [.handle], laidTests := true, laidLooks := .later }
def GatherAloneUptoCardSaid : Prop := Claim7.holds Tryd.pinned (.plain (OpenSpec.upto gatherAloneSpec)) gatherAloneUptoCard

/-- THE SECOND FORM's CARD OF 'quadrillekeep.GatherJoins'. -/
def gatherJoinsUptoCard : Claim7 := { stood := { row := gatherJoinsUptoRow, standIns := [], harness := (true, "c3156bcfa14bf3663195abe16d120e74c949d07b45740f49a5330c446f296aec"), looks := true }, kinds := [], alts := [], laidByText := true, laidKinds := [.handle], laidTests := true, laidLooks := .later }
def GatherJoinsUptoCardSaid : Prop := Claim7.holds Tryd.pinned (.plain (OpenSpec.upto gatherJoinsSpec)) gatherJoinsUptoCard
end Rows
end Go.Proofs.YtnkmddcadkcdcaaDoor
