/-
  NARROWER THAN 'FOR EVERY INPUT', by the rows' own cells (each row's printed sentence says how): TicketOrder: laid · TicketTold: laid · SemaAlone: laid · LatchWaits: laid · LatchCounts: laid · CoreFetches: laid · CoreLoses: laid · CoreSwaps: laid · RwEnds: laid · RwApart: laid · RwMany: laid · TradeSlots: laid · TradeEnds: laid · TradePairs: laid · GatherMisses: laid · GatherCloses: laid · GatherPasses: laid · GatherAlone: laid · GatherJoins: laid.
  DERIVED. THE GIVEN ROWS OF THIS SEAT. 19 by the template 'for every input the law returns true; each argument reads behind the call as it read before'; 0 by the template 'total and deterministic' (their statements: YtnkmddcadkcdcaaDoorTotals.lean).
  GIVEN WITH THE SEED: the statements are not yours to turn. If you find one false, say at which input.
  Laid BY PROGRAM, IN A SANDBOX (cutbox-rows.mjs): the forced cells as the released guide's own fill.sh prints them over the translation a18fff85aa6f7e02… (all of the seat's roots in one cut). By AI agents, Wed Nov 11 2026. No macro, syntax, notation, axiom, sorry.
-/
import Derived.Test.YtnkmddcadkcdcaaDoorChecked
import GoSem.Claim
import GoSem.ClaimJoined
import GoSem.ClaimMapViews
import Derived.JoinedTies
import Derived.KernelRfl
namespace Go.Proofs.YtnkmddcadkcdcaaDoor
/- THE CELL 'sum', in the pinned program and in every row, IS THE sha256 OF THE DUMP (.gsa) THAT YtnkmddcadkcdcaaDoorProg.lean LOADS. Nothing in Lean hashes anything: it is a label: what it is worth is what the hold of that sum in a sandbox is worth. -/
noncomputable def Tryd.pinned : Pinned := { name := "ytnkmddcadkcdcaadoor", sum := "a18fff85aa6f7e0273f7e1a9983b4e10d1154fc5e0a22a9b30306567d10963d0", checked := Tryd.checked }
namespace Rows
def none {H : Type} : Left H := { results := [], args := [] }

/- WHAT THE LISTED PACKAGE-LEVEL VARIABLES READ AS WHEN THE CALL BEGINS. Each datum BY PROGRAM (the guide's laid-datum.mjs) off the statement by which the dump's own 'gosem.cut.vars' lays the variable. In a bare row this is a premise. The card (YtnkmddcadkcdcaaDoorCards.lean) ties it to the program's text. -/
def laid_errors_errorType {H : Type} : DataW H := .iface "internal/reflectlite.rtype" (.agg [.ptr (.lit (.string [101, 114, 114, 111, 114]))])

/-- 'quadrillekeep.TicketOrder': WHATEVER THE INPUT: true; the input reads as it did. -/
def ticketOrderSpec : ChangeSpec := { name := "ticketOrder", fn := fun _ => fun
  | [d1, d2, d3, d4] => { results := [.lit (.bool true)], args := [d1, d2, d3, d4] }
  | _ => none }
def ticketOrderRow : OpenClaim := { program := "ytnkmddcadkcdcaadoor", sum := "a18fff85aa6f7e0273f7e1a9983b4e10d1154fc5e0a22a9b30306567d10963d0", func := "quadrille/quadrillekeep.TicketOrder", spec := "ticketOrder", inPlace := ["internal/reflectlite.ValueOf", "(internal/reflectlite.Value).Type", "(internal/reflectlite.Value).IsNil", "internal/reflectlite.TypeOf", "(internal/reflectlite.Value).Elem", "(internal/reflectlite.Value).Set"], unfollowed := true, recurses := true, named := ["errors.errorType"], apart := false, laid := [("errors.errorType", laid_errors_errorType)] }
def TicketOrderSaid : Prop := ticketOrderRow.holds Tryd.pinned (OpenSpec.ofChange ticketOrderSpec)

/-- ITS FALSE NEIGHBOUR: 'it returns false'. Refute it at one input. -/
def ticketOrderWrong : ChangeSpec := { name := "ticketOrder", fn := fun _ => fun
  | [d1, d2, d3, d4] => { results := [.lit (.bool false)], args := [d1, d2, d3, d4] }
  | _ => none }
def TicketOrderWrongFalsely : Prop := ticketOrderRow.holds Tryd.pinned (OpenSpec.ofChange ticketOrderWrong)

/-- 'quadrillekeep.TicketTold': WHATEVER THE INPUT: true; the input reads as it did. -/
def ticketToldSpec : ChangeSpec := { name := "ticketTold", fn := fun _ => fun
  | [d1, d2, d3] => { results := [.lit (.bool true)], args := [d1, d2, d3] }
  | _ => none }
def ticketToldRow : OpenClaim := { program := "ytnkmddcadkcdcaadoor", sum := "a18fff85aa6f7e0273f7e1a9983b4e10d1154fc5e0a22a9b30306567d10963d0", func := "quadrille/quadrillekeep.TicketTold", spec := "ticketTold", inPlace := ["internal/reflectlite.ValueOf", "(internal/reflectlite.Value).Type", "(internal/reflectlite.Value).IsNil", "internal/reflectlite.TypeOf", "(internal/reflectlite.Value).Elem", "(internal/reflectlite.Value).Set"], unfollowed := true, recurses := true, named := ["errors.errorType"], apart := false, laid := [("errors.errorType", laid_errors_errorType)] }
def TicketToldSaid : Prop := ticketToldRow.holds Tryd.pinned (OpenSpec.ofChange ticketToldSpec)

/-- ITS FALSE NEIGHBOUR: 'it returns false'. Refute it at one input. -/
def ticketToldWrong : ChangeSpec := { name := "ticketTold", fn := fun _ => fun
  | [d1, d2, d3] => { results := [.lit (.bool false)], args := [d1, d2, d3] }
  | _ => none }
def TicketToldWrongFalsely : Prop := ticketToldRow.holds Tryd.pinned (OpenSpec.ofChange ticketToldWrong)

/-- 'quadrillekeep.SemaAlone': WHATEVER THE INPUT: true; the input reads as it did. -/
def semaAloneSpec : ChangeSpec := { name := "semaAlone", fn := fun _ => fun
  | [d1, d2] => { results := [.lit (.bool true)], args := [d1, d2] }
  | _ => none }
def semaAloneRow : OpenClaim := { program := "ytnkmddcadkcdcaadoor", sum := "a18fff85aa6f7e0273f7e1a9983b4e10d1154fc5e0a22a9b30306567d10963d0", func := "quadrille/quadrillekeep.SemaAlone", spec := "semaAlone", inPlace := ["internal/reflectlite.ValueOf", "(internal/reflectlite.Value).Type", "(internal/reflectlite.Value).IsNil", "internal/reflectlite.TypeOf", "(internal/reflectlite.Value).Elem", "(internal/reflectlite.Value).Set"], unfollowed := true, recurses := true, named := ["errors.errorType"], apart := false, laid := [("errors.errorType", laid_errors_errorType)] }
def SemaAloneSaid : Prop := semaAloneRow.holds Tryd.pinned (OpenSpec.ofChange semaAloneSpec)

/-- ITS FALSE NEIGHBOUR: 'it returns false'. Refute it at one input. -/
def semaAloneWrong : ChangeSpec := { name := "semaAlone", fn := fun _ => fun
  | [d1, d2] => { results := [.lit (.bool false)], args := [d1, d2] }
  | _ => none }
def SemaAloneWrongFalsely : Prop := semaAloneRow.holds Tryd.pinned (OpenSpec.ofChange semaAloneWrong)

/-- 'quadrillekeep.LatchWaits': WHATEVER THE INPUT: true; the input reads as it did. -/
def latchWaitsSpec : ChangeSpec := { name := "latchWaits", fn := fun _ => fun
  | [d1, d2, d3] => { results := [.lit (.bool true)], args := [d1, d2, d3] }
  | _ => none }
def latchWaitsRow : OpenClaim := { program := "ytnkmddcadkcdcaadoor", sum := "a18fff85aa6f7e0273f7e1a9983b4e10d1154fc5e0a22a9b30306567d10963d0", func := "quadrille/quadrillekeep.LatchWaits", spec := "latchWaits", inPlace := ["internal/reflectlite.ValueOf", "(internal/reflectlite.Value).Type", "(internal/reflectlite.Value).IsNil", "internal/reflectlite.TypeOf", "(internal/reflectlite.Value).Elem", "(internal/reflectlite.Value).Set"], unfollowed := true, recurses := true, named := ["errors.errorType"], apart := false, laid := [("errors.errorType", laid_errors_errorType)] }
def LatchWaitsSaid : Prop := latchWaitsRow.holds Tryd.pinned (OpenSpec.ofChange latchWaitsSpec)

/-- ITS FALSE NEIGHBOUR: 'it returns false'. Refute it at one input. -/
def latchWaitsWrong : ChangeSpec := { name := "latchWaits", fn := fun _ => fun
  | [d1, d2, d3] => { results := [.lit (.bool false)], args := [d1, d2, d3] }
  | _ => none }
def LatchWaitsWrongFalsely : Prop := latchWaitsRow.holds Tryd.pinned (OpenSpec.ofChange latchWaitsWrong)

/-- 'quadrillekeep.LatchCounts': WHATEVER THE INPUT: true; the input reads as it did. -/
def latchCountsSpec : ChangeSpec := { name := "latchCounts", fn := fun _ => fun
  | [d1, d2, d3] => { results := [.lit (.bool true)], args := [d1, d2, d3] }
  | _ => none }
def latchCountsRow : OpenClaim := { program := "ytnkmddcadkcdcaadoor", sum := "a18fff85aa6f7e0273f7e1a9983b4e10d1154fc5e0a22a9b30306567d10963d0", func := "quadrille/quadrillekeep.LatchCounts", spec := "latchCounts", inPlace := ["internal/reflectlite.ValueOf", "(internal/reflectlite.Value).Type", "(internal/reflectlite.Value).IsNil", "internal/reflectlite.TypeOf", "(internal/reflectlite.Value).Elem", "(internal/reflectlite.Value).Set"], unfollowed := true, recurses := true, named := ["errors.errorType"], apart := false, laid := [("errors.errorType", laid_errors_errorType)] }
def LatchCountsSaid : Prop := latchCountsRow.holds Tryd.pinned (OpenSpec.ofChange latchCountsSpec)

/-- ITS FALSE NEIGHBOUR: 'it returns false'. Refute it at one input. -/
def latchCountsWrong : ChangeSpec := { name := "latchCounts", fn := fun _ => fun
  | [d1, d2, d3] => { results := [.lit (.bool false)], args := [d1, d2, d3] }
  | _ => none }
def LatchCountsWrongFalsely : Prop := latchCountsRow.holds Tryd.pinned (OpenSpec.ofChange latchCountsWrong)

/-- 'quadrillekeep.CoreFetches': WHATEVER THE INPUT: true; the input reads as it did. -/
def coreFetchesSpec : ChangeSpec := { name := "coreFetches", fn := fun _ => fun
  | [d1, d2, d3] => { results := [.lit (.bool true)], args := [d1, d2, d3] }
  | _ => none }
def coreFetchesRow : OpenClaim := { program := "ytnkmddcadkcdcaadoor", sum := "a18fff85aa6f7e0273f7e1a9983b4e10d1154fc5e0a22a9b30306567d10963d0", func := "quadrille/quadrillekeep.CoreFetches", spec := "coreFetches", inPlace := ["internal/reflectlite.ValueOf", "(internal/reflectlite.Value).Type", "(internal/reflectlite.Value).IsNil", "internal/reflectlite.TypeOf", "(internal/reflectlite.Value).Elem", "(internal/reflectlite.Value).Set"], unfollowed := true, recurses := true, named := ["errors.errorType"], apart := false, laid := [("errors.errorType", laid_errors_errorType)] }
def CoreFetchesSaid : Prop := coreFetchesRow.holds Tryd.pinned (OpenSpec.ofChange coreFetchesSpec)

/-- ITS FALSE NEIGHBOUR: 'it returns false'. Refute it at one input. -/
def coreFetchesWrong : ChangeSpec := { name := "coreFetches", fn := fun _ => fun
  | [d1, d2, d3] => { results := [.lit (.bool false)], args := [d1, d2, d3] }
  | _ => none }
def CoreFetchesWrongFalsely : Prop := coreFetchesRow.holds Tryd.pinned (OpenSpec.ofChange coreFetchesWrong)

/-- 'quadrillekeep.CoreLoses': WHATEVER THE INPUT: true; the input reads as it did. -/
def coreLosesSpec : ChangeSpec := { name := "coreLoses", fn := fun _ => fun
  | [d1, d2] => { results := [.lit (.bool true)], args := [d1, d2] }
  | _ => none }
def coreLosesRow : OpenClaim := { program := "ytnkmddcadkcdcaadoor", sum := "a18fff85aa6f7e0273f7e1a9983b4e10d1154fc5e0a22a9b30306567d10963d0", func := "quadrille/quadrillekeep.CoreLoses", spec := "coreLoses", inPlace := ["internal/reflectlite.ValueOf", "(internal/reflectlite.Value).Type", "(internal/reflectlite.Value).IsNil", "internal/reflectlite.TypeOf", "(internal/reflectlite.Value).Elem", "(internal/reflectlite.Value).Set"], unfollowed := true, recurses := true, named := ["errors.errorType"], apart := false, laid := [("errors.errorType", laid_errors_errorType)] }
def CoreLosesSaid : Prop := coreLosesRow.holds Tryd.pinned (OpenSpec.ofChange coreLosesSpec)

/-- ITS FALSE NEIGHBOUR: 'it returns false'. Refute it at one input. -/
def coreLosesWrong : ChangeSpec := { name := "coreLoses", fn := fun _ => fun
  | [d1, d2] => { results := [.lit (.bool false)], args := [d1, d2] }
  | _ => none }
def CoreLosesWrongFalsely : Prop := coreLosesRow.holds Tryd.pinned (OpenSpec.ofChange coreLosesWrong)

/-- 'quadrillekeep.CoreSwaps': WHATEVER THE INPUT: true; the input reads as it did. -/
def coreSwapsSpec : ChangeSpec := { name := "coreSwaps", fn := fun _ => fun
  | [d1, d2] => { results := [.lit (.bool true)], args := [d1, d2] }
  | _ => none }
def coreSwapsRow : OpenClaim := { program := "ytnkmddcadkcdcaadoor", sum := "a18fff85aa6f7e0273f7e1a9983b4e10d1154fc5e0a22a9b30306567d10963d0", func := "quadrille/quadrillekeep.CoreSwaps", spec := "coreSwaps", inPlace := ["internal/reflectlite.ValueOf", "(internal/reflectlite.Value).Type", "(internal/reflectlite.Value).IsNil", "internal/reflectlite.TypeOf", "(internal/reflectlite.Value).Elem", "(internal/reflectlite.Value).Set"], unfollowed := true, recurses := true, named := ["errors.errorType"], apart := false, laid := [("errors.errorType", laid_errors_errorType)] }
def CoreSwapsSaid : Prop := coreSwapsRow.holds Tryd.pinned (OpenSpec.ofChange coreSwapsSpec)

/-- ITS FALSE NEIGHBOUR: 'it returns false'. Refute it at one input. -/
def coreSwapsWrong : ChangeSpec := { name := "coreSwaps", fn := fun _ => fun
  | [d1, d2] => { results := [.lit (.bool false)], args := [d1, d2] }
  | _ => none }
def CoreSwapsWrongFalsely : Prop := coreSwapsRow.holds Tryd.pinned (OpenSpec.ofChange coreSwapsWrong)

/-- 'quadrillekeep.RwEnds': WHATEVER THE INPUT: true; the input reads as it did. -/
def rwEndsSpec : ChangeSpec := { name := "rwEnds", fn := fun _ => fun
  | [d1, d2] => { results := [.lit (.bool true)], args := [d1, d2] }
  | _ => none }
def rwEndsRow : OpenClaim := { program := "ytnkmddcadkcdcaadoor", sum := "a18fff85aa6f7e0273f7e1a9983b4e10d1154fc5e0a22a9b30306567d10963d0", func := "quadrille/quadrillekeep.RwEnds", spec := "rwEnds", inPlace := ["internal/reflectlite.ValueOf", "(internal/reflectlite.Value).Type", "(internal/reflectlite.Value).IsNil", "internal/reflectlite.TypeOf", "(internal/reflectlite.Value).Elem", "(internal/reflectlite.Value).Set"], unfollowed := true, recurses := true, named := ["errors.errorType"], apart := false, laid := [("errors.errorType", laid_errors_errorType)] }
def RwEndsSaid : Prop := rwEndsRow.holds Tryd.pinned (OpenSpec.ofChange rwEndsSpec)

/-- ITS FALSE NEIGHBOUR: 'it returns false'. Refute it at one input. -/
def rwEndsWrong : ChangeSpec := { name := "rwEnds", fn := fun _ => fun
  | [d1, d2] => { results := [.lit (.bool false)], args := [d1, d2] }
  | _ => none }
def RwEndsWrongFalsely : Prop := rwEndsRow.holds Tryd.pinned (OpenSpec.ofChange rwEndsWrong)

/-- 'quadrillekeep.RwApart': WHATEVER THE INPUT: true; the input reads as it did. -/
def rwApartSpec : ChangeSpec := { name := "rwApart", fn := fun _ => fun
  | [d1, d2, d3] => { results := [.lit (.bool true)], args := [d1, d2, d3] }
  | _ => none }
def rwApartRow : OpenClaim := { program := "ytnkmddcadkcdcaadoor", sum := "a18fff85aa6f7e0273f7e1a9983b4e10d1154fc5e0a22a9b30306567d10963d0", func := "quadrille/quadrillekeep.RwApart", spec := "rwApart", inPlace := ["internal/reflectlite.ValueOf", "(internal/reflectlite.Value).Type", "(internal/reflectlite.Value).IsNil", "internal/reflectlite.TypeOf", "(internal/reflectlite.Value).Elem", "(internal/reflectlite.Value).Set"], unfollowed := true, recurses := true, named := ["errors.errorType"], apart := false, laid := [("errors.errorType", laid_errors_errorType)] }
def RwApartSaid : Prop := rwApartRow.holds Tryd.pinned (OpenSpec.ofChange rwApartSpec)

/-- ITS FALSE NEIGHBOUR: 'it returns false'. Refute it at one input. -/
def rwApartWrong : ChangeSpec := { name := "rwApart", fn := fun _ => fun
  | [d1, d2, d3] => { results := [.lit (.bool false)], args := [d1, d2, d3] }
  | _ => none }
def RwApartWrongFalsely : Prop := rwApartRow.holds Tryd.pinned (OpenSpec.ofChange rwApartWrong)

/-- 'quadrillekeep.RwMany': WHATEVER THE INPUT: true; the input reads as it did. -/
def rwManySpec : ChangeSpec := { name := "rwMany", fn := fun _ => fun
  | [d1, d2] => { results := [.lit (.bool true)], args := [d1, d2] }
  | _ => none }
def rwManyRow : OpenClaim := { program := "ytnkmddcadkcdcaadoor", sum := "a18fff85aa6f7e0273f7e1a9983b4e10d1154fc5e0a22a9b30306567d10963d0", func := "quadrille/quadrillekeep.RwMany", spec := "rwMany", inPlace := ["internal/reflectlite.ValueOf", "(internal/reflectlite.Value).Type", "(internal/reflectlite.Value).IsNil", "internal/reflectlite.TypeOf", "(internal/reflectlite.Value).Elem", "(internal/reflectlite.Value).Set"], unfollowed := true, recurses := true, named := ["errors.errorType"], apart := false, laid := [("errors.errorType", laid_errors_errorType)] }
def RwManySaid : Prop := rwManyRow.holds Tryd.pinned (OpenSpec.ofChange rwManySpec)

/-- ITS FALSE NEIGHBOUR: 'it returns false'. Refute it at one input. -/
def rwManyWrong : ChangeSpec := { name := "rwMany", fn := fun _ => fun
  | [d1, d2] => { results := [.lit (.bool false)], args := [d1, d2] }
  | _ => none }
def RwManyWrongFalsely : Prop := rwManyRow.holds Tryd.pinned (OpenSpec.ofChange rwManyWrong)

/-- 'quadrillekeep.TradeSlots': WHATEVER THE INPUT: true; the input reads as it did. -/
def tradeSlotsSpec : ChangeSpec := { name := "tradeSlots", fn := fun _ => fun
  | [d1, d2] => { results := [.lit (.bool true)], args := [d1, d2] }
  | _ => none }
def tradeSlotsRow : OpenClaim := { program := "ytnkmddcadkcdcaadoor", sum := "a18fff85aa6f7e0273f7e1a9983b4e10d1154fc5e0a22a9b30306567d10963d0", func := "quadrille/quadrillekeep.TradeSlots", spec := "tradeSlots", inPlace := ["internal/reflectlite.ValueOf", "(internal/reflectlite.Value).Type", "(internal/reflectlite.Value).IsNil", "internal/reflectlite.TypeOf", "(internal/reflectlite.Value).Elem", "(internal/reflectlite.Value).Set"], unfollowed := true, recurses := true, named := ["errors.errorType"], apart := false, laid := [("errors.errorType", laid_errors_errorType)] }
def TradeSlotsSaid : Prop := tradeSlotsRow.holds Tryd.pinned (OpenSpec.ofChange tradeSlotsSpec)

/-- ITS FALSE NEIGHBOUR: 'it returns false'. Refute it at one input. -/
def tradeSlotsWrong : ChangeSpec := { name := "tradeSlots", fn := fun _ => fun
  | [d1, d2] => { results := [.lit (.bool false)], args := [d1, d2] }
  | _ => none }
def TradeSlotsWrongFalsely : Prop := tradeSlotsRow.holds Tryd.pinned (OpenSpec.ofChange tradeSlotsWrong)

/-- 'quadrillekeep.TradeEnds': WHATEVER THE INPUT: true; the input reads as it did. -/
def tradeEndsSpec : ChangeSpec := { name := "tradeEnds", fn := fun _ => fun
  | [d1, d2] => { results := [.lit (.bool true)], args := [d1, d2] }
  | _ => none }
def tradeEndsRow : OpenClaim := { program := "ytnkmddcadkcdcaadoor", sum := "a18fff85aa6f7e0273f7e1a9983b4e10d1154fc5e0a22a9b30306567d10963d0", func := "quadrille/quadrillekeep.TradeEnds", spec := "tradeEnds", inPlace := ["internal/reflectlite.ValueOf", "(internal/reflectlite.Value).Type", "(internal/reflectlite.Value).IsNil", "internal/reflectlite.TypeOf", "(internal/reflectlite.Value).Elem", "(internal/reflectlite.Value).Set"], unfollowed := true, recurses := true, named := ["errors.errorType"], apart := false, laid := [("errors.errorType", laid_errors_errorType)] }
def TradeEndsSaid : Prop := tradeEndsRow.holds Tryd.pinned (OpenSpec.ofChange tradeEndsSpec)

/-- ITS FALSE NEIGHBOUR: 'it returns false'. Refute it at one input. -/
def tradeEndsWrong : ChangeSpec := { name := "tradeEnds", fn := fun _ => fun
  | [d1, d2] => { results := [.lit (.bool false)], args := [d1, d2] }
  | _ => none }
def TradeEndsWrongFalsely : Prop := tradeEndsRow.holds Tryd.pinned (OpenSpec.ofChange tradeEndsWrong)

/-- 'quadrillekeep.TradePairs': WHATEVER THE INPUT: true; the input reads as it did. -/
def tradePairsSpec : ChangeSpec := { name := "tradePairs", fn := fun _ => fun
  | [d1, d2, d3] => { results := [.lit (.bool true)], args := [d1, d2, d3] }
  | _ => none }
def tradePairsRow : OpenClaim := { program := "ytnkmddcadkcdcaadoor", sum := "a18fff85aa6f7e0273f7e1a9983b4e10d1154fc5e0a22a9b30306567d10963d0", func := "quadrille/quadrillekeep.TradePairs", spec := "tradePairs", inPlace := ["internal/reflectlite.ValueOf", "(internal/reflectlite.Value).Type", "(internal/reflectlite.Value).IsNil", "internal/reflectlite.TypeOf", "(internal/reflectlite.Value).Elem", "(internal/reflectlite.Value).Set"], unfollowed := true, recurses := true, named := ["errors.errorType"], apart := false, laid := [("errors.errorType", laid_errors_errorType)] }
def TradePairsSaid : Prop := tradePairsRow.holds Tryd.pinned (OpenSpec.ofChange tradePairsSpec)

/-- ITS FALSE NEIGHBOUR: 'it returns false'. Refute it at one input. -/
def tradePairsWrong : ChangeSpec := { name := "tradePairs", fn := fun _ => fun
  | [d1, d2, d3] => { results := [.lit (.bool false)], args := [d1, d2, d3] }
  | _ => none }
def TradePairsWrongFalsely : Prop := tradePairsRow.holds Tryd.pinned (OpenSpec.ofChange tradePairsWrong)

/-- 'quadrillekeep.GatherMisses': WHATEVER THE INPUT: true; the input reads as it did. -/
def gatherMissesSpec : ChangeSpec := { name := "gatherMisses", fn := fun _ => fun
  | [d1, d2, d3] => { results := [.lit (.bool true)], args := [d1, d2, d3] }
  | _ => none }
def gatherMissesRow : OpenClaim := { program := "ytnkmddcadkcdcaadoor", sum := "a18fff85aa6f7e0273f7e1a9983b4e10d1154fc5e0a22a9b30306567d10963d0", func := "quadrille/quadrillekeep.GatherMisses", spec := "gatherMisses", inPlace := ["internal/reflectlite.ValueOf", "(internal/reflectlite.Value).Type", "(internal/reflectlite.Value).IsNil", "internal/reflectlite.TypeOf", "(internal/reflectlite.Value).Elem", "(internal/reflectlite.Value).Set"], unfollowed := true, recurses := true, named := ["errors.errorType"], apart := false, laid := [("errors.errorType", laid_errors_errorType)] }
def GatherMissesSaid : Prop := gatherMissesRow.holds Tryd.pinned (OpenSpec.ofChange gatherMissesSpec)

/-- ITS FALSE NEIGHBOUR: 'it returns false'. Refute it at one input. -/
def gatherMissesWrong : ChangeSpec := { name := "gatherMisses", fn := fun _ => fun
  | [d1, d2, d3] => { results := [.lit (.bool false)], args := [d1, d2, d3] }
  | _ => none }
def GatherMissesWrongFalsely : Prop := gatherMissesRow.holds Tryd.pinned (OpenSpec.ofChange gatherMissesWrong)

/-- 'quadrillekeep.GatherCloses': WHATEVER THE INPUT: true; the input reads as it did. -/
def gatherClosesSpec : ChangeSpec := { name := "gatherCloses", fn := fun _ => fun
  | [d1, d2, d3, d4] => { results := [.lit (.bool true)], args := [d1, d2, d3, d4] }
  | _ => none }
def gatherClosesRow : OpenClaim := { program := "ytnkmddcadkcdcaadoor", sum := "a18fff85aa6f7e0273f7e1a9983b4e10d1154fc5e0a22a9b30306567d10963d0", func := "quadrille/quadrillekeep.GatherCloses", spec := "gatherCloses", inPlace := ["internal/reflectlite.ValueOf", "(internal/reflectlite.Value).Type", "(internal/reflectlite.Value).IsNil", "internal/reflectlite.TypeOf", "(internal/reflectlite.Value).Elem", "(internal/reflectlite.Value).Set"], unfollowed := true, recurses := true, named := ["errors.errorType"], apart := false, laid := [("errors.errorType", laid_errors_errorType)] }
def GatherClosesSaid : Prop := gatherClosesRow.holds Tryd.pinned (OpenSpec.ofChange gatherClosesSpec)

/-- ITS FALSE NEIGHBOUR: 'it returns false'. Refute it at one input. -/
def gatherClosesWrong : ChangeSpec := { name := "gatherCloses", fn := fun _ => fun
  | [d1, d2, d3, d4] => { results := [.lit (.bool false)], args := [d1, d2, d3, d4] }
  | _ => none }
def GatherClosesWrongFalsely : Prop := gatherClosesRow.holds Tryd.pinned (OpenSpec.ofChange gatherClosesWrong)

/-- 'quadrillekeep.GatherPasses': WHATEVER THE INPUT: true; the input reads as it did. -/
def gatherPassesSpec : ChangeSpec := { name := "gatherPasses", fn := fun _ => fun
  | [d1, d2, d3, d4] => { results := [.lit (.bool true)], args := [d1, d2, d3, d4] }
  | _ => none }
def gatherPassesRow : OpenClaim := { program := "ytnkmddcadkcdcaadoor", sum := "a18fff85aa6f7e0273f7e1a9983b4e10d1154fc5e0a22a9b30306567d10963d0", func := "quadrille/quadrillekeep.GatherPasses", spec := "gatherPasses", inPlace := ["internal/reflectlite.ValueOf", "(internal/reflectlite.Value).Type", "(internal/reflectlite.Value).IsNil", "internal/reflectlite.TypeOf", "(internal/reflectlite.Value).Elem", "(internal/reflectlite.Value).Set"], unfollowed := true, recurses := true, named := ["errors.errorType"], apart := false, laid := [("errors.errorType", laid_errors_errorType)] }
def GatherPassesSaid : Prop := gatherPassesRow.holds Tryd.pinned (OpenSpec.ofChange gatherPassesSpec)

/-- ITS FALSE NEIGHBOUR: 'it returns false'. Refute it at one input. -/
def gatherPassesWrong : ChangeSpec := { name := "gatherPasses", fn := fun _ => fun
  | [d1, d2, d3, d4] => { results := [.lit (.bool false)], args := [d1, d2, d3, d4] }
  | _ => none }
def GatherPassesWrongFalsely : Prop := gatherPassesRow.holds Tryd.pinned (OpenSpec.ofChange gatherPassesWrong)

/-- 'quadrillekeep.GatherAlone': WHATEVER THE INPUT: true; the input reads as it did. -/
def gatherAloneSpec : ChangeSpec := { name := "gatherAlone", fn := fun _ => fun
  | [d1, d2, d3] => { results := [.lit (.bool true)], args := [d1, d2, d3] }
  | _ => none }
def gatherAloneRow : OpenClaim := { program := "ytnkmddcadkcdcaadoor", sum := "a18fff85aa6f7e0273f7e1a9983b4e10d1154fc5e0a22a9b30306567d10963d0", func := "quadrille/quadrillekeep.GatherAlone", spec := "gatherAlone", inPlace := ["internal/reflectlite.ValueOf", "(internal/reflectlite.Value).Type", "(internal/reflectlite.Value).IsNil", "internal/reflectlite.TypeOf", "(internal/reflectlite.Value).Elem", "(internal/reflectlite.Value).Set"], unfollowed := true, recurses := true, named := ["errors.errorType"], apart := false, laid := [("errors.errorType", laid_errors_errorType)] }
def GatherAloneSaid : Prop := gatherAloneRow.holds Tryd.pinned (OpenSpec.ofChange gatherAloneSpec)

/-- ITS FALSE NEIGHBOUR: 'it returns false'. Refute it at one input. -/
def gatherAloneWrong : ChangeSpec := { name := "gatherAlone", fn := fun _ => fun
  | [d1, d2, d3] => { results := [.lit (.bool false)], args := [d1, d2, d3] }
  | _ => none }
def GatherAloneWrongFalsely : Prop := gatherAloneRow.holds Tryd.pinned (OpenSpec.ofChange gatherAloneWrong)

/-- 'quadrillekeep.GatherJoins': WHATEVER THE INPUT: true; the input reads as it did. -/
def gatherJoinsSpec : ChangeSpec := { name := "gatherJoins", fn := fun _ => fun
  | [d1, d2] => { results := [.lit (.bool true)], args := [d1, d2] }
  | _ => none }
def gatherJoinsRow : OpenClaim := { program := "ytnkmddcadkcdcaadoor", sum := "a18fff85aa6f7e0273f7e1a9983b4e10d1154fc5e0a22a9b30306567d10963d0", func := "quadrille/quadrillekeep.GatherJoins", spec := "gatherJoins", inPlace := ["internal/reflectlite.ValueOf", "(internal/reflectlite.Value).Type", "(internal/reflectlite.Value).IsNil", "internal/reflectlite.TypeOf", "(internal/reflectlite.Value).Elem", "(internal/reflectlite.Value).Set"], unfollowed := true, recurses := true, named := ["errors.errorType"], apart := false, laid := [("errors.errorType", laid_errors_errorType)] }
def GatherJoinsSaid : Prop := gatherJoinsRow.holds Tryd.pinned (OpenSpec.ofChange gatherJoinsSpec)

/-- ITS FALSE NEIGHBOUR: 'it returns false'. Refute it at one input. -/
def gatherJoinsWrong : ChangeSpec := { name := "gatherJoins", fn := fun _ => fun
  | [d1, d2] => { results := [.lit (.bool false)], args := [d1, d2] }
  | _ => none }
def GatherJoinsWrongFalsely : Prop := gatherJoinsRow.holds Tryd.pinned (OpenSpec.ofChange gatherJoinsWrong)

/- THE SECOND FORM. 'bulk': how many values and letters a reading holds, each counted each time it is reached (what is shared counts as often as it is met; a slice's spare places count too). A statement '..UptoSaid' is the law's where the arguments, and the package variables that the reading takes, are together of bulk at most 1048576: NARROWER than '..Said'. Prove '..Said' where nothing that the law and all that it calls make is longer than what came in: it says more and counts as full. Else prove '..UptoSaid'. A law counts once. -/
mutual
def uptoBulk {H : Type} : DataW H → Nat
  | .lit (.string bytes) => bytes.length + 1
  | .lit _ => 1
  | .nil => 1
  | .ptr d => uptoBulk d + 1
  | .slice elems spare => uptoBulkAll elems + uptoBulkAll spare + 1
  | .agg parts => uptoBulkAll parts + 1
  | .iface _ d => uptoBulk d + 1
  | .map entries => uptoBulkEntries entries + 1
  | .held _ => 1
def uptoBulkAll {H : Type} : List (DataW H) → Nat
  | [] => 0
  | d :: r => uptoBulk d + uptoBulkAll r
def uptoBulkEntries {H : Type} : List (Lit × DataW H) → Nat
  | [] => 0
  | x :: r => uptoBulkEntry x + uptoBulkEntries r
def uptoBulkEntry {H : Type} : Lit × DataW H → Nat
  | (.string bytes, d) => bytes.length + uptoBulk d + 1
  | (_, d) => uptoBulk d + 1
 end
def uptoSmall : (H : Type) → List (DataW H) → Bool := fun _ ds => decide (uptoBulkAll ds ≤ 1048576)
def OpenSpec.upto (s : _root_.Go.ChangeSpec) : _root_.Go.OpenSpec := { _root_.Go.OpenSpec.ofChange s with cond := some uptoSmall }

/-- 'quadrillekeep.TicketOrder', WHERE WHAT IT READS IS OF BULK AT MOST 1048576: true; the input reads as it did. -/
def ticketOrderUptoRow : OpenClaim := { program := "ytnkmddcadkcdcaadoor", sum := "a18fff85aa6f7e0273f7e1a9983b4e10d1154fc5e0a22a9b30306567d10963d0", func := "quadrille/quadrillekeep.TicketOrder", spec := "ticketOrder", inPlace := ["internal/reflectlite.ValueOf", "(internal/reflectlite.Value).Type", "(internal/reflectlite.Value).IsNil", "internal/reflectlite.TypeOf", "(internal/reflectlite.Value).Elem", "(internal/reflectlite.Value).Set"], unfollowed := true, recurses := true, named := ["errors.errorType"], apart := false, laid := [("errors.errorType", laid_errors_errorType)], narrowed := true }
def TicketOrderUptoSaid : Prop := ticketOrderUptoRow.holds Tryd.pinned (OpenSpec.upto ticketOrderSpec)

/-- 'quadrillekeep.TicketTold', WHERE WHAT IT READS IS OF BULK AT MOST 1048576: true; the input reads as it did. -/
def ticketToldUptoRow : OpenClaim := { program := "ytnkmddcadkcdcaadoor", sum := "a18fff85aa6f7e0273f7e1a9983b4e10d1154fc5e0a22a9b30306567d10963d0", func := "quadrille/quadrillekeep.TicketTold", spec := "ticketTold", inPlace := ["internal/reflectlite.ValueOf", "(internal/reflectlite.Value).Type", "(internal/reflectlite.Value).IsNil", "internal/reflectlite.TypeOf", "(internal/reflectlite.Value).Elem", "(internal/reflectlite.Value).Set"], unfollowed := true, recurses := true, named := ["errors.errorType"], apart := false, laid := [("errors.errorType", laid_errors_errorType)], narrowed := true }
def TicketToldUptoSaid : Prop := ticketToldUptoRow.holds Tryd.pinned (OpenSpec.upto ticketToldSpec)

/-- 'quadrillekeep.SemaAlone', WHERE WHAT IT READS IS OF BULK AT MOST 1048576: true; the input reads as it did. -/
def semaAloneUptoRow : OpenClaim := { program := "ytnkmddcadkcdcaadoor", sum := "a18fff85aa6f7e0273f7e1a9983b4e10d1154fc5e0a22a9b30306567d10963d0", func := "quadrille/quadrillekeep.SemaAlone", spec := "semaAlone", inPlace := ["internal/reflectlite.ValueOf", "(internal/reflectlite.Value).Type", "(internal/reflectlite.Value).IsNil", "internal/reflectlite.TypeOf", "(internal/reflectlite.Value).Elem", "(internal/reflectlite.Value).Set"], unfollowed := true, recurses := true, named := ["errors.errorType"], apart := false, laid := [("errors.errorType", laid_errors_errorType)], narrowed := true }
def SemaAloneUptoSaid : Prop := semaAloneUptoRow.holds Tryd.pinned (OpenSpec.upto semaAloneSpec)

/-- 'quadrillekeep.LatchWaits', WHERE WHAT IT READS IS OF BULK AT MOST 1048576: true; the input reads as it did. -/
def latchWaitsUptoRow : OpenClaim := { program := "ytnkmddcadkcdcaadoor", sum := "a18fff85aa6f7e0273f7e1a9983b4e10d1154fc5e0a22a9b30306567d10963d0", func := "quadrille/quadrillekeep.LatchWaits", spec := "latchWaits", inPlace := ["internal/reflectlite.ValueOf", "(internal/reflectlite.Value).Type", "(internal/reflectlite.Value).IsNil", "internal/reflectlite.TypeOf", "(internal/reflectlite.Value).Elem", "(internal/reflectlite.Value).Set"], unfollowed := true, recurses := true, named := ["errors.errorType"], apart := false, laid := [("errors.errorType", laid_errors_errorType)], narrowed := true }
def LatchWaitsUptoSaid : Prop := latchWaitsUptoRow.holds Tryd.pinned (OpenSpec.upto latchWaitsSpec)

/-- 'quadrillekeep.LatchCounts', WHERE WHAT IT READS IS OF BULK AT MOST 1048576: true; the input reads as it did. -/
def latchCountsUptoRow : OpenClaim := { program := "ytnkmddcadkcdcaadoor", sum := "a18fff85aa6f7e0273f7e1a9983b4e10d1154fc5e0a22a9b30306567d10963d0", func := "quadrille/quadrillekeep.LatchCounts", spec := "latchCounts", inPlace := ["internal/reflectlite.ValueOf", "(internal/reflectlite.Value).Type", "(internal/reflectlite.Value).IsNil", "internal/reflectlite.TypeOf", "(internal/reflectlite.Value).Elem", "(internal/reflectlite.Value).Set"], unfollowed := true, recurses := true, named := ["errors.errorType"], apart := false, laid := [("errors.errorType", laid_errors_errorType)], narrowed := true }
def LatchCountsUptoSaid : Prop := latchCountsUptoRow.holds Tryd.pinned (OpenSpec.upto latchCountsSpec)

/-- 'quadrillekeep.CoreFetches', WHERE WHAT IT READS IS OF BULK AT MOST 1048576: true; the input reads as it did. -/
def coreFetchesUptoRow : OpenClaim := { program := "ytnkmddcadkcdcaadoor", sum := "a18fff85aa6f7e0273f7e1a9983b4e10d1154fc5e0a22a9b30306567d10963d0", func := "quadrille/quadrillekeep.CoreFetches", spec := "coreFetches", inPlace := ["internal/reflectlite.ValueOf", "(internal/reflectlite.Value).Type", "(internal/reflectlite.Value).IsNil", "internal/reflectlite.TypeOf", "(internal/reflectlite.Value).Elem", "(internal/reflectlite.Value).Set"], unfollowed := true, recurses := true, named := ["errors.errorType"], apart := false, laid := [("errors.errorType", laid_errors_errorType)], narrowed := true }
def CoreFetchesUptoSaid : Prop := coreFetchesUptoRow.holds Tryd.pinned (OpenSpec.upto coreFetchesSpec)

/-- 'quadrillekeep.CoreLoses', WHERE WHAT IT READS IS OF BULK AT MOST 1048576: true; the input reads as it did. -/
def coreLosesUptoRow : OpenClaim := { program := "ytnkmddcadkcdcaadoor", sum := "a18fff85aa6f7e0273f7e1a9983b4e10d1154fc5e0a22a9b30306567d10963d0", func := "quadrille/quadrillekeep.CoreLoses", spec := "coreLoses", inPlace := ["internal/reflectlite.ValueOf", "(internal/reflectlite.Value).Type", "(internal/reflectlite.Value).IsNil", "internal/reflectlite.TypeOf", "(internal/reflectlite.Value).Elem", "(internal/reflectlite.Value).Set"], unfollowed := true, recurses := true, named := ["errors.errorType"], apart := false, laid := [("errors.errorType", laid_errors_errorType)], narrowed := true }
def CoreLosesUptoSaid : Prop := coreLosesUptoRow.holds Tryd.pinned (OpenSpec.upto coreLosesSpec)

/-- 'quadrillekeep.CoreSwaps', WHERE WHAT IT READS IS OF BULK AT MOST 1048576: true; the input reads as it did. -/
def coreSwapsUptoRow : OpenClaim := { program := "ytnkmddcadkcdcaadoor", sum := "a18fff85aa6f7e0273f7e1a9983b4e10d1154fc5e0a22a9b30306567d10963d0", func := "quadrille/quadrillekeep.CoreSwaps", spec := "coreSwaps", inPlace := ["internal/reflectlite.ValueOf", "(internal/reflectlite.Value).Type", "(internal/reflectlite.Value).IsNil", "internal/reflectlite.TypeOf", "(internal/reflectlite.Value).Elem", "(internal/reflectlite.Value).Set"], unfollowed := true, recurses := true, named := ["errors.errorType"], apart := false, laid := [("errors.errorType", laid_errors_errorType)], narrowed := true }
def CoreSwapsUptoSaid : Prop := coreSwapsUptoRow.holds Tryd.pinned (OpenSpec.upto coreSwapsSpec)

/-- 'quadrillekeep.RwEnds', WHERE WHAT IT READS IS OF BULK AT MOST 1048576: true; the input reads as it did. -/
def rwEndsUptoRow : OpenClaim := { program := "ytnkmddcadkcdcaadoor", sum := "a18fff85aa6f7e0273f7e1a9983b4e10d1154fc5e0a22a9b30306567d10963d0", func := "quadrille/quadrillekeep.RwEnds", spec := "rwEnds", inPlace := ["internal/reflectlite.ValueOf", "(internal/reflectlite.Value).Type", "(internal/reflectlite.Value).IsNil", "internal/reflectlite.TypeOf", "(internal/reflectlite.Value).Elem", "(internal/reflectlite.Value).Set"], unfollowed := true, recurses := true, named := ["errors.errorType"], apart := false, laid := [("errors.errorType", laid_errors_errorType)], narrowed := true }
def RwEndsUptoSaid : Prop := rwEndsUptoRow.holds Tryd.pinned (OpenSpec.upto rwEndsSpec)

/-- 'quadrillekeep.RwApart', WHERE WHAT IT READS IS OF BULK AT MOST 1048576: true; the input reads as it did. -/
def rwApartUptoRow : OpenClaim := { program := "ytnkmddcadkcdcaadoor", sum := "a18fff85aa6f7e0273f7e1a9983b4e10d1154fc5e0a22a9b30306567d10963d0", func := "quadrille/quadrillekeep.RwApart", spec := "rwApart", inPlace := ["internal/reflectlite.ValueOf", "(internal/reflectlite.Value).Type", "(internal/reflectlite.Value).IsNil", "internal/reflectlite.TypeOf", "(internal/reflectlite.Value).Elem", "(internal/reflectlite.Value).Set"], unfollowed := true, recurses := true, named := ["errors.errorType"], apart := false, laid := [("errors.errorType", laid_errors_errorType)], narrowed := true }
def RwApartUptoSaid : Prop := rwApartUptoRow.holds Tryd.pinned (OpenSpec.upto rwApartSpec)

/-- 'quadrillekeep.RwMany', WHERE WHAT IT READS IS OF BULK AT MOST 1048576: true; the input reads as it did. -/
def rwManyUptoRow : OpenClaim := { program := "ytnkmddcadkcdcaadoor", sum := "a18fff85aa6f7e0273f7e1a9983b4e10d1154fc5e0a22a9b30306567d10963d0", func := "quadrille/quadrillekeep.RwMany", spec := "rwMany", inPlace := ["internal/reflectlite.ValueOf", "(internal/reflectlite.Value).Type", "(internal/reflectlite.Value).IsNil", "internal/reflectlite.TypeOf", "(internal/reflectlite.Value).Elem", "(internal/reflectlite.Value).Set"], unfollowed := true, recurses := true, named := ["errors.errorType"], apart := false, laid := [("errors.errorType", laid_errors_errorType)], narrowed := true }
def RwManyUptoSaid : Prop := rwManyUptoRow.holds Tryd.pinned (OpenSpec.upto rwManySpec)

/-- 'quadrillekeep.TradeSlots', WHERE WHAT IT READS IS OF BULK AT MOST 1048576: true; the input reads as it did. -/
def tradeSlotsUptoRow : OpenClaim := { program := "ytnkmddcadkcdcaadoor", sum := "a18fff85aa6f7e0273f7e1a9983b4e10d1154fc5e0a22a9b30306567d10963d0", func := "quadrille/quadrillekeep.TradeSlots", spec := "tradeSlots", inPlace := ["internal/reflectlite.ValueOf", "(internal/reflectlite.Value).Type", "(internal/reflectlite.Value).IsNil", "internal/reflectlite.TypeOf", "(internal/reflectlite.Value).Elem", "(internal/reflectlite.Value).Set"], unfollowed := true, recurses := true, named := ["errors.errorType"], apart := false, laid := [("errors.errorType", laid_errors_errorType)], narrowed := true }
def TradeSlotsUptoSaid : Prop := tradeSlotsUptoRow.holds Tryd.pinned (OpenSpec.upto tradeSlotsSpec)

/-- 'quadrillekeep.TradeEnds', WHERE WHAT IT READS IS OF BULK AT MOST 1048576: true; the input reads as it did. -/
def tradeEndsUptoRow : OpenClaim := { program := "ytnkmddcadkcdcaadoor", sum := "a18fff85aa6f7e0273f7e1a9983b4e10d1154fc5e0a22a9b30306567d10963d0", func := "quadrille/quadrillekeep.TradeEnds", spec := "tradeEnds", inPlace := ["internal/reflectlite.ValueOf", "(internal/reflectlite.Value).Type", "(internal/reflectlite.Value).IsNil", "internal/reflectlite.TypeOf", "(internal/reflectlite.Value).Elem", "(internal/reflectlite.Value).Set"], unfollowed := true, recurses := true, named := ["errors.errorType"], apart := false, laid := [("errors.errorType", laid_errors_errorType)], narrowed := true }
def TradeEndsUptoSaid : Prop := tradeEndsUptoRow.holds Tryd.pinned (OpenSpec.upto tradeEndsSpec)

/-- 'quadrillekeep.TradePairs', WHERE WHAT IT READS IS OF BULK AT MOST 1048576: true; the input reads as it did. -/
def tradePairsUptoRow : OpenClaim := { program := "ytnkmddcadkcdcaadoor", sum := "a18fff85aa6f7e0273f7e1a9983b4e10d1154fc5e0a22a9b30306567d10963d0", func := "quadrille/quadrillekeep.TradePairs", spec := "tradePairs", inPlace := ["internal/reflectlite.ValueOf", "(internal/reflectlite.Value).Type", "(internal/reflectlite.Value).IsNil", "internal/reflectlite.TypeOf", "(internal/reflectlite.Value).Elem", "(internal/reflectlite.Value).Set"], unfollowed := true, recurses := true, named := ["errors.errorType"], apart := false, laid := [("errors.errorType", laid_errors_errorType)], narrowed := true }
def TradePairsUptoSaid : Prop := tradePairsUptoRow.holds Tryd.pinned (OpenSpec.upto tradePairsSpec)

/-- 'quadrillekeep.GatherMisses', WHERE WHAT IT READS IS OF BULK AT MOST 1048576: true; the input reads as it did. -/
def gatherMissesUptoRow : OpenClaim := { program := "ytnkmddcadkcdcaadoor", sum := "a18fff85aa6f7e0273f7e1a9983b4e10d1154fc5e0a22a9b30306567d10963d0", func := "quadrille/quadrillekeep.GatherMisses", spec := "gatherMisses", inPlace := ["internal/reflectlite.ValueOf", "(internal/reflectlite.Value).Type", "(internal/reflectlite.Value).IsNil", "internal/reflectlite.TypeOf", "(internal/reflectlite.Value).Elem", "(internal/reflectlite.Value).Set"], unfollowed := true, recurses := true, named := ["errors.errorType"], apart := false, laid := [("errors.errorType", laid_errors_errorType)], narrowed := true }
def GatherMissesUptoSaid : Prop := gatherMissesUptoRow.holds Tryd.pinned (OpenSpec.upto gatherMissesSpec)

/-- 'quadrillekeep.GatherCloses', WHERE WHAT IT READS IS OF BULK AT MOST 1048576: true; the input reads as it did. -/
def gatherClosesUptoRow : OpenClaim := { program := "ytnkmddcadkcdcaadoor", sum := "a18fff85aa6f7e0273f7e1a9983b4e10d1154fc5e0a22a9b30306567d10963d0", func := "quadrille/quadrillekeep.GatherCloses", spec := "gatherCloses", inPlace := ["internal/reflectlite.ValueOf", "(internal/reflectlite.Value).Type", "(internal/reflectlite.Value).IsNil", "internal/reflectlite.TypeOf", "(internal/reflectlite.Value).Elem", "(internal/reflectlite.Value).Set"], unfollowed := true, recurses := true, named := ["errors.errorType"], apart := false, laid := [("errors.errorType", laid_errors_errorType)], narrowed := true }
def GatherClosesUptoSaid : Prop := gatherClosesUptoRow.holds Tryd.pinned (OpenSpec.upto gatherClosesSpec)

/-- 'quadrillekeep.GatherPasses', WHERE WHAT IT READS IS OF BULK AT MOST 1048576: true; the input reads as it did. -/
def gatherPassesUptoRow : OpenClaim := { program := "ytnkmddcadkcdcaadoor", sum := "a18fff85aa6f7e0273f7e1a9983b4e10d1154fc5e0a22a9b30306567d10963d0", func := "quadrille/quadrillekeep.GatherPasses", spec := "gatherPasses", inPlace := ["internal/reflectlite.ValueOf", "(internal/reflectlite.Value).Type", "(internal/reflectlite.Value).IsNil", "internal/reflectlite.TypeOf", "(internal/reflectlite.Value).Elem", "(internal/reflectlite.Value).Set"], unfollowed := true, recurses := true, named := ["errors.errorType"], apart := false, laid := [("errors.errorType", laid_errors_errorType)], narrowed := true }
def GatherPassesUptoSaid : Prop := gatherPassesUptoRow.holds Tryd.pinned (OpenSpec.upto gatherPassesSpec)

/-- 'quadrillekeep.GatherAlone', WHERE WHAT IT READS IS OF BULK AT MOST 1048576: true; the input reads as it did. -/
def gatherAloneUptoRow : OpenClaim := { program := "ytnkmddcadkcdcaadoor", sum := "a18fff85aa6f7e0273f7e1a9983b4e10d1154fc5e0a22a9b30306567d10963d0", func := "quadrille/quadrillekeep.GatherAlone", spec := "gatherAlone", inPlace := ["internal/reflectlite.ValueOf", "(internal/reflectlite.Value).Type", "(internal/reflectlite.Value).IsNil", "internal/reflectlite.TypeOf", "(internal/reflectlite.Value).Elem", "(internal/reflectlite.Value).Set"], unfollowed := true, recurses := true, named := ["errors.errorType"], apart := false, laid := [("errors.errorType", laid_errors_errorType)], narrowed := true }
def GatherAloneUptoSaid : Prop := gatherAloneUptoRow.holds Tryd.pinned (OpenSpec.upto gatherAloneSpec)

/-- 'quadrillekeep.GatherJoins', WHERE WHAT IT READS IS OF BULK AT MOST 1048576: true; the input reads as it did. -/
def gatherJoinsUptoRow : OpenClaim := { program := "ytnkmddcadkcdcaadoor", sum := "a18fff85aa6f7e0273f7e1a9983b4e10d1154fc5e0a22a9b30306567d10963d0", func := "quadrille/quadrillekeep.GatherJoins", spec := "gatherJoins", inPlace := ["internal/reflectlite.ValueOf", "(internal/reflectlite.Value).Type", "(internal/reflectlite.Value).IsNil", "internal/reflectlite.TypeOf", "(internal/reflectlite.Value).Elem", "(internal/reflectlite.Value).Set"], unfollowed := true, recurses := true, named := ["errors.errorType"], apart := false, laid := [("errors.errorType", laid_errors_errorType)], narrowed := true }
def GatherJoinsUptoSaid : Prop := gatherJoinsUptoRow.holds Tryd.pinned (OpenSpec.upto gatherJoinsSpec)

end Rows
end Go.Proofs.YtnkmddcadkcdcaaDoor
