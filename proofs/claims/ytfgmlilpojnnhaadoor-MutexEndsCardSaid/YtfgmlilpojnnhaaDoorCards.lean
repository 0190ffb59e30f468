/-
  DERIVED. GIVEN WITH THE SEED: THE CARDS: each row of YtfgmlilpojnnhaaDoorRows.lean that lists a variable, with what it lists TIED to the program's text (the seventh form; the later family's looks); each row that meets fmt, with fmt's text TOLD by the authors' own Lean function (tested against real Go, not proved from fmt's source: count such statements apart). THE CARD IS WHAT COUNTS. Prove the row's statement (the work); the ties are given (YtfgmlilpojnnhaaDoorTie.lean); close each card by the builder's one call (the guide's Derived/Test/ToyasCard.lean, 'card_holds'). Laid BY PROGRAM, IN A SANDBOX (cutbox-door.mjs). By AI agents, Wed Nov 11 2026. No macro, syntax, notation, axiom, sorry.
-/
import Derived.Test.YtfgmlilpojnnhaaDoorRows
import GoSem.ClaimSeven
namespace Go.Proofs.YtfgmlilpojnnhaaDoor
namespace Rows

/-- THE TIED CARD OF 'quadrillekeep.MutexEnds'. -/
def mutexEndsCard : Claim7 := { stood := { row := mutexEndsRow, standIns := [], harness := (true, "c3cfb0b1a18aa7cab73f290efd800bb6a1d6c41710d18e0824160904775dd4db"), looks := true }, kinds := [], alts := [], laidByText := true, laidKinds := [.handle], laidTests := true, laidLooks := .later }
def MutexEndsCardSaid : Prop := Claim7.holds Tryd.pinned (.plain (OpenSpec.ofChange mutexEndsSpec)) mutexEndsCard

/-- THE TIED CARD OF 'quadrillekeep.MutexOne'. -/
def mutexOneCard : Claim7 := { stood := { row := mutexOneRow, standIns := [], harness := (true, "c3cfb0b1a18aa7cab73f290efd800bb6a1d6c41710d18e0824160904775dd4db"), looks := true }, kinds := [], alts := [], laidByText := true, laidKinds := [.handle], laidTests := true, laidLooks := .later }
def MutexOneCardSaid : Prop := Claim7.holds Tryd.pinned (.plain (OpenSpec.ofChange mutexOneSpec)) mutexOneCard

/-- THE TIED CARD OF 'quadrillekeep.SemaEnds'. -/
def semaEndsCard : Claim7 := { stood := { row := semaEndsRow, standIns := [], harness := (true, "c3cfb0b1a18aa7cab73f290efd800bb6a1d6c41710d18e0824160904775dd4db"), looks := true }, kinds := [], alts := [], laidByText := true, laidKinds := [.handle], laidTests := true, laidLooks := .later }
def SemaEndsCardSaid : Prop := Claim7.holds Tryd.pinned (.plain (OpenSpec.ofChange semaEndsSpec)) semaEndsCard

/-- THE TIED CARD OF 'quadrillekeep.SemaBound'. -/
def semaBoundCard : Claim7 := { stood := { row := semaBoundRow, standIns := [], harness := (true, "c3cfb0b1a18aa7cab73f290efd800bb6a1d6c41710d18e0824160904775dd4db"), looks := true }, kinds := [], alts := [], laidByText := true, laidKinds := [.handle], laidTests := true, laidLooks := .later }
def SemaBoundCardSaid : Prop := Claim7.holds Tryd.pinned (.plain (OpenSpec.ofChange semaBoundSpec)) semaBoundCard

/-- THE TIED CARD OF 'quadrillekeep.SemaOne'. -/
def semaOneCard : Claim7 := { stood := { row := semaOneRow, standIns := [], harness := (true, "c3cfb0b1a18aa7cab73f290efd800bb6a1d6c41710d18e0824160904775dd4db"), looks := true }, kinds := [], alts := [], laidByText := true, laidKinds := [.handle], laidTests := true, laidLooks := .later }
def SemaOneCardSaid : Prop := Claim7.holds Tryd.pinned (.plain (OpenSpec.ofChange semaOneSpec)) semaOneCard

/-- THE TIED CARD OF 'quadrillekeep.LatchEnds'. -/
def latchEndsCard : Claim7 := { stood := { row := latchEndsRow, standIns := [], harness := (true, "c3cfb0b1a18aa7cab73f290efd800bb6a1d6c41710d18e0824160904775dd4db"), looks := true }, kinds := [], alts := [], laidByText := true, laidKinds := [.handle], laidTests := true, laidLooks := .later }
def LatchEndsCardSaid : Prop := Claim7.holds Tryd.pinned (.plain (OpenSpec.ofChange latchEndsSpec)) latchEndsCard

/-- THE TIED CARD OF 'quadrillekeep.LatchOrder'. -/
def latchOrderCard : Claim7 := { stood := { row := latchOrderRow, standIns := [], harness := (true, "c3cfb0b1a18aa7cab73f290efd800bb6a1d6c41710d18e0824160904775dd4db"), looks := true }, kinds := [], alts := [], laidByText := true, laidKinds := [.handle], laidTests := true, laidLooks := .later }
def LatchOrderCardSaid : Prop := Claim7.holds Tryd.pinned (.plain (OpenSpec.ofChange latchOrderSpec)) latchOrderCard

/-- THE TIED CARD OF 'quadrillekeep.CoreLoses'. -/
def coreLosesCard : Claim7 := { stood := { row := coreLosesRow, standIns := [], harness := (true, "c3cfb0b1a18aa7cab73f290efd800bb6a1d6c41710d18e0824160904775dd4db"), looks := true }, kinds := [], alts := [], laidByText := true, laidKinds := [.handle], laidTests := true, laidLooks := .later }
def CoreLosesCardSaid : Prop := Claim7.holds Tryd.pinned (.plain (OpenSpec.ofChange coreLosesSpec)) coreLosesCard

/-- THE TIED CARD OF 'quadrillekeep.CoreSwaps'. -/
def coreSwapsCard : Claim7 := { stood := { row := coreSwapsRow, standIns := [], harness := (true, "c3cfb0b1a18aa7cab73f290efd800bb6a1d6c41710d18e0824160904775dd4db"), looks := true }, kinds := [], alts := [], laidByText := true, laidKinds := [.handle], laidTests := true, laidLooks := .later }
def CoreSwapsCardSaid : Prop := Claim7.holds Tryd.pinned (.plain (OpenSpec.ofChange coreSwapsSpec)) coreSwapsCard

/-- THE TIED CARD OF 'quadrillekeep.TicketOrder'. -/
def ticketOrderCard : Claim7 := { stood := { row := ticketOrderRow, standIns := [], harness := (true, "c3cfb0b1a18aa7cab73f290efd800bb6a1d6c41710d18e0824160904775dd4db"), looks := true }, kinds := [], alts := [], laidByText := true, laidKinds := [.handle], laidTests := true, laidLooks := .later }
def TicketOrderCardSaid : Prop := Claim7.holds Tryd.pinned (.plain (OpenSpec.ofChange ticketOrderSpec)) ticketOrderCard

/-- THE TIED CARD OF 'quadrillekeep.SemaAlone'. -/
def semaAloneCard : Claim7 := { stood := { row := semaAloneRow, standIns := [], harness := (true, "c3cfb0b1a18aa7cab73f290efd800bb6a1d6c41710d18e0824160904775dd4db"), looks := true }, kinds := [], alts := [], laidByText := true, laidKinds := [.handle], laidTests := true, laidLooks := .later }
def SemaAloneCardSaid : Prop := Claim7.holds Tryd.pinned (.plain (OpenSpec.ofChange semaAloneSpec)) semaAloneCard

/-- THE TIED CARD OF 'quadrillekeep.LatchWaits'. -/
def latchWaitsCard : Claim7 := { stood := { row := latchWaitsRow, standIns := [], harness := (true, "c3cfb0b1a18aa7cab73f290efd800bb6a1d6c41710d18e0824160904775dd4db"), looks := true }, kinds := [], alts := [], laidByText := true, laidKinds := [.handle], laidTests := true, laidLooks := .later }
def LatchWaitsCardSaid : Prop := Claim7.holds Tryd.pinned (.plain (OpenSpec.ofChange latchWaitsSpec)) latchWaitsCard

/-- THE SECOND FORM's CARD OF 'quadrillekeep.MutexEnds'. -/
def mutexEndsUptoCard : Claim7 := { stood := { row := mutexEndsUptoRow, standIns := [], harness := (true, "c3cfb0b1a18aa7cab73f290efd800bb6a1d6c41710d18e0824160904775dd4db"), looks := true }, kinds := [], alts := [], laidByText := true, laidKinds := [.handle], laidTests := true, laidLooks := .later }
def MutexEndsUptoCardSaid : Prop := Claim7.holds Tryd.pinned (.plain (OpenSpec.upto mutexEndsSpec)) mutexEndsUptoCard

/-- THE SECOND FORM's CARD OF 'quadrillekeep.MutexOne'. -/
def mutexOneUptoCard : Claim7 := { stood := { row := mutexOneUptoRow, standIns := [], harness := (true, "c3cfb0b1a18aa7cab73f290efd800bb6a1d6c41710d18e0824160904775dd4db"), looks := true }, kinds := [], alts := [], laidByText := true, laidKinds := [.handle], laidTests := true, laidLooks := .later }
def MutexOneUptoCardSaid : Prop := Claim7.holds Tryd.pinned (.plain (OpenSpec.upto mutexOneSpec)) mutexOneUptoCard

/-- THE SECOND FORM's CARD OF 'quadrillekeep.SemaEnds'. -/
def semaEndsUptoCard : Claim7 := { stood := { row := semaEndsUptoRow, standIns := [], harness := (true, "c3cfb0b1a18aa7cab73f290efd800bb6a1d6c41710d18e0824160904775dd4db"), looks := true }, kinds := [], alts := [], laidByText := true, laidKinds := [.handle], laidTests := true, laidLooks := .later }
def SemaEndsUptoCardSaid : Prop := Claim7.holds Tryd.pinned (.plain (OpenSpec.upto semaEndsSpec)) semaEndsUptoCard

/-- THE SECOND FORM's CARD OF 'quadrillekeep.SemaBound'. -/
def semaBoundUptoCard : Claim7 := { stood := { row := semaBoundUptoRow, standIns := [], harness := (true, "c3cfb0b1a18aa7cab73f290efd800bb6a1d6c41710d18e0824160904775dd4db"), looks := true }, kinds := [], alts := [], laidByText := true, laidKinds := [.handle], laidTests := true, laidLooks := .later }
def SemaBoundUptoCardSaid : Prop := Claim7.holds Tryd.pinned (.plain (OpenSpec.upto semaBoundSpec)) semaBoundUptoCard

/-- THE SECOND FORM's CARD OF 'quadrillekeep.SemaOne'. -/
def semaOneUptoCard : Claim7 := { stood := { row := semaOneUptoRow, standIns := [], harness := (true, "c3cfb0b1a18aa7cab73f290efd800bb6a1d6c41710d18e0824160904775dd4db"), looks := true }, kinds := [], alts := [], laidByText := true, laidKinds := [.handle], laidTests := true, laidLooks := .later }
def SemaOneUptoCardSaid : Prop := Claim7.holds Tryd.pinned (.plain (OpenSpec.upto semaOneSpec)) semaOneUptoCard

/-- THE SECOND FORM's CARD OF 'quadrillekeep.LatchEnds'. -/
def latchEndsUptoCard : Claim7 := { stood := { row := latchEndsUptoRow, standIns := [], harness := (true, "c3cfb0b1a18aa7cab73f290efd800bb6a1d6c41710d18e0824160904775dd4db"), looks := true }, kinds := [], alts := [], laidByText := true, laidKinds := [.handle], laidTests := true, laidLooks := .later }
def LatchEndsUptoCardSaid : Prop := Claim7.holds Tryd.pinned (.plain (OpenSpec.upto latchEndsSpec)) latchEndsUptoCard

/-- THE SECOND FORM's CARD OF 'quadrillekeep.LatchOrder'. -/
def latchOrderUptoCard : Claim7 := { stood := { row := latchOrderUptoRow, standIns := [], harness := (true, "c3cfb0b1a18aa7cab73f290efd800bb6a1d6c41710d18e0824160904775dd4db"), looks := true }, kinds := [], alts := [], laidByText := true, laidKinds := [.handle], laidTests := true, laidLooks := .later }
def LatchOrderUptoCardSaid : Prop := Claim7.holds Tryd.pinned (.plain (OpenSpec.upto latchOrderSpec)) latchOrderUptoCard

/-- THE SECOND FORM's CARD OF 'quadrillekeep.CoreLoses'. -/
def coreLosesUptoCard : Claim7 := { stood := { row := coreLosesUptoRow, standIns := [], harness := (true, "c3cfb0b1a18aa7cab73f290efd800bb6a1d6c41710d18e0824160904775dd4db"), looks := true }, kinds := [], alts := [], laidByText := true, laidKinds := [.handle], laidTests := true, laidLooks := .later }
def CoreLosesUptoCardSaid : Prop := Claim7.holds Tryd.pinned (.plain (OpenSpec.upto coreLosesSpec)) coreLosesUptoCard

/-- THE SECOND FORM's CARD OF 'quadrillekeep.CoreSwaps'. -/
def coreSwapsUptoCard : Claim7 := { stood := { row := coreSwapsUptoRow, standIns := [], harness := (true, "c3cfb0b1a18aa7cab73f290efd800bb6a1d6c41710d18e0824160904775dd4db"), looks := true }, kinds := [], alts := [], laidByText := true, laidKinds := [.handle], laidTests := true, laidLooks := .later }
def CoreSwapsUptoCardSaid : Prop := Claim7.holds Tryd.pinned (.plain (OpenSpec.upto coreSwapsSpec)) coreSwapsUptoCard

/-- THE SECOND FORM's CARD OF 'quadrillekeep.TicketOrder'. -/
def ticketOrderUptoCard : Claim7 := { stood := { row := ticketOrderUptoRow, standIns := [], harness := (true, "c3cfb0b1a18aa7cab73f290efd800bb6a1d6c41710d18e0824160904775dd4db"), looks := true }, kinds := [], alts := [], laidByText := true, laidKinds := [.handle], laidTests := true, laidLooks := .later }
def TicketOrderUptoCardSaid : Prop := Claim7.holds Tryd.pinned (.plain (OpenSpec.upto ticketOrderSpec)) ticketOrderUptoCard

/-- THE SECOND FORM's CARD OF 'quadrillekeep.SemaAlone'. -/
def semaAloneUptoCard : Claim7 := { stood := { row := semaAloneUptoRow, standIns := [], harness := (true, "c3cfb0b1a18aa7cab73f290efd800bb6a1d6c41710d18e0824160904775dd4db"), looks := true }, kinds := [], alts := [], laidByText := true, laidKinds := [.handle], laidTests := true, laidLooks := .later }
def SemaAloneUptoCardSaid : Prop := Claim7.holds Tryd.pinned (.plain (OpenSpec.upto semaAloneSpec)) semaAloneUptoCard

/-- THE SECOND FORM's CARD OF 'quadrillekeep.LatchWaits'. -/
def latchWaitsUptoCard : Claim7 := { stood := { row := latchWaitsUptoRow, standIns := [], harness := (true, "c3cfb0b1a18aa7cab73f290efd800bb6a1d6c41710d18e0824160904775dd4db"), looks := true }, kinds := [], alts := [], laidByText := true, laidKinds := [.handle], laidTests := true, laidLooks := .later }
def LatchWaitsUptoCardSaid : Prop := Claim7.holds Tryd.pinned (.plain (OpenSpec.upto latchWaitsSpec)) latchWaitsUptoCard
end Rows
end Go.Proofs.YtfgmlilpojnnhaaDoor
