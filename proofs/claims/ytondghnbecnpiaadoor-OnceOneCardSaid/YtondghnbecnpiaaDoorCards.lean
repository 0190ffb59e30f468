/-
  DERIVED. GIVEN WITH THE SEED: THE CARDS: each row of YtondghnbecnpiaaDoorRows.lean that lists a variable, with what it lists TIED to the program's text (the seventh form; the later family's looks); each row that meets fmt, with fmt's text TOLD by the authors' own Lean function (tested against real Go, not proved from fmt's source: count such statements apart). THE CARD IS WHAT COUNTS. Prove the row's statement (the work); the ties are given (YtondghnbecnpiaaDoorTie.lean); close each card by the builder's one call (the guide's Derived/Test/ToyasCard.lean, 'card_holds'). Laid BY PROGRAM, IN A SANDBOX (cutbox-door.mjs). By AI agents, Wed Nov 11 2026. No macro, syntax, notation, axiom, sorry.
-/
import Derived.Test.YtondghnbecnpiaaDoorRows
import GoSem.ClaimSeven
namespace Go.Proofs.YtondghnbecnpiaaDoor
namespace Rows

/-- THE TIED CARD OF 'quadrillekeep.PartRounds'. -/
def partRoundsCard : Claim7 := { stood := { row := partRoundsRow, standIns := [], harness := (true, "27ff5313bf9a649602a3c75fc10aa99bcff57a2c75098c7b1f339c89e2fb32d4"), looks := true }, kinds := [], alts := [], laidByText := true, laidKinds := [.handle], laidTests := true, laidLooks := .later }
def PartRoundsCardSaid : Prop := Claim7.holds Tryd.pinned (.plain (OpenSpec.ofChange partRoundsSpec)) partRoundsCard

/-- THE TIED CARD OF 'quadrillekeep.MutexAlone'. -/
def mutexAloneCard : Claim7 := { stood := { row := mutexAloneRow, standIns := [], harness := (true, "27ff5313bf9a649602a3c75fc10aa99bcff57a2c75098c7b1f339c89e2fb32d4"), looks := true }, kinds := [], alts := [], laidByText := true, laidKinds := [.handle], laidTests := true, laidLooks := .later }
def MutexAloneCardSaid : Prop := Claim7.holds Tryd.pinned (.plain (OpenSpec.ofChange mutexAloneSpec)) mutexAloneCard

/-- THE TIED CARD OF 'quadrillekeep.MutexOne'. -/
def mutexOneCard : Claim7 := { stood := { row := mutexOneRow, standIns := [], harness := (true, "27ff5313bf9a649602a3c75fc10aa99bcff57a2c75098c7b1f339c89e2fb32d4"), looks := true }, kinds := [], alts := [], laidByText := true, laidKinds := [.handle], laidTests := true, laidLooks := .later }
def MutexOneCardSaid : Prop := Claim7.holds Tryd.pinned (.plain (OpenSpec.ofChange mutexOneSpec)) mutexOneCard

/-- THE TIED CARD OF 'quadrillekeep.MutexEnds'. -/
def mutexEndsCard : Claim7 := { stood := { row := mutexEndsRow, standIns := [], harness := (true, "27ff5313bf9a649602a3c75fc10aa99bcff57a2c75098c7b1f339c89e2fb32d4"), looks := true }, kinds := [], alts := [], laidByText := true, laidKinds := [.handle], laidTests := true, laidLooks := .later }
def MutexEndsCardSaid : Prop := Claim7.holds Tryd.pinned (.plain (OpenSpec.ofChange mutexEndsSpec)) mutexEndsCard

/-- THE TIED CARD OF 'quadrillekeep.TicketTold'. -/
def ticketToldCard : Claim7 := { stood := { row := ticketToldRow, standIns := [], harness := (true, "27ff5313bf9a649602a3c75fc10aa99bcff57a2c75098c7b1f339c89e2fb32d4"), looks := true }, kinds := [], alts := [], laidByText := true, laidKinds := [.handle], laidTests := true, laidLooks := .later }
def TicketToldCardSaid : Prop := Claim7.holds Tryd.pinned (.plain (OpenSpec.ofChange ticketToldSpec)) ticketToldCard

/-- THE TIED CARD OF 'quadrillekeep.TicketOrder'. -/
def ticketOrderCard : Claim7 := { stood := { row := ticketOrderRow, standIns := [], harness := (true, "27ff5313bf9a649602a3c75fc10aa99bcff57a2c75098c7b1f339c89e2fb32d4"), looks := true }, kinds := [], alts := [], laidByText := true, laidKinds := [.handle], laidTests := true, laidLooks := .later }
def TicketOrderCardSaid : Prop := Claim7.holds Tryd.pinned (.plain (OpenSpec.ofChange ticketOrderSpec)) ticketOrderCard

/-- THE TIED CARD OF 'quadrillekeep.OnceOne'. -/
def onceOneCard : Claim7 := { stood := { row := onceOneRow, standIns := [], harness := (true, "27ff5313bf9a649602a3c75fc10aa99bcff57a2c75098c7b1f339c89e2fb32d4"), looks := true }, kinds := [], alts := [], laidByText := true, laidKinds := [.handle], laidTests := true, laidLooks := .later }
def OnceOneCardSaid : Prop := Claim7.holds Tryd.pinned (.plain (OpenSpec.ofChange onceOneSpec)) onceOneCard

/-- THE TIED CARD OF 'quadrillekeep.OnceEnds'. -/
def onceEndsCard : Claim7 := { stood := { row := onceEndsRow, standIns := [], harness := (true, "27ff5313bf9a649602a3c75fc10aa99bcff57a2c75098c7b1f339c89e2fb32d4"), looks := true }, kinds := [], alts := [], laidByText := true, laidKinds := [.handle], laidTests := true, laidLooks := .later }
def OnceEndsCardSaid : Prop := Claim7.holds Tryd.pinned (.plain (OpenSpec.ofChange onceEndsSpec)) onceEndsCard

/-- THE TIED CARD OF 'quadrillekeep.SemaAlone'. -/
def semaAloneCard : Claim7 := { stood := { row := semaAloneRow, standIns := [], harness := (true, "27ff5313bf9a649602a3c75fc10aa99bcff57a2c75098c7b1f339c89e2fb32d4"), looks := true }, kinds := [], alts := [], laidByText := true, laidKinds := [.handle], laidTests := true, laidLooks := .later }
def SemaAloneCardSaid : Prop := Claim7.holds Tryd.pinned (.plain (OpenSpec.ofChange semaAloneSpec)) semaAloneCard

/-- THE TIED CARD OF 'quadrillekeep.SemaEnds'. -/
def semaEndsCard : Claim7 := { stood := { row := semaEndsRow, standIns := [], harness := (true, "27ff5313bf9a649602a3c75fc10aa99bcff57a2c75098c7b1f339c89e2fb32d4"), looks := true }, kinds := [], alts := [], laidByText := true, laidKinds := [.handle], laidTests := true, laidLooks := .later }
def SemaEndsCardSaid : Prop := Claim7.holds Tryd.pinned (.plain (OpenSpec.ofChange semaEndsSpec)) semaEndsCard

/-- THE TIED CARD OF 'quadrillekeep.SemaBound'. -/
def semaBoundCard : Claim7 := { stood := { row := semaBoundRow, standIns := [], harness := (true, "27ff5313bf9a649602a3c75fc10aa99bcff57a2c75098c7b1f339c89e2fb32d4"), looks := true }, kinds := [], alts := [], laidByText := true, laidKinds := [.handle], laidTests := true, laidLooks := .later }
def SemaBoundCardSaid : Prop := Claim7.holds Tryd.pinned (.plain (OpenSpec.ofChange semaBoundSpec)) semaBoundCard

/-- THE TIED CARD OF 'quadrillekeep.LatchEnds'. -/
def latchEndsCard : Claim7 := { stood := { row := latchEndsRow, standIns := [], harness := (true, "27ff5313bf9a649602a3c75fc10aa99bcff57a2c75098c7b1f339c89e2fb32d4"), looks := true }, kinds := [], alts := [], laidByText := true, laidKinds := [.handle], laidTests := true, laidLooks := .later }
def LatchEndsCardSaid : Prop := Claim7.holds Tryd.pinned (.plain (OpenSpec.ofChange latchEndsSpec)) latchEndsCard

/-- THE SECOND FORM's CARD OF 'quadrillekeep.PartRounds'. -/
def partRoundsUptoCard : Claim7 := { stood := { row := partRoundsUptoRow, standIns := [], harness := (true, "27ff5313bf9a649602a3c75fc10aa99bcff57a2c75098c7b1f339c89e2fb32d4"), looks := true }, kinds := [], alts := [], laidByText := true, laidKinds := [.handle], laidTests := true, laidLooks := .later }
def PartRoundsUptoCardSaid : Prop := Claim7.holds Tryd.pinned (.plain (OpenSpec.upto partRoundsSpec)) partRoundsUptoCard

/-- THE SECOND FORM's CARD OF 'quadrillekeep.MutexAlone'. -/
def mutexAloneUptoCard : Claim7 := { stood := { row := mutexAloneUptoRow, standIns := [], harness := (true, "27ff5313bf9a649602a3c75fc10aa99bcff57a2c75098c7b1f339c89e2fb32d4"), looks := true }, kinds := [], alts := [], laidByText := true, laidKinds := [.handle], laidTests := true, laidLooks := .later }
def MutexAloneUptoCardSaid : Prop := Claim7.holds Tryd.pinned (.plain (OpenSpec.upto mutexAloneSpec)) mutexAloneUptoCard

/-- THE SECOND FORM's CARD OF 'quadrillekeep.MutexOne'. -/
def mutexOneUptoCard : Claim7 := { stood := { row := mutexOneUptoRow, standIns := [], harness := (true, "27ff5313bf9a649602a3c75fc10aa99bcff57a2c75098c7b1f339c89e2fb32d4"), looks := true }, kinds := [], alts := [], laidByText := true, laidKinds := [.handle], laidTests := true, laidLooks := .later }
def MutexOneUptoCardSaid : Prop := Claim7.holds Tryd.pinned (.plain (OpenSpec.upto mutexOneSpec)) mutexOneUptoCard

/-- THE SECOND FORM's CARD OF 'quadrillekeep.MutexEnds'. -/
def mutexEndsUptoCard : Claim7 := { stood := { row := mutexEndsUptoRow, standIns := [], harness := (true, "27ff5313bf9a649602a3c75fc10aa99bcff57a2c75098c7b1f339c89e2fb32d4"), looks := true }, kinds := [], alts := [], laidByText := true, laidKinds := [.handle], laidTests := true, laidLooks := .later }
def MutexEndsUptoCardSaid : Prop := Claim7.holds Tryd.pinned (.plain (OpenSpec.upto mutexEndsSpec)) mutexEndsUptoCard

/-- THE SECOND FORM's CARD OF 'quadrillekeep.TicketTold'. -/
def ticketToldUptoCard : Claim7 := { stood := { row := ticketToldUptoRow, standIns := [], harness := (true, "27ff5313bf9a649602a3c75fc10aa99bcff57a2c75098c7b1f339c89e2fb32d4"), looks := true }, kinds := [], alts := [], laidByText := true, laidKinds := [.handle], laidTests := true, laidLooks := .later }
def TicketToldUptoCardSaid : Prop := Claim7.holds Tryd.pinned (.plain (OpenSpec.upto ticketToldSpec)) ticketToldUptoCard

/-- THE SECOND FORM's CARD OF 'quadrillekeep.TicketOrder'. -/
def ticketOrderUptoCard : Claim7 := { stood := { row := ticketOrderUptoRow, standIns := [], harness := (true, "27ff5313bf9a649602a3c75fc10aa99bcff57a2c75098c7b1f339c89e2fb32d4"), looks := true }, kinds := [], alts := [], laidByText := true, laidKinds := [.handle], laidTests := true, laidLooks := .later }
def TicketOrderUptoCardSaid : Prop := Claim7.holds Tryd.pinned (.plain (OpenSpec.upto ticketOrderSpec)) ticketOrderUptoCard

/-- THE SECOND FORM's CARD OF 'quadrillekeep.OnceOne'. -/
def onceOneUptoCard : Claim7 := { stood := { row := onceOneUptoRow, standIns := [], harness := (true, "27ff5313bf9a649602a3c75fc10aa99bcff57a2c75098c7b1f339c89e2fb32d4"), looks := true }, kinds := [], alts := [], laidByText := true, laidKinds := [.handle], laidTests := true, laidLooks := .later }
def OnceOneUptoCardSaid : Prop := Claim7.holds Tryd.pinned (.plain (OpenSpec.upto onceOneSpec)) onceOneUptoCard

/-- THE SECOND FORM's CARD OF 'quadrillekeep.OnceEnds'. -/
def onceEndsUptoCard : Claim7 := { stood := { row := onceEndsUptoRow, standIns := [], harness := (true, "27ff5313bf9a649602a3c75fc10aa99bcff57a2c75098c7b1f339c89e2fb32d4"), looks := true }, kinds := [], alts := [], laidByText := true, laidKinds := [.handle], laidTests := true, laidLooks := .later }
def OnceEndsUptoCardSaid : Prop := Claim7.holds Tryd.pinned (.plain (OpenSpec.upto onceEndsSpec)) onceEndsUptoCard

/-- THE SECOND FORM's CARD OF 'quadrillekeep.SemaAlone'. -/
def semaAloneUptoCard : Claim7 := { stood := { row := semaAloneUptoRow, standIns := [], harness := (true, "27ff5313bf9a649602a3c75fc10aa99bcff57a2c75098c7b1f339c89e2fb32d4"), looks := true }, kinds := [], alts := [], laidByText := true, laidKinds := [.handle], laidTests := true, laidLooks := .later }
def SemaAloneUptoCardSaid : Prop := Claim7.holds Tryd.pinned (.plain (OpenSpec.upto semaAloneSpec)) semaAloneUptoCard

/-- THE SECOND FORM's CARD OF 'quadrillekeep.SemaEnds'. -/
def semaEndsUptoCard : Claim7 := { stood := { row := semaEndsUptoRow, standIns := [], harness := (true, "27ff5313bf9a649602a3c75fc10aa99bcff57a2c75098c7b1f339c89e2fb32d4"), looks := true }, kinds := [], alts := [], laidByText := true, laidKinds := [.handle], laidTests := true, laidLooks := .later }
def SemaEndsUptoCardSaid : Prop := Claim7.holds Tryd.pinned (.plain (OpenSpec.upto semaEndsSpec)) semaEndsUptoCard

/-- THE SECOND FORM's CARD OF 'quadrillekeep.SemaBound'. -/
def semaBoundUptoCard : Claim7 := { stood := { row := semaBoundUptoRow, standIns := [], harness := (true, "27ff5313bf9a649602a3c75fc10aa99bcff57a2c75098c7b1f339c89e2fb32d4"), looks := true }, kinds := [], alts := [], laidByText := true, laidKinds := [.handle], laidTests := true, laidLooks := .later }
def SemaBoundUptoCardSaid : Prop := Claim7.holds Tryd.pinned (.plain (OpenSpec.upto semaBoundSpec)) semaBoundUptoCard

/-- THE SECOND FORM's CARD OF 'quadrillekeep.LatchEnds'. -/
def latchEndsUptoCard : Claim7 := { stood := { row := latchEndsUptoRow, standIns := [], harness := (true, "27ff5313bf9a649602a3c75fc10aa99bcff57a2c75098c7b1f339c89e2fb32d4"), looks := true }, kinds := [], alts := [], laidByText := true, laidKinds := [.handle], laidTests := true, laidLooks := .later }
def LatchEndsUptoCardSaid : Prop := Claim7.holds Tryd.pinned (.plain (OpenSpec.upto latchEndsSpec)) latchEndsUptoCard
end Rows
end Go.Proofs.YtondghnbecnpiaaDoor
