/-
  DERIVED. GIVEN WITH THE SEED: THE CARDS: each row of YtnhldphlkklfiaaDoorRows.lean that lists a variable, with what it lists TIED to the program's text (the seventh form; the later family's looks); each row that meets fmt, with fmt's text TOLD by the authors' own Lean function (tested against real Go, not proved from fmt's source: count such statements apart). THE CARD IS WHAT COUNTS. Prove the row's statement (the work); the ties are given (YtnhldphlkklfiaaDoorTie.lean); close each card by the builder's one call (the guide's Derived/Test/ToyasCard.lean, 'card_holds'). Laid BY PROGRAM, IN A SANDBOX (cutbox-door.mjs). By AI agents, Wed Nov 11 2026. No macro, syntax, notation, axiom, sorry.
-/
import Derived.Test.YtnhldphlkklfiaaDoorRows
import GoSem.ClaimSeven
namespace Go.Proofs.YtnhldphlkklfiaaDoor
namespace Rows

/-- THE TIED CARD OF 'quadrillekeep.DanceLag'. -/
def danceLagCard : Claim7 := { stood := { row := danceLagRow, standIns := [], harness := (true, "376ccb7484d159ed5c386433af6fdc14b6d6f0c90f33373bc3dccc46476d79ac"), looks := true }, kinds := [], alts := [], laidByText := true, laidKinds := [.handle], laidTests := true, laidLooks := .later }
def DanceLagCardSaid : Prop := Claim7.holds Tryd.pinned (.plain (OpenSpec.ofChange danceLagSpec)) danceLagCard

/-- THE TIED CARD OF 'quadrillekeep.DanceOrder'. -/
def danceOrderCard : Claim7 := { stood := { row := danceOrderRow, standIns := [], harness := (true, "376ccb7484d159ed5c386433af6fdc14b6d6f0c90f33373bc3dccc46476d79ac"), looks := true }, kinds := [], alts := [], laidByText := true, laidKinds := [.handle], laidTests := true, laidLooks := .later }
def DanceOrderCardSaid : Prop := Claim7.holds Tryd.pinned (.plain (OpenSpec.ofChange danceOrderSpec)) danceOrderCard

/-- THE TIED CARD OF 'quadrillekeep.DanceEnds'. -/
def danceEndsCard : Claim7 := { stood := { row := danceEndsRow, standIns := [], harness := (true, "376ccb7484d159ed5c386433af6fdc14b6d6f0c90f33373bc3dccc46476d79ac"), looks := true }, kinds := [], alts := [], laidByText := true, laidKinds := [.handle], laidTests := true, laidLooks := .later }
def DanceEndsCardSaid : Prop := Claim7.holds Tryd.pinned (.plain (OpenSpec.ofChange danceEndsSpec)) danceEndsCard

/-- THE TIED CARD OF 'quadrillekeep.DanceBound'. -/
def danceBoundCard : Claim7 := { stood := { row := danceBoundRow, standIns := [], harness := (true, "376ccb7484d159ed5c386433af6fdc14b6d6f0c90f33373bc3dccc46476d79ac"), looks := true }, kinds := [], alts := [], laidByText := true, laidKinds := [.handle], laidTests := true, laidLooks := .later }
def DanceBoundCardSaid : Prop := Claim7.holds Tryd.pinned (.plain (OpenSpec.ofChange danceBoundSpec)) danceBoundCard

/-- THE TIED CARD OF 'quadrillekeep.DanceGoes'. -/
def danceGoesCard : Claim7 := { stood := { row := danceGoesRow, standIns := [], harness := (true, "376ccb7484d159ed5c386433af6fdc14b6d6f0c90f33373bc3dccc46476d79ac"), looks := true }, kinds := [], alts := [], laidByText := true, laidKinds := [.handle], laidTests := true, laidLooks := .later }
def DanceGoesCardSaid : Prop := Claim7.holds Tryd.pinned (.plain (OpenSpec.ofChange danceGoesSpec)) danceGoesCard

/-- THE TIED CARD OF 'quadrillekeep.CentralCrowds'. -/
def centralCrowdsCard : Claim7 := { stood := { row := centralCrowdsRow, standIns := [], harness := (true, "376ccb7484d159ed5c386433af6fdc14b6d6f0c90f33373bc3dccc46476d79ac"), looks := true }, kinds := [], alts := [], laidByText := true, laidKinds := [.handle], laidTests := true, laidLooks := .later }
def CentralCrowdsCardSaid : Prop := Claim7.holds Tryd.pinned (.plain (OpenSpec.ofChange centralCrowdsSpec)) centralCrowdsCard

/-- THE TIED CARD OF 'quadrillekeep.SpreadThin'. -/
def spreadThinCard : Claim7 := { stood := { row := spreadThinRow, standIns := [], harness := (true, "376ccb7484d159ed5c386433af6fdc14b6d6f0c90f33373bc3dccc46476d79ac"), looks := true }, kinds := [], alts := [], laidByText := true, laidKinds := [.handle], laidTests := true, laidLooks := .later }
def SpreadThinCardSaid : Prop := Claim7.holds Tryd.pinned (.plain (OpenSpec.ofChange spreadThinSpec)) spreadThinCard

/-- THE TIED CARD OF 'quadrillekeep.DanceAlone'. -/
def danceAloneCard : Claim7 := { stood := { row := danceAloneRow, standIns := [], harness := (true, "376ccb7484d159ed5c386433af6fdc14b6d6f0c90f33373bc3dccc46476d79ac"), looks := true }, kinds := [], alts := [], laidByText := true, laidKinds := [.handle], laidTests := true, laidLooks := .later }
def DanceAloneCardSaid : Prop := Claim7.holds Tryd.pinned (.plain (OpenSpec.ofChange danceAloneSpec)) danceAloneCard

/-- THE TIED CARD OF 'quadrillekeep.DanceSame'. -/
def danceSameCard : Claim7 := { stood := { row := danceSameRow, standIns := [], harness := (true, "376ccb7484d159ed5c386433af6fdc14b6d6f0c90f33373bc3dccc46476d79ac"), looks := true }, kinds := [], alts := [], laidByText := true, laidKinds := [.handle], laidTests := true, laidLooks := .later }
def DanceSameCardSaid : Prop := Claim7.holds Tryd.pinned (.plain (OpenSpec.ofChange danceSameSpec)) danceSameCard

/-- THE TIED CARD OF 'quadrillekeep.ScriptPieces'. -/
def scriptPiecesCard : Claim7 := { stood := { row := scriptPiecesRow, standIns := [], harness := (true, "376ccb7484d159ed5c386433af6fdc14b6d6f0c90f33373bc3dccc46476d79ac"), looks := true }, kinds := [], alts := [], laidByText := true, laidKinds := [.handle], laidTests := true, laidLooks := .later }
def ScriptPiecesCardSaid : Prop := Claim7.holds Tryd.pinned (.plain (OpenSpec.ofChange scriptPiecesSpec)) scriptPiecesCard

/-- THE SECOND FORM's CARD OF 'quadrillekeep.DanceLag'. -/
def danceLagUptoCard : Claim7 := { stood := { row := danceLagUptoRow, standIns := [], harness := (true, "376ccb7484d159ed5c386433af6fdc14b6d6f0c90f33373bc3dccc46476d79ac"), looks := true }, kinds := [], alts := [], laidByText := true, laidKinds := [.handle], laidTests := true, laidLooks := .later }
def DanceLagUptoCardSaid : Prop := Claim7.holds Tryd.pinned (.plain (OpenSpec.upto danceLagSpec)) danceLagUptoCard

/-- THE SECOND FORM's CARD OF 'quadrillekeep.DanceOrder'. -/
def danceOrderUptoCard : Claim7 := { stood := { row := danceOrderUptoRow, standIns := [], harness := (true, "376ccb7484d159ed5c386433af6fdc14b6d6f0c90f33373bc3dccc46476d79ac"), looks := true }, kinds := [], alts := [], laidByText := true, laidKinds := [.handle], laidTests := true, laidLooks := .later }
def DanceOrderUptoCardSaid : Prop := Claim7.holds Tryd.pinned (.plain (OpenSpec.upto danceOrderSpec)) danceOrderUptoCard

/-- THE SECOND FORM's CARD OF 'quadrillekeep.DanceEnds'. -/
def danceEndsUptoCard : Claim7 := { stood := { row := danceEndsUptoRow, standIns := [], harness := (true, "376ccb7484d159ed5c386433af6fdc14b6d6f0c90f33373bc3dccc46476d79ac"), looks := true }, kinds := [], alts := [], laidByText := true, laidKinds := [.handle], laidTests := true, laidLooks := .later }
def DanceEndsUptoCardSaid : Prop := Claim7.holds Tryd.pinned (.plain (OpenSpec.upto danceEndsSpec)) danceEndsUptoCard

/-- THE SECOND FORM's CARD OF 'quadrillekeep.DanceBound'. -/
def danceBoundUptoCard : Claim7 := { stood := { row := danceBoundUptoRow, standIns := [], harness := (true, "376ccb7484d159ed5c386433af6fdc14b6d6f0c90f33373bc3dccc46476d79ac"), looks := true }, kinds := [], alts := [], laidByText := true, laidKinds := [.handle], laidTests := true, laidLooks := .later }
def DanceBoundUptoCardSaid : Prop := Claim7.holds Tryd.pinned (.plain (OpenSpec.upto danceBoundSpec)) danceBoundUptoCard

/-- THE SECOND FORM's CARD OF 'quadrillekeep.DanceGoes'. -/
def danceGoesUptoCard : Claim7 := { stood := { row := danceGoesUptoRow, standIns := [], harness := (true, "376ccb7484d159ed5c386433af6fdc14b6d6f0c90f33373bc3dccc46476d79ac"), looks := true }, kinds := [], alts := [], laidByText := true, laidKinds := [.handle], laidTests := true, laidLooks := .later }
def DanceGoesUptoCardSaid : Prop := Claim7.holds Tryd.pinned (.plain (OpenSpec.upto danceGoesSpec)) danceGoesUptoCard

/-- THE SECOND FORM's CARD OF 'quadrillekeep.CentralCrowds'. -/
def centralCrowdsUptoCard : Claim7 := { stood := { row := centralCrowdsUptoRow, standIns := [], harness := (true, "376ccb7484d159ed5c386433af6fdc14b6d6f0c90f33373bc3dccc46476d79ac"), looks := true }, kinds := [], alts := [], laidByText := true, laidKinds := [.handle], laidTests := true, laidLooks := .later }
def CentralCrowdsUptoCardSaid : Prop := Claim7.holds Tryd.pinned (.plain (OpenSpec.upto centralCrowdsSpec)) centralCrowdsUptoCard

/-- THE SECOND FORM's CARD OF 'quadrillekeep.SpreadThin'. -/
def spreadThinUptoCard : Claim7 := { stood := { row := spreadThinUptoRow, standIns := [], harness := (true, "376ccb7484d159ed5c386433af6fdc14b6d6f0c90f33373bc3dccc46476d79ac"), looks := true }, kinds := [], alts := [], laidByText := true, laidKinds := [.handle], laidTests := true, laidLooks := .later }
def SpreadThinUptoCardSaid : Prop := Claim7.holds Tryd.pinned (.plain (OpenSpec.upto spreadThinSpec)) spreadThinUptoCard

/-- THE SECOND FORM's CARD OF 'quadrillekeep.DanceAlone'. -/
def danceAloneUptoCard : Claim7 := { stood := { row := danceAloneUptoRow, standIns := [], harness := (true, "376ccb7484d159ed5c386433af6fdc14b6d6f0c90f33373bc3dccc46476d79ac"), looks := true }, kinds := [], alts := [], laidByText := true, laidKinds := [.handle], laidTests := true, laidLooks := .later }
def DanceAloneUptoCardSaid : Prop := Claim7.holds Tryd.pinned (.plain (OpenSpec.upto danceAloneSpec)) danceAloneUptoCard

/-- THE SECOND FORM's CARD OF 'quadrillekeep.DanceSame'. -/
def danceSameUptoCard : Claim7 := { stood := { row := danceSameUptoRow, standIns := [], harness := (true, "376ccb7484d159ed5c386433af6fdc14b6d6f0c90f33373bc3dccc46476d79ac"), looks := true }, kinds := [], alts := [], laidByText := true, laidKinds := [.handle], laidTests := true, laidLooks := .later }
def DanceSameUptoCardSaid : Prop := Claim7.holds Tryd.pinned (.plain (OpenSpec.upto danceSameSpec)) danceSameUptoCard

/-- THE SECOND FORM's CARD OF 'quadrillekeep.ScriptPieces'. -/
def scriptPiecesUptoCard : Claim7 := { stood := { row := scriptPiecesUptoRow, standIns := [], harness := (true, "376ccb7484d159ed5c386433af6fdc14b6d6f0c90f33373bc3dccc46476d79ac"), looks := true }, kinds := [], alts := [], laidByText := true, laidKinds := [.handle], laidTests := true, laidLooks := .later }
def ScriptPiecesUptoCardSaid : Prop := Claim7.holds Tryd.pinned (.plain (OpenSpec.upto scriptPiecesSpec)) scriptPiecesUptoCard
end Rows
end Go.Proofs.YtnhldphlkklfiaaDoor
