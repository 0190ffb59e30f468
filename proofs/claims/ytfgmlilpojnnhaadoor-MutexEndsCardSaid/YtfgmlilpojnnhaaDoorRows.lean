/-
  NARROWER THAN 'FOR EVERY INPUT', by the rows' own cells (each row's printed sentence says how): MutexEnds: laid · MutexOne: laid · SemaEnds: laid · SemaBound: laid · SemaOne: laid · LatchEnds: laid · LatchOrder: laid · CoreLoses: laid · CoreSwaps: laid · TicketOrder: laid · SemaAlone: laid · LatchWaits: laid.
  DERIVED. THE GIVEN ROWS OF THIS SEAT. 12 by the template 'for every input the law returns true; each argument reads behind the call as it read before'; 0 by the template 'total and deterministic' (their statements: YtfgmlilpojnnhaaDoorTotals.lean).
  GIVEN WITH THE SEED: the statements are not yours to turn. If you find one false, say at which input.
  Laid BY PROGRAM, IN A SANDBOX (cutbox-rows.mjs): the forced cells as the released guide's own fill.sh prints them over the translation 52f6582ae70a232f… (all of the seat's roots in one cut). By AI agents, Wed Nov 11 2026. No macro, syntax, notation, axiom, sorry.
-/
import Derived.Test.YtfgmlilpojnnhaaDoorChecked
import GoSem.Claim
import GoSem.ClaimJoined
import GoSem.ClaimMapViews
import Derived.JoinedTies
import Derived.KernelRfl
namespace Go.Proofs.YtfgmlilpojnnhaaDoor
/- THE CELL 'sum', in the pinned program and in every row, IS THE sha256 OF THE DUMP (.gsa) THAT YtfgmlilpojnnhaaDoorProg.lean LOADS. Nothing in Lean hashes anything: it is a label: what it is worth is what the hold of that sum in a sandbox is worth. -/
noncomputable def Tryd.pinned : Pinned := { name := "ytfgmlilpojnnhaadoor", sum := "52f6582ae70a232ffedf1132c6cf37a0788e0b76196d8750135658cd159ca41f", checked := Tryd.checked }
namespace Rows
def none {H : Type} : Left H := { results := [], args := [] }

/- WHAT THE LISTED PACKAGE-LEVEL VARIABLES READ AS WHEN THE CALL BEGINS. Each datum BY PROGRAM (the guide's laid-datum.mjs) off the statement by which the dump's own 'gosem.cut.vars' lays the variable. In a bare row this is a premise. The card (YtfgmlilpojnnhaaDoorCards.lean) ties it to the program's text. -/
def laid_errors_errorType {H : Type} : DataW H := .iface "internal/reflectlite.rtype" (.agg [.ptr (.lit (.string [101, 114, 114, 111, 114]))])

/-- 'quadrillekeep.MutexEnds': WHATEVER THE INPUT: true; the input reads as it did. -/
def mutexEndsSpec : ChangeSpec := { name := "mutexEnds", fn := fun _ => fun
  | [d1, d2, d3] => { results := [.lit (.bool true)], args := [d1, d2, d3] }
  | _ => none }
def mutexEndsRow : OpenClaim := { program := "ytfgmlilpojnnhaadoor", sum := "52f6582ae70a232ffedf1132c6cf37a0788e0b76196d8750135658cd159ca41f", func := "quadrille/quadrillekeep.MutexEnds", spec := "mutexEnds", inPlace := ["internal/reflectlite.ValueOf", "(internal/reflectlite.Value).Type", "(internal/reflectlite.Value).IsNil", "internal/reflectlite.TypeOf", "(internal/reflectlite.Value).Elem", "(internal/reflectlite.Value).Set"], unfollowed := true, recurses := true, named := ["errors.errorType"], apart := false, laid := [("errors.errorType", laid_errors_errorType)] }
def MutexEndsSaid : Prop := mutexEndsRow.holds Tryd.pinned (OpenSpec.ofChange mutexEndsSpec)

/-- ITS FALSE NEIGHBOUR: 'it returns false'. Refute it at one input. -/
def mutexEndsWrong : ChangeSpec := { name := "mutexEnds", fn := fun _ => fun
  | [d1, d2, d3] => { results := [.lit (.bool false)], args := [d1, d2, d3] }
  | _ => none }
def MutexEndsWrongFalsely : Prop := mutexEndsRow.holds Tryd.pinned (OpenSpec.ofChange mutexEndsWrong)

/-- 'quadrillekeep.MutexOne': WHATEVER THE INPUT: true; the input reads as it did. -/
def mutexOneSpec : ChangeSpec := { name := "mutexOne", fn := fun _ => fun
  | [d1, d2, d3, d4] => { results := [.lit (.bool true)], args := [d1, d2, d3, d4] }
  | _ => none }
def mutexOneRow : OpenClaim := { program := "ytfgmlilpojnnhaadoor", sum := "52f6582ae70a232ffedf1132c6cf37a0788e0b76196d8750135658cd159ca41f", func := "quadrille/quadrillekeep.MutexOne", spec := "mutexOne", inPlace := ["internal/reflectlite.ValueOf", "(internal/reflectlite.Value).Type", "(internal/reflectlite.Value).IsNil", "internal/reflectlite.TypeOf", "(internal/reflectlite.Value).Elem", "(internal/reflectlite.Value).Set"], unfollowed := true, recurses := true, named := ["errors.errorType"], apart := false, laid := [("errors.errorType", laid_errors_errorType)] }
def MutexOneSaid : Prop := mutexOneRow.holds Tryd.pinned (OpenSpec.ofChange mutexOneSpec)

/-- ITS FALSE NEIGHBOUR: 'it returns false'. Refute it at one input. -/
def mutexOneWrong : ChangeSpec := { name := "mutexOne", fn := fun _ => fun
  | [d1, d2, d3, d4] => { results := [.lit (.bool false)], args := [d1, d2, d3, d4] }
  | _ => none }
def MutexOneWrongFalsely : Prop := mutexOneRow.holds Tryd.pinned (OpenSpec.ofChange mutexOneWrong)

/-- 'quadrillekeep.SemaEnds': WHATEVER THE INPUT: true; the input reads as it did. -/
def semaEndsSpec : ChangeSpec := { name := "semaEnds", fn := fun _ => fun
  | [d1, d2, d3, d4] => { results := [.lit (.bool true)], args := [d1, d2, d3, d4] }
  | _ => none }
def semaEndsRow : OpenClaim := { program := "ytfgmlilpojnnhaadoor", sum := "52f6582ae70a232ffedf1132c6cf37a0788e0b76196d8750135658cd159ca41f", func := "quadrille/quadrillekeep.SemaEnds", spec := "semaEnds", inPlace := ["internal/reflectlite.ValueOf", "(internal/reflectlite.Value).Type", "(internal/reflectlite.Value).IsNil", "internal/reflectlite.TypeOf", "(internal/reflectlite.Value).Elem", "(internal/reflectlite.Value).Set"], unfollowed := true, recurses := true, named := ["errors.errorType"], apart := false, laid := [("errors.errorType", laid_errors_errorType)] }
def SemaEndsSaid : Prop := semaEndsRow.holds Tryd.pinned (OpenSpec.ofChange semaEndsSpec)

/-- ITS FALSE NEIGHBOUR: 'it returns false'. Refute it at one input. -/
def semaEndsWrong : ChangeSpec := { name := "semaEnds", fn := fun _ => fun
  | [d1, d2, d3, d4] => { results := [.lit (.bool false)], args := [d1, d2, d3, d4] }
  | _ => none }
def SemaEndsWrongFalsely : Prop := semaEndsRow.holds Tryd.pinned (OpenSpec.ofChange semaEndsWrong)

/-- 'quadrillekeep.SemaBound': WHATEVER THE INPUT: true; the input reads as it did. -/
def semaBoundSpec : ChangeSpec := { name := "semaBound", fn := fun _ => fun
  | [d1, d2, d3] => { results := [.lit (.bool true)], args := [d1, d2, d3] }
  | _ => none }
def semaBoundRow : OpenClaim := { program := "ytfgmlilpojnnhaadoor", sum := "52f6582ae70a232ffedf1132c6cf37a0788e0b76196d8750135658cd159ca41f", func := "quadrille/quadrillekeep.SemaBound", spec := "semaBound", inPlace := ["internal/reflectlite.ValueOf", "(internal/reflectlite.Value).Type", "(internal/reflectlite.Value).IsNil", "internal/reflectlite.TypeOf", "(internal/reflectlite.Value).Elem", "(internal/reflectlite.Value).Set"], unfollowed := true, recurses := true, named := ["errors.errorType"], apart := false, laid := [("errors.errorType", laid_errors_errorType)] }
def SemaBoundSaid : Prop := semaBoundRow.holds Tryd.pinned (OpenSpec.ofChange semaBoundSpec)

/-- ITS FALSE NEIGHBOUR: 'it returns false'. Refute it at one input. -/
def semaBoundWrong : ChangeSpec := { name := "semaBound", fn := fun _ => fun
  | [d1, d2, d3] => { results := [.lit (.bool false)], args := [d1, d2, d3] }
  | _ => none }
def SemaBoundWrongFalsely : Prop := semaBoundRow.holds Tryd.pinned (OpenSpec.ofChange semaBoundWrong)

/-- 'quadrillekeep.SemaOne': WHATEVER THE INPUT: true; the input reads as it did. -/
def semaOneSpec : ChangeSpec := { name := "semaOne", fn := fun _ => fun
  | [d1, d2, d3] => { results := [.lit (.bool true)], args := [d1, d2, d3] }
  | _ => none }
def semaOneRow : OpenClaim := { program := "ytfgmlilpojnnhaadoor", sum := "52f6582ae70a232ffedf1132c6cf37a0788e0b76196d8750135658cd159ca41f", func := "quadrille/quadrillekeep.SemaOne", spec := "semaOne", inPlace := ["internal/reflectlite.ValueOf", "(internal/reflectlite.Value).Type", "(internal/reflectlite.Value).IsNil", "internal/reflectlite.TypeOf", "(internal/reflectlite.Value).Elem", "(internal/reflectlite.Value).Set"], unfollowed := true, recurses := true, named := ["errors.errorType"], apart := false, laid := [("errors.errorType", laid_errors_errorType)] }
def SemaOneSaid : Prop := semaOneRow.holds Tryd.pinned (OpenSpec.ofChange semaOneSpec)

/-- ITS FALSE NEIGHBOUR: 'it returns false'. Refute it at one input. -/
def semaOneWrong : ChangeSpec := { name := "semaOne", fn := fun _ => fun
  | [d1, d2, d3] => { results := [.lit (.bool false)], args := [d1, d2, d3] }
  | _ => none }
def SemaOneWrongFalsely : Prop := semaOneRow.holds Tryd.pinned (OpenSpec.ofChange semaOneWrong)

/-- 'quadrillekeep.LatchEnds': WHATEVER THE INPUT: true; the input reads as it did. -/
def latchEndsSpec : ChangeSpec := { name := "latchEnds", fn := fun _ => fun
  | [d1, d2, d3, d4] => { results := [.lit (.bool true)], args := [d1, d2, d3, d4] }
  | _ => none }
def latchEndsRow : OpenClaim := { program := "ytfgmlilpojnnhaadoor", sum := "52f6582ae70a232ffedf1132c6cf37a0788e0b76196d8750135658cd159ca41f", func := "quadrille/quadrillekeep.LatchEnds", spec := "latchEnds", inPlace := ["internal/reflectlite.ValueOf", "(internal/reflectlite.Value).Type", "(internal/reflectlite.Value).IsNil", "internal/reflectlite.TypeOf", "(internal/reflectlite.Value).Elem", "(internal/reflectlite.Value).Set"], unfollowed := true, recurses := true, named := ["errors.errorType"], apart := false, laid := [("errors.errorType", laid_errors_errorType)] }
def LatchEndsSaid : Prop := latchEndsRow.holds Tryd.pinned (OpenSpec.ofChange latchEndsSpec)

/-- ITS FALSE NEIGHBOUR: 'it returns false'. Refute it at one input. -/
def latchEndsWrong : ChangeSpec := { name := "latchEnds", fn := fun _ => fun
  | [d1, d2, d3, d4] => { results := [.lit (.bool false)], args := [d1, d2, d3, d4] }
  | _ => none }
def LatchEndsWrongFalsely : Prop := latchEndsRow.holds Tryd.pinned (OpenSpec.ofChange latchEndsWrong)

/-- 'quadrillekeep.LatchOrder': WHATEVER THE INPUT: true; the input reads as it did. -/
def latchOrderSpec : ChangeSpec := { name := "latchOrder", fn := fun _ => fun
  | [d1, d2, d3] => { results := [.lit (.bool true)], args := [d1, d2, d3] }
  | _ => none }
def latchOrderRow : OpenClaim := { program := "ytfgmlilpojnnhaadoor", sum := "52f6582ae70a232ffedf1132c6cf37a0788e0b76196d8750135658cd159ca41f", func := "quadrille/quadrillekeep.LatchOrder", spec := "latchOrder", inPlace := ["internal/reflectlite.ValueOf", "(internal/reflectlite.Value).Type", "(internal/reflectlite.Value).IsNil", "internal/reflectlite.TypeOf", "(internal/reflectlite.Value).Elem", "(internal/reflectlite.Value).Set"], unfollowed := true, recurses := true, named := ["errors.errorType"], apart := false, laid := [("errors.errorType", laid_errors_errorType)] }
def LatchOrderSaid : Prop := latchOrderRow.holds Tryd.pinned (OpenSpec.ofChange latchOrderSpec)

/-- ITS FALSE NEIGHBOUR: 'it returns false'. Refute it at one input. -/
def latchOrderWrong : ChangeSpec := { name := "latchOrder", fn := fun _ => fun
  | [d1, d2, d3] => { results := [.lit (.bool false)], args := [d1, d2, d3] }
  | _ => none }
def LatchOrderWrongFalsely : Prop := latchOrderRow.holds Tryd.pinned (OpenSpec.ofChange latchOrderWrong)

/-- 'quadrillekeep.CoreLoses': WHATEVER THE INPUT: true; the input reads as it did. -/
def coreLosesSpec : ChangeSpec := { name := "coreLoses", fn := fun _ => fun
  | [d1, d2] => { results := [.lit (.bool true)], args := [d1, d2] }
  | _ => none }
def coreLosesRow : OpenClaim := { program := "ytfgmlilpojnnhaadoor", sum := "52f6582ae70a232ffedf1132c6cf37a0788e0b76196d8750135658cd159ca41f", func := "quadrille/quadrillekeep.CoreLoses", spec := "coreLoses", inPlace := ["internal/reflectlite.ValueOf", "(internal/reflectlite.Value).Type", "(internal/reflectlite.Value).IsNil", "internal/reflectlite.TypeOf", "(internal/reflectlite.Value).Elem", "(internal/reflectlite.Value).Set"], unfollowed := true, recurses := true, named := ["errors.errorType"], apart := false, laid := [("errors.errorType", laid_errors_errorType)] }
def CoreLosesSaid : Prop := coreLosesRow.holds Tryd.pinned (OpenSpec.ofChange coreLosesSpec)

/-- ITS FALSE NEIGHBOUR: 'it returns false'. Refute it at one input. -/
def coreLosesWrong : ChangeSpec := { name := "coreLoses", fn := fun _ => fun
  | [d1, d2] => { results := [.lit (.bool false)], args := [d1, d2] }
  | _ => none }
def CoreLosesWrongFalsely : Prop := coreLosesRow.holds Tryd.pinned (OpenSpec.ofChange coreLosesWrong)

/-- 'quadrillekeep.CoreSwaps': WHATEVER THE INPUT: true; the input reads as it did. -/
def coreSwapsSpec : ChangeSpec := { name := "coreSwaps", fn := fun _ => fun
  | [d1, d2] => { results := [.lit (.bool true)], args := [d1, d2] }
  | _ => none }
def coreSwapsRow : OpenClaim := { program := "ytfgmlilpojnnhaadoor", sum := "52f6582ae70a232ffedf1132c6cf37a0788e0b76196d8750135658cd159ca41f", func := "quadrille/quadrillekeep.CoreSwaps", spec := "coreSwaps", inPlace := ["internal/reflectlite.ValueOf", "(internal/reflectlite.Value).Type", "(internal/reflectlite.Value).IsNil", "internal/reflectlite.TypeOf", "(internal/reflectlite.Value).Elem", "(internal/reflectlite.Value).Set"], unfollowed := true, recurses := true, named := ["errors.errorType"], apart := false, laid := [("errors.errorType", laid_errors_errorType)] }
def CoreSwapsSaid : Prop := coreSwapsRow.holds Tryd.pinned (OpenSpec.ofChange coreSwapsSpec)

/-- ITS FALSE NEIGHBOUR: 'it returns false'. Refute it at one input. -/
def coreSwapsWrong : ChangeSpec := { name := "coreSwaps", fn := fun _ => fun
  | [d1, d2] => { results := [.lit (.bool false)], args := [d1, d2] }
  | _ => none }
def CoreSwapsWrongFalsely : Prop := coreSwapsRow.holds Tryd.pinned (OpenSpec.ofChange coreSwapsWrong)

/-- 'quadrillekeep.TicketOrder': WHATEVER THE INPUT: true; the input reads as it did. -/
def ticketOrderSpec : ChangeSpec := { name := "ticketOrder", fn := fun _ => fun
  | [d1, d2, d3, d4] => { results := [.lit (.bool true)], args := [d1, d2, d3, d4] }
  | _ => none }
def ticketOrderRow : OpenClaim := { program := "ytfgmlilpojnnhaadoor", sum := "52f6582ae70a232ffedf1132c6cf37a0788e0b76196d8750135658cd159ca41f", func := "quadrille/quadrillekeep.TicketOrder", spec := "ticketOrder", inPlace := ["internal/reflectlite.ValueOf", "(internal/reflectlite.Value).Type", "(internal/reflectlite.Value).IsNil", "internal/reflectlite.TypeOf", "(internal/reflectlite.Value).Elem", "(internal/reflectlite.Value).Set"], unfollowed := true, recurses := true, named := ["errors.errorType"], apart := false, laid := [("errors.errorType", laid_errors_errorType)] }
def TicketOrderSaid : Prop := ticketOrderRow.holds Tryd.pinned (OpenSpec.ofChange ticketOrderSpec)

/-- ITS FALSE NEIGHBOUR: 'it returns false'. Refute it at one input. -/
def ticketOrderWrong : ChangeSpec := { name := "ticketOrder", fn := fun _ => fun
  | [d1, d2, d3, d4] => { results := [.lit (.bool false)], args := [d1, d2, d3, d4] }
  | _ => none }
def TicketOrderWrongFalsely : Prop := ticketOrderRow.holds Tryd.pinned (OpenSpec.ofChange ticketOrderWrong)

/-- 'quadrillekeep.SemaAlone': WHATEVER THE INPUT: true; the input reads as it did. -/
def semaAloneSpec : ChangeSpec := { name := "semaAlone", fn := fun _ => fun
  | [d1, d2] => { results := [.lit (.bool true)], args := [d1, d2] }
  | _ => none }
def semaAloneRow : OpenClaim := { program := "ytfgmlilpojnnhaadoor", sum := "52f6582ae70a232ffedf1132c6cf37a0788e0b76196d8750135658cd159ca41f", func := "quadrille/quadrillekeep.SemaAlone", spec := "semaAlone", inPlace := ["internal/reflectlite.ValueOf", "(internal/reflectlite.Value).Type", "(internal/reflectlite.Value).IsNil", "internal/reflectlite.TypeOf", "(internal/reflectlite.Value).Elem", "(internal/reflectlite.Value).Set"], unfollowed := true, recurses := true, named := ["errors.errorType"], apart := false, laid := [("errors.errorType", laid_errors_errorType)] }
def SemaAloneSaid : Prop := semaAloneRow.holds Tryd.pinned (OpenSpec.ofChange semaAloneSpec)

/-- ITS FALSE NEIGHBOUR: 'it returns false'. Refute it at one input. -/
def semaAloneWrong : ChangeSpec := { name := "semaAlone", fn := fun _ => fun
  | [d1, d2] => { results := [.lit (.bool false)], args := [d1, d2] }
  | _ => none }
def SemaAloneWrongFalsely : Prop := semaAloneRow.holds Tryd.pinned (OpenSpec.ofChange semaAloneWrong)

/-- 'quadrillekeep.LatchWaits': WHATEVER THE INPUT: true; the input reads as it did. -/
def latchWaitsSpec : ChangeSpec := { name := "latchWaits", fn := fun _ => fun
  | [d1, d2, d3] => { results := [.lit (.bool true)], args := [d1, d2, d3] }
  | _ => none }
def latchWaitsRow : OpenClaim := { program := "ytfgmlilpojnnhaadoor", sum := "52f6582ae70a232ffedf1132c6cf37a0788e0b76196d8750135658cd159ca41f", func := "quadrille/quadrillekeep.LatchWaits", spec := "latchWaits", inPlace := ["internal/reflectlite.ValueOf", "(internal/reflectlite.Value).Type", "(internal/reflectlite.Value).IsNil", "internal/reflectlite.TypeOf", "(internal/reflectlite.Value).Elem", "(internal/reflectlite.Value).Set"], unfollowed := true, recurses := true, named := ["errors.errorType"], apart := false, laid := [("errors.errorType", laid_errors_errorType)] }
def LatchWaitsSaid : Prop := latchWaitsRow.holds Tryd.pinned (OpenSpec.ofChange latchWaitsSpec)

/-- ITS FALSE NEIGHBOUR: 'it returns false'. Refute it at one input. -/
def latchWaitsWrong : ChangeSpec := { name := "latchWaits", fn := fun _ => fun
  | [d1, d2, d3] => { results := [.lit (.bool false)], args := [d1, d2, d3] }
  | _ => none }
def LatchWaitsWrongFalsely : Prop := latchWaitsRow.holds Tryd.pinned (OpenSpec.ofChange latchWaitsWrong)

/- THE SECOND FORM. 'bulk': how many values and letters a reading holds, each counted each time it is reached (what is shared counts as often as it is met; a slice's spare places count too). A statement '..UptoSaid' is the law's where the arguments, and the package variables that the reading takes, are together of bulk at most 1048576: NARROWER than '..Said'. Prove '..Said' where nothing that the law and all that it calls make is longer than what came in: it says more and counts as full. Else prove '..UptoSaid'. A law counts once. -/
mutual
def uptoBulk {H : Type} : DataW H → Nat
  | .lit (.string bytes) => bytes.length + 1
  | .lit _ => 1
  | .nil => 1
  | .ptr d => uptoBulk d + 1
  | .slice elems spare => uptoBulkAll elems + uptoBulkAll spare + 1
  | .agg parts => uptoBulkAll parts + 1
  | .iface _ d => uptoBulk d + 1
  | .map entries => uptoBulkEntries entries + 1
  | .held _ => 1
def uptoBulkAll {H : Type} : List (DataW H) → Nat
  | [] => 0
  | d :: r => uptoBulk d + uptoBulkAll r
def uptoBulkEntries {H : Type} : List (Lit × DataW H) → Nat
  | [] => 0
  | x :: r => uptoBulkEntry x + uptoBulkEntries r
def uptoBulkEntry {H : Type} : Lit × DataW H → Nat
  | (.string bytes, d) => bytes.length + uptoBulk d + 1
  | (_, d) => uptoBulk d + 1
 end
def uptoSmall : (H : Type) → List (DataW H) → Bool := fun _ ds => decide (uptoBulkAll ds ≤ 1048576)
def OpenSpec.upto (s : _root_.Go.ChangeSpec) : _root_.Go.OpenSpec := { _root_.Go.OpenSpec.ofChange s with cond := some uptoSmall }

/-- 'quadrillekeep.MutexEnds', WHERE WHAT IT READS IS OF BULK AT MOST 1048576: true; the input reads as it did. -/
def mutexEndsUptoRow : OpenClaim := { program := "ytfgmlilpojnnhaadoor", sum := "52f6582ae70a232ffedf1132c6cf37a0788e0b76196d8750135658cd159ca41f", func := "quadrille/quadrillekeep.MutexEnds", spec := "mutexEnds", inPlace := ["internal/reflectlite.ValueOf", "(internal/reflectlite.Value).Type", "(internal/reflectlite.Value).IsNil", "internal/reflectlite.TypeOf", "(internal/reflectlite.Value).Elem", "(internal/reflectlite.Value).Set"], unfollowed := true, recurses := true, named := ["errors.errorType"], apart := false, laid := [("errors.errorType", laid_errors_errorType)], narrowed := true }
def MutexEndsUptoSaid : Prop := mutexEndsUptoRow.holds Tryd.pinned (OpenSpec.upto mutexEndsSpec)

/-- 'quadrillekeep.MutexOne', WHERE WHAT IT READS IS OF BULK AT MOST 1048576: true; the input reads as it did. -/
def mutexOneUptoRow : OpenClaim := { program := "ytfgmlilpojnnhaadoor", sum := "52f6582ae70a232ffedf1132c6cf37a0788e0b76196d8750135658cd159ca41f", func := "quadrille/quadrillekeep.MutexOne", spec := "mutexOne", inPlace := ["internal/reflectlite.ValueOf", "(internal/reflectlite.Value).Type", "(internal/reflectlite.Value).IsNil", "internal/reflectlite.TypeOf", "(internal/reflectlite.Value).Elem", "(internal/reflectlite.Value).Set"], unfollowed := true, recurses := true, named := ["errors.errorType"], apart := false, laid := [("errors.errorType", laid_errors_errorType)], narrowed := true }
def MutexOneUptoSaid : Prop := mutexOneUptoRow.holds Tryd.pinned (OpenSpec.upto mutexOneSpec)

/-- 'quadrillekeep.SemaEnds', WHERE WHAT IT READS IS OF BULK AT MOST 1048576: true; the input reads as it did. -/
def semaEndsUptoRow : OpenClaim := { program := "ytfgmlilpojnnhaadoor", sum := "52f6582ae70a232ffedf1132c6cf37a0788e0b76196d8750135658cd159ca41f", func := "quadrille/quadrillekeep.SemaEnds", spec := "semaEnds", inPlace := ["internal/reflectlite.ValueOf", "(internal/reflectlite.Value).Type", "(internal/reflectlite.Value).IsNil", "internal/reflectlite.TypeOf", "(internal/reflectlite.Value).Elem", "(internal/reflectlite.Value).Set"], unfollowed := true, recurses := true, named := ["errors.errorType"], apart := false, laid := [("errors.errorType", laid_errors_errorType)], narrowed := true }
def SemaEndsUptoSaid : Prop := semaEndsUptoRow.holds Tryd.pinned (OpenSpec.upto semaEndsSpec)

/-- 'quadrillekeep.SemaBound', WHERE WHAT IT READS IS OF BULK AT MOST 1048576: true; the input reads as it did. -/
def semaBoundUptoRow : OpenClaim := { program := "ytfgmlilpojnnhaadoor", sum := "52f6582ae70a232ffedf1132c6cf37a0788e0b76196d8750135658cd159ca41f", func := "quadrille/quadrillekeep.SemaBound", spec := "semaBound", inPlace := ["internal/reflectlite.ValueOf", "(internal/reflectlite.Value).Type", "(internal/reflectlite.Value).IsNil", "internal/reflectlite.TypeOf", "(internal/reflectlite.Value).Elem", "(internal/reflectlite.Value).Set"], unfollowed := true, recurses := true, named := ["errors.errorType"], apart := false, laid := [("errors.errorType", laid_errors_errorType)], narrowed := true }
def SemaBoundUptoSaid : Prop := semaBoundUptoRow.holds Tryd.pinned (OpenSpec.upto semaBoundSpec)

/-- 'quadrillekeep.SemaOne', WHERE WHAT IT READS IS OF BULK AT MOST 1048576: true; the input reads as it did. -/
def semaOneUptoRow : OpenClaim := { program := "ytfgmlilpojnnhaadoor", sum := "52f6582ae70a232ffedf1132c6cf37a0788e0b76196d8750135658cd159ca41f", func := "quadrille/quadrillekeep.SemaOne", spec := "semaOne", inPlace := ["internal/reflectlite.ValueOf", "(internal/reflectlite.Value).Type", "(internal/reflectlite.Value).IsNil", "internal/reflectlite.TypeOf", "(internal/reflectlite.Value).Elem", "(internal/reflectlite.Value).Set"], unfollowed := true, recurses := true, named := ["errors.errorType"], apart := false, laid := [("errors.errorType", laid_errors_errorType)], narrowed := true }
def SemaOneUptoSaid : Prop := semaOneUptoRow.holds Tryd.pinned (OpenSpec.upto semaOneSpec)

/-- 'quadrillekeep.LatchEnds', WHERE WHAT IT READS IS OF BULK AT MOST 1048576: true; the input reads as it did. -/
def latchEndsUptoRow : OpenClaim := { program := "ytfgmlilpojnnhaadoor", sum := "52f6582ae70a232ffedf1132c6cf37a0788e0b76196d8750135658cd159ca41f", func := "quadrille/quadrillekeep.LatchEnds", spec := "latchEnds", inPlace := ["internal/reflectlite.ValueOf", "(internal/reflectlite.Value).Type", "(internal/reflectlite.Value).IsNil", "internal/reflectlite.TypeOf", "(internal/reflectlite.Value).Elem", "(internal/reflectlite.Value).Set"], unfollowed := true, recurses := true, named := ["errors.errorType"], apart := false, laid := [("errors.errorType", laid_errors_errorType)], narrowed := true }
def LatchEndsUptoSaid : Prop := latchEndsUptoRow.holds Tryd.pinned (OpenSpec.upto latchEndsSpec)

/-- 'quadrillekeep.LatchOrder', WHERE WHAT IT READS IS OF BULK AT MOST 1048576: true; the input reads as it did. -/
def latchOrderUptoRow : OpenClaim := { program := "ytfgmlilpojnnhaadoor", sum := "52f6582ae70a232ffedf1132c6cf37a0788e0b76196d8750135658cd159ca41f", func := "quadrille/quadrillekeep.LatchOrder", spec := "latchOrder", inPlace := ["internal/reflectlite.ValueOf", "(internal/reflectlite.Value).Type", "(internal/reflectlite.Value).IsNil", "internal/reflectlite.TypeOf", "(internal/reflectlite.Value).Elem", "(internal/reflectlite.Value).Set"], unfollowed := true, recurses := true, named := ["errors.errorType"], apart := false, laid := [("errors.errorType", laid_errors_errorType)], narrowed := true }
def LatchOrderUptoSaid : Prop := latchOrderUptoRow.holds Tryd.pinned (OpenSpec.upto latchOrderSpec)

/-- 'quadrillekeep.CoreLoses', WHERE WHAT IT READS IS OF BULK AT MOST 1048576: true; the input reads as it did. -/
def coreLosesUptoRow : OpenClaim := { program := "ytfgmlilpojnnhaadoor", sum := "52f6582ae70a232ffedf1132c6cf37a0788e0b76196d8750135658cd159ca41f", func := "quadrille/quadrillekeep.CoreLoses", spec := "coreLoses", inPlace := ["internal/reflectlite.ValueOf", "(internal/reflectlite.Value).Type", "(internal/reflectlite.Value).IsNil", "internal/reflectlite.TypeOf", "(internal/reflectlite.Value).Elem", "(internal/reflectlite.Value).Set"], unfollowed := true, recurses := true, named := ["errors.errorType"], apart := false, laid := [("errors.errorType", laid_errors_errorType)], narrowed := true }
def CoreLosesUptoSaid : Prop := coreLosesUptoRow.holds Tryd.pinned (OpenSpec.upto coreLosesSpec)

/-- 'quadrillekeep.CoreSwaps', WHERE WHAT IT READS IS OF BULK AT MOST 1048576: true; the input reads as it did. -/
def coreSwapsUptoRow : OpenClaim := { program := "ytfgmlilpojnnhaadoor", sum := "52f6582ae70a232ffedf1132c6cf37a0788e0b76196d8750135658cd159ca41f", func := "quadrille/quadrillekeep.CoreSwaps", spec := "coreSwaps", inPlace := ["internal/reflectlite.ValueOf", "(internal/reflectlite.Value).Type", "(internal/reflectlite.Value).IsNil", "internal/reflectlite.TypeOf", "(internal/reflectlite.Value).Elem", "(internal/reflectlite.Value).Set"], unfollowed := true, recurses := true, named := ["errors.errorType"], apart := false, laid := [("errors.errorType", laid_errors_errorType)], narrowed := true }
def CoreSwapsUptoSaid : Prop := coreSwapsUptoRow.holds Tryd.pinned (OpenSpec.upto coreSwapsSpec)

/-- 'quadrillekeep.TicketOrder', WHERE WHAT IT READS IS OF BULK AT MOST 1048576: true; the input reads as it did. -/
def ticketOrderUptoRow : OpenClaim := { program := "ytfgmlilpojnnhaadoor", sum := "52f6582ae70a232ffedf1132c6cf37a0788e0b76196d8750135658cd159ca41f", func := "quadrille/quadrillekeep.TicketOrder", spec := "ticketOrder", inPlace := ["internal/reflectlite.ValueOf", "(internal/reflectlite.Value).Type", "(internal/reflectlite.Value).IsNil", "internal/reflectlite.TypeOf", "(internal/reflectlite.Value).Elem", "(internal/reflectlite.Value).Set"], unfollowed := true, recurses := true, named := ["errors.errorType"], apart := false, laid := [("errors.errorType", laid_errors_errorType)], narrowed := true }
def TicketOrderUptoSaid : Prop := ticketOrderUptoRow.holds Tryd.pinned (OpenSpec.upto ticketOrderSpec)

/-- 'quadrillekeep.SemaAlone', WHERE WHAT IT READS IS OF BULK AT MOST 1048576: true; the input reads as it did. -/
def semaAloneUptoRow : OpenClaim := { program := "ytfgmlilpojnnhaadoor", sum := "52f6582ae70a232ffedf1132c6cf37a0788e0b76196d8750135658cd159ca41f", func := "quadrille/quadrillekeep.SemaAlone", spec := "semaAlone", inPlace := ["internal/reflectlite.ValueOf", "(internal/reflectlite.Value).Type", "(internal/reflectlite.Value).IsNil", "internal/reflectlite.TypeOf", "(internal/reflectlite.Value).Elem", "(internal/reflectlite.Value).Set"], unfollowed := true, recurses := true, named := ["errors.errorType"], apart := false, laid := [("errors.errorType", laid_errors_errorType)], narrowed := true }
def SemaAloneUptoSaid : Prop := semaAloneUptoRow.holds Tryd.pinned (OpenSpec.upto semaAloneSpec)

/-- 'quadrillekeep.LatchWaits', WHERE WHAT IT READS IS OF BULK AT MOST 1048576: true; the input reads as it did. -/
def latchWaitsUptoRow : OpenClaim := { program := "ytfgmlilpojnnhaadoor", sum := "52f6582ae70a232ffedf1132c6cf37a0788e0b76196d8750135658cd159ca41f", func := "quadrille/quadrillekeep.LatchWaits", spec := "latchWaits", inPlace := ["internal/reflectlite.ValueOf", "(internal/reflectlite.Value).Type", "(internal/reflectlite.Value).IsNil", "internal/reflectlite.TypeOf", "(internal/reflectlite.Value).Elem", "(internal/reflectlite.Value).Set"], unfollowed := true, recurses := true, named := ["errors.errorType"], apart := false, laid := [("errors.errorType", laid_errors_errorType)], narrowed := true }
def LatchWaitsUptoSaid : Prop := latchWaitsUptoRow.holds Tryd.pinned (OpenSpec.upto latchWaitsSpec)

end Rows
end Go.Proofs.YtfgmlilpojnnhaaDoor
