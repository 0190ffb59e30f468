/-
  NARROWER THAN 'FOR EVERY INPUT', by the rows' own cells (each row's printed sentence says how): PartRounds: laid · MutexAlone: laid · MutexOne: laid · MutexEnds: laid · TicketTold: laid · TicketOrder: laid · OnceOne: laid · OnceEnds: laid · SemaAlone: laid · SemaEnds: laid · SemaBound: laid · LatchEnds: laid.
  DERIVED. THE GIVEN ROWS OF THIS SEAT. 12 by the template 'for every input the law returns true; each argument reads behind the call as it read before'; 0 by the template 'total and deterministic' (their statements: YtondghnbecnpiaaDoorTotals.lean).
  GIVEN WITH THE SEED: the statements are not yours to turn. If you find one false, say at which input.
  Laid BY PROGRAM, IN A SANDBOX (cutbox-rows.mjs): the forced cells as the released guide's own fill.sh prints them over the translation ca17d235139f34b4… (all of the seat's roots in one cut). By AI agents, Wed Nov 11 2026. No macro, syntax, notation, axiom, sorry.
-/
import Derived.Test.YtondghnbecnpiaaDoorChecked
import GoSem.Claim
import GoSem.ClaimJoined
import GoSem.ClaimMapViews
import Derived.JoinedTies
import Derived.KernelRfl
namespace Go.Proofs.YtondghnbecnpiaaDoor
/- THE CELL 'sum', in the pinned program and in every row, IS THE sha256 OF THE DUMP (.gsa) THAT YtondghnbecnpiaaDoorProg.lean LOADS. Nothing in Lean hashes anything: it is a label: what it is worth is what the hold of that sum in a sandbox is worth. -/
noncomputable def Tryd.pinned : Pinned := { name := "ytondghnbecnpiaadoor", sum := "ca17d235139f34b419c53b40e6614a5bd61aeaf93e2bae8c1730a42b4e59af7d", checked := Tryd.checked }
namespace Rows
def none {H : Type} : Left H := { results := [], args := [] }

/- WHAT THE LISTED PACKAGE-LEVEL VARIABLES READ AS WHEN THE CALL BEGINS. Each datum BY PROGRAM (the guide's laid-datum.mjs) off the statement by which the dump's own 'gosem.cut.vars' lays the variable. In a bare row this is a premise. The card (YtondghnbecnpiaaDoorCards.lean) ties it to the program's text. -/
def laid_errors_errorType {H : Type} : DataW H := .iface "internal/reflectlite.rtype" (.agg [.ptr (.lit (.string [101, 114, 114, 111, 114]))])

/-- 'quadrillekeep.PartRounds': WHATEVER THE INPUT: true; the input reads as it did. -/
def partRoundsSpec : ChangeSpec := { name := "partRounds", fn := fun _ => fun
  | [d] => { results := [.lit (.bool true)], args := [d] }
  | _ => none }
def partRoundsRow : OpenClaim := { program := "ytondghnbecnpiaadoor", sum := "ca17d235139f34b419c53b40e6614a5bd61aeaf93e2bae8c1730a42b4e59af7d", func := "quadrille/quadrillekeep.PartRounds", spec := "partRounds", inPlace := ["internal/reflectlite.ValueOf", "(internal/reflectlite.Value).Type", "(internal/reflectlite.Value).IsNil", "internal/reflectlite.TypeOf", "(internal/reflectlite.Value).Elem", "(internal/reflectlite.Value).Set"], unfollowed := true, recurses := true, named := ["errors.errorType"], apart := false, laid := [("errors.errorType", laid_errors_errorType)] }
def PartRoundsSaid : Prop := partRoundsRow.holds Tryd.pinned (OpenSpec.ofChange partRoundsSpec)

/-- ITS FALSE NEIGHBOUR: 'it returns false'. Refute it at one input. -/
def partRoundsWrong : ChangeSpec := { name := "partRounds", fn := fun _ => fun
  | [d] => { results := [.lit (.bool false)], args := [d] }
  | _ => none }
def PartRoundsWrongFalsely : Prop := partRoundsRow.holds Tryd.pinned (OpenSpec.ofChange partRoundsWrong)

/-- 'quadrillekeep.MutexAlone': WHATEVER THE INPUT: true; the input reads as it did. -/
def mutexAloneSpec : ChangeSpec := { name := "mutexAlone", fn := fun _ => fun
  | [d] => { results := [.lit (.bool true)], args := [d] }
  | _ => none }
def mutexAloneRow : OpenClaim := { program := "ytondghnbecnpiaadoor", sum := "ca17d235139f34b419c53b40e6614a5bd61aeaf93e2bae8c1730a42b4e59af7d", func := "quadrille/quadrillekeep.MutexAlone", spec := "mutexAlone", inPlace := ["internal/reflectlite.ValueOf", "(internal/reflectlite.Value).Type", "(internal/reflectlite.Value).IsNil", "internal/reflectlite.TypeOf", "(internal/reflectlite.Value).Elem", "(internal/reflectlite.Value).Set"], unfollowed := true, recurses := true, named := ["errors.errorType"], apart := false, laid := [("errors.errorType", laid_errors_errorType)] }
def MutexAloneSaid : Prop := mutexAloneRow.holds Tryd.pinned (OpenSpec.ofChange mutexAloneSpec)

/-- ITS FALSE NEIGHBOUR: 'it returns false'. Refute it at one input. -/
def mutexAloneWrong : ChangeSpec := { name := "mutexAlone", fn := fun _ => fun
  | [d] => { results := [.lit (.bool false)], args := [d] }
  | _ => none }
def MutexAloneWrongFalsely : Prop := mutexAloneRow.holds Tryd.pinned (OpenSpec.ofChange mutexAloneWrong)

/-- 'quadrillekeep.MutexOne': WHATEVER THE INPUT: true; the input reads as it did. -/
def mutexOneSpec : ChangeSpec := { name := "mutexOne", fn := fun _ => fun
  | [d1, d2, d3, d4] => { results := [.lit (.bool true)], args := [d1, d2, d3, d4] }
  | _ => none }
def mutexOneRow : OpenClaim := { program := "ytondghnbecnpiaadoor", sum := "ca17d235139f34b419c53b40e6614a5bd61aeaf93e2bae8c1730a42b4e59af7d", func := "quadrille/quadrillekeep.MutexOne", spec := "mutexOne", inPlace := ["internal/reflectlite.ValueOf", "(internal/reflectlite.Value).Type", "(internal/reflectlite.Value).IsNil", "internal/reflectlite.TypeOf", "(internal/reflectlite.Value).Elem", "(internal/reflectlite.Value).Set"], unfollowed := true, recurses := true, named := ["errors.errorType"], apart := false, laid := [("errors.errorType", laid_errors_errorType)] }
def MutexOneSaid : Prop := mutexOneRow.holds Tryd.pinned (OpenSpec.ofChange mutexOneSpec)

/-- ITS FALSE NEIGHBOUR: 'it returns false'. Refute it at one input. -/
def mutexOneWrong : ChangeSpec := { name := "mutexOne", fn := fun _ => fun
  | [d1, d2, d3, d4] => { results := [.lit (.bool false)], args := [d1, d2, d3, d4] }
  | _ => none }
def MutexOneWrongFalsely : Prop := mutexOneRow.holds Tryd.pinned (OpenSpec.ofChange mutexOneWrong)

/-- 'quadrillekeep.MutexEnds': WHATEVER THE INPUT: true; the input reads as it did. -/
def mutexEndsSpec : ChangeSpec := { name := "mutexEnds", fn := fun _ => fun
  | [d1, d2, d3] => { results := [.lit (.bool true)], args := [d1, d2, d3] }
  | _ => none }
def mutexEndsRow : OpenClaim := { program := "ytondghnbecnpiaadoor", sum := "ca17d235139f34b419c53b40e6614a5bd61aeaf93e2bae8c1730a42b4e59af7d", func := "quadrille/quadrillekeep.MutexEnds", spec := "mutexEnds", inPlace := ["internal/reflectlite.ValueOf", "(internal/reflectlite.Value).Type", "(internal/reflectlite.Value).IsNil", "internal/reflectlite.TypeOf", "(internal/reflectlite.Value).Elem", "(internal/reflectlite.Value).Set"], unfollowed := true, recurses := true, named := ["errors.errorType"], apart := false, laid := [("errors.errorType", laid_errors_errorType)] }
def MutexEndsSaid : Prop := mutexEndsRow.holds Tryd.pinned (OpenSpec.ofChange mutexEndsSpec)

/-- ITS FALSE NEIGHBOUR: 'it returns false'. Refute it at one input. -/
def mutexEndsWrong : ChangeSpec := { name := "mutexEnds", fn := fun _ => fun
  | [d1, d2, d3] => { results := [.lit (.bool false)], args := [d1, d2, d3] }
  | _ => none }
def MutexEndsWrongFalsely : Prop := mutexEndsRow.holds Tryd.pinned (OpenSpec.ofChange mutexEndsWrong)

/-- 'quadrillekeep.TicketTold': WHATEVER THE INPUT: true; the input reads as it did. -/
def ticketToldSpec : ChangeSpec := { name := "ticketTold", fn := fun _ => fun
  | [d1, d2, d3] => { results := [.lit (.bool true)], args := [d1, d2, d3] }
  | _ => none }
def ticketToldRow : OpenClaim := { program := "ytondghnbecnpiaadoor", sum := "ca17d235139f34b419c53b40e6614a5bd61aeaf93e2bae8c1730a42b4e59af7d", func := "quadrille/quadrillekeep.TicketTold", spec := "ticketTold", inPlace := ["internal/reflectlite.ValueOf", "(internal/reflectlite.Value).Type", "(internal/reflectlite.Value).IsNil", "internal/reflectlite.TypeOf", "(internal/reflectlite.Value).Elem", "(internal/reflectlite.Value).Set"], unfollowed := true, recurses := true, named := ["errors.errorType"], apart := false, laid := [("errors.errorType", laid_errors_errorType)] }
def TicketToldSaid : Prop := ticketToldRow.holds Tryd.pinned (OpenSpec.ofChange ticketToldSpec)

/-- ITS FALSE NEIGHBOUR: 'it returns false'. Refute it at one input. -/
def ticketToldWrong : ChangeSpec := { name := "ticketTold", fn := fun _ => fun
  | [d1, d2, d3] => { results := [.lit (.bool false)], args := [d1, d2, d3] }
  | _ => none }
def TicketToldWrongFalsely : Prop := ticketToldRow.holds Tryd.pinned (OpenSpec.ofChange ticketToldWrong)

/-- 'quadrillekeep.TicketOrder': WHATEVER THE INPUT: true; the input reads as it did. -/
def ticketOrderSpec : ChangeSpec := { name := "ticketOrder", fn := fun _ => fun
  | [d1, d2, d3, d4] => { results := [.lit (.bool true)], args := [d1, d2, d3, d4] }
  | _ => none }
def ticketOrderRow : OpenClaim := { program := "ytondghnbecnpiaadoor", sum := "ca17d235139f34b419c53b40e6614a5bd61aeaf93e2bae8c1730a42b4e59af7d", func := "quadrille/quadrillekeep.TicketOrder", spec := "ticketOrder", inPlace := ["internal/reflectlite.ValueOf", "(internal/reflectlite.Value).Type", "(internal/reflectlite.Value).IsNil", "internal/reflectlite.TypeOf", "(internal/reflectlite.Value).Elem", "(internal/reflectlite.Value).Set"], unfollowed := true, recurses := true, named := ["errors.errorType"], apart := false, laid := [("errors.errorType", laid_errors_errorType)] }
def TicketOrderSaid : Prop := ticketOrderRow.holds Tryd.pinned (OpenSpec.ofChange ticketOrderSpec)

/-- ITS FALSE NEIGHBOUR: 'it returns false'. Refute it at one input. -/
def ticketOrderWrong : ChangeSpec := { name := "ticketOrder", fn := fun _ => fun
  | [d1, d2, d3, d4] => { results := [.lit (.bool false)], args := [d1, d2, d3, d4] }
  | _ => none }
def TicketOrderWrongFalsely : Prop := ticketOrderRow.holds Tryd.pinned (OpenSpec.ofChange ticketOrderWrong)

/-- 'quadrillekeep.OnceOne': WHATEVER THE INPUT: true; the input reads as it did. -/
def onceOneSpec : ChangeSpec := { name := "onceOne", fn := fun _ => fun
  | [d1, d2, d3] => { results := [.lit (.bool true)], args := [d1, d2, d3] }
  | _ => none }
def onceOneRow : OpenClaim := { program := "ytondghnbecnpiaadoor", sum := "ca17d235139f34b419c53b40e6614a5bd61aeaf93e2bae8c1730a42b4e59af7d", func := "quadrille/quadrillekeep.OnceOne", spec := "onceOne", inPlace := ["internal/reflectlite.ValueOf", "(internal/reflectlite.Value).Type", "(internal/reflectlite.Value).IsNil", "internal/reflectlite.TypeOf", "(internal/reflectlite.Value).Elem", "(internal/reflectlite.Value).Set"], unfollowed := true, recurses := true, named := ["errors.errorType"], apart := false, laid := [("errors.errorType", laid_errors_errorType)] }
def OnceOneSaid : Prop := onceOneRow.holds Tryd.pinned (OpenSpec.ofChange onceOneSpec)

/-- ITS FALSE NEIGHBOUR: 'it returns false'. Refute it at one input. -/
def onceOneWrong : ChangeSpec := { name := "onceOne", fn := fun _ => fun
  | [d1, d2, d3] => { results := [.lit (.bool false)], args := [d1, d2, d3] }
  | _ => none }
def OnceOneWrongFalsely : Prop := onceOneRow.holds Tryd.pinned (OpenSpec.ofChange onceOneWrong)

/-- 'quadrillekeep.OnceEnds': WHATEVER THE INPUT: true; the input reads as it did. -/
def onceEndsSpec : ChangeSpec := { name := "onceEnds", fn := fun _ => fun
  | [d1, d2] => { results := [.lit (.bool true)], args := [d1, d2] }
  | _ => none }
def onceEndsRow : OpenClaim := { program := "ytondghnbecnpiaadoor", sum := "ca17d235139f34b419c53b40e6614a5bd61aeaf93e2bae8c1730a42b4e59af7d", func := "quadrille/quadrillekeep.OnceEnds", spec := "onceEnds", inPlace := ["internal/reflectlite.ValueOf", "(internal/reflectlite.Value).Type", "(internal/reflectlite.Value).IsNil", "internal/reflectlite.TypeOf", "(internal/reflectlite.Value).Elem", "(internal/reflectlite.Value).Set"], unfollowed := true, recurses := true, named := ["errors.errorType"], apart := false, laid := [("errors.errorType", laid_errors_errorType)] }
def OnceEndsSaid : Prop := onceEndsRow.holds Tryd.pinned (OpenSpec.ofChange onceEndsSpec)

/-- ITS FALSE NEIGHBOUR: 'it returns false'. Refute it at one input. -/
def onceEndsWrong : ChangeSpec := { name := "onceEnds", fn := fun _ => fun
  | [d1, d2] => { results := [.lit (.bool false)], args := [d1, d2] }
  | _ => none }
def OnceEndsWrongFalsely : Prop := onceEndsRow.holds Tryd.pinned (OpenSpec.ofChange onceEndsWrong)

/-- 'quadrillekeep.SemaAlone': WHATEVER THE INPUT: true; the input reads as it did. -/
def semaAloneSpec : ChangeSpec := { name := "semaAlone", fn := fun _ => fun
  | [d1, d2] => { results := [.lit (.bool true)], args := [d1, d2] }
  | _ => none }
def semaAloneRow : OpenClaim := { program := "ytondghnbecnpiaadoor", sum := "ca17d235139f34b419c53b40e6614a5bd61aeaf93e2bae8c1730a42b4e59af7d", func := "quadrille/quadrillekeep.SemaAlone", spec := "semaAlone", inPlace := ["internal/reflectlite.ValueOf", "(internal/reflectlite.Value).Type", "(internal/reflectlite.Value).IsNil", "internal/reflectlite.TypeOf", "(internal/reflectlite.Value).Elem", "(internal/reflectlite.Value).Set"], unfollowed := true, recurses := true, named := ["errors.errorType"], apart := false, laid := [("errors.errorType", laid_errors_errorType)] }
def SemaAloneSaid : Prop := semaAloneRow.holds Tryd.pinned (OpenSpec.ofChange semaAloneSpec)

/-- ITS FALSE NEIGHBOUR: 'it returns false'. Refute it at one input. -/
def semaAloneWrong : ChangeSpec := { name := "semaAlone", fn := fun _ => fun
  | [d1, d2] => { results := [.lit (.bool false)], args := [d1, d2] }
  | _ => none }
def SemaAloneWrongFalsely : Prop := semaAloneRow.holds Tryd.pinned (OpenSpec.ofChange semaAloneWrong)

/-- 'quadrillekeep.SemaEnds': WHATEVER THE INPUT: true; the input reads as it did. -/
def semaEndsSpec : ChangeSpec := { name := "semaEnds", fn := fun _ => fun
  | [d1, d2, d3, d4] => { results := [.lit (.bool true)], args := [d1, d2, d3, d4] }
  | _ => none }
def semaEndsRow : OpenClaim := { program := "ytondghnbecnpiaadoor", sum := "ca17d235139f34b419c53b40e6614a5bd61aeaf93e2bae8c1730a42b4e59af7d", func := "quadrille/quadrillekeep.SemaEnds", spec := "semaEnds", inPlace := ["internal/reflectlite.ValueOf", "(internal/reflectlite.Value).Type", "(internal/reflectlite.Value).IsNil", "internal/reflectlite.TypeOf", "(internal/reflectlite.Value).Elem", "(internal/reflectlite.Value).Set"], unfollowed := true, recurses := true, named := ["errors.errorType"], apart := false, laid := [("errors.errorType", laid_errors_errorType)] }
def SemaEndsSaid : Prop := semaEndsRow.holds Tryd.pinned (OpenSpec.ofChange semaEndsSpec)

/-- ITS FALSE NEIGHBOUR: 'it returns false'. Refute it at one input. -/
def semaEndsWrong : ChangeSpec := { name := "semaEnds", fn := fun _ => fun
  | [d1, d2, d3, d4] => { results := [.lit (.bool false)], args := [d1, d2, d3, d4] }
  | _ => none }
def SemaEndsWrongFalsely : Prop := semaEndsRow.holds Tryd.pinned (OpenSpec.ofChange semaEndsWrong)

/-- 'quadrillekeep.SemaBound': WHATEVER THE INPUT: true; the input reads as it did. -/
def semaBoundSpec : ChangeSpec := { name := "semaBound", fn := fun _ => fun
  | [d1, d2, d3] => { results := [.lit (.bool true)], args := [d1, d2, d3] }
  | _ => none }
def semaBoundRow : OpenClaim := { program := "ytondghnbecnpiaadoor", sum := "ca17d235139f34b419c53b40e6614a5bd61aeaf93e2bae8c1730a42b4e59af7d", func := "quadrille/quadrillekeep.SemaBound", spec := "semaBound", inPlace := ["internal/reflectlite.ValueOf", "(internal/reflectlite.Value).Type", "(internal/reflectlite.Value).IsNil", "internal/reflectlite.TypeOf", "(internal/reflectlite.Value).Elem", "(internal/reflectlite.Value).Set"], unfollowed := true, recurses := true, named := ["errors.errorType"], apart := false, laid := [("errors.errorType", laid_errors_errorType)] }
def SemaBoundSaid : Prop := semaBoundRow.holds Tryd.pinned (OpenSpec.ofChange semaBoundSpec)

/-- ITS FALSE NEIGHBOUR: 'it returns false'. Refute it at one input. -/
def semaBoundWrong : ChangeSpec := { name := "semaBound", fn := fun _ => fun
  | [d1, d2, d3] => { results := [.lit (.bool false)], args := [d1, d2, d3] }
  | _ => none }
def SemaBoundWrongFalsely : Prop := semaBoundRow.holds Tryd.pinned (OpenSpec.ofChange semaBoundWrong)

/-- 'quadrillekeep.LatchEnds': WHATEVER THE INPUT: true; the input reads as it did. -/
def latchEndsSpec : ChangeSpec := { name := "latchEnds", fn := fun _ => fun
  | [d1, d2, d3, d4] => { results := [.lit (.bool true)], args := [d1, d2, d3, d4] }
  | _ => none }
def latchEndsRow : OpenClaim := { program := "ytondghnbecnpiaadoor", sum := "ca17d235139f34b419c53b40e6614a5bd61aeaf93e2bae8c1730a42b4e59af7d", func := "quadrille/quadrillekeep.LatchEnds", spec := "latchEnds", inPlace := ["internal/reflectlite.ValueOf", "(internal/reflectlite.Value).Type", "(internal/reflectlite.Value).IsNil", "internal/reflectlite.TypeOf", "(internal/reflectlite.Value).Elem", "(internal/reflectlite.Value).Set"], unfollowed := true, recurses := true, named := ["errors.errorType"], apart := false, laid := [("errors.errorType", laid_errors_errorType)] }
def LatchEndsSaid : Prop := latchEndsRow.holds Tryd.pinned (OpenSpec.ofChange latchEndsSpec)

/-- ITS FALSE NEIGHBOUR: 'it returns false'. Refute it at one input. -/
def latchEndsWrong : ChangeSpec := { name := "latchEnds", fn := fun _ => fun
  | [d1, d2, d3, d4] => { results := [.lit (.bool false)], args := [d1, d2, d3, d4] }
  | _ => none }
def LatchEndsWrongFalsely : Prop := latchEndsRow.holds Tryd.pinned (OpenSpec.ofChange latchEndsWrong)

/- THE SECOND FORM. 'bulk': how many values and letters a reading holds, each counted each time it is reached (what is shared counts as often as it is met; a slice's spare places count too). A statement '..UptoSaid' is the law's where the arguments, and the package variables that the reading takes, are together of bulk at most 1048576: NARROWER than '..Said'. Prove '..Said' where nothing that the law and all that it calls make is longer than what came in: it says more and counts as full. Else prove '..UptoSaid'. A law counts once. -/
mutual
def uptoBulk {H : Type} : DataW H → Nat
  | .lit (.string bytes) => bytes.length + 1
  | .lit _ => 1
  | .nil => 1
  | .ptr d => uptoBulk d + 1
  | .slice elems spare => uptoBulkAll elems + uptoBulkAll spare + 1
  | .agg parts => uptoBulkAll parts + 1
  | .iface _ d => uptoBulk d + 1
  | .map entries => uptoBulkEntries entries + 1
  | .held _ => 1
def uptoBulkAll {H : Type} : List (DataW H) → Nat
  | [] => 0
  | d :: r => uptoBulk d + uptoBulkAll r
def uptoBulkEntries {H : Type} : List (Lit × DataW H) → Nat
  | [] => 0
  | x :: r => uptoBulkEntry x + uptoBulkEntries r
def uptoBulkEntry {H : Type} : Lit × DataW H → Nat
  | (.string bytes, d) => bytes.length + uptoBulk d + 1
  | (_, d) => uptoBulk d + 1
 end
def uptoSmall : (H : Type) → List (DataW H) → Bool := fun _ ds => decide (uptoBulkAll ds ≤ 1048576)
def OpenSpec.upto (s : _root_.Go.ChangeSpec) : _root_.Go.OpenSpec := { _root_.Go.OpenSpec.ofChange s with cond := some uptoSmall }

/-- 'quadrillekeep.PartRounds', WHERE WHAT IT READS IS OF BULK AT MOST 1048576: true; the input reads as it did. -/
def partRoundsUptoRow : OpenClaim := { program := "ytondghnbecnpiaadoor", sum := "ca17d235139f34b419c53b40e6614a5bd61aeaf93e2bae8c1730a42b4e59af7d", func := "quadrille/quadrillekeep.PartRounds", spec := "partRounds", inPlace := ["internal/reflectlite.ValueOf", "(internal/reflectlite.Value).Type", "(internal/reflectlite.Value).IsNil", "internal/reflectlite.TypeOf", "(internal/reflectlite.Value).Elem", "(internal/reflectlite.Value).Set"], unfollowed := true, recurses := true, named := ["errors.errorType"], apart := false, laid := [("errors.errorType", laid_errors_errorType)], narrowed := true }
def PartRoundsUptoSaid : Prop := partRoundsUptoRow.holds Tryd.pinned (OpenSpec.upto partRoundsSpec)

/-- 'quadrillekeep.MutexAlone', WHERE WHAT IT READS IS OF BULK AT MOST 1048576: true; the input reads as it did. -/
def mutexAloneUptoRow : OpenClaim := { program := "ytondghnbecnpiaadoor", sum := "ca17d235139f34b419c53b40e6614a5bd61aeaf93e2bae8c1730a42b4e59af7d", func := "quadrille/quadrillekeep.MutexAlone", spec := "mutexAlone", inPlace := ["internal/reflectlite.ValueOf", "(internal/reflectlite.Value).Type", "(internal/reflectlite.Value).IsNil", "internal/reflectlite.TypeOf", "(internal/reflectlite.Value).Elem", "(internal/reflectlite.Value).Set"], unfollowed := true, recurses := true, named := ["errors.errorType"], apart := false, laid := [("errors.errorType", laid_errors_errorType)], narrowed := true }
def MutexAloneUptoSaid : Prop := mutexAloneUptoRow.holds Tryd.pinned (OpenSpec.upto mutexAloneSpec)

/-- 'quadrillekeep.MutexOne', WHERE WHAT IT READS IS OF BULK AT MOST 1048576: true; the input reads as it did. -/
def mutexOneUptoRow : OpenClaim := { program := "ytondghnbecnpiaadoor", sum := "ca17d235139f34b419c53b40e6614a5bd61aeaf93e2bae8c1730a42b4e59af7d", func := "quadrille/quadrillekeep.MutexOne", spec := "mutexOne", inPlace := ["internal/reflectlite.ValueOf", "(internal/reflectlite.Value).Type", "(internal/reflectlite.Value).IsNil", "internal/reflectlite.TypeOf", "(internal/reflectlite.Value).Elem", "(internal/reflectlite.Value).Set"], unfollowed := true, recurses := true, named := ["errors.errorType"], apart := false, laid := [("errors.errorType", laid_errors_errorType)], narrowed := true }
def MutexOneUptoSaid : Prop := mutexOneUptoRow.holds Tryd.pinned (OpenSpec.upto mutexOneSpec)

/-- 'quadrillekeep.MutexEnds', WHERE WHAT IT READS IS OF BULK AT MOST 1048576: true; the input reads as it did. -/
def mutexEndsUptoRow : OpenClaim := { program := "ytondghnbecnpiaadoor", sum := "ca17d235139f34b419c53b40e6614a5bd61aeaf93e2bae8c1730a42b4e59af7d", func := "quadrille/quadrillekeep.MutexEnds", spec := "mutexEnds", inPlace := ["internal/reflectlite.ValueOf", "(internal/reflectlite.Value).Type", "(internal/reflectlite.Value).IsNil", "internal/reflectlite.TypeOf", "(internal/reflectlite.Value).Elem", "(internal/reflectlite.Value).Set"], unfollowed := true, recurses := true, named := ["errors.errorType"], apart := false, laid := [("errors.errorType", laid_errors_errorType)], narrowed := true }
def MutexEndsUptoSaid : Prop := mutexEndsUptoRow.holds Tryd.pinned (OpenSpec.upto mutexEndsSpec)

/-- 'quadrillekeep.TicketTold', WHERE WHAT IT READS IS OF BULK AT MOST 1048576: true; the input reads as it did. -/
def ticketToldUptoRow : OpenClaim := { program := "ytondghnbecnpiaadoor", sum := "ca17d235139f34b419c53b40e6614a5bd61aeaf93e2bae8c1730a42b4e59af7d", func := "quadrille/quadrillekeep.TicketTold", spec := "ticketTold", inPlace := ["internal/reflectlite.ValueOf", "(internal/reflectlite.Value).Type", "(internal/reflectlite.Value).IsNil", "internal/reflectlite.TypeOf", "(internal/reflectlite.Value).Elem", "(internal/reflectlite.Value).Set"], unfollowed := true, recurses := true, named := ["errors.errorType"], apart := false, laid := [("errors.errorType", laid_errors_errorType)], narrowed := true }
def TicketToldUptoSaid : Prop := ticketToldUptoRow.holds Tryd.pinned (OpenSpec.upto ticketToldSpec)

/-- 'quadrillekeep.TicketOrder', WHERE WHAT IT READS IS OF BULK AT MOST 1048576: true; the input reads as it did. -/
def ticketOrderUptoRow : OpenClaim := { program := "ytondghnbecnpiaadoor", sum := "ca17d235139f34b419c53b40e6614a5bd61aeaf93e2bae8c1730a42b4e59af7d", func := "quadrille/quadrillekeep.TicketOrder", spec := "ticketOrder", inPlace := ["internal/reflectlite.ValueOf", "(internal/reflectlite.Value).Type", "(internal/reflectlite.Value).IsNil", "internal/reflectlite.TypeOf", "(internal/reflectlite.Value).Elem", "(internal/reflectlite.Value).Set"], unfollowed := true, recurses := true, named := ["errors.errorType"], apart := false, laid := [("errors.errorType", laid_errors_errorType)], narrowed := true }
def TicketOrderUptoSaid : Prop := ticketOrderUptoRow.holds Tryd.pinned (OpenSpec.upto ticketOrderSpec)

/-- 'quadrillekeep.OnceOne', WHERE WHAT IT READS IS OF BULK AT MOST 1048576: true; the input reads as it did. -/
def onceOneUptoRow : OpenClaim := { program := "ytondghnbecnpiaadoor", sum := "ca17d235139f34b419c53b40e6614a5bd61aeaf93e2bae8c1730a42b4e59af7d", func := "quadrille/quadrillekeep.OnceOne", spec := "onceOne", inPlace := ["internal/reflectlite.ValueOf", "(internal/reflectlite.Value).Type", "(internal/reflectlite.Value).IsNil", "internal/reflectlite.TypeOf", "(internal/reflectlite.Value).Elem", "(internal/reflectlite.Value).Set"], unfollowed := true, recurses := true, named := ["errors.errorType"], apart := false, laid := [("errors.errorType", laid_errors_errorType)], narrowed := true }
def OnceOneUptoSaid : Prop := onceOneUptoRow.holds Tryd.pinned (OpenSpec.upto onceOneSpec)

/-- 'quadrillekeep.OnceEnds', WHERE WHAT IT READS IS OF BULK AT MOST 1048576: true; the input reads as it did. -/
def onceEndsUptoRow : OpenClaim := { program := "ytondghnbecnpiaadoor", sum := "ca17d235139f34b419c53b40e6614a5bd61aeaf93e2bae8c1730a42b4e59af7d", func := "quadrille/quadrillekeep.OnceEnds", spec := "onceEnds", inPlace := ["internal/reflectlite.ValueOf", "(internal/reflectlite.Value).Type", "(internal/reflectlite.Value).IsNil", "internal/reflectlite.TypeOf", "(internal/reflectlite.Value).Elem", "(internal/reflectlite.Value).Set"], unfollowed := true, recurses := true, named := ["errors.errorType"], apart := false, laid := [("errors.errorType", laid_errors_errorType)], narrowed := true }
def OnceEndsUptoSaid : Prop := onceEndsUptoRow.holds Tryd.pinned (OpenSpec.upto onceEndsSpec)

/-- 'quadrillekeep.SemaAlone', WHERE WHAT IT READS IS OF BULK AT MOST 1048576: true; the input reads as it did. -/
def semaAloneUptoRow : OpenClaim := { program := "ytondghnbecnpiaadoor", sum := "ca17d235139f34b419c53b40e6614a5bd61aeaf93e2bae8c1730a42b4e59af7d", func := "quadrille/quadrillekeep.SemaAlone", spec := "semaAlone", inPlace := ["internal/reflectlite.ValueOf", "(internal/reflectlite.Value).Type", "(internal/reflectlite.Value).IsNil", "internal/reflectlite.TypeOf", "(internal/reflectlite.Value).Elem", "(internal/reflectlite.Value).Set"], unfollowed := true, recurses := true, named := ["errors.errorType"], apart := false, laid := [("errors.errorType", laid_errors_errorType)], narrowed := true }
def SemaAloneUptoSaid : Prop := semaAloneUptoRow.holds Tryd.pinned (OpenSpec.upto semaAloneSpec)

/-- 'quadrillekeep.SemaEnds', WHERE WHAT IT READS IS OF BULK AT MOST 1048576: true; the input reads as it did. -/
def semaEndsUptoRow : OpenClaim := { program := "ytondghnbecnpiaadoor", sum := "ca17d235139f34b419c53b40e6614a5bd61aeaf93e2bae8c1730a42b4e59af7d", func := "quadrille/quadrillekeep.SemaEnds", spec := "semaEnds", inPlace := ["internal/reflectlite.ValueOf", "(internal/reflectlite.Value).Type", "(internal/reflectlite.Value).IsNil", "internal/reflectlite.TypeOf", "(internal/reflectlite.Value).Elem", "(internal/reflectlite.Value).Set"], unfollowed := true, recurses := true, named := ["errors.errorType"], apart := false, laid := [("errors.errorType", laid_errors_errorType)], narrowed := true }
def SemaEndsUptoSaid : Prop := semaEndsUptoRow.holds Tryd.pinned (OpenSpec.upto semaEndsSpec)

/-- 'quadrillekeep.SemaBound', WHERE WHAT IT READS IS OF BULK AT MOST 1048576: true; the input reads as it did. -/
def semaBoundUptoRow : OpenClaim := { program := "ytondghnbecnpiaadoor", sum := "ca17d235139f34b419c53b40e6614a5bd61aeaf93e2bae8c1730a42b4e59af7d", func := "quadrille/quadrillekeep.SemaBound", spec := "semaBound", inPlace := ["internal/reflectlite.ValueOf", "(internal/reflectlite.Value).Type", "(internal/reflectlite.Value).IsNil", "internal/reflectlite.TypeOf", "(internal/reflectlite.Value).Elem", "(internal/reflectlite.Value).Set"], unfollowed := true, recurses := true, named := ["errors.errorType"], apart := false, laid := [("errors.errorType", laid_errors_errorType)], narrowed := true }
def SemaBoundUptoSaid : Prop := semaBoundUptoRow.holds Tryd.pinned (OpenSpec.upto semaBoundSpec)

/-- 'quadrillekeep.LatchEnds', WHERE WHAT IT READS IS OF BULK AT MOST 1048576: true; the input reads as it did. -/
def latchEndsUptoRow : OpenClaim := { program := "ytondghnbecnpiaadoor", sum := "ca17d235139f34b419c53b40e6614a5bd61aeaf93e2bae8c1730a42b4e59af7d", func := "quadrille/quadrillekeep.LatchEnds", spec := "latchEnds", inPlace := ["internal/reflectlite.ValueOf", "(internal/reflectlite.Value).Type", "(internal/reflectlite.Value).IsNil", "internal/reflectlite.TypeOf", "(internal/reflectlite.Value).Elem", "(internal/reflectlite.Value).Set"], unfollowed := true, recurses := true, named := ["errors.errorType"], apart := false, laid := [("errors.errorType", laid_errors_errorType)], narrowed := true }
def LatchEndsUptoSaid : Prop := latchEndsUptoRow.holds Tryd.pinned (OpenSpec.upto latchEndsSpec)

end Rows
end Go.Proofs.YtondghnbecnpiaaDoor
