/-
  NARROWER THAN 'FOR EVERY INPUT', by the rows' own cells (each row's printed sentence says how): JudgeSwaps: laid · ParkOnce: laid · CoreSums: laid · CoreFields: laid · CoreOrders: laid · PartAwaits: laid · CoreFetches: laid · CoreLoses: laid · CoreSwaps: laid.
  DERIVED. THE GIVEN ROWS OF THIS SEAT. 9 by the template 'for every input the law returns true; each argument reads behind the call as it read before'; 0 by the template 'total and deterministic' (their statements: YtljglfophhagjaaDoorTotals.lean).
  GIVEN WITH THE SEED: the statements are not yours to turn. If you find one false, say at which input.
  Laid BY PROGRAM, IN A SANDBOX (cutbox-rows.mjs): the forced cells as the released guide's own fill.sh prints them over the translation 9edb53056858efe1… (all of the seat's roots in one cut). By AI agents, Wed Nov 11 2026. No macro, syntax, notation, axiom, sorry.
-/
import Derived.Test.YtljglfophhagjaaDoorChecked
import GoSem.Claim
import GoSem.ClaimJoined
import GoSem.ClaimMapViews
import Derived.JoinedTies
import Derived.KernelRfl
namespace Go.Proofs.YtljglfophhagjaaDoor
/- THE CELL 'sum', in the pinned program and in every row, IS THE sha256 OF THE DUMP (.gsa) THAT YtljglfophhagjaaDoorProg.lean LOADS. Nothing in Lean hashes anything: it is a label: what it is worth is what the hold of that sum in a sandbox is worth. -/
noncomputable def Tryd.pinned : Pinned := { name := "ytljglfophhagjaadoor", sum := "9edb53056858efe1e270e17e6c5a842203a1147420cd3e5b9b13bec420de7968", checked := Tryd.checked }
namespace Rows
def none {H : Type} : Left H := { results := [], args := [] }

/- WHAT THE LISTED PACKAGE-LEVEL VARIABLES READ AS WHEN THE CALL BEGINS. Each datum BY PROGRAM (the guide's laid-datum.mjs) off the statement by which the dump's own 'gosem.cut.vars' lays the variable. In a bare row this is a premise. The card (YtljglfophhagjaaDoorCards.lean) ties it to the program's text. -/
def laid_errors_errorType {H : Type} : DataW H := .iface "internal/reflectlite.rtype" (.agg [.ptr (.lit (.string [101, 114, 114, 111, 114]))])

/-- 'quadrillekeep.JudgeSwaps': WHATEVER THE INPUT: true; the input reads as it did. -/
def judgeSwapsSpec : ChangeSpec := { name := "judgeSwaps", fn := fun _ => fun
  | [d1, d2, d3] => { results := [.lit (.bool true)], args := [d1, d2, d3] }
  | _ => none }
def judgeSwapsRow : OpenClaim := { program := "ytljglfophhagjaadoor", sum := "9edb53056858efe1e270e17e6c5a842203a1147420cd3e5b9b13bec420de7968", func := "quadrille/quadrillekeep.JudgeSwaps", spec := "judgeSwaps", inPlace := ["internal/reflectlite.ValueOf", "(internal/reflectlite.Value).Type", "(internal/reflectlite.Value).IsNil", "internal/reflectlite.TypeOf", "(internal/reflectlite.Value).Elem", "(internal/reflectlite.Value).Set"], unfollowed := true, recurses := true, named := ["errors.errorType"], apart := false, laid := [("errors.errorType", laid_errors_errorType)] }
def JudgeSwapsSaid : Prop := judgeSwapsRow.holds Tryd.pinned (OpenSpec.ofChange judgeSwapsSpec)

/-- ITS FALSE NEIGHBOUR: 'it returns false'. Refute it at one input. -/
def judgeSwapsWrong : ChangeSpec := { name := "judgeSwaps", fn := fun _ => fun
  | [d1, d2, d3] => { results := [.lit (.bool false)], args := [d1, d2, d3] }
  | _ => none }
def JudgeSwapsWrongFalsely : Prop := judgeSwapsRow.holds Tryd.pinned (OpenSpec.ofChange judgeSwapsWrong)

/-- 'quadrillekeep.ParkOnce': WHATEVER THE INPUT: true; the input reads as it did. -/
def parkOnceSpec : ChangeSpec := { name := "parkOnce", fn := fun _ => fun
  | [d1, d2, d3] => { results := [.lit (.bool true)], args := [d1, d2, d3] }
  | _ => none }
def parkOnceRow : OpenClaim := { program := "ytljglfophhagjaadoor", sum := "9edb53056858efe1e270e17e6c5a842203a1147420cd3e5b9b13bec420de7968", func := "quadrille/quadrillekeep.ParkOnce", spec := "parkOnce", inPlace := ["internal/reflectlite.ValueOf", "(internal/reflectlite.Value).Type", "(internal/reflectlite.Value).IsNil", "internal/reflectlite.TypeOf", "(internal/reflectlite.Value).Elem", "(internal/reflectlite.Value).Set"], unfollowed := true, recurses := true, named := ["errors.errorType"], apart := false, laid := [("errors.errorType", laid_errors_errorType)] }
def ParkOnceSaid : Prop := parkOnceRow.holds Tryd.pinned (OpenSpec.ofChange parkOnceSpec)

/-- ITS FALSE NEIGHBOUR: 'it returns false'. Refute it at one input. -/
def parkOnceWrong : ChangeSpec := { name := "parkOnce", fn := fun _ => fun
  | [d1, d2, d3] => { results := [.lit (.bool false)], args := [d1, d2, d3] }
  | _ => none }
def ParkOnceWrongFalsely : Prop := parkOnceRow.holds Tryd.pinned (OpenSpec.ofChange parkOnceWrong)

/-- 'quadrillekeep.CoreSums': WHATEVER THE INPUT: true; the input reads as it did. -/
def coreSumsSpec : ChangeSpec := { name := "coreSums", fn := fun _ => fun
  | [d1, d2] => { results := [.lit (.bool true)], args := [d1, d2] }
  | _ => none }
def coreSumsRow : OpenClaim := { program := "ytljglfophhagjaadoor", sum := "9edb53056858efe1e270e17e6c5a842203a1147420cd3e5b9b13bec420de7968", func := "quadrille/quadrillekeep.CoreSums", spec := "coreSums", inPlace := ["internal/reflectlite.ValueOf", "(internal/reflectlite.Value).Type", "(internal/reflectlite.Value).IsNil", "internal/reflectlite.TypeOf", "(internal/reflectlite.Value).Elem", "(internal/reflectlite.Value).Set"], unfollowed := true, recurses := true, named := ["errors.errorType"], apart := false, laid := [("errors.errorType", laid_errors_errorType)] }
def CoreSumsSaid : Prop := coreSumsRow.holds Tryd.pinned (OpenSpec.ofChange coreSumsSpec)

/-- ITS FALSE NEIGHBOUR: 'it returns false'. Refute it at one input. -/
def coreSumsWrong : ChangeSpec := { name := "coreSums", fn := fun _ => fun
  | [d1, d2] => { results := [.lit (.bool false)], args := [d1, d2] }
  | _ => none }
def CoreSumsWrongFalsely : Prop := coreSumsRow.holds Tryd.pinned (OpenSpec.ofChange coreSumsWrong)

/-- 'quadrillekeep.CoreFields': WHATEVER THE INPUT: true; the input reads as it did. -/
def coreFieldsSpec : ChangeSpec := { name := "coreFields", fn := fun _ => fun
  | [d1, d2] => { results := [.lit (.bool true)], args := [d1, d2] }
  | _ => none }
def coreFieldsRow : OpenClaim := { program := "ytljglfophhagjaadoor", sum := "9edb53056858efe1e270e17e6c5a842203a1147420cd3e5b9b13bec420de7968", func := "quadrille/quadrillekeep.CoreFields", spec := "coreFields", inPlace := ["internal/reflectlite.ValueOf", "(internal/reflectlite.Value).Type", "(internal/reflectlite.Value).IsNil", "internal/reflectlite.TypeOf", "(internal/reflectlite.Value).Elem", "(internal/reflectlite.Value).Set"], unfollowed := true, recurses := true, named := ["errors.errorType"], apart := false, laid := [("errors.errorType", laid_errors_errorType)] }
def CoreFieldsSaid : Prop := coreFieldsRow.holds Tryd.pinned (OpenSpec.ofChange coreFieldsSpec)

/-- ITS FALSE NEIGHBOUR: 'it returns false'. Refute it at one input. -/
def coreFieldsWrong : ChangeSpec := { name := "coreFields", fn := fun _ => fun
  | [d1, d2] => { results := [.lit (.bool false)], args := [d1, d2] }
  | _ => none }
def CoreFieldsWrongFalsely : Prop := coreFieldsRow.holds Tryd.pinned (OpenSpec.ofChange coreFieldsWrong)

/-- 'quadrillekeep.CoreOrders': WHATEVER THE INPUT: true; the input reads as it did. -/
def coreOrdersSpec : ChangeSpec := { name := "coreOrders", fn := fun _ => fun
  | [d1, d2] => { results := [.lit (.bool true)], args := [d1, d2] }
  | _ => none }
def coreOrdersRow : OpenClaim := { program := "ytljglfophhagjaadoor", sum := "9edb53056858efe1e270e17e6c5a842203a1147420cd3e5b9b13bec420de7968", func := "quadrille/quadrillekeep.CoreOrders", spec := "coreOrders", inPlace := ["internal/reflectlite.ValueOf", "(internal/reflectlite.Value).Type", "(internal/reflectlite.Value).IsNil", "internal/reflectlite.TypeOf", "(internal/reflectlite.Value).Elem", "(internal/reflectlite.Value).Set"], unfollowed := true, recurses := true, named := ["errors.errorType"], apart := false, laid := [("errors.errorType", laid_errors_errorType)] }
def CoreOrdersSaid : Prop := coreOrdersRow.holds Tryd.pinned (OpenSpec.ofChange coreOrdersSpec)

/-- ITS FALSE NEIGHBOUR: 'it returns false'. Refute it at one input. -/
def coreOrdersWrong : ChangeSpec := { name := "coreOrders", fn := fun _ => fun
  | [d1, d2] => { results := [.lit (.bool false)], args := [d1, d2] }
  | _ => none }
def CoreOrdersWrongFalsely : Prop := coreOrdersRow.holds Tryd.pinned (OpenSpec.ofChange coreOrdersWrong)

/-- 'quadrillekeep.PartAwaits': WHATEVER THE INPUT: true; the input reads as it did. -/
def partAwaitsSpec : ChangeSpec := { name := "partAwaits", fn := fun _ => fun
  | [d] => { results := [.lit (.bool true)], args := [d] }
  | _ => none }
def partAwaitsRow : OpenClaim := { program := "ytljglfophhagjaadoor", sum := "9edb53056858efe1e270e17e6c5a842203a1147420cd3e5b9b13bec420de7968", func := "quadrille/quadrillekeep.PartAwaits", spec := "partAwaits", inPlace := ["internal/reflectlite.ValueOf", "(internal/reflectlite.Value).Type", "(internal/reflectlite.Value).IsNil", "internal/reflectlite.TypeOf", "(internal/reflectlite.Value).Elem", "(internal/reflectlite.Value).Set"], unfollowed := true, recurses := true, named := ["errors.errorType"], apart := false, laid := [("errors.errorType", laid_errors_errorType)] }
def PartAwaitsSaid : Prop := partAwaitsRow.holds Tryd.pinned (OpenSpec.ofChange partAwaitsSpec)

/-- ITS FALSE NEIGHBOUR: 'it returns false'. Refute it at one input. -/
def partAwaitsWrong : ChangeSpec := { name := "partAwaits", fn := fun _ => fun
  | [d] => { results := [.lit (.bool false)], args := [d] }
  | _ => none }
def PartAwaitsWrongFalsely : Prop := partAwaitsRow.holds Tryd.pinned (OpenSpec.ofChange partAwaitsWrong)

/-- 'quadrillekeep.CoreFetches': WHATEVER THE INPUT: true; the input reads as it did. -/
def coreFetchesSpec : ChangeSpec := { name := "coreFetches", fn := fun _ => fun
  | [d1, d2, d3] => { results := [.lit (.bool true)], args := [d1, d2, d3] }
  | _ => none }
def coreFetchesRow : OpenClaim := { program := "ytljglfophhagjaadoor", sum := "9edb53056858efe1e270e17e6c5a842203a1147420cd3e5b9b13bec420de7968", func := "quadrille/quadrillekeep.CoreFetches", spec := "coreFetches", inPlace := ["internal/reflectlite.ValueOf", "(internal/reflectlite.Value).Type", "(internal/reflectlite.Value).IsNil", "internal/reflectlite.TypeOf", "(internal/reflectlite.Value).Elem", "(internal/reflectlite.Value).Set"], unfollowed := true, recurses := true, named := ["errors.errorType"], apart := false, laid := [("errors.errorType", laid_errors_errorType)] }
def CoreFetchesSaid : Prop := coreFetchesRow.holds Tryd.pinned (OpenSpec.ofChange coreFetchesSpec)

/-- ITS FALSE NEIGHBOUR: 'it returns false'. Refute it at one input. -/
def coreFetchesWrong : ChangeSpec := { name := "coreFetches", fn := fun _ => fun
  | [d1, d2, d3] => { results := [.lit (.bool false)], args := [d1, d2, d3] }
  | _ => none }
def CoreFetchesWrongFalsely : Prop := coreFetchesRow.holds Tryd.pinned (OpenSpec.ofChange coreFetchesWrong)

/-- 'quadrillekeep.CoreLoses': WHATEVER THE INPUT: true; the input reads as it did. -/
def coreLosesSpec : ChangeSpec := { name := "coreLoses", fn := fun _ => fun
  | [d1, d2] => { results := [.lit (.bool true)], args := [d1, d2] }
  | _ => none }
def coreLosesRow : OpenClaim := { program := "ytljglfophhagjaadoor", sum := "9edb53056858efe1e270e17e6c5a842203a1147420cd3e5b9b13bec420de7968", func := "quadrille/quadrillekeep.CoreLoses", spec := "coreLoses", inPlace := ["internal/reflectlite.ValueOf", "(internal/reflectlite.Value).Type", "(internal/reflectlite.Value).IsNil", "internal/reflectlite.TypeOf", "(internal/reflectlite.Value).Elem", "(internal/reflectlite.Value).Set"], unfollowed := true, recurses := true, named := ["errors.errorType"], apart := false, laid := [("errors.errorType", laid_errors_errorType)] }
def CoreLosesSaid : Prop := coreLosesRow.holds Tryd.pinned (OpenSpec.ofChange coreLosesSpec)

/-- ITS FALSE NEIGHBOUR: 'it returns false'. Refute it at one input. -/
def coreLosesWrong : ChangeSpec := { name := "coreLoses", fn := fun _ => fun
  | [d1, d2] => { results := [.lit (.bool false)], args := [d1, d2] }
  | _ => none }
def CoreLosesWrongFalsely : Prop := coreLosesRow.holds Tryd.pinned (OpenSpec.ofChange coreLosesWrong)

/-- 'quadrillekeep.CoreSwaps': WHATEVER THE INPUT: true; the input reads as it did. -/
def coreSwapsSpec : ChangeSpec := { name := "coreSwaps", fn := fun _ => fun
  | [d1, d2] => { results := [.lit (.bool true)], args := [d1, d2] }
  | _ => none }
def coreSwapsRow : OpenClaim := { program := "ytljglfophhagjaadoor", sum := "9edb53056858efe1e270e17e6c5a842203a1147420cd3e5b9b13bec420de7968", func := "quadrille/quadrillekeep.CoreSwaps", spec := "coreSwaps", inPlace := ["internal/reflectlite.ValueOf", "(internal/reflectlite.Value).Type", "(internal/reflectlite.Value).IsNil", "internal/reflectlite.TypeOf", "(internal/reflectlite.Value).Elem", "(internal/reflectlite.Value).Set"], unfollowed := true, recurses := true, named := ["errors.errorType"], apart := false, laid := [("errors.errorType", laid_errors_errorType)] }
def CoreSwapsSaid : Prop := coreSwapsRow.holds Tryd.pinned (OpenSpec.ofChange coreSwapsSpec)

/-- ITS FALSE NEIGHBOUR: 'it returns false'. Refute it at one input. -/
def coreSwapsWrong : ChangeSpec := { name := "coreSwaps", fn := fun _ => fun
  | [d1, d2] => { results := [.lit (.bool false)], args := [d1, d2] }
  | _ => none }
def CoreSwapsWrongFalsely : Prop := coreSwapsRow.holds Tryd.pinned (OpenSpec.ofChange coreSwapsWrong)

/- THE SECOND FORM. 'bulk': how many values and letters a reading holds, each counted each time it is reached (what is shared counts as often as it is met; a slice's spare places count too). A statement '..UptoSaid' is the law's where the arguments, and the package variables that the reading takes, are together of bulk at most 1048576: NARROWER than '..Said'. Prove '..Said' where nothing that the law and all that it calls make is longer than what came in: it says more and counts as full. Else prove '..UptoSaid'. A law counts once. -/
mutual
def uptoBulk {H : Type} : DataW H → Nat
  | .lit (.string bytes) => bytes.length + 1
  | .lit _ => 1
  | .nil => 1
  | .ptr d => uptoBulk d + 1
  | .slice elems spare => uptoBulkAll elems + uptoBulkAll spare + 1
  | .agg parts => uptoBulkAll parts + 1
  | .iface _ d => uptoBulk d + 1
  | .map entries => uptoBulkEntries entries + 1
  | .held _ => 1
def uptoBulkAll {H : Type} : List (DataW H) → Nat
  | [] => 0
  | d :: r => uptoBulk d + uptoBulkAll r
def uptoBulkEntries {H : Type} : List (Lit × DataW H) → Nat
  | [] => 0
  | x :: r => uptoBulkEntry x + uptoBulkEntries r
def uptoBulkEntry {H : Type} : Lit × DataW H → Nat
  | (.string bytes, d) => bytes.length + uptoBulk d + 1
  | (_, d) => uptoBulk d + 1
 end
def uptoSmall : (H : Type) → List (DataW H) → Bool := fun _ ds => decide (uptoBulkAll ds ≤ 1048576)
def OpenSpec.upto (s : _root_.Go.ChangeSpec) : _root_.Go.OpenSpec := { _root_.Go.OpenSpec.ofChange s with cond := some uptoSmall }

/-- 'quadrillekeep.JudgeSwaps', WHERE WHAT IT READS IS OF BULK AT MOST 1048576: true; the input reads as it did. -/
def judgeSwapsUptoRow : OpenClaim := { program := "ytljglfophhagjaadoor", sum := "9edb53056858efe1e270e17e6c5a842203a1147420cd3e5b9b13bec420de7968", func := "quadrille/quadrillekeep.JudgeSwaps", spec := "judgeSwaps", inPlace := ["internal/reflectlite.ValueOf", "(internal/reflectlite.Value).Type", "(internal/reflectlite.Value).IsNil", "internal/reflectlite.TypeOf", "(internal/reflectlite.Value).Elem", "(internal/reflectlite.Value).Set"], unfollowed := true, recurses := true, named := ["errors.errorType"], apart := false, laid := [("errors.errorType", laid_errors_errorType)], narrowed := true }
def JudgeSwapsUptoSaid : Prop := judgeSwapsUptoRow.holds Tryd.pinned (OpenSpec.upto judgeSwapsSpec)

/-- 'quadrillekeep.ParkOnce', WHERE WHAT IT READS IS OF BULK AT MOST 1048576: true; the input reads as it did. -/
def parkOnceUptoRow : OpenClaim := { program := "ytljglfophhagjaadoor", sum := "9edb53056858efe1e270e17e6c5a842203a1147420cd3e5b9b13bec420de7968", func := "quadrille/quadrillekeep.ParkOnce", spec := "parkOnce", inPlace := ["internal/reflectlite.ValueOf", "(internal/reflectlite.Value).Type", "(internal/reflectlite.Value).IsNil", "internal/reflectlite.TypeOf", "(internal/reflectlite.Value).Elem", "(internal/reflectlite.Value).Set"], unfollowed := true, recurses := true, named := ["errors.errorType"], apart := false, laid := [("errors.errorType", laid_errors_errorType)], narrowed := true }
def ParkOnceUptoSaid : Prop := parkOnceUptoRow.holds Tryd.pinned (OpenSpec.upto parkOnceSpec)

/-- 'quadrillekeep.CoreSums', WHERE WHAT IT READS IS OF BULK AT MOST 1048576: true; the input reads as it did. -/
def coreSumsUptoRow : OpenClaim := { program := "ytljglfophhagjaadoor", sum := "9edb53056858efe1e270e17e6c5a842203a1147420cd3e5b9b13bec420de7968", func := "quadrille/quadrillekeep.CoreSums", spec := "coreSums", inPlace := ["internal/reflectlite.ValueOf", "(internal/reflectlite.Value).Type", "(internal/reflectlite.Value).IsNil", "internal/reflectlite.TypeOf", "(internal/reflectlite.Value).Elem", "(internal/reflectlite.Value).Set"], unfollowed := true, recurses := true, named := ["errors.errorType"], apart := false, laid := [("errors.errorType", laid_errors_errorType)], narrowed := true }
def CoreSumsUptoSaid : Prop := coreSumsUptoRow.holds Tryd.pinned (OpenSpec.upto coreSumsSpec)

/-- 'quadrillekeep.CoreFields', WHERE WHAT IT READS IS OF BULK AT MOST 1048576: true; the input reads as it did. -/
def coreFieldsUptoRow : OpenClaim := { program := "ytljglfophhagjaadoor", sum := "9edb53056858efe1e270e17e6c5a842203a1147420cd3e5b9b13bec420de7968", func := "quadrille/quadrillekeep.CoreFields", spec := "coreFields", inPlace := ["internal/reflectlite.ValueOf", "(internal/reflectlite.Value).Type", "(internal/reflectlite.Value).IsNil", "internal/reflectlite.TypeOf", "(internal/reflectlite.Value).Elem", "(internal/reflectlite.Value).Set"], unfollowed := true, recurses := true, named := ["errors.errorType"], apart := false, laid := [("errors.errorType", laid_errors_errorType)], narrowed := true }
def CoreFieldsUptoSaid : Prop := coreFieldsUptoRow.holds Tryd.pinned (OpenSpec.upto coreFieldsSpec)

/-- 'quadrillekeep.CoreOrders', WHERE WHAT IT READS IS OF BULK AT MOST 1048576: true; the input reads as it did. -/
def coreOrdersUptoRow : OpenClaim := { program := "ytljglfophhagjaadoor", sum := "9edb53056858efe1e270e17e6c5a842203a1147420cd3e5b9b13bec420de7968", func := "quadrille/quadrillekeep.CoreOrders", spec := "coreOrders", inPlace := ["internal/reflectlite.ValueOf", "(internal/reflectlite.Value).Type", "(internal/reflectlite.Value).IsNil", "internal/reflectlite.TypeOf", "(internal/reflectlite.Value).Elem", "(internal/reflectlite.Value).Set"], unfollowed := true, recurses := true, named := ["errors.errorType"], apart := false, laid := [("errors.errorType", laid_errors_errorType)], narrowed := true }
def CoreOrdersUptoSaid : Prop := coreOrdersUptoRow.holds Tryd.pinned (OpenSpec.upto coreOrdersSpec)

/-- 'quadrillekeep.PartAwaits', WHERE WHAT IT READS IS OF BULK AT MOST 1048576: true; the input reads as it did. -/
def partAwaitsUptoRow : OpenClaim := { program := "ytljglfophhagjaadoor", sum := "9edb53056858efe1e270e17e6c5a842203a1147420cd3e5b9b13bec420de7968", func := "quadrille/quadrillekeep.PartAwaits", spec := "partAwaits", inPlace := ["internal/reflectlite.ValueOf", "(internal/reflectlite.Value).Type", "(internal/reflectlite.Value).IsNil", "internal/reflectlite.TypeOf", "(internal/reflectlite.Value).Elem", "(internal/reflectlite.Value).Set"], unfollowed := true, recurses := true, named := ["errors.errorType"], apart := false, laid := [("errors.errorType", laid_errors_errorType)], narrowed := true }
def PartAwaitsUptoSaid : Prop := partAwaitsUptoRow.holds Tryd.pinned (OpenSpec.upto partAwaitsSpec)

/-- 'quadrillekeep.CoreFetches', WHERE WHAT IT READS IS OF BULK AT MOST 1048576: true; the input reads as it did. -/
def coreFetchesUptoRow : OpenClaim := { program := "ytljglfophhagjaadoor", sum := "9edb53056858efe1e270e17e6c5a842203a1147420cd3e5b9b13bec420de7968", func := "quadrille/quadrillekeep.CoreFetches", spec := "coreFetches", inPlace := ["internal/reflectlite.ValueOf", "(internal/reflectlite.Value).Type", "(internal/reflectlite.Value).IsNil", "internal/reflectlite.TypeOf", "(internal/reflectlite.Value).Elem", "(internal/reflectlite.Value).Set"], unfollowed := true, recurses := true, named := ["errors.errorType"], apart := false, laid := [("errors.errorType", laid_errors_errorType)], narrowed := true }
def CoreFetchesUptoSaid : Prop := coreFetchesUptoRow.holds Tryd.pinned (OpenSpec.upto coreFetchesSpec)

/-- 'quadrillekeep.CoreLoses', WHERE WHAT IT READS IS OF BULK AT MOST 1048576: true; the input reads as it did. -/
def coreLosesUptoRow : OpenClaim := { program := "ytljglfophhagjaadoor", sum := "9edb53056858efe1e270e17e6c5a842203a1147420cd3e5b9b13bec420de7968", func := "quadrille/quadrillekeep.CoreLoses", spec := "coreLoses", inPlace := ["internal/reflectlite.ValueOf", "(internal/reflectlite.Value).Type", "(internal/reflectlite.Value).IsNil", "internal/reflectlite.TypeOf", "(internal/reflectlite.Value).Elem", "(internal/reflectlite.Value).Set"], unfollowed := true, recurses := true, named := ["errors.errorType"], apart := false, laid := [("errors.errorType", laid_errors_errorType)], narrowed := true }
def CoreLosesUptoSaid : Prop := coreLosesUptoRow.holds Tryd.pinned (OpenSpec.upto coreLosesSpec)

/-- 'quadrillekeep.CoreSwaps', WHERE WHAT IT READS IS OF BULK AT MOST 1048576: true; the input reads as it did. -/
def coreSwapsUptoRow : OpenClaim := { program := "ytljglfophhagjaadoor", sum := "9edb53056858efe1e270e17e6c5a842203a1147420cd3e5b9b13bec420de7968", func := "quadrille/quadrillekeep.CoreSwaps", spec := "coreSwaps", inPlace := ["internal/reflectlite.ValueOf", "(internal/reflectlite.Value).Type", "(internal/reflectlite.Value).IsNil", "internal/reflectlite.TypeOf", "(internal/reflectlite.Value).Elem", "(internal/reflectlite.Value).Set"], unfollowed := true, recurses := true, named := ["errors.errorType"], apart := false, laid := [("errors.errorType", laid_errors_errorType)], narrowed := true }
def CoreSwapsUptoSaid : Prop := coreSwapsUptoRow.holds Tryd.pinned (OpenSpec.upto coreSwapsSpec)

end Rows
end Go.Proofs.YtljglfophhagjaaDoor
