/-
  NARROWER THAN 'FOR EVERY INPUT', by the rows' own cells (each row's printed sentence says how): JudgeFree: laid · JudgeCut: laid · JudgeNames: laid · JudgeRounds: laid.
  DERIVED. THE GIVEN ROWS OF THIS SEAT. 4 by the template 'for every input the law returns true; each argument reads behind the call as it read before'; 0 by the template 'total and deterministic' (their statements: YteblgbclhaajpaaDoorTotals.lean).
  GIVEN WITH THE SEED: the statements are not yours to turn. If you find one false, say at which input.
  Laid BY PROGRAM, IN A SANDBOX (cutbox-rows.mjs): the forced cells as the released guide's own fill.sh prints them over the translation ed6eff679455bd89… (all of the seat's roots in one cut). By AI agents, Wed Nov 11 2026. No macro, syntax, notation, axiom, sorry.
-/
import Derived.Test.YteblgbclhaajpaaDoorChecked
import GoSem.Claim
import GoSem.ClaimJoined
import GoSem.ClaimMapViews
import Derived.JoinedTies
import Derived.KernelRfl
namespace Go.Proofs.YteblgbclhaajpaaDoor
/- THE CELL 'sum', in the pinned program and in every row, IS THE sha256 OF THE DUMP (.gsa) THAT YteblgbclhaajpaaDoorProg.lean LOADS. Nothing in Lean hashes anything: it is a label: what it is worth is what the hold of that sum in a sandbox is worth. -/
noncomputable def Tryd.pinned : Pinned := { name := "yteblgbclhaajpaadoor", sum := "ed6eff679455bd89695cf1d2905e2ae3307bfe6848b6d3376eda71043c4ef37d", checked := Tryd.checked }
namespace Rows
def none {H : Type} : Left H := { results := [], args := [] }

/- WHAT THE LISTED PACKAGE-LEVEL VARIABLES READ AS WHEN THE CALL BEGINS. Each datum BY PROGRAM (the guide's laid-datum.mjs) off the statement by which the dump's own 'gosem.cut.vars' lays the variable. In a bare row this is a premise. The card (YteblgbclhaajpaaDoorCards.lean) ties it to the program's text. -/
def laid_errors_errorType {H : Type} : DataW H := .iface "internal/reflectlite.rtype" (.agg [.ptr (.lit (.string [101, 114, 114, 111, 114]))])

/-- 'quadrillekeep.JudgeFree': WHATEVER THE INPUT: true; the input reads as it did. -/
def judgeFreeSpec : ChangeSpec := { name := "judgeFree", fn := fun _ => fun
  | [d1, d2, d3] => { results := [.lit (.bool true)], args := [d1, d2, d3] }
  | _ => none }
def judgeFreeRow : OpenClaim := { program := "yteblgbclhaajpaadoor", sum := "ed6eff679455bd89695cf1d2905e2ae3307bfe6848b6d3376eda71043c4ef37d", func := "quadrille/quadrillekeep.JudgeFree", spec := "judgeFree", inPlace := ["internal/reflectlite.ValueOf", "(internal/reflectlite.Value).Type", "(internal/reflectlite.Value).IsNil", "internal/reflectlite.TypeOf", "(internal/reflectlite.Value).Elem", "(internal/reflectlite.Value).Set"], unfollowed := true, recurses := true, named := ["errors.errorType"], apart := false, laid := [("errors.errorType", laid_errors_errorType)] }
def JudgeFreeSaid : Prop := judgeFreeRow.holds Tryd.pinned (OpenSpec.ofChange judgeFreeSpec)

/-- ITS FALSE NEIGHBOUR: 'it returns false'. Refute it at one input. -/
def judgeFreeWrong : ChangeSpec := { name := "judgeFree", fn := fun _ => fun
  | [d1, d2, d3] => { results := [.lit (.bool false)], args := [d1, d2, d3] }
  | _ => none }
def JudgeFreeWrongFalsely : Prop := judgeFreeRow.holds Tryd.pinned (OpenSpec.ofChange judgeFreeWrong)

/-- 'quadrillekeep.JudgeCut': WHATEVER THE INPUT: true; the input reads as it did. -/
def judgeCutSpec : ChangeSpec := { name := "judgeCut", fn := fun _ => fun
  | [d1, d2, d3] => { results := [.lit (.bool true)], args := [d1, d2, d3] }
  | _ => none }
def judgeCutRow : OpenClaim := { program := "yteblgbclhaajpaadoor", sum := "ed6eff679455bd89695cf1d2905e2ae3307bfe6848b6d3376eda71043c4ef37d", func := "quadrille/quadrillekeep.JudgeCut", spec := "judgeCut", inPlace := ["internal/reflectlite.ValueOf", "(internal/reflectlite.Value).Type", "(internal/reflectlite.Value).IsNil", "internal/reflectlite.TypeOf", "(internal/reflectlite.Value).Elem", "(internal/reflectlite.Value).Set"], unfollowed := true, recurses := true, named := ["errors.errorType"], apart := false, laid := [("errors.errorType", laid_errors_errorType)] }
def JudgeCutSaid : Prop := judgeCutRow.holds Tryd.pinned (OpenSpec.ofChange judgeCutSpec)

/-- ITS FALSE NEIGHBOUR: 'it returns false'. Refute it at one input. -/
def judgeCutWrong : ChangeSpec := { name := "judgeCut", fn := fun _ => fun
  | [d1, d2, d3] => { results := [.lit (.bool false)], args := [d1, d2, d3] }
  | _ => none }
def JudgeCutWrongFalsely : Prop := judgeCutRow.holds Tryd.pinned (OpenSpec.ofChange judgeCutWrong)

/-- 'quadrillekeep.JudgeNames': WHATEVER THE INPUT: true; the input reads as it did. -/
def judgeNamesSpec : ChangeSpec := { name := "judgeNames", fn := fun _ => fun
  | [d1, d2, d3] => { results := [.lit (.bool true)], args := [d1, d2, d3] }
  | _ => none }
def judgeNamesRow : OpenClaim := { program := "yteblgbclhaajpaadoor", sum := "ed6eff679455bd89695cf1d2905e2ae3307bfe6848b6d3376eda71043c4ef37d", func := "quadrille/quadrillekeep.JudgeNames", spec := "judgeNames", inPlace := ["internal/reflectlite.ValueOf", "(internal/reflectlite.Value).Type", "(internal/reflectlite.Value).IsNil", "internal/reflectlite.TypeOf", "(internal/reflectlite.Value).Elem", "(internal/reflectlite.Value).Set"], unfollowed := true, recurses := true, named := ["errors.errorType"], apart := false, laid := [("errors.errorType", laid_errors_errorType)] }
def JudgeNamesSaid : Prop := judgeNamesRow.holds Tryd.pinned (OpenSpec.ofChange judgeNamesSpec)

/-- ITS FALSE NEIGHBOUR: 'it returns false'. Refute it at one input. -/
def judgeNamesWrong : ChangeSpec := { name := "judgeNames", fn := fun _ => fun
  | [d1, d2, d3] => { results := [.lit (.bool false)], args := [d1, d2, d3] }
  | _ => none }
def JudgeNamesWrongFalsely : Prop := judgeNamesRow.holds Tryd.pinned (OpenSpec.ofChange judgeNamesWrong)

/-- 'quadrillekeep.JudgeRounds': WHATEVER THE INPUT: true; the input reads as it did. -/
def judgeRoundsSpec : ChangeSpec := { name := "judgeRounds", fn := fun _ => fun
  | [d1, d2] => { results := [.lit (.bool true)], args := [d1, d2] }
  | _ => none }
def judgeRoundsRow : OpenClaim := { program := "yteblgbclhaajpaadoor", sum := "ed6eff679455bd89695cf1d2905e2ae3307bfe6848b6d3376eda71043c4ef37d", func := "quadrille/quadrillekeep.JudgeRounds", spec := "judgeRounds", inPlace := ["internal/reflectlite.ValueOf", "(internal/reflectlite.Value).Type", "(internal/reflectlite.Value).IsNil", "internal/reflectlite.TypeOf", "(internal/reflectlite.Value).Elem", "(internal/reflectlite.Value).Set"], unfollowed := true, recurses := true, named := ["errors.errorType"], apart := false, laid := [("errors.errorType", laid_errors_errorType)] }
def JudgeRoundsSaid : Prop := judgeRoundsRow.holds Tryd.pinned (OpenSpec.ofChange judgeRoundsSpec)

/-- ITS FALSE NEIGHBOUR: 'it returns false'. Refute it at one input. -/
def judgeRoundsWrong : ChangeSpec := { name := "judgeRounds", fn := fun _ => fun
  | [d1, d2] => { results := [.lit (.bool false)], args := [d1, d2] }
  | _ => none }
def JudgeRoundsWrongFalsely : Prop := judgeRoundsRow.holds Tryd.pinned (OpenSpec.ofChange judgeRoundsWrong)

/- THE SECOND FORM. 'bulk': how many values and letters a reading holds, each counted each time it is reached (what is shared counts as often as it is met; a slice's spare places count too). A statement '..UptoSaid' is the law's where the arguments, and the package variables that the reading takes, are together of bulk at most 1048576: NARROWER than '..Said'. Prove '..Said' where nothing that the law and all that it calls make is longer than what came in: it says more and counts as full. Else prove '..UptoSaid'. A law counts once. -/
mutual
def uptoBulk {H : Type} : DataW H → Nat
  | .lit (.string bytes) => bytes.length + 1
  | .lit _ => 1
  | .nil => 1
  | .ptr d => uptoBulk d + 1
  | .slice elems spare => uptoBulkAll elems + uptoBulkAll spare + 1
  | .agg parts => uptoBulkAll parts + 1
  | .iface _ d => uptoBulk d + 1
  | .map entries => uptoBulkEntries entries + 1
  | .held _ => 1
def uptoBulkAll {H : Type} : List (DataW H) → Nat
  | [] => 0
  | d :: r => uptoBulk d + uptoBulkAll r
def uptoBulkEntries {H : Type} : List (Lit × DataW H) → Nat
  | [] => 0
  | x :: r => uptoBulkEntry x + uptoBulkEntries r
def uptoBulkEntry {H : Type} : Lit × DataW H → Nat
  | (.string bytes, d) => bytes.length + uptoBulk d + 1
  | (_, d) => uptoBulk d + 1
 end
def uptoSmall : (H : Type) → List (DataW H) → Bool := fun _ ds => decide (uptoBulkAll ds ≤ 1048576)
def OpenSpec.upto (s : _root_.Go.ChangeSpec) : _root_.Go.OpenSpec := { _root_.Go.OpenSpec.ofChange s with cond := some uptoSmall }

/-- 'quadrillekeep.JudgeFree', WHERE WHAT IT READS IS OF BULK AT MOST 1048576: true; the input reads as it did. -/
def judgeFreeUptoRow : OpenClaim := { program := "yteblgbclhaajpaadoor", sum := "ed6eff679455bd89695cf1d2905e2ae3307bfe6848b6d3376eda71043c4ef37d", func := "quadrille/quadrillekeep.JudgeFree", spec := "judgeFree", inPlace := ["internal/reflectlite.ValueOf", "(internal/reflectlite.Value).Type", "(internal/reflectlite.Value).IsNil", "internal/reflectlite.TypeOf", "(internal/reflectlite.Value).Elem", "(internal/reflectlite.Value).Set"], unfollowed := true, recurses := true, named := ["errors.errorType"], apart := false, laid := [("errors.errorType", laid_errors_errorType)], narrowed := true }
def JudgeFreeUptoSaid : Prop := judgeFreeUptoRow.holds Tryd.pinned (OpenSpec.upto judgeFreeSpec)

/-- 'quadrillekeep.JudgeCut', WHERE WHAT IT READS IS OF BULK AT MOST 1048576: true; the input reads as it did. -/
def judgeCutUptoRow : OpenClaim := { program := "yteblgbclhaajpaadoor", sum := "ed6eff679455bd89695cf1d2905e2ae3307bfe6848b6d3376eda71043c4ef37d", func := "quadrille/quadrillekeep.JudgeCut", spec := "judgeCut", inPlace := ["internal/reflectlite.ValueOf", "(internal/reflectlite.Value).Type", "(internal/reflectlite.Value).IsNil", "internal/reflectlite.TypeOf", "(internal/reflectlite.Value).Elem", "(internal/reflectlite.Value).Set"], unfollowed := true, recurses := true, named := ["errors.errorType"], apart := false, laid := [("errors.errorType", laid_errors_errorType)], narrowed := true }
def JudgeCutUptoSaid : Prop := judgeCutUptoRow.holds Tryd.pinned (OpenSpec.upto judgeCutSpec)

/-- 'quadrillekeep.JudgeNames', WHERE WHAT IT READS IS OF BULK AT MOST 1048576: true; the input reads as it did. -/
def judgeNamesUptoRow : OpenClaim := { program := "yteblgbclhaajpaadoor", sum := "ed6eff679455bd89695cf1d2905e2ae3307bfe6848b6d3376eda71043c4ef37d", func := "quadrille/quadrillekeep.JudgeNames", spec := "judgeNames", inPlace := ["internal/reflectlite.ValueOf", "(internal/reflectlite.Value).Type", "(internal/reflectlite.Value).IsNil", "internal/reflectlite.TypeOf", "(internal/reflectlite.Value).Elem", "(internal/reflectlite.Value).Set"], unfollowed := true, recurses := true, named := ["errors.errorType"], apart := false, laid := [("errors.errorType", laid_errors_errorType)], narrowed := true }
def JudgeNamesUptoSaid : Prop := judgeNamesUptoRow.holds Tryd.pinned (OpenSpec.upto judgeNamesSpec)

/-- 'quadrillekeep.JudgeRounds', WHERE WHAT IT READS IS OF BULK AT MOST 1048576: true; the input reads as it did. -/
def judgeRoundsUptoRow : OpenClaim := { program := "yteblgbclhaajpaadoor", sum := "ed6eff679455bd89695cf1d2905e2ae3307bfe6848b6d3376eda71043c4ef37d", func := "quadrille/quadrillekeep.JudgeRounds", spec := "judgeRounds", inPlace := ["internal/reflectlite.ValueOf", "(internal/reflectlite.Value).Type", "(internal/reflectlite.Value).IsNil", "internal/reflectlite.TypeOf", "(internal/reflectlite.Value).Elem", "(internal/reflectlite.Value).Set"], unfollowed := true, recurses := true, named := ["errors.errorType"], apart := false, laid := [("errors.errorType", laid_errors_errorType)], narrowed := true }
def JudgeRoundsUptoSaid : Prop := judgeRoundsUptoRow.holds Tryd.pinned (OpenSpec.upto judgeRoundsSpec)

end Rows
end Go.Proofs.YteblgbclhaajpaaDoor
