/-
  NARROWER THAN 'FOR EVERY INPUT', by the rows' own cells (each row's printed sentence says how): DanceUp: laid · DanceDown: laid · DanceThin: laid · CentralLeaves: laid · CombineLeaves: laid · DanceGates: laid · DanceWaits: laid · StaticLeaves: laid · SpreadLeaves: laid · TourneyLeaves: laid · McsLeaves: laid · DanceWords: laid · JudgeMissing: laid · DancePokes: laid · DanceFair: laid · FairAgain: laid · ScriptJudged: laid.
  DERIVED. THE GIVEN ROWS OF THIS SEAT. 17 by the template 'for every input the law returns true; each argument reads behind the call as it read before'; 0 by the template 'total and deterministic' (their statements: YtnhldphlkklfiaaGreatDoorTotals.lean).
  GIVEN WITH THE SEED: the statements are not yours to turn. If you find one false, say at which input.
  Laid BY PROGRAM, IN A SANDBOX (cutbox-rows.mjs): the forced cells as the released guide's own fill.sh prints them over the translation f5d1bd24a76cd437… (all of the seat's roots in one cut). By AI agents, Wed Nov 11 2026. No macro, syntax, notation, axiom, sorry.
-/
import Derived.Test.YtnhldphlkklfiaaGreatDoorChecked
import GoSem.Claim
import GoSem.ClaimJoined
import GoSem.ClaimMapViews
import Derived.JoinedTies
import Derived.KernelRfl
namespace Go.Proofs.YtnhldphlkklfiaaGreatDoor
/- THE CELL 'sum', in the pinned program and in every row, IS THE sha256 OF THE DUMP (.gsa) THAT YtnhldphlkklfiaaGreatDoorProg.lean LOADS. Nothing in Lean hashes anything: it is a label: what it is worth is what the hold of that sum in a sandbox is worth. -/
noncomputable def Tryz.pinned : Pinned := { name := "ytnhldphlkklfiaagreatdoor", sum := "f5d1bd24a76cd437f4f2946f065f5135e840c044ed77d5661b35d30c6217631c", checked := Tryz.checked }
namespace Rows
def none {H : Type} : Left H := { results := [], args := [] }

/- WHAT THE LISTED PACKAGE-LEVEL VARIABLES READ AS WHEN THE CALL BEGINS. Each datum BY PROGRAM (the guide's laid-datum.mjs) off the statement by which the dump's own 'gosem.cut.vars' lays the variable. In a bare row this is a premise. The card (YtnhldphlkklfiaaGreatDoorCards.lean) ties it to the program's text. -/
def laid_errors_errorType {H : Type} : DataW H := .iface "internal/reflectlite.rtype" (.agg [.ptr (.lit (.string [101, 114, 114, 111, 114]))])

/-- 'quadrillekeep.DanceUp': WHATEVER THE INPUT: true; the input reads as it did. -/
def danceUpSpec : ChangeSpec := { name := "danceUp", fn := fun _ => fun
  | [d1, d2, d3, d4] => { results := [.lit (.bool true)], args := [d1, d2, d3, d4] }
  | _ => none }
def danceUpRow : OpenClaim := { program := "ytnhldphlkklfiaagreatdoor", sum := "f5d1bd24a76cd437f4f2946f065f5135e840c044ed77d5661b35d30c6217631c", func := "quadrille/quadrillekeep.DanceUp", spec := "danceUp", inPlace := ["internal/reflectlite.ValueOf", "(internal/reflectlite.Value).Type", "(internal/reflectlite.Value).IsNil", "internal/reflectlite.TypeOf", "(internal/reflectlite.Value).Elem", "(internal/reflectlite.Value).Set"], unfollowed := true, recurses := true, named := ["errors.errorType"], apart := false, laid := [("errors.errorType", laid_errors_errorType)] }
def DanceUpSaid : Prop := danceUpRow.holds Tryz.pinned (OpenSpec.ofChange danceUpSpec)

/-- ITS FALSE NEIGHBOUR: 'it returns false'. Refute it at one input. -/
def danceUpWrong : ChangeSpec := { name := "danceUp", fn := fun _ => fun
  | [d1, d2, d3, d4] => { results := [.lit (.bool false)], args := [d1, d2, d3, d4] }
  | _ => none }
def DanceUpWrongFalsely : Prop := danceUpRow.holds Tryz.pinned (OpenSpec.ofChange danceUpWrong)

/-- 'quadrillekeep.DanceDown': WHATEVER THE INPUT: true; the input reads as it did. -/
def danceDownSpec : ChangeSpec := { name := "danceDown", fn := fun _ => fun
  | [d1, d2, d3] => { results := [.lit (.bool true)], args := [d1, d2, d3] }
  | _ => none }
def danceDownRow : OpenClaim := { program := "ytnhldphlkklfiaagreatdoor", sum := "f5d1bd24a76cd437f4f2946f065f5135e840c044ed77d5661b35d30c6217631c", func := "quadrille/quadrillekeep.DanceDown", spec := "danceDown", inPlace := ["internal/reflectlite.ValueOf", "(internal/reflectlite.Value).Type", "(internal/reflectlite.Value).IsNil", "internal/reflectlite.TypeOf", "(internal/reflectlite.Value).Elem", "(internal/reflectlite.Value).Set"], unfollowed := true, recurses := true, named := ["errors.errorType"], apart := false, laid := [("errors.errorType", laid_errors_errorType)] }
def DanceDownSaid : Prop := danceDownRow.holds Tryz.pinned (OpenSpec.ofChange danceDownSpec)

/-- ITS FALSE NEIGHBOUR: 'it returns false'. Refute it at one input. -/
def danceDownWrong : ChangeSpec := { name := "danceDown", fn := fun _ => fun
  | [d1, d2, d3] => { results := [.lit (.bool false)], args := [d1, d2, d3] }
  | _ => none }
def DanceDownWrongFalsely : Prop := danceDownRow.holds Tryz.pinned (OpenSpec.ofChange danceDownWrong)

/-- 'quadrillekeep.DanceThin': WHATEVER THE INPUT: true; the input reads as it did. -/
def danceThinSpec : ChangeSpec := { name := "danceThin", fn := fun _ => fun
  | [d1, d2, d3, d4] => { results := [.lit (.bool true)], args := [d1, d2, d3, d4] }
  | _ => none }
def danceThinRow : OpenClaim := { program := "ytnhldphlkklfiaagreatdoor", sum := "f5d1bd24a76cd437f4f2946f065f5135e840c044ed77d5661b35d30c6217631c", func := "quadrille/quadrillekeep.DanceThin", spec := "danceThin", inPlace := ["internal/reflectlite.ValueOf", "(internal/reflectlite.Value).Type", "(internal/reflectlite.Value).IsNil", "internal/reflectlite.TypeOf", "(internal/reflectlite.Value).Elem", "(internal/reflectlite.Value).Set"], unfollowed := true, recurses := true, named := ["errors.errorType"], apart := false, laid := [("errors.errorType", laid_errors_errorType)] }
def DanceThinSaid : Prop := danceThinRow.holds Tryz.pinned (OpenSpec.ofChange danceThinSpec)

/-- ITS FALSE NEIGHBOUR: 'it returns false'. Refute it at one input. -/
def danceThinWrong : ChangeSpec := { name := "danceThin", fn := fun _ => fun
  | [d1, d2, d3, d4] => { results := [.lit (.bool false)], args := [d1, d2, d3, d4] }
  | _ => none }
def DanceThinWrongFalsely : Prop := danceThinRow.holds Tryz.pinned (OpenSpec.ofChange danceThinWrong)

/-- 'quadrillekeep.CentralLeaves': WHATEVER THE INPUT: true; the input reads as it did. -/
def centralLeavesSpec : ChangeSpec := { name := "centralLeaves", fn := fun _ => fun
  | [d1, d2, d3] => { results := [.lit (.bool true)], args := [d1, d2, d3] }
  | _ => none }
def centralLeavesRow : OpenClaim := { program := "ytnhldphlkklfiaagreatdoor", sum := "f5d1bd24a76cd437f4f2946f065f5135e840c044ed77d5661b35d30c6217631c", func := "quadrille/quadrillekeep.CentralLeaves", spec := "centralLeaves", inPlace := ["internal/reflectlite.ValueOf", "(internal/reflectlite.Value).Type", "(internal/reflectlite.Value).IsNil", "internal/reflectlite.TypeOf", "(internal/reflectlite.Value).Elem", "(internal/reflectlite.Value).Set"], unfollowed := true, recurses := true, named := ["errors.errorType"], apart := false, laid := [("errors.errorType", laid_errors_errorType)] }
def CentralLeavesSaid : Prop := centralLeavesRow.holds Tryz.pinned (OpenSpec.ofChange centralLeavesSpec)

/-- ITS FALSE NEIGHBOUR: 'it returns false'. Refute it at one input. -/
def centralLeavesWrong : ChangeSpec := { name := "centralLeaves", fn := fun _ => fun
  | [d1, d2, d3] => { results := [.lit (.bool false)], args := [d1, d2, d3] }
  | _ => none }
def CentralLeavesWrongFalsely : Prop := centralLeavesRow.holds Tryz.pinned (OpenSpec.ofChange centralLeavesWrong)

/-- 'quadrillekeep.CombineLeaves': WHATEVER THE INPUT: true; the input reads as it did. -/
def combineLeavesSpec : ChangeSpec := { name := "combineLeaves", fn := fun _ => fun
  | [d1, d2, d3] => { results := [.lit (.bool true)], args := [d1, d2, d3] }
  | _ => none }
def combineLeavesRow : OpenClaim := { program := "ytnhldphlkklfiaagreatdoor", sum := "f5d1bd24a76cd437f4f2946f065f5135e840c044ed77d5661b35d30c6217631c", func := "quadrille/quadrillekeep.CombineLeaves", spec := "combineLeaves", inPlace := ["internal/reflectlite.ValueOf", "(internal/reflectlite.Value).Type", "(internal/reflectlite.Value).IsNil", "internal/reflectlite.TypeOf", "(internal/reflectlite.Value).Elem", "(internal/reflectlite.Value).Set"], unfollowed := true, recurses := true, named := ["errors.errorType"], apart := false, laid := [("errors.errorType", laid_errors_errorType)] }
def CombineLeavesSaid : Prop := combineLeavesRow.holds Tryz.pinned (OpenSpec.ofChange combineLeavesSpec)

/-- ITS FALSE NEIGHBOUR: 'it returns false'. Refute it at one input. -/
def combineLeavesWrong : ChangeSpec := { name := "combineLeaves", fn := fun _ => fun
  | [d1, d2, d3] => { results := [.lit (.bool false)], args := [d1, d2, d3] }
  | _ => none }
def CombineLeavesWrongFalsely : Prop := combineLeavesRow.holds Tryz.pinned (OpenSpec.ofChange combineLeavesWrong)

/-- 'quadrillekeep.DanceGates': WHATEVER THE INPUT: true; the input reads as it did. -/
def danceGatesSpec : ChangeSpec := { name := "danceGates", fn := fun _ => fun
  | [d1, d2, d3, d4] => { results := [.lit (.bool true)], args := [d1, d2, d3, d4] }
  | _ => none }
def danceGatesRow : OpenClaim := { program := "ytnhldphlkklfiaagreatdoor", sum := "f5d1bd24a76cd437f4f2946f065f5135e840c044ed77d5661b35d30c6217631c", func := "quadrille/quadrillekeep.DanceGates", spec := "danceGates", inPlace := ["internal/reflectlite.ValueOf", "(internal/reflectlite.Value).Type", "(internal/reflectlite.Value).IsNil", "internal/reflectlite.TypeOf", "(internal/reflectlite.Value).Elem", "(internal/reflectlite.Value).Set"], unfollowed := true, recurses := true, named := ["errors.errorType"], apart := false, laid := [("errors.errorType", laid_errors_errorType)] }
def DanceGatesSaid : Prop := danceGatesRow.holds Tryz.pinned (OpenSpec.ofChange danceGatesSpec)

/-- ITS FALSE NEIGHBOUR: 'it returns false'. Refute it at one input. -/
def danceGatesWrong : ChangeSpec := { name := "danceGates", fn := fun _ => fun
  | [d1, d2, d3, d4] => { results := [.lit (.bool false)], args := [d1, d2, d3, d4] }
  | _ => none }
def DanceGatesWrongFalsely : Prop := danceGatesRow.holds Tryz.pinned (OpenSpec.ofChange danceGatesWrong)

/-- 'quadrillekeep.DanceWaits': WHATEVER THE INPUT: true; the input reads as it did. -/
def danceWaitsSpec : ChangeSpec := { name := "danceWaits", fn := fun _ => fun
  | [d1, d2, d3, d4, d5] => { results := [.lit (.bool true)], args := [d1, d2, d3, d4, d5] }
  | _ => none }
def danceWaitsRow : OpenClaim := { program := "ytnhldphlkklfiaagreatdoor", sum := "f5d1bd24a76cd437f4f2946f065f5135e840c044ed77d5661b35d30c6217631c", func := "quadrille/quadrillekeep.DanceWaits", spec := "danceWaits", inPlace := ["internal/reflectlite.ValueOf", "(internal/reflectlite.Value).Type", "(internal/reflectlite.Value).IsNil", "internal/reflectlite.TypeOf", "(internal/reflectlite.Value).Elem", "(internal/reflectlite.Value).Set"], unfollowed := true, recurses := true, named := ["errors.errorType"], apart := false, laid := [("errors.errorType", laid_errors_errorType)] }
def DanceWaitsSaid : Prop := danceWaitsRow.holds Tryz.pinned (OpenSpec.ofChange danceWaitsSpec)

/-- ITS FALSE NEIGHBOUR: 'it returns false'. Refute it at one input. -/
def danceWaitsWrong : ChangeSpec := { name := "danceWaits", fn := fun _ => fun
  | [d1, d2, d3, d4, d5] => { results := [.lit (.bool false)], args := [d1, d2, d3, d4, d5] }
  | _ => none }
def DanceWaitsWrongFalsely : Prop := danceWaitsRow.holds Tryz.pinned (OpenSpec.ofChange danceWaitsWrong)

/-- 'quadrillekeep.StaticLeaves': WHATEVER THE INPUT: true; the input reads as it did. -/
def staticLeavesSpec : ChangeSpec := { name := "staticLeaves", fn := fun _ => fun
  | [d1, d2, d3] => { results := [.lit (.bool true)], args := [d1, d2, d3] }
  | _ => none }
def staticLeavesRow : OpenClaim := { program := "ytnhldphlkklfiaagreatdoor", sum := "f5d1bd24a76cd437f4f2946f065f5135e840c044ed77d5661b35d30c6217631c", func := "quadrille/quadrillekeep.StaticLeaves", spec := "staticLeaves", inPlace := ["internal/reflectlite.ValueOf", "(internal/reflectlite.Value).Type", "(internal/reflectlite.Value).IsNil", "internal/reflectlite.TypeOf", "(internal/reflectlite.Value).Elem", "(internal/reflectlite.Value).Set"], unfollowed := true, recurses := true, named := ["errors.errorType"], apart := false, laid := [("errors.errorType", laid_errors_errorType)] }
def StaticLeavesSaid : Prop := staticLeavesRow.holds Tryz.pinned (OpenSpec.ofChange staticLeavesSpec)

/-- ITS FALSE NEIGHBOUR: 'it returns false'. Refute it at one input. -/
def staticLeavesWrong : ChangeSpec := { name := "staticLeaves", fn := fun _ => fun
  | [d1, d2, d3] => { results := [.lit (.bool false)], args := [d1, d2, d3] }
  | _ => none }
def StaticLeavesWrongFalsely : Prop := staticLeavesRow.holds Tryz.pinned (OpenSpec.ofChange staticLeavesWrong)

/-- 'quadrillekeep.SpreadLeaves': WHATEVER THE INPUT: true; the input reads as it did. -/
def spreadLeavesSpec : ChangeSpec := { name := "spreadLeaves", fn := fun _ => fun
  | [d1, d2, d3] => { results := [.lit (.bool true)], args := [d1, d2, d3] }
  | _ => none }
def spreadLeavesRow : OpenClaim := { program := "ytnhldphlkklfiaagreatdoor", sum := "f5d1bd24a76cd437f4f2946f065f5135e840c044ed77d5661b35d30c6217631c", func := "quadrille/quadrillekeep.SpreadLeaves", spec := "spreadLeaves", inPlace := ["internal/reflectlite.ValueOf", "(internal/reflectlite.Value).Type", "(internal/reflectlite.Value).IsNil", "internal/reflectlite.TypeOf", "(internal/reflectlite.Value).Elem", "(internal/reflectlite.Value).Set"], unfollowed := true, recurses := true, named := ["errors.errorType"], apart := false, laid := [("errors.errorType", laid_errors_errorType)] }
def SpreadLeavesSaid : Prop := spreadLeavesRow.holds Tryz.pinned (OpenSpec.ofChange spreadLeavesSpec)

/-- ITS FALSE NEIGHBOUR: 'it returns false'. Refute it at one input. -/
def spreadLeavesWrong : ChangeSpec := { name := "spreadLeaves", fn := fun _ => fun
  | [d1, d2, d3] => { results := [.lit (.bool false)], args := [d1, d2, d3] }
  | _ => none }
def SpreadLeavesWrongFalsely : Prop := spreadLeavesRow.holds Tryz.pinned (OpenSpec.ofChange spreadLeavesWrong)

/-- 'quadrillekeep.TourneyLeaves': WHATEVER THE INPUT: true; the input reads as it did. -/
def tourneyLeavesSpec : ChangeSpec := { name := "tourneyLeaves", fn := fun _ => fun
  | [d1, d2, d3] => { results := [.lit (.bool true)], args := [d1, d2, d3] }
  | _ => none }
def tourneyLeavesRow : OpenClaim := { program := "ytnhldphlkklfiaagreatdoor", sum := "f5d1bd24a76cd437f4f2946f065f5135e840c044ed77d5661b35d30c6217631c", func := "quadrille/quadrillekeep.TourneyLeaves", spec := "tourneyLeaves", inPlace := ["internal/reflectlite.ValueOf", "(internal/reflectlite.Value).Type", "(internal/reflectlite.Value).IsNil", "internal/reflectlite.TypeOf", "(internal/reflectlite.Value).Elem", "(internal/reflectlite.Value).Set"], unfollowed := true, recurses := true, named := ["errors.errorType"], apart := false, laid := [("errors.errorType", laid_errors_errorType)] }
def TourneyLeavesSaid : Prop := tourneyLeavesRow.holds Tryz.pinned (OpenSpec.ofChange tourneyLeavesSpec)

/-- ITS FALSE NEIGHBOUR: 'it returns false'. Refute it at one input. -/
def tourneyLeavesWrong : ChangeSpec := { name := "tourneyLeaves", fn := fun _ => fun
  | [d1, d2, d3] => { results := [.lit (.bool false)], args := [d1, d2, d3] }
  | _ => none }
def TourneyLeavesWrongFalsely : Prop := tourneyLeavesRow.holds Tryz.pinned (OpenSpec.ofChange tourneyLeavesWrong)

/-- 'quadrillekeep.McsLeaves': WHATEVER THE INPUT: true; the input reads as it did. -/
def mcsLeavesSpec : ChangeSpec := { name := "mcsLeaves", fn := fun _ => fun
  | [d1, d2, d3] => { results := [.lit (.bool true)], args := [d1, d2, d3] }
  | _ => none }
def mcsLeavesRow : OpenClaim := { program := "ytnhldphlkklfiaagreatdoor", sum := "f5d1bd24a76cd437f4f2946f065f5135e840c044ed77d5661b35d30c6217631c", func := "quadrille/quadrillekeep.McsLeaves", spec := "mcsLeaves", inPlace := ["internal/reflectlite.ValueOf", "(internal/reflectlite.Value).Type", "(internal/reflectlite.Value).IsNil", "internal/reflectlite.TypeOf", "(internal/reflectlite.Value).Elem", "(internal/reflectlite.Value).Set"], unfollowed := true, recurses := true, named := ["errors.errorType"], apart := false, laid := [("errors.errorType", laid_errors_errorType)] }
def McsLeavesSaid : Prop := mcsLeavesRow.holds Tryz.pinned (OpenSpec.ofChange mcsLeavesSpec)

/-- ITS FALSE NEIGHBOUR: 'it returns false'. Refute it at one input. -/
def mcsLeavesWrong : ChangeSpec := { name := "mcsLeaves", fn := fun _ => fun
  | [d1, d2, d3] => { results := [.lit (.bool false)], args := [d1, d2, d3] }
  | _ => none }
def McsLeavesWrongFalsely : Prop := mcsLeavesRow.holds Tryz.pinned (OpenSpec.ofChange mcsLeavesWrong)

/-- 'quadrillekeep.DanceWords': WHATEVER THE INPUT: true; the input reads as it did. -/
def danceWordsSpec : ChangeSpec := { name := "danceWords", fn := fun _ => fun
  | [d1, d2, d3, d4] => { results := [.lit (.bool true)], args := [d1, d2, d3, d4] }
  | _ => none }
def danceWordsRow : OpenClaim := { program := "ytnhldphlkklfiaagreatdoor", sum := "f5d1bd24a76cd437f4f2946f065f5135e840c044ed77d5661b35d30c6217631c", func := "quadrille/quadrillekeep.DanceWords", spec := "danceWords", inPlace := ["internal/reflectlite.ValueOf", "(internal/reflectlite.Value).Type", "(internal/reflectlite.Value).IsNil", "internal/reflectlite.TypeOf", "(internal/reflectlite.Value).Elem", "(internal/reflectlite.Value).Set"], unfollowed := true, recurses := true, named := ["errors.errorType"], apart := false, laid := [("errors.errorType", laid_errors_errorType)] }
def DanceWordsSaid : Prop := danceWordsRow.holds Tryz.pinned (OpenSpec.ofChange danceWordsSpec)

/-- ITS FALSE NEIGHBOUR: 'it returns false'. Refute it at one input. -/
def danceWordsWrong : ChangeSpec := { name := "danceWords", fn := fun _ => fun
  | [d1, d2, d3, d4] => { results := [.lit (.bool false)], args := [d1, d2, d3, d4] }
  | _ => none }
def DanceWordsWrongFalsely : Prop := danceWordsRow.holds Tryz.pinned (OpenSpec.ofChange danceWordsWrong)

/-- 'quadrillekeep.JudgeMissing': WHATEVER THE INPUT: true; the input reads as it did. -/
def judgeMissingSpec : ChangeSpec := { name := "judgeMissing", fn := fun _ => fun
  | [d1, d2, d3, d4, d5] => { results := [.lit (.bool true)], args := [d1, d2, d3, d4, d5] }
  | _ => none }
def judgeMissingRow : OpenClaim := { program := "ytnhldphlkklfiaagreatdoor", sum := "f5d1bd24a76cd437f4f2946f065f5135e840c044ed77d5661b35d30c6217631c", func := "quadrille/quadrillekeep.JudgeMissing", spec := "judgeMissing", inPlace := ["internal/reflectlite.ValueOf", "(internal/reflectlite.Value).Type", "(internal/reflectlite.Value).IsNil", "internal/reflectlite.TypeOf", "(internal/reflectlite.Value).Elem", "(internal/reflectlite.Value).Set"], unfollowed := true, recurses := true, named := ["errors.errorType"], apart := false, laid := [("errors.errorType", laid_errors_errorType)] }
def JudgeMissingSaid : Prop := judgeMissingRow.holds Tryz.pinned (OpenSpec.ofChange judgeMissingSpec)

/-- ITS FALSE NEIGHBOUR: 'it returns false'. Refute it at one input. -/
def judgeMissingWrong : ChangeSpec := { name := "judgeMissing", fn := fun _ => fun
  | [d1, d2, d3, d4, d5] => { results := [.lit (.bool false)], args := [d1, d2, d3, d4, d5] }
  | _ => none }
def JudgeMissingWrongFalsely : Prop := judgeMissingRow.holds Tryz.pinned (OpenSpec.ofChange judgeMissingWrong)

/-- 'quadrillekeep.DancePokes': WHATEVER THE INPUT: true; the input reads as it did. -/
def dancePokesSpec : ChangeSpec := { name := "dancePokes", fn := fun _ => fun
  | [d1, d2, d3, d4] => { results := [.lit (.bool true)], args := [d1, d2, d3, d4] }
  | _ => none }
def dancePokesRow : OpenClaim := { program := "ytnhldphlkklfiaagreatdoor", sum := "f5d1bd24a76cd437f4f2946f065f5135e840c044ed77d5661b35d30c6217631c", func := "quadrille/quadrillekeep.DancePokes", spec := "dancePokes", inPlace := ["internal/reflectlite.ValueOf", "(internal/reflectlite.Value).Type", "(internal/reflectlite.Value).IsNil", "internal/reflectlite.TypeOf", "(internal/reflectlite.Value).Elem", "(internal/reflectlite.Value).Set"], unfollowed := true, recurses := true, named := ["errors.errorType"], apart := false, laid := [("errors.errorType", laid_errors_errorType)] }
def DancePokesSaid : Prop := dancePokesRow.holds Tryz.pinned (OpenSpec.ofChange dancePokesSpec)

/-- ITS FALSE NEIGHBOUR: 'it returns false'. Refute it at one input. -/
def dancePokesWrong : ChangeSpec := { name := "dancePokes", fn := fun _ => fun
  | [d1, d2, d3, d4] => { results := [.lit (.bool false)], args := [d1, d2, d3, d4] }
  | _ => none }
def DancePokesWrongFalsely : Prop := dancePokesRow.holds Tryz.pinned (OpenSpec.ofChange dancePokesWrong)

/-- 'quadrillekeep.DanceFair': WHATEVER THE INPUT: true; the input reads as it did. -/
def danceFairSpec : ChangeSpec := { name := "danceFair", fn := fun _ => fun
  | [d1, d2, d3, d4, d5] => { results := [.lit (.bool true)], args := [d1, d2, d3, d4, d5] }
  | _ => none }
def danceFairRow : OpenClaim := { program := "ytnhldphlkklfiaagreatdoor", sum := "f5d1bd24a76cd437f4f2946f065f5135e840c044ed77d5661b35d30c6217631c", func := "quadrille/quadrillekeep.DanceFair", spec := "danceFair", inPlace := ["internal/reflectlite.ValueOf", "(internal/reflectlite.Value).Type", "(internal/reflectlite.Value).IsNil", "internal/reflectlite.TypeOf", "(internal/reflectlite.Value).Elem", "(internal/reflectlite.Value).Set"], unfollowed := true, recurses := true, named := ["errors.errorType"], apart := false, laid := [("errors.errorType", laid_errors_errorType)] }
def DanceFairSaid : Prop := danceFairRow.holds Tryz.pinned (OpenSpec.ofChange danceFairSpec)

/-- ITS FALSE NEIGHBOUR: 'it returns false'. Refute it at one input. -/
def danceFairWrong : ChangeSpec := { name := "danceFair", fn := fun _ => fun
  | [d1, d2, d3, d4, d5] => { results := [.lit (.bool false)], args := [d1, d2, d3, d4, d5] }
  | _ => none }
def DanceFairWrongFalsely : Prop := danceFairRow.holds Tryz.pinned (OpenSpec.ofChange danceFairWrong)

/-- 'quadrillekeep.FairAgain': WHATEVER THE INPUT: true; the input reads as it did. -/
def fairAgainSpec : ChangeSpec := { name := "fairAgain", fn := fun _ => fun
  | [d1, d2, d3, d4] => { results := [.lit (.bool true)], args := [d1, d2, d3, d4] }
  | _ => none }
def fairAgainRow : OpenClaim := { program := "ytnhldphlkklfiaagreatdoor", sum := "f5d1bd24a76cd437f4f2946f065f5135e840c044ed77d5661b35d30c6217631c", func := "quadrille/quadrillekeep.FairAgain", spec := "fairAgain", inPlace := ["internal/reflectlite.ValueOf", "(internal/reflectlite.Value).Type", "(internal/reflectlite.Value).IsNil", "internal/reflectlite.TypeOf", "(internal/reflectlite.Value).Elem", "(internal/reflectlite.Value).Set"], unfollowed := true, recurses := true, named := ["errors.errorType"], apart := false, laid := [("errors.errorType", laid_errors_errorType)] }
def FairAgainSaid : Prop := fairAgainRow.holds Tryz.pinned (OpenSpec.ofChange fairAgainSpec)

/-- ITS FALSE NEIGHBOUR: 'it returns false'. Refute it at one input. -/
def fairAgainWrong : ChangeSpec := { name := "fairAgain", fn := fun _ => fun
  | [d1, d2, d3, d4] => { results := [.lit (.bool false)], args := [d1, d2, d3, d4] }
  | _ => none }
def FairAgainWrongFalsely : Prop := fairAgainRow.holds Tryz.pinned (OpenSpec.ofChange fairAgainWrong)

/-- 'quadrillekeep.ScriptJudged': WHATEVER THE INPUT: true; the input reads as it did. -/
def scriptJudgedSpec : ChangeSpec := { name := "scriptJudged", fn := fun _ => fun
  | [d] => { results := [.lit (.bool true)], args := [d] }
  | _ => none }
def scriptJudgedRow : OpenClaim := { program := "ytnhldphlkklfiaagreatdoor", sum := "f5d1bd24a76cd437f4f2946f065f5135e840c044ed77d5661b35d30c6217631c", func := "quadrille/quadrillekeep.ScriptJudged", spec := "scriptJudged", inPlace := ["internal/reflectlite.ValueOf", "(internal/reflectlite.Value).Type", "(internal/reflectlite.Value).IsNil", "internal/reflectlite.TypeOf", "(internal/reflectlite.Value).Elem", "(internal/reflectlite.Value).Set"], unfollowed := true, recurses := true, named := ["errors.errorType"], apart := false, laid := [("errors.errorType", laid_errors_errorType)] }
def ScriptJudgedSaid : Prop := scriptJudgedRow.holds Tryz.pinned (OpenSpec.ofChange scriptJudgedSpec)

/-- ITS FALSE NEIGHBOUR: 'it returns false'. Refute it at one input. -/
def scriptJudgedWrong : ChangeSpec := { name := "scriptJudged", fn := fun _ => fun
  | [d] => { results := [.lit (.bool false)], args := [d] }
  | _ => none }
def ScriptJudgedWrongFalsely : Prop := scriptJudgedRow.holds Tryz.pinned (OpenSpec.ofChange scriptJudgedWrong)

/- THE SECOND FORM. 'bulk': how many values and letters a reading holds, each counted each time it is reached (what is shared counts as often as it is met; a slice's spare places count too). A statement '..UptoSaid' is the law's where the arguments, and the package variables that the reading takes, are together of bulk at most 1048576: NARROWER than '..Said'. Prove '..Said' where nothing that the law and all that it calls make is longer than what came in: it says more and counts as full. Else prove '..UptoSaid'. A law counts once. -/
mutual
def uptoBulk {H : Type} : DataW H → Nat
  | .lit (.string bytes) => bytes.length + 1
  | .lit _ => 1
  | .nil => 1
  | .ptr d => uptoBulk d + 1
  | .slice elems spare => uptoBulkAll elems + uptoBulkAll spare + 1
  | .agg parts => uptoBulkAll parts + 1
  | .iface _ d => uptoBulk d + 1
  | .map entries => uptoBulkEntries entries + 1
  | .held _ => 1
def uptoBulkAll {H : Type} : List (DataW H) → Nat
  | [] => 0
  | d :: r => uptoBulk d + uptoBulkAll r
def uptoBulkEntries {H : Type} : List (Lit × DataW H) → Nat
  | [] => 0
  | x :: r => uptoBulkEntry x + uptoBulkEntries r
def uptoBulkEntry {H : Type} : Lit × DataW H → Nat
  | (.string bytes, d) => bytes.length + uptoBulk d + 1
  | (_, d) => uptoBulk d + 1
 end
def uptoSmall : (H : Type) → List (DataW H) → Bool := fun _ ds => decide (uptoBulkAll ds ≤ 1048576)
def OpenSpec.upto (s : _root_.Go.ChangeSpec) : _root_.Go.OpenSpec := { _root_.Go.OpenSpec.ofChange s with cond := some uptoSmall }

/-- 'quadrillekeep.DanceUp', WHERE WHAT IT READS IS OF BULK AT MOST 1048576: true; the input reads as it did. -/
def danceUpUptoRow : OpenClaim := { program := "ytnhldphlkklfiaagreatdoor", sum := "f5d1bd24a76cd437f4f2946f065f5135e840c044ed77d5661b35d30c6217631c", func := "quadrille/quadrillekeep.DanceUp", spec := "danceUp", inPlace := ["internal/reflectlite.ValueOf", "(internal/reflectlite.Value).Type", "(internal/reflectlite.Value).IsNil", "internal/reflectlite.TypeOf", "(internal/reflectlite.Value).Elem", "(internal/reflectlite.Value).Set"], unfollowed := true, recurses := true, named := ["errors.errorType"], apart := false, laid := [("errors.errorType", laid_errors_errorType)], narrowed := true }
def DanceUpUptoSaid : Prop := danceUpUptoRow.holds Tryz.pinned (OpenSpec.upto danceUpSpec)

/-- 'quadrillekeep.DanceDown', WHERE WHAT IT READS IS OF BULK AT MOST 1048576: true; the input reads as it did. -/
def danceDownUptoRow : OpenClaim := { program := "ytnhldphlkklfiaagreatdoor", sum := "f5d1bd24a76cd437f4f2946f065f5135e840c044ed77d5661b35d30c6217631c", func := "quadrille/quadrillekeep.DanceDown", spec := "danceDown", inPlace := ["internal/reflectlite.ValueOf", "(internal/reflectlite.Value).Type", "(internal/reflectlite.Value).IsNil", "internal/reflectlite.TypeOf", "(internal/reflectlite.Value).Elem", "(internal/reflectlite.Value).Set"], unfollowed := true, recurses := true, named := ["errors.errorType"], apart := false, laid := [("errors.errorType", laid_errors_errorType)], narrowed := true }
def DanceDownUptoSaid : Prop := danceDownUptoRow.holds Tryz.pinned (OpenSpec.upto danceDownSpec)

/-- 'quadrillekeep.DanceThin', WHERE WHAT IT READS IS OF BULK AT MOST 1048576: true; the input reads as it did. -/
def danceThinUptoRow : OpenClaim := { program := "ytnhldphlkklfiaagreatdoor", sum := "f5d1bd24a76cd437f4f2946f065f5135e840c044ed77d5661b35d30c6217631c", func := "quadrille/quadrillekeep.DanceThin", spec := "danceThin", inPlace := ["internal/reflectlite.ValueOf", "(internal/reflectlite.Value).Type", "(internal/reflectlite.Value).IsNil", "internal/reflectlite.TypeOf", "(internal/reflectlite.Value).Elem", "(internal/reflectlite.Value).Set"], unfollowed := true, recurses := true, named := ["errors.errorType"], apart := false, laid := [("errors.errorType", laid_errors_errorType)], narrowed := true }
def DanceThinUptoSaid : Prop := danceThinUptoRow.holds Tryz.pinned (OpenSpec.upto danceThinSpec)

/-- 'quadrillekeep.CentralLeaves', WHERE WHAT IT READS IS OF BULK AT MOST 1048576: true; the input reads as it did. -/
def centralLeavesUptoRow : OpenClaim := { program := "ytnhldphlkklfiaagreatdoor", sum := "f5d1bd24a76cd437f4f2946f065f5135e840c044ed77d5661b35d30c6217631c", func := "quadrille/quadrillekeep.CentralLeaves", spec := "centralLeaves", inPlace := ["internal/reflectlite.ValueOf", "(internal/reflectlite.Value).Type", "(internal/reflectlite.Value).IsNil", "internal/reflectlite.TypeOf", "(internal/reflectlite.Value).Elem", "(internal/reflectlite.Value).Set"], unfollowed := true, recurses := true, named := ["errors.errorType"], apart := false, laid := [("errors.errorType", laid_errors_errorType)], narrowed := true }
def CentralLeavesUptoSaid : Prop := centralLeavesUptoRow.holds Tryz.pinned (OpenSpec.upto centralLeavesSpec)

/-- 'quadrillekeep.CombineLeaves', WHERE WHAT IT READS IS OF BULK AT MOST 1048576: true; the input reads as it did. -/
def combineLeavesUptoRow : OpenClaim := { program := "ytnhldphlkklfiaagreatdoor", sum := "f5d1bd24a76cd437f4f2946f065f5135e840c044ed77d5661b35d30c6217631c", func := "quadrille/quadrillekeep.CombineLeaves", spec := "combineLeaves", inPlace := ["internal/reflectlite.ValueOf", "(internal/reflectlite.Value).Type", "(internal/reflectlite.Value).IsNil", "internal/reflectlite.TypeOf", "(internal/reflectlite.Value).Elem", "(internal/reflectlite.Value).Set"], unfollowed := true, recurses := true, named := ["errors.errorType"], apart := false, laid := [("errors.errorType", laid_errors_errorType)], narrowed := true }
def CombineLeavesUptoSaid : Prop := combineLeavesUptoRow.holds Tryz.pinned (OpenSpec.upto combineLeavesSpec)

/-- 'quadrillekeep.DanceGates', WHERE WHAT IT READS IS OF BULK AT MOST 1048576: true; the input reads as it did. -/
def danceGatesUptoRow : OpenClaim := { program := "ytnhldphlkklfiaagreatdoor", sum := "f5d1bd24a76cd437f4f2946f065f5135e840c044ed77d5661b35d30c6217631c", func := "quadrille/quadrillekeep.DanceGates", spec := "danceGates", inPlace := ["internal/reflectlite.ValueOf", "(internal/reflectlite.Value).Type", "(internal/reflectlite.Value).IsNil", "internal/reflectlite.TypeOf", "(internal/reflectlite.Value).Elem", "(internal/reflectlite.Value).Set"], unfollowed := true, recurses := true, named := ["errors.errorType"], apart := false, laid := [("errors.errorType", laid_errors_errorType)], narrowed := true }
def DanceGatesUptoSaid : Prop := danceGatesUptoRow.holds Tryz.pinned (OpenSpec.upto danceGatesSpec)

/-- 'quadrillekeep.DanceWaits', WHERE WHAT IT READS IS OF BULK AT MOST 1048576: true; the input reads as it did. -/
def danceWaitsUptoRow : OpenClaim := { program := "ytnhldphlkklfiaagreatdoor", sum := "f5d1bd24a76cd437f4f2946f065f5135e840c044ed77d5661b35d30c6217631c", func := "quadrille/quadrillekeep.DanceWaits", spec := "danceWaits", inPlace := ["internal/reflectlite.ValueOf", "(internal/reflectlite.Value).Type", "(internal/reflectlite.Value).IsNil", "internal/reflectlite.TypeOf", "(internal/reflectlite.Value).Elem", "(internal/reflectlite.Value).Set"], unfollowed := true, recurses := true, named := ["errors.errorType"], apart := false, laid := [("errors.errorType", laid_errors_errorType)], narrowed := true }
def DanceWaitsUptoSaid : Prop := danceWaitsUptoRow.holds Tryz.pinned (OpenSpec.upto danceWaitsSpec)

/-- 'quadrillekeep.StaticLeaves', WHERE WHAT IT READS IS OF BULK AT MOST 1048576: true; the input reads as it did. -/
def staticLeavesUptoRow : OpenClaim := { program := "ytnhldphlkklfiaagreatdoor", sum := "f5d1bd24a76cd437f4f2946f065f5135e840c044ed77d5661b35d30c6217631c", func := "quadrille/quadrillekeep.StaticLeaves", spec := "staticLeaves", inPlace := ["internal/reflectlite.ValueOf", "(internal/reflectlite.Value).Type", "(internal/reflectlite.Value).IsNil", "internal/reflectlite.TypeOf", "(internal/reflectlite.Value).Elem", "(internal/reflectlite.Value).Set"], unfollowed := true, recurses := true, named := ["errors.errorType"], apart := false, laid := [("errors.errorType", laid_errors_errorType)], narrowed := true }
def StaticLeavesUptoSaid : Prop := staticLeavesUptoRow.holds Tryz.pinned (OpenSpec.upto staticLeavesSpec)

/-- 'quadrillekeep.SpreadLeaves', WHERE WHAT IT READS IS OF BULK AT MOST 1048576: true; the input reads as it did. -/
def spreadLeavesUptoRow : OpenClaim := { program := "ytnhldphlkklfiaagreatdoor", sum := "f5d1bd24a76cd437f4f2946f065f5135e840c044ed77d5661b35d30c6217631c", func := "quadrille/quadrillekeep.SpreadLeaves", spec := "spreadLeaves", inPlace := ["internal/reflectlite.ValueOf", "(internal/reflectlite.Value).Type", "(internal/reflectlite.Value).IsNil", "internal/reflectlite.TypeOf", "(internal/reflectlite.Value).Elem", "(internal/reflectlite.Value).Set"], unfollowed := true, recurses := true, named := ["errors.errorType"], apart := false, laid := [("errors.errorType", laid_errors_errorType)], narrowed := true }
def SpreadLeavesUptoSaid : Prop := spreadLeavesUptoRow.holds Tryz.pinned (OpenSpec.upto spreadLeavesSpec)

/-- 'quadrillekeep.TourneyLeaves', WHERE WHAT IT READS IS OF BULK AT MOST 1048576: true; the input reads as it did. -/
def tourneyLeavesUptoRow : OpenClaim := { program := "ytnhldphlkklfiaagreatdoor", sum := "f5d1bd24a76cd437f4f2946f065f5135e840c044ed77d5661b35d30c6217631c", func := "quadrille/quadrillekeep.TourneyLeaves", spec := "tourneyLeaves", inPlace := ["internal/reflectlite.ValueOf", "(internal/reflectlite.Value).Type", "(internal/reflectlite.Value).IsNil", "internal/reflectlite.TypeOf", "(internal/reflectlite.Value).Elem", "(internal/reflectlite.Value).Set"], unfollowed := true, recurses := true, named := ["errors.errorType"], apart := false, laid := [("errors.errorType", laid_errors_errorType)], narrowed := true }
def TourneyLeavesUptoSaid : Prop := tourneyLeavesUptoRow.holds Tryz.pinned (OpenSpec.upto tourneyLeavesSpec)

/-- 'quadrillekeep.McsLeaves', WHERE WHAT IT READS IS OF BULK AT MOST 1048576: true; the input reads as it did. -/
def mcsLeavesUptoRow : OpenClaim := { program := "ytnhldphlkklfiaagreatdoor", sum := "f5d1bd24a76cd437f4f2946f065f5135e840c044ed77d5661b35d30c6217631c", func := "quadrille/quadrillekeep.McsLeaves", spec := "mcsLeaves", inPlace := ["internal/reflectlite.ValueOf", "(internal/reflectlite.Value).Type", "(internal/reflectlite.Value).IsNil", "internal/reflectlite.TypeOf", "(internal/reflectlite.Value).Elem", "(internal/reflectlite.Value).Set"], unfollowed := true, recurses := true, named := ["errors.errorType"], apart := false, laid := [("errors.errorType", laid_errors_errorType)], narrowed := true }
def McsLeavesUptoSaid : Prop := mcsLeavesUptoRow.holds Tryz.pinned (OpenSpec.upto mcsLeavesSpec)

/-- 'quadrillekeep.DanceWords', WHERE WHAT IT READS IS OF BULK AT MOST 1048576: true; the input reads as it did. -/
def danceWordsUptoRow : OpenClaim := { program := "ytnhldphlkklfiaagreatdoor", sum := "f5d1bd24a76cd437f4f2946f065f5135e840c044ed77d5661b35d30c6217631c", func := "quadrille/quadrillekeep.DanceWords", spec := "danceWords", inPlace := ["internal/reflectlite.ValueOf", "(internal/reflectlite.Value).Type", "(internal/reflectlite.Value).IsNil", "internal/reflectlite.TypeOf", "(internal/reflectlite.Value).Elem", "(internal/reflectlite.Value).Set"], unfollowed := true, recurses := true, named := ["errors.errorType"], apart := false, laid := [("errors.errorType", laid_errors_errorType)], narrowed := true }
def DanceWordsUptoSaid : Prop := danceWordsUptoRow.holds Tryz.pinned (OpenSpec.upto danceWordsSpec)

/-- 'quadrillekeep.JudgeMissing', WHERE WHAT IT READS IS OF BULK AT MOST 1048576: true; the input reads as it did. -/
def judgeMissingUptoRow : OpenClaim := { program := "ytnhldphlkklfiaagreatdoor", sum := "f5d1bd24a76cd437f4f2946f065f5135e840c044ed77d5661b35d30c6217631c", func := "quadrille/quadrillekeep.JudgeMissing", spec := "judgeMissing", inPlace := ["internal/reflectlite.ValueOf", "(internal/reflectlite.Value).Type", "(internal/reflectlite.Value).IsNil", "internal/reflectlite.TypeOf", "(internal/reflectlite.Value).Elem", "(internal/reflectlite.Value).Set"], unfollowed := true, recurses := true, named := ["errors.errorType"], apart := false, laid := [("errors.errorType", laid_errors_errorType)], narrowed := true }
def JudgeMissingUptoSaid : Prop := judgeMissingUptoRow.holds Tryz.pinned (OpenSpec.upto judgeMissingSpec)

/-- 'quadrillekeep.DancePokes', WHERE WHAT IT READS IS OF BULK AT MOST 1048576: true; the input reads as it did. -/
def dancePokesUptoRow : OpenClaim := { program := "ytnhldphlkklfiaagreatdoor", sum := "f5d1bd24a76cd437f4f2946f065f5135e840c044ed77d5661b35d30c6217631c", func := "quadrille/quadrillekeep.DancePokes", spec := "dancePokes", inPlace := ["internal/reflectlite.ValueOf", "(internal/reflectlite.Value).Type", "(internal/reflectlite.Value).IsNil", "internal/reflectlite.TypeOf", "(internal/reflectlite.Value).Elem", "(internal/reflectlite.Value).Set"], unfollowed := true, recurses := true, named := ["errors.errorType"], apart := false, laid := [("errors.errorType", laid_errors_errorType)], narrowed := true }
def DancePokesUptoSaid : Prop := dancePokesUptoRow.holds Tryz.pinned (OpenSpec.upto dancePokesSpec)

/-- 'quadrillekeep.DanceFair', WHERE WHAT IT READS IS OF BULK AT MOST 1048576: true; the input reads as it did. -/
def danceFairUptoRow : OpenClaim := { program := "ytnhldphlkklfiaagreatdoor", sum := "f5d1bd24a76cd437f4f2946f065f5135e840c044ed77d5661b35d30c6217631c", func := "quadrille/quadrillekeep.DanceFair", spec := "danceFair", inPlace := ["internal/reflectlite.ValueOf", "(internal/reflectlite.Value).Type", "(internal/reflectlite.Value).IsNil", "internal/reflectlite.TypeOf", "(internal/reflectlite.Value).Elem", "(internal/reflectlite.Value).Set"], unfollowed := true, recurses := true, named := ["errors.errorType"], apart := false, laid := [("errors.errorType", laid_errors_errorType)], narrowed := true }
def DanceFairUptoSaid : Prop := danceFairUptoRow.holds Tryz.pinned (OpenSpec.upto danceFairSpec)

/-- 'quadrillekeep.FairAgain', WHERE WHAT IT READS IS OF BULK AT MOST 1048576: true; the input reads as it did. -/
def fairAgainUptoRow : OpenClaim := { program := "ytnhldphlkklfiaagreatdoor", sum := "f5d1bd24a76cd437f4f2946f065f5135e840c044ed77d5661b35d30c6217631c", func := "quadrille/quadrillekeep.FairAgain", spec := "fairAgain", inPlace := ["internal/reflectlite.ValueOf", "(internal/reflectlite.Value).Type", "(internal/reflectlite.Value).IsNil", "internal/reflectlite.TypeOf", "(internal/reflectlite.Value).Elem", "(internal/reflectlite.Value).Set"], unfollowed := true, recurses := true, named := ["errors.errorType"], apart := false, laid := [("errors.errorType", laid_errors_errorType)], narrowed := true }
def FairAgainUptoSaid : Prop := fairAgainUptoRow.holds Tryz.pinned (OpenSpec.upto fairAgainSpec)

/-- 'quadrillekeep.ScriptJudged', WHERE WHAT IT READS IS OF BULK AT MOST 1048576: true; the input reads as it did. -/
def scriptJudgedUptoRow : OpenClaim := { program := "ytnhldphlkklfiaagreatdoor", sum := "f5d1bd24a76cd437f4f2946f065f5135e840c044ed77d5661b35d30c6217631c", func := "quadrille/quadrillekeep.ScriptJudged", spec := "scriptJudged", inPlace := ["internal/reflectlite.ValueOf", "(internal/reflectlite.Value).Type", "(internal/reflectlite.Value).IsNil", "internal/reflectlite.TypeOf", "(internal/reflectlite.Value).Elem", "(internal/reflectlite.Value).Set"], unfollowed := true, recurses := true, named := ["errors.errorType"], apart := false, laid := [("errors.errorType", laid_errors_errorType)], narrowed := true }
def ScriptJudgedUptoSaid : Prop := scriptJudgedUptoRow.holds Tryz.pinned (OpenSpec.upto scriptJudgedSpec)

end Rows
end Go.Proofs.YtnhldphlkklfiaaGreatDoor
