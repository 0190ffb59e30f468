/-
  NARROWER THAN 'FOR EVERY INPUT', by the rows' own cells (each row's printed sentence says how): DanceLag: laid · DanceOrder: laid · DanceEnds: laid · DanceBound: laid · DanceGoes: laid · CentralCrowds: laid · SpreadThin: laid · DanceAlone: laid · DanceSame: laid · ScriptPieces: laid.
  DERIVED. THE GIVEN ROWS OF THIS SEAT. 10 by the template 'for every input the law returns true; each argument reads behind the call as it read before'; 0 by the template 'total and deterministic' (their statements: YtnhldphlkklfiaaDoorTotals.lean).
  GIVEN WITH THE SEED: the statements are not yours to turn. If you find one false, say at which input.
  Laid BY PROGRAM, IN A SANDBOX (cutbox-rows.mjs): the forced cells as the released guide's own fill.sh prints them over the translation 9151de911640ae44… (all of the seat's roots in one cut). By AI agents, Wed Nov 11 2026. No macro, syntax, notation, axiom, sorry.
-/
import Derived.Test.YtnhldphlkklfiaaDoorChecked
import GoSem.Claim
import GoSem.ClaimJoined
import GoSem.ClaimMapViews
import Derived.JoinedTies
import Derived.KernelRfl
namespace Go.Proofs.YtnhldphlkklfiaaDoor
/- THE CELL 'sum', in the pinned program and in every row, IS THE sha256 OF THE DUMP (.gsa) THAT YtnhldphlkklfiaaDoorProg.lean LOADS. Nothing in Lean hashes anything: it is a label: what it is worth is what the hold of that sum in a sandbox is worth. -/
noncomputable def Tryd.pinned : Pinned := { name := "ytnhldphlkklfiaadoor", sum := "9151de911640ae443ed02c478b7785cba89cd01498b560abf61868a9c40544be", checked := Tryd.checked }
namespace Rows
def none {H : Type} : Left H := { results := [], args := [] }

/- WHAT THE LISTED PACKAGE-LEVEL VARIABLES READ AS WHEN THE CALL BEGINS. Each datum BY PROGRAM (the guide's laid-datum.mjs) off the statement by which the dump's own 'gosem.cut.vars' lays the variable. In a bare row this is a premise. The card (YtnhldphlkklfiaaDoorCards.lean) ties it to the program's text. -/
def laid_errors_errorType {H : Type} : DataW H := .iface "internal/reflectlite.rtype" (.agg [.ptr (.lit (.string [101, 114, 114, 111, 114]))])

/-- 'quadrillekeep.DanceLag': WHATEVER THE INPUT: true; the input reads as it did. -/
def danceLagSpec : ChangeSpec := { name := "danceLag", fn := fun _ => fun
  | [d1, d2, d3, d4, d5] => { results := [.lit (.bool true)], args := [d1, d2, d3, d4, d5] }
  | _ => none }
def danceLagRow : OpenClaim := { program := "ytnhldphlkklfiaadoor", sum := "9151de911640ae443ed02c478b7785cba89cd01498b560abf61868a9c40544be", func := "quadrille/quadrillekeep.DanceLag", spec := "danceLag", inPlace := ["internal/reflectlite.ValueOf", "(internal/reflectlite.Value).Type", "(internal/reflectlite.Value).IsNil", "internal/reflectlite.TypeOf", "(internal/reflectlite.Value).Elem", "(internal/reflectlite.Value).Set"], unfollowed := true, recurses := true, named := ["errors.errorType"], apart := false, laid := [("errors.errorType", laid_errors_errorType)] }
def DanceLagSaid : Prop := danceLagRow.holds Tryd.pinned (OpenSpec.ofChange danceLagSpec)

/-- ITS FALSE NEIGHBOUR: 'it returns false'. Refute it at one input. -/
def danceLagWrong : ChangeSpec := { name := "danceLag", fn := fun _ => fun
  | [d1, d2, d3, d4, d5] => { results := [.lit (.bool false)], args := [d1, d2, d3, d4, d5] }
  | _ => none }
def DanceLagWrongFalsely : Prop := danceLagRow.holds Tryd.pinned (OpenSpec.ofChange danceLagWrong)

/-- 'quadrillekeep.DanceOrder': WHATEVER THE INPUT: true; the input reads as it did. -/
def danceOrderSpec : ChangeSpec := { name := "danceOrder", fn := fun _ => fun
  | [d1, d2, d3, d4] => { results := [.lit (.bool true)], args := [d1, d2, d3, d4] }
  | _ => none }
def danceOrderRow : OpenClaim := { program := "ytnhldphlkklfiaadoor", sum := "9151de911640ae443ed02c478b7785cba89cd01498b560abf61868a9c40544be", func := "quadrille/quadrillekeep.DanceOrder", spec := "danceOrder", inPlace := ["internal/reflectlite.ValueOf", "(internal/reflectlite.Value).Type", "(internal/reflectlite.Value).IsNil", "internal/reflectlite.TypeOf", "(internal/reflectlite.Value).Elem", "(internal/reflectlite.Value).Set"], unfollowed := true, recurses := true, named := ["errors.errorType"], apart := false, laid := [("errors.errorType", laid_errors_errorType)] }
def DanceOrderSaid : Prop := danceOrderRow.holds Tryd.pinned (OpenSpec.ofChange danceOrderSpec)

/-- ITS FALSE NEIGHBOUR: 'it returns false'. Refute it at one input. -/
def danceOrderWrong : ChangeSpec := { name := "danceOrder", fn := fun _ => fun
  | [d1, d2, d3, d4] => { results := [.lit (.bool false)], args := [d1, d2, d3, d4] }
  | _ => none }
def DanceOrderWrongFalsely : Prop := danceOrderRow.holds Tryd.pinned (OpenSpec.ofChange danceOrderWrong)

/-- 'quadrillekeep.DanceEnds': WHATEVER THE INPUT: true; the input reads as it did. -/
def danceEndsSpec : ChangeSpec := { name := "danceEnds", fn := fun _ => fun
  | [d1, d2, d3, d4] => { results := [.lit (.bool true)], args := [d1, d2, d3, d4] }
  | _ => none }
def danceEndsRow : OpenClaim := { program := "ytnhldphlkklfiaadoor", sum := "9151de911640ae443ed02c478b7785cba89cd01498b560abf61868a9c40544be", func := "quadrille/quadrillekeep.DanceEnds", spec := "danceEnds", inPlace := ["internal/reflectlite.ValueOf", "(internal/reflectlite.Value).Type", "(internal/reflectlite.Value).IsNil", "internal/reflectlite.TypeOf", "(internal/reflectlite.Value).Elem", "(internal/reflectlite.Value).Set"], unfollowed := true, recurses := true, named := ["errors.errorType"], apart := false, laid := [("errors.errorType", laid_errors_errorType)] }
def DanceEndsSaid : Prop := danceEndsRow.holds Tryd.pinned (OpenSpec.ofChange danceEndsSpec)

/-- ITS FALSE NEIGHBOUR: 'it returns false'. Refute it at one input. -/
def danceEndsWrong : ChangeSpec := { name := "danceEnds", fn := fun _ => fun
  | [d1, d2, d3, d4] => { results := [.lit (.bool false)], args := [d1, d2, d3, d4] }
  | _ => none }
def DanceEndsWrongFalsely : Prop := danceEndsRow.holds Tryd.pinned (OpenSpec.ofChange danceEndsWrong)

/-- 'quadrillekeep.DanceBound': WHATEVER THE INPUT: true; the input reads as it did. -/
def danceBoundSpec : ChangeSpec := { name := "danceBound", fn := fun _ => fun
  | [d1, d2, d3, d4] => { results := [.lit (.bool true)], args := [d1, d2, d3, d4] }
  | _ => none }
def danceBoundRow : OpenClaim := { program := "ytnhldphlkklfiaadoor", sum := "9151de911640ae443ed02c478b7785cba89cd01498b560abf61868a9c40544be", func := "quadrille/quadrillekeep.DanceBound", spec := "danceBound", inPlace := ["internal/reflectlite.ValueOf", "(internal/reflectlite.Value).Type", "(internal/reflectlite.Value).IsNil", "internal/reflectlite.TypeOf", "(internal/reflectlite.Value).Elem", "(internal/reflectlite.Value).Set"], unfollowed := true, recurses := true, named := ["errors.errorType"], apart := false, laid := [("errors.errorType", laid_errors_errorType)] }
def DanceBoundSaid : Prop := danceBoundRow.holds Tryd.pinned (OpenSpec.ofChange danceBoundSpec)

/-- ITS FALSE NEIGHBOUR: 'it returns false'. Refute it at one input. -/
def danceBoundWrong : ChangeSpec := { name := "danceBound", fn := fun _ => fun
  | [d1, d2, d3, d4] => { results := [.lit (.bool false)], args := [d1, d2, d3, d4] }
  | _ => none }
def DanceBoundWrongFalsely : Prop := danceBoundRow.holds Tryd.pinned (OpenSpec.ofChange danceBoundWrong)

/-- 'quadrillekeep.DanceGoes': WHATEVER THE INPUT: true; the input reads as it did. -/
def danceGoesSpec : ChangeSpec := { name := "danceGoes", fn := fun _ => fun
  | [d1, d2, d3, d4] => { results := [.lit (.bool true)], args := [d1, d2, d3, d4] }
  | _ => none }
def danceGoesRow : OpenClaim := { program := "ytnhldphlkklfiaadoor", sum := "9151de911640ae443ed02c478b7785cba89cd01498b560abf61868a9c40544be", func := "quadrille/quadrillekeep.DanceGoes", spec := "danceGoes", inPlace := ["internal/reflectlite.ValueOf", "(internal/reflectlite.Value).Type", "(internal/reflectlite.Value).IsNil", "internal/reflectlite.TypeOf", "(internal/reflectlite.Value).Elem", "(internal/reflectlite.Value).Set"], unfollowed := true, recurses := true, named := ["errors.errorType"], apart := false, laid := [("errors.errorType", laid_errors_errorType)] }
def DanceGoesSaid : Prop := danceGoesRow.holds Tryd.pinned (OpenSpec.ofChange danceGoesSpec)

/-- ITS FALSE NEIGHBOUR: 'it returns false'. Refute it at one input. -/
def danceGoesWrong : ChangeSpec := { name := "danceGoes", fn := fun _ => fun
  | [d1, d2, d3, d4] => { results := [.lit (.bool false)], args := [d1, d2, d3, d4] }
  | _ => none }
def DanceGoesWrongFalsely : Prop := danceGoesRow.holds Tryd.pinned (OpenSpec.ofChange danceGoesWrong)

/-- 'quadrillekeep.CentralCrowds': WHATEVER THE INPUT: true; the input reads as it did. -/
def centralCrowdsSpec : ChangeSpec := { name := "centralCrowds", fn := fun _ => fun
  | [d1, d2, d3] => { results := [.lit (.bool true)], args := [d1, d2, d3] }
  | _ => none }
def centralCrowdsRow : OpenClaim := { program := "ytnhldphlkklfiaadoor", sum := "9151de911640ae443ed02c478b7785cba89cd01498b560abf61868a9c40544be", func := "quadrille/quadrillekeep.CentralCrowds", spec := "centralCrowds", inPlace := ["internal/reflectlite.ValueOf", "(internal/reflectlite.Value).Type", "(internal/reflectlite.Value).IsNil", "internal/reflectlite.TypeOf", "(internal/reflectlite.Value).Elem", "(internal/reflectlite.Value).Set"], unfollowed := true, recurses := true, named := ["errors.errorType"], apart := false, laid := [("errors.errorType", laid_errors_errorType)] }
def CentralCrowdsSaid : Prop := centralCrowdsRow.holds Tryd.pinned (OpenSpec.ofChange centralCrowdsSpec)

/-- ITS FALSE NEIGHBOUR: 'it returns false'. Refute it at one input. -/
def centralCrowdsWrong : ChangeSpec := { name := "centralCrowds", fn := fun _ => fun
  | [d1, d2, d3] => { results := [.lit (.bool false)], args := [d1, d2, d3] }
  | _ => none }
def CentralCrowdsWrongFalsely : Prop := centralCrowdsRow.holds Tryd.pinned (OpenSpec.ofChange centralCrowdsWrong)

/-- 'quadrillekeep.SpreadThin': WHATEVER THE INPUT: true; the input reads as it did. -/
def spreadThinSpec : ChangeSpec := { name := "spreadThin", fn := fun _ => fun
  | [d1, d2, d3] => { results := [.lit (.bool true)], args := [d1, d2, d3] }
  | _ => none }
def spreadThinRow : OpenClaim := { program := "ytnhldphlkklfiaadoor", sum := "9151de911640ae443ed02c478b7785cba89cd01498b560abf61868a9c40544be", func := "quadrille/quadrillekeep.SpreadThin", spec := "spreadThin", inPlace := ["internal/reflectlite.ValueOf", "(internal/reflectlite.Value).Type", "(internal/reflectlite.Value).IsNil", "internal/reflectlite.TypeOf", "(internal/reflectlite.Value).Elem", "(internal/reflectlite.Value).Set"], unfollowed := true, recurses := true, named := ["errors.errorType"], apart := false, laid := [("errors.errorType", laid_errors_errorType)] }
def SpreadThinSaid : Prop := spreadThinRow.holds Tryd.pinned (OpenSpec.ofChange spreadThinSpec)

/-- ITS FALSE NEIGHBOUR: 'it returns false'. Refute it at one input. -/
def spreadThinWrong : ChangeSpec := { name := "spreadThin", fn := fun _ => fun
  | [d1, d2, d3] => { results := [.lit (.bool false)], args := [d1, d2, d3] }
  | _ => none }
def SpreadThinWrongFalsely : Prop := spreadThinRow.holds Tryd.pinned (OpenSpec.ofChange spreadThinWrong)

/-- 'quadrillekeep.DanceAlone': WHATEVER THE INPUT: true; the input reads as it did. -/
def danceAloneSpec : ChangeSpec := { name := "danceAlone", fn := fun _ => fun
  | [d1, d2] => { results := [.lit (.bool true)], args := [d1, d2] }
  | _ => none }
def danceAloneRow : OpenClaim := { program := "ytnhldphlkklfiaadoor", sum := "9151de911640ae443ed02c478b7785cba89cd01498b560abf61868a9c40544be", func := "quadrille/quadrillekeep.DanceAlone", spec := "danceAlone", inPlace := ["internal/reflectlite.ValueOf", "(internal/reflectlite.Value).Type", "(internal/reflectlite.Value).IsNil", "internal/reflectlite.TypeOf", "(internal/reflectlite.Value).Elem", "(internal/reflectlite.Value).Set"], unfollowed := true, recurses := true, named := ["errors.errorType"], apart := false, laid := [("errors.errorType", laid_errors_errorType)] }
def DanceAloneSaid : Prop := danceAloneRow.holds Tryd.pinned (OpenSpec.ofChange danceAloneSpec)

/-- ITS FALSE NEIGHBOUR: 'it returns false'. Refute it at one input. -/
def danceAloneWrong : ChangeSpec := { name := "danceAlone", fn := fun _ => fun
  | [d1, d2] => { results := [.lit (.bool false)], args := [d1, d2] }
  | _ => none }
def DanceAloneWrongFalsely : Prop := danceAloneRow.holds Tryd.pinned (OpenSpec.ofChange danceAloneWrong)

/-- 'quadrillekeep.DanceSame': WHATEVER THE INPUT: true; the input reads as it did. -/
def danceSameSpec : ChangeSpec := { name := "danceSame", fn := fun _ => fun
  | [d1, d2, d3, d4, d5] => { results := [.lit (.bool true)], args := [d1, d2, d3, d4, d5] }
  | _ => none }
def danceSameRow : OpenClaim := { program := "ytnhldphlkklfiaadoor", sum := "9151de911640ae443ed02c478b7785cba89cd01498b560abf61868a9c40544be", func := "quadrille/quadrillekeep.DanceSame", spec := "danceSame", inPlace := ["internal/reflectlite.ValueOf", "(internal/reflectlite.Value).Type", "(internal/reflectlite.Value).IsNil", "internal/reflectlite.TypeOf", "(internal/reflectlite.Value).Elem", "(internal/reflectlite.Value).Set"], unfollowed := true, recurses := true, named := ["errors.errorType"], apart := false, laid := [("errors.errorType", laid_errors_errorType)] }
def DanceSameSaid : Prop := danceSameRow.holds Tryd.pinned (OpenSpec.ofChange danceSameSpec)

/-- ITS FALSE NEIGHBOUR: 'it returns false'. Refute it at one input. -/
def danceSameWrong : ChangeSpec := { name := "danceSame", fn := fun _ => fun
  | [d1, d2, d3, d4, d5] => { results := [.lit (.bool false)], args := [d1, d2, d3, d4, d5] }
  | _ => none }
def DanceSameWrongFalsely : Prop := danceSameRow.holds Tryd.pinned (OpenSpec.ofChange danceSameWrong)

/-- 'quadrillekeep.ScriptPieces': WHATEVER THE INPUT: true; the input reads as it did. -/
def scriptPiecesSpec : ChangeSpec := { name := "scriptPieces", fn := fun _ => fun
  | [d1, d2] => { results := [.lit (.bool true)], args := [d1, d2] }
  | _ => none }
def scriptPiecesRow : OpenClaim := { program := "ytnhldphlkklfiaadoor", sum := "9151de911640ae443ed02c478b7785cba89cd01498b560abf61868a9c40544be", func := "quadrille/quadrillekeep.ScriptPieces", spec := "scriptPieces", inPlace := ["internal/reflectlite.ValueOf", "(internal/reflectlite.Value).Type", "(internal/reflectlite.Value).IsNil", "internal/reflectlite.TypeOf", "(internal/reflectlite.Value).Elem", "(internal/reflectlite.Value).Set"], unfollowed := true, recurses := true, named := ["errors.errorType"], apart := false, laid := [("errors.errorType", laid_errors_errorType)] }
def ScriptPiecesSaid : Prop := scriptPiecesRow.holds Tryd.pinned (OpenSpec.ofChange scriptPiecesSpec)

/-- ITS FALSE NEIGHBOUR: 'it returns false'. Refute it at one input. -/
def scriptPiecesWrong : ChangeSpec := { name := "scriptPieces", fn := fun _ => fun
  | [d1, d2] => { results := [.lit (.bool false)], args := [d1, d2] }
  | _ => none }
def ScriptPiecesWrongFalsely : Prop := scriptPiecesRow.holds Tryd.pinned (OpenSpec.ofChange scriptPiecesWrong)

/- THE SECOND FORM. 'bulk': how many values and letters a reading holds, each counted each time it is reached (what is shared counts as often as it is met; a slice's spare places count too). A statement '..UptoSaid' is the law's where the arguments, and the package variables that the reading takes, are together of bulk at most 1048576: NARROWER than '..Said'. Prove '..Said' where nothing that the law and all that it calls make is longer than what came in: it says more and counts as full. Else prove '..UptoSaid'. A law counts once. -/
mutual
def uptoBulk {H : Type} : DataW H → Nat
  | .lit (.string bytes) => bytes.length + 1
  | .lit _ => 1
  | .nil => 1
  | .ptr d => uptoBulk d + 1
  | .slice elems spare => uptoBulkAll elems + uptoBulkAll spare + 1
  | .agg parts => uptoBulkAll parts + 1
  | .iface _ d => uptoBulk d + 1
  | .map entries => uptoBulkEntries entries + 1
  | .held _ => 1
def uptoBulkAll {H : Type} : List (DataW H) → Nat
  | [] => 0
  | d :: r => uptoBulk d + uptoBulkAll r
def uptoBulkEntries {H : Type} : List (Lit × DataW H) → Nat
  | [] => 0
  | x :: r => uptoBulkEntry x + uptoBulkEntries r
def uptoBulkEntry {H : Type} : Lit × DataW H → Nat
  | (.string bytes, d) => bytes.length + uptoBulk d + 1
  | (_, d) => uptoBulk d + 1
 end
def uptoSmall : (H : Type) → List (DataW H) → Bool := fun _ ds => decide (uptoBulkAll ds ≤ 1048576)
def OpenSpec.upto (s : _root_.Go.ChangeSpec) : _root_.Go.OpenSpec := { _root_.Go.OpenSpec.ofChange s with cond := some uptoSmall }

/-- 'quadrillekeep.DanceLag', WHERE WHAT IT READS IS OF BULK AT MOST 1048576: true; the input reads as it did. -/
def danceLagUptoRow : OpenClaim := { program := "ytnhldphlkklfiaadoor", sum := "9151de911640ae443ed02c478b7785cba89cd01498b560abf61868a9c40544be", func := "quadrille/quadrillekeep.DanceLag", spec := "danceLag", inPlace := ["internal/reflectlite.ValueOf", "(internal/reflectlite.Value).Type", "(internal/reflectlite.Value).IsNil", "internal/reflectlite.TypeOf", "(internal/reflectlite.Value).Elem", "(internal/reflectlite.Value).Set"], unfollowed := true, recurses := true, named := ["errors.errorType"], apart := false, laid := [("errors.errorType", laid_errors_errorType)], narrowed := true }
def DanceLagUptoSaid : Prop := danceLagUptoRow.holds Tryd.pinned (OpenSpec.upto danceLagSpec)

/-- 'quadrillekeep.DanceOrder', WHERE WHAT IT READS IS OF BULK AT MOST 1048576: true; the input reads as it did. -/
def danceOrderUptoRow : OpenClaim := { program := "ytnhldphlkklfiaadoor", sum := "9151de911640ae443ed02c478b7785cba89cd01498b560abf61868a9c40544be", func := "quadrille/quadrillekeep.DanceOrder", spec := "danceOrder", inPlace := ["internal/reflectlite.ValueOf", "(internal/reflectlite.Value).Type", "(internal/reflectlite.Value).IsNil", "internal/reflectlite.TypeOf", "(internal/reflectlite.Value).Elem", "(internal/reflectlite.Value).Set"], unfollowed := true, recurses := true, named := ["errors.errorType"], apart := false, laid := [("errors.errorType", laid_errors_errorType)], narrowed := true }
def DanceOrderUptoSaid : Prop := danceOrderUptoRow.holds Tryd.pinned (OpenSpec.upto danceOrderSpec)

/-- 'quadrillekeep.DanceEnds', WHERE WHAT IT READS IS OF BULK AT MOST 1048576: true; the input reads as it did. -/
def danceEndsUptoRow : OpenClaim := { program := "ytnhldphlkklfiaadoor", sum := "9151de911640ae443ed02c478b7785cba89cd01498b560abf61868a9c40544be", func := "quadrille/quadrillekeep.DanceEnds", spec := "danceEnds", inPlace := ["internal/reflectlite.ValueOf", "(internal/reflectlite.Value).Type", "(internal/reflectlite.Value).IsNil", "internal/reflectlite.TypeOf", "(internal/reflectlite.Value).Elem", "(internal/reflectlite.Value).Set"], unfollowed := true, recurses := true, named := ["errors.errorType"], apart := false, laid := [("errors.errorType", laid_errors_errorType)], narrowed := true }
def DanceEndsUptoSaid : Prop := danceEndsUptoRow.holds Tryd.pinned (OpenSpec.upto danceEndsSpec)

/-- 'quadrillekeep.DanceBound', WHERE WHAT IT READS IS OF BULK AT MOST 1048576: true; the input reads as it did. -/
def danceBoundUptoRow : OpenClaim := { program := "ytnhldphlkklfiaadoor", sum := "9151de911640ae443ed02c478b7785cba89cd01498b560abf61868a9c40544be", func := "quadrille/quadrillekeep.DanceBound", spec := "danceBound", inPlace := ["internal/reflectlite.ValueOf", "(internal/reflectlite.Value).Type", "(internal/reflectlite.Value).IsNil", "internal/reflectlite.TypeOf", "(internal/reflectlite.Value).Elem", "(internal/reflectlite.Value).Set"], unfollowed := true, recurses := true, named := ["errors.errorType"], apart := false, laid := [("errors.errorType", laid_errors_errorType)], narrowed := true }
def DanceBoundUptoSaid : Prop := danceBoundUptoRow.holds Tryd.pinned (OpenSpec.upto danceBoundSpec)

/-- 'quadrillekeep.DanceGoes', WHERE WHAT IT READS IS OF BULK AT MOST 1048576: true; the input reads as it did. -/
def danceGoesUptoRow : OpenClaim := { program := "ytnhldphlkklfiaadoor", sum := "9151de911640ae443ed02c478b7785cba89cd01498b560abf61868a9c40544be", func := "quadrille/quadrillekeep.DanceGoes", spec := "danceGoes", inPlace := ["internal/reflectlite.ValueOf", "(internal/reflectlite.Value).Type", "(internal/reflectlite.Value).IsNil", "internal/reflectlite.TypeOf", "(internal/reflectlite.Value).Elem", "(internal/reflectlite.Value).Set"], unfollowed := true, recurses := true, named := ["errors.errorType"], apart := false, laid := [("errors.errorType", laid_errors_errorType)], narrowed := true }
def DanceGoesUptoSaid : Prop := danceGoesUptoRow.holds Tryd.pinned (OpenSpec.upto danceGoesSpec)

/-- 'quadrillekeep.CentralCrowds', WHERE WHAT IT READS IS OF BULK AT MOST 1048576: true; the input reads as it did. -/
def centralCrowdsUptoRow : OpenClaim := { program := "ytnhldphlkklfiaadoor", sum := "9151de911640ae443ed02c478b7785cba89cd01498b560abf61868a9c40544be", func := "quadrille/quadrillekeep.CentralCrowds", spec := "centralCrowds", inPlace := ["internal/reflectlite.ValueOf", "(internal/reflectlite.Value).Type", "(internal/reflectlite.Value).IsNil", "internal/reflectlite.TypeOf", "(internal/reflectlite.Value).Elem", "(internal/reflectlite.Value).Set"], unfollowed := true, recurses := true, named := ["errors.errorType"], apart := false, laid := [("errors.errorType", laid_errors_errorType)], narrowed := true }
def CentralCrowdsUptoSaid : Prop := centralCrowdsUptoRow.holds Tryd.pinned (OpenSpec.upto centralCrowdsSpec)

/-- 'quadrillekeep.SpreadThin', WHERE WHAT IT READS IS OF BULK AT MOST 1048576: true; the input reads as it did. -/
def spreadThinUptoRow : OpenClaim := { program := "ytnhldphlkklfiaadoor", sum := "9151de911640ae443ed02c478b7785cba89cd01498b560abf61868a9c40544be", func := "quadrille/quadrillekeep.SpreadThin", spec := "spreadThin", inPlace := ["internal/reflectlite.ValueOf", "(internal/reflectlite.Value).Type", "(internal/reflectlite.Value).IsNil", "internal/reflectlite.TypeOf", "(internal/reflectlite.Value).Elem", "(internal/reflectlite.Value).Set"], unfollowed := true, recurses := true, named := ["errors.errorType"], apart := false, laid := [("errors.errorType", laid_errors_errorType)], narrowed := true }
def SpreadThinUptoSaid : Prop := spreadThinUptoRow.holds Tryd.pinned (OpenSpec.upto spreadThinSpec)

/-- 'quadrillekeep.DanceAlone', WHERE WHAT IT READS IS OF BULK AT MOST 1048576: true; the input reads as it did. -/
def danceAloneUptoRow : OpenClaim := { program := "ytnhldphlkklfiaadoor", sum := "9151de911640ae443ed02c478b7785cba89cd01498b560abf61868a9c40544be", func := "quadrille/quadrillekeep.DanceAlone", spec := "danceAlone", inPlace := ["internal/reflectlite.ValueOf", "(internal/reflectlite.Value).Type", "(internal/reflectlite.Value).IsNil", "internal/reflectlite.TypeOf", "(internal/reflectlite.Value).Elem", "(internal/reflectlite.Value).Set"], unfollowed := true, recurses := true, named := ["errors.errorType"], apart := false, laid := [("errors.errorType", laid_errors_errorType)], narrowed := true }
def DanceAloneUptoSaid : Prop := danceAloneUptoRow.holds Tryd.pinned (OpenSpec.upto danceAloneSpec)

/-- 'quadrillekeep.DanceSame', WHERE WHAT IT READS IS OF BULK AT MOST 1048576: true; the input reads as it did. -/
def danceSameUptoRow : OpenClaim := { program := "ytnhldphlkklfiaadoor", sum := "9151de911640ae443ed02c478b7785cba89cd01498b560abf61868a9c40544be", func := "quadrille/quadrillekeep.DanceSame", spec := "danceSame", inPlace := ["internal/reflectlite.ValueOf", "(internal/reflectlite.Value).Type", "(internal/reflectlite.Value).IsNil", "internal/reflectlite.TypeOf", "(internal/reflectlite.Value).Elem", "(internal/reflectlite.Value).Set"], unfollowed := true, recurses := true, named := ["errors.errorType"], apart := false, laid := [("errors.errorType", laid_errors_errorType)], narrowed := true }
def DanceSameUptoSaid : Prop := danceSameUptoRow.holds Tryd.pinned (OpenSpec.upto danceSameSpec)

/-- 'quadrillekeep.ScriptPieces', WHERE WHAT IT READS IS OF BULK AT MOST 1048576: true; the input reads as it did. -/
def scriptPiecesUptoRow : OpenClaim := { program := "ytnhldphlkklfiaadoor", sum := "9151de911640ae443ed02c478b7785cba89cd01498b560abf61868a9c40544be", func := "quadrille/quadrillekeep.ScriptPieces", spec := "scriptPieces", inPlace := ["internal/reflectlite.ValueOf", "(internal/reflectlite.Value).Type", "(internal/reflectlite.Value).IsNil", "internal/reflectlite.TypeOf", "(internal/reflectlite.Value).Elem", "(internal/reflectlite.Value).Set"], unfollowed := true, recurses := true, named := ["errors.errorType"], apart := false, laid := [("errors.errorType", laid_errors_errorType)], narrowed := true }
def ScriptPiecesUptoSaid : Prop := scriptPiecesUptoRow.holds Tryd.pinned (OpenSpec.upto scriptPiecesSpec)

end Rows
end Go.Proofs.YtnhldphlkklfiaaDoor
