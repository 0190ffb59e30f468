/-
  No cell of these rows narrows 'for every input' (looked for: loops, veiled, ifaces, maps, wideKeys, modest, calm, conditions, laid).
  DERIVED. THE GIVEN ROWS OF THIS SEAT. 12 by the template 'for every input the law returns true; each argument reads behind the call as it read before'; 0 by the template 'total and deterministic' (their statements: YtgmflgcifhaeiaaTotals.lean).
  GIVEN WITH THE SEED: the statements are not yours to turn. If you find one false, say at which input.
  Laid BY PROGRAM, IN A SANDBOX (cutbox-rows.mjs): the forced cells as the released guide's own fill.sh prints them over the translation f7a90ce63cca762b… (all of the seat's roots in one cut). By AI agents, Wed Nov 11 2026. No macro, syntax, notation, axiom, sorry.
-/
import Derived.Test.YtgmflgcifhaeiaaChecked
import GoSem.Claim
import GoSem.ClaimJoined
import GoSem.ClaimMapViews
import Derived.JoinedTies
import Derived.KernelRfl
namespace Go.Proofs.Ytgmflgcifhaeiaa
/- THE CELL 'sum', in the pinned program and in every row, IS THE sha256 OF THE DUMP (.gsa) THAT YtgmflgcifhaeiaaProg.lean LOADS. Nothing in Lean hashes anything: it is a label: what it is worth is what the hold of that sum in a sandbox is worth. -/
noncomputable def Try.pinned : Pinned := { name := "ytgmflgcifhaeiaa", sum := "f7a90ce63cca762b768183b78ce126f06d3392a1ea4aa7d7d7e54207af83b526", checked := Try.checked }
namespace Rows
def none {H : Type} : Left H := { results := [], args := [] }

/-- 'quadrillekeep.PackedBack': WHATEVER THE INPUT: true; the input reads as it did. -/
def packedBackSpec : ChangeSpec := { name := "packedBack", fn := fun _ => fun
  | [d1, d2] => { results := [.lit (.bool true)], args := [d1, d2] }
  | _ => none }
def packedBackRow : OpenClaim := { program := "ytgmflgcifhaeiaa", sum := "f7a90ce63cca762b768183b78ce126f06d3392a1ea4aa7d7d7e54207af83b526", func := "quadrille/quadrillekeep.PackedBack", spec := "packedBack", apart := false }
def PackedBackSaid : Prop := packedBackRow.holds Try.pinned (OpenSpec.ofChange packedBackSpec)

/-- ITS FALSE NEIGHBOUR: 'it returns false'. Refute it at one input. -/
def packedBackWrong : ChangeSpec := { name := "packedBack", fn := fun _ => fun
  | [d1, d2] => { results := [.lit (.bool false)], args := [d1, d2] }
  | _ => none }
def PackedBackWrongFalsely : Prop := packedBackRow.holds Try.pinned (OpenSpec.ofChange packedBackWrong)

/-- 'quadrillekeep.PackedOrder': WHATEVER THE INPUT: true; the input reads as it did. -/
def packedOrderSpec : ChangeSpec := { name := "packedOrder", fn := fun _ => fun
  | [d1, d2] => { results := [.lit (.bool true)], args := [d1, d2] }
  | _ => none }
def packedOrderRow : OpenClaim := { program := "ytgmflgcifhaeiaa", sum := "f7a90ce63cca762b768183b78ce126f06d3392a1ea4aa7d7d7e54207af83b526", func := "quadrille/quadrillekeep.PackedOrder", spec := "packedOrder", apart := false }
def PackedOrderSaid : Prop := packedOrderRow.holds Try.pinned (OpenSpec.ofChange packedOrderSpec)

/-- ITS FALSE NEIGHBOUR: 'it returns false'. Refute it at one input. -/
def packedOrderWrong : ChangeSpec := { name := "packedOrder", fn := fun _ => fun
  | [d1, d2] => { results := [.lit (.bool false)], args := [d1, d2] }
  | _ => none }
def PackedOrderWrongFalsely : Prop := packedOrderRow.holds Try.pinned (OpenSpec.ofChange packedOrderWrong)

/-- 'quadrillekeep.PackedParts': WHATEVER THE INPUT: true; the input reads as it did. -/
def packedPartsSpec : ChangeSpec := { name := "packedParts", fn := fun _ => fun
  | [d] => { results := [.lit (.bool true)], args := [d] }
  | _ => none }
def packedPartsRow : OpenClaim := { program := "ytgmflgcifhaeiaa", sum := "f7a90ce63cca762b768183b78ce126f06d3392a1ea4aa7d7d7e54207af83b526", func := "quadrille/quadrillekeep.PackedParts", spec := "packedParts", apart := false }
def PackedPartsSaid : Prop := packedPartsRow.holds Try.pinned (OpenSpec.ofChange packedPartsSpec)

/-- ITS FALSE NEIGHBOUR: 'it returns false'. Refute it at one input. -/
def packedPartsWrong : ChangeSpec := { name := "packedParts", fn := fun _ => fun
  | [d] => { results := [.lit (.bool false)], args := [d] }
  | _ => none }
def PackedPartsWrongFalsely : Prop := packedPartsRow.holds Try.pinned (OpenSpec.ofChange packedPartsWrong)

/-- 'quadrillekeep.PartLevels': WHATEVER THE INPUT: true; the input reads as it did. -/
def partLevelsSpec : ChangeSpec := { name := "partLevels", fn := fun _ => fun
  | [d1, d2] => { results := [.lit (.bool true)], args := [d1, d2] }
  | _ => none }
def partLevelsRow : OpenClaim := { program := "ytgmflgcifhaeiaa", sum := "f7a90ce63cca762b768183b78ce126f06d3392a1ea4aa7d7d7e54207af83b526", func := "quadrille/quadrillekeep.PartLevels", spec := "partLevels", apart := false }
def PartLevelsSaid : Prop := partLevelsRow.holds Try.pinned (OpenSpec.ofChange partLevelsSpec)

/-- ITS FALSE NEIGHBOUR: 'it returns false'. Refute it at one input. -/
def partLevelsWrong : ChangeSpec := { name := "partLevels", fn := fun _ => fun
  | [d1, d2] => { results := [.lit (.bool false)], args := [d1, d2] }
  | _ => none }
def PartLevelsWrongFalsely : Prop := partLevelsRow.holds Try.pinned (OpenSpec.ofChange partLevelsWrong)

/-- 'quadrillekeep.FairMore': WHATEVER THE INPUT: true; the input reads as it did. -/
def fairMoreSpec : ChangeSpec := { name := "fairMore", fn := fun _ => fun
  | [d1, d2, d3, d4, d5, d6] => { results := [.lit (.bool true)], args := [d1, d2, d3, d4, d5, d6] }
  | _ => none }
def fairMoreRow : OpenClaim := { program := "ytgmflgcifhaeiaa", sum := "f7a90ce63cca762b768183b78ce126f06d3392a1ea4aa7d7d7e54207af83b526", func := "quadrille/quadrillekeep.FairMore", spec := "fairMore", apart := false }
def FairMoreSaid : Prop := fairMoreRow.holds Try.pinned (OpenSpec.ofChange fairMoreSpec)

/-- ITS FALSE NEIGHBOUR: 'it returns false'. Refute it at one input. -/
def fairMoreWrong : ChangeSpec := { name := "fairMore", fn := fun _ => fun
  | [d1, d2, d3, d4, d5, d6] => { results := [.lit (.bool false)], args := [d1, d2, d3, d4, d5, d6] }
  | _ => none }
def FairMoreWrongFalsely : Prop := fairMoreRow.holds Try.pinned (OpenSpec.ofChange fairMoreWrong)

/-- 'quadrillekeep.FairRounds': WHATEVER THE INPUT: true; the input reads as it did. -/
def fairRoundsSpec : ChangeSpec := { name := "fairRounds", fn := fun _ => fun
  | [d1, d2, d3] => { results := [.lit (.bool true)], args := [d1, d2, d3] }
  | _ => none }
def fairRoundsRow : OpenClaim := { program := "ytgmflgcifhaeiaa", sum := "f7a90ce63cca762b768183b78ce126f06d3392a1ea4aa7d7d7e54207af83b526", func := "quadrille/quadrillekeep.FairRounds", spec := "fairRounds", apart := false }
def FairRoundsSaid : Prop := fairRoundsRow.holds Try.pinned (OpenSpec.ofChange fairRoundsSpec)

/-- ITS FALSE NEIGHBOUR: 'it returns false'. Refute it at one input. -/
def fairRoundsWrong : ChangeSpec := { name := "fairRounds", fn := fun _ => fun
  | [d1, d2, d3] => { results := [.lit (.bool false)], args := [d1, d2, d3] }
  | _ => none }
def FairRoundsWrongFalsely : Prop := fairRoundsRow.holds Try.pinned (OpenSpec.ofChange fairRoundsWrong)

/-- 'quadrillekeep.ScriptBack': WHATEVER THE INPUT: true; the input reads as it did. -/
def scriptBackSpec : ChangeSpec := { name := "scriptBack", fn := fun _ => fun
  | [d1, d2] => { results := [.lit (.bool true)], args := [d1, d2] }
  | _ => none }
def scriptBackRow : OpenClaim := { program := "ytgmflgcifhaeiaa", sum := "f7a90ce63cca762b768183b78ce126f06d3392a1ea4aa7d7d7e54207af83b526", func := "quadrille/quadrillekeep.ScriptBack", spec := "scriptBack", unfollowed := true, recurses := true, apart := false }
def ScriptBackSaid : Prop := scriptBackRow.holds Try.pinned (OpenSpec.ofChange scriptBackSpec)

/-- ITS FALSE NEIGHBOUR: 'it returns false'. Refute it at one input. -/
def scriptBackWrong : ChangeSpec := { name := "scriptBack", fn := fun _ => fun
  | [d1, d2] => { results := [.lit (.bool false)], args := [d1, d2] }
  | _ => none }
def ScriptBackWrongFalsely : Prop := scriptBackRow.holds Try.pinned (OpenSpec.ofChange scriptBackWrong)

/-- 'quadrillekeep.MemLast': WHATEVER THE INPUT: true; the input reads as it did. -/
def memLastSpec : ChangeSpec := { name := "memLast", fn := fun _ => fun
  | [d1, d2, d3, d4, d5] => { results := [.lit (.bool true)], args := [d1, d2, d3, d4, d5] }
  | _ => none }
def memLastRow : OpenClaim := { program := "ytgmflgcifhaeiaa", sum := "f7a90ce63cca762b768183b78ce126f06d3392a1ea4aa7d7d7e54207af83b526", func := "quadrille/quadrillekeep.MemLast", spec := "memLast", apart := false }
def MemLastSaid : Prop := memLastRow.holds Try.pinned (OpenSpec.ofChange memLastSpec)

/-- ITS FALSE NEIGHBOUR: 'it returns false'. Refute it at one input. -/
def memLastWrong : ChangeSpec := { name := "memLast", fn := fun _ => fun
  | [d1, d2, d3, d4, d5] => { results := [.lit (.bool false)], args := [d1, d2, d3, d4, d5] }
  | _ => none }
def MemLastWrongFalsely : Prop := memLastRow.holds Try.pinned (OpenSpec.ofChange memLastWrong)

/-- 'quadrillekeep.MemSwaps': WHATEVER THE INPUT: true; the input reads as it did. -/
def memSwapsSpec : ChangeSpec := { name := "memSwaps", fn := fun _ => fun
  | [d1, d2, d3, d4] => { results := [.lit (.bool true)], args := [d1, d2, d3, d4] }
  | _ => none }
def memSwapsRow : OpenClaim := { program := "ytgmflgcifhaeiaa", sum := "f7a90ce63cca762b768183b78ce126f06d3392a1ea4aa7d7d7e54207af83b526", func := "quadrille/quadrillekeep.MemSwaps", spec := "memSwaps", apart := false }
def MemSwapsSaid : Prop := memSwapsRow.holds Try.pinned (OpenSpec.ofChange memSwapsSpec)

/-- ITS FALSE NEIGHBOUR: 'it returns false'. Refute it at one input. -/
def memSwapsWrong : ChangeSpec := { name := "memSwaps", fn := fun _ => fun
  | [d1, d2, d3, d4] => { results := [.lit (.bool false)], args := [d1, d2, d3, d4] }
  | _ => none }
def MemSwapsWrongFalsely : Prop := memSwapsRow.holds Try.pinned (OpenSpec.ofChange memSwapsWrong)

/-- 'quadrillekeep.MemSums': WHATEVER THE INPUT: true; the input reads as it did. -/
def memSumsSpec : ChangeSpec := { name := "memSums", fn := fun _ => fun
  | [d1, d2, d3] => { results := [.lit (.bool true)], args := [d1, d2, d3] }
  | _ => none }
def memSumsRow : OpenClaim := { program := "ytgmflgcifhaeiaa", sum := "f7a90ce63cca762b768183b78ce126f06d3392a1ea4aa7d7d7e54207af83b526", func := "quadrille/quadrillekeep.MemSums", spec := "memSums", apart := false }
def MemSumsSaid : Prop := memSumsRow.holds Try.pinned (OpenSpec.ofChange memSumsSpec)

/-- ITS FALSE NEIGHBOUR: 'it returns false'. Refute it at one input. -/
def memSumsWrong : ChangeSpec := { name := "memSums", fn := fun _ => fun
  | [d1, d2, d3] => { results := [.lit (.bool false)], args := [d1, d2, d3] }
  | _ => none }
def MemSumsWrongFalsely : Prop := memSumsRow.holds Try.pinned (OpenSpec.ofChange memSumsWrong)

/-- 'quadrillekeep.MemApart': WHATEVER THE INPUT: true; the input reads as it did. -/
def memApartSpec : ChangeSpec := { name := "memApart", fn := fun _ => fun
  | [d1, d2, d3] => { results := [.lit (.bool true)], args := [d1, d2, d3] }
  | _ => none }
def memApartRow : OpenClaim := { program := "ytgmflgcifhaeiaa", sum := "f7a90ce63cca762b768183b78ce126f06d3392a1ea4aa7d7d7e54207af83b526", func := "quadrille/quadrillekeep.MemApart", spec := "memApart", apart := false }
def MemApartSaid : Prop := memApartRow.holds Try.pinned (OpenSpec.ofChange memApartSpec)

/-- ITS FALSE NEIGHBOUR: 'it returns false'. Refute it at one input. -/
def memApartWrong : ChangeSpec := { name := "memApart", fn := fun _ => fun
  | [d1, d2, d3] => { results := [.lit (.bool false)], args := [d1, d2, d3] }
  | _ => none }
def MemApartWrongFalsely : Prop := memApartRow.holds Try.pinned (OpenSpec.ofChange memApartWrong)

/-- 'quadrillekeep.FairStarves': WHATEVER THE INPUT: true; the input reads as it did. -/
def fairStarvesSpec : ChangeSpec := { name := "fairStarves", fn := fun _ => fun
  | [d1, d2, d3] => { results := [.lit (.bool true)], args := [d1, d2, d3] }
  | _ => none }
def fairStarvesRow : OpenClaim := { program := "ytgmflgcifhaeiaa", sum := "f7a90ce63cca762b768183b78ce126f06d3392a1ea4aa7d7d7e54207af83b526", func := "quadrille/quadrillekeep.FairStarves", spec := "fairStarves", unfollowed := true, recurses := true, apart := false }
def FairStarvesSaid : Prop := fairStarvesRow.holds Try.pinned (OpenSpec.ofChange fairStarvesSpec)

/-- ITS FALSE NEIGHBOUR: 'it returns false'. Refute it at one input. -/
def fairStarvesWrong : ChangeSpec := { name := "fairStarves", fn := fun _ => fun
  | [d1, d2, d3] => { results := [.lit (.bool false)], args := [d1, d2, d3] }
  | _ => none }
def FairStarvesWrongFalsely : Prop := fairStarvesRow.holds Try.pinned (OpenSpec.ofChange fairStarvesWrong)

/- THE SECOND FORM. 'bulk': how many values and letters a reading holds, each counted each time it is reached (what is shared counts as often as it is met; a slice's spare places count too). A statement '..UptoSaid' is the law's where the arguments, and the package variables that the reading takes, are together of bulk at most 1048576: NARROWER than '..Said'. Prove '..Said' where nothing that the law and all that it calls make is longer than what came in: it says more and counts as full. Else prove '..UptoSaid'. A law counts once. -/
mutual
def uptoBulk {H : Type} : DataW H → Nat
  | .lit (.string bytes) => bytes.length + 1
  | .lit _ => 1
  | .nil => 1
  | .ptr d => uptoBulk d + 1
  | .slice elems spare => uptoBulkAll elems + uptoBulkAll spare + 1
  | .agg parts => uptoBulkAll parts + 1
  | .iface _ d => uptoBulk d + 1
  | .map entries => uptoBulkEntries entries + 1
  | .held _ => 1
def uptoBulkAll {H : Type} : List (DataW H) → Nat
  | [] => 0
  | d :: r => uptoBulk d + uptoBulkAll r
def uptoBulkEntries {H : Type} : List (Lit × DataW H) → Nat
  | [] => 0
  | x :: r => uptoBulkEntry x + uptoBulkEntries r
def uptoBulkEntry {H : Type} : Lit × DataW H → Nat
  | (.string bytes, d) => bytes.length + uptoBulk d + 1
  | (_, d) => uptoBulk d + 1
 end
def uptoSmall : (H : Type) → List (DataW H) → Bool := fun _ ds => decide (uptoBulkAll ds ≤ 1048576)
def OpenSpec.upto (s : _root_.Go.ChangeSpec) : _root_.Go.OpenSpec := { _root_.Go.OpenSpec.ofChange s with cond := some uptoSmall }

/-- 'quadrillekeep.PackedBack', WHERE WHAT IT READS IS OF BULK AT MOST 1048576: true; the input reads as it did. -/
def packedBackUptoRow : OpenClaim := { program := "ytgmflgcifhaeiaa", sum := "f7a90ce63cca762b768183b78ce126f06d3392a1ea4aa7d7d7e54207af83b526", func := "quadrille/quadrillekeep.PackedBack", spec := "packedBack", apart := false, narrowed := true }
def PackedBackUptoSaid : Prop := packedBackUptoRow.holds Try.pinned (OpenSpec.upto packedBackSpec)

/-- 'quadrillekeep.PackedOrder', WHERE WHAT IT READS IS OF BULK AT MOST 1048576: true; the input reads as it did. -/
def packedOrderUptoRow : OpenClaim := { program := "ytgmflgcifhaeiaa", sum := "f7a90ce63cca762b768183b78ce126f06d3392a1ea4aa7d7d7e54207af83b526", func := "quadrille/quadrillekeep.PackedOrder", spec := "packedOrder", apart := false, narrowed := true }
def PackedOrderUptoSaid : Prop := packedOrderUptoRow.holds Try.pinned (OpenSpec.upto packedOrderSpec)

/-- 'quadrillekeep.PackedParts', WHERE WHAT IT READS IS OF BULK AT MOST 1048576: true; the input reads as it did. -/
def packedPartsUptoRow : OpenClaim := { program := "ytgmflgcifhaeiaa", sum := "f7a90ce63cca762b768183b78ce126f06d3392a1ea4aa7d7d7e54207af83b526", func := "quadrille/quadrillekeep.PackedParts", spec := "packedParts", apart := false, narrowed := true }
def PackedPartsUptoSaid : Prop := packedPartsUptoRow.holds Try.pinned (OpenSpec.upto packedPartsSpec)

/-- 'quadrillekeep.PartLevels', WHERE WHAT IT READS IS OF BULK AT MOST 1048576: true; the input reads as it did. -/
def partLevelsUptoRow : OpenClaim := { program := "ytgmflgcifhaeiaa", sum := "f7a90ce63cca762b768183b78ce126f06d3392a1ea4aa7d7d7e54207af83b526", func := "quadrille/quadrillekeep.PartLevels", spec := "partLevels", apart := false, narrowed := true }
def PartLevelsUptoSaid : Prop := partLevelsUptoRow.holds Try.pinned (OpenSpec.upto partLevelsSpec)

/-- 'quadrillekeep.FairMore', WHERE WHAT IT READS IS OF BULK AT MOST 1048576: true; the input reads as it did. -/
def fairMoreUptoRow : OpenClaim := { program := "ytgmflgcifhaeiaa", sum := "f7a90ce63cca762b768183b78ce126f06d3392a1ea4aa7d7d7e54207af83b526", func := "quadrille/quadrillekeep.FairMore", spec := "fairMore", apart := false, narrowed := true }
def FairMoreUptoSaid : Prop := fairMoreUptoRow.holds Try.pinned (OpenSpec.upto fairMoreSpec)

/-- 'quadrillekeep.FairRounds', WHERE WHAT IT READS IS OF BULK AT MOST 1048576: true; the input reads as it did. -/
def fairRoundsUptoRow : OpenClaim := { program := "ytgmflgcifhaeiaa", sum := "f7a90ce63cca762b768183b78ce126f06d3392a1ea4aa7d7d7e54207af83b526", func := "quadrille/quadrillekeep.FairRounds", spec := "fairRounds", apart := false, narrowed := true }
def FairRoundsUptoSaid : Prop := fairRoundsUptoRow.holds Try.pinned (OpenSpec.upto fairRoundsSpec)

/-- 'quadrillekeep.ScriptBack', WHERE WHAT IT READS IS OF BULK AT MOST 1048576: true; the input reads as it did. -/
def scriptBackUptoRow : OpenClaim := { program := "ytgmflgcifhaeiaa", sum := "f7a90ce63cca762b768183b78ce126f06d3392a1ea4aa7d7d7e54207af83b526", func := "quadrille/quadrillekeep.ScriptBack", spec := "scriptBack", unfollowed := true, recurses := true, apart := false, narrowed := true }
def ScriptBackUptoSaid : Prop := scriptBackUptoRow.holds Try.pinned (OpenSpec.upto scriptBackSpec)

/-- 'quadrillekeep.MemLast', WHERE WHAT IT READS IS OF BULK AT MOST 1048576: true; the input reads as it did. -/
def memLastUptoRow : OpenClaim := { program := "ytgmflgcifhaeiaa", sum := "f7a90ce63cca762b768183b78ce126f06d3392a1ea4aa7d7d7e54207af83b526", func := "quadrille/quadrillekeep.MemLast", spec := "memLast", apart := false, narrowed := true }
def MemLastUptoSaid : Prop := memLastUptoRow.holds Try.pinned (OpenSpec.upto memLastSpec)

/-- 'quadrillekeep.MemSwaps', WHERE WHAT IT READS IS OF BULK AT MOST 1048576: true; the input reads as it did. -/
def memSwapsUptoRow : OpenClaim := { program := "ytgmflgcifhaeiaa", sum := "f7a90ce63cca762b768183b78ce126f06d3392a1ea4aa7d7d7e54207af83b526", func := "quadrille/quadrillekeep.MemSwaps", spec := "memSwaps", apart := false, narrowed := true }
def MemSwapsUptoSaid : Prop := memSwapsUptoRow.holds Try.pinned (OpenSpec.upto memSwapsSpec)

/-- 'quadrillekeep.MemSums', WHERE WHAT IT READS IS OF BULK AT MOST 1048576: true; the input reads as it did. -/
def memSumsUptoRow : OpenClaim := { program := "ytgmflgcifhaeiaa", sum := "f7a90ce63cca762b768183b78ce126f06d3392a1ea4aa7d7d7e54207af83b526", func := "quadrille/quadrillekeep.MemSums", spec := "memSums", apart := false, narrowed := true }
def MemSumsUptoSaid : Prop := memSumsUptoRow.holds Try.pinned (OpenSpec.upto memSumsSpec)

/-- 'quadrillekeep.MemApart', WHERE WHAT IT READS IS OF BULK AT MOST 1048576: true; the input reads as it did. -/
def memApartUptoRow : OpenClaim := { program := "ytgmflgcifhaeiaa", sum := "f7a90ce63cca762b768183b78ce126f06d3392a1ea4aa7d7d7e54207af83b526", func := "quadrille/quadrillekeep.MemApart", spec := "memApart", apart := false, narrowed := true }
def MemApartUptoSaid : Prop := memApartUptoRow.holds Try.pinned (OpenSpec.upto memApartSpec)

/-- 'quadrillekeep.FairStarves', WHERE WHAT IT READS IS OF BULK AT MOST 1048576: true; the input reads as it did. -/
def fairStarvesUptoRow : OpenClaim := { program := "ytgmflgcifhaeiaa", sum := "f7a90ce63cca762b768183b78ce126f06d3392a1ea4aa7d7d7e54207af83b526", func := "quadrille/quadrillekeep.FairStarves", spec := "fairStarves", unfollowed := true, recurses := true, apart := false, narrowed := true }
def FairStarvesUptoSaid : Prop := fairStarvesUptoRow.holds Try.pinned (OpenSpec.upto fairStarvesSpec)

end Rows
end Go.Proofs.Ytgmflgcifhaeiaa
