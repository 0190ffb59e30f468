/-
  No cell of these rows narrows 'for every input' (looked for: loops, veiled, ifaces, maps, wideKeys, modest, calm, conditions, laid).
  DERIVED. THE GIVEN ROWS OF THIS SEAT. 11 by the template 'for every input the law returns true; each argument reads behind the call as it read before'; 0 by the template 'total and deterministic' (their statements: YteblgbclhaajpaaTotals.lean).
  GIVEN WITH THE SEED: the statements are not yours to turn. If you find one false, say at which input.
  Laid BY PROGRAM, IN A SANDBOX (cutbox-rows.mjs): the forced cells as the released guide's own fill.sh prints them over the translation 0781e40bc68afc41… (all of the seat's roots in one cut). By AI agents, Wed Nov 11 2026. No macro, syntax, notation, axiom, sorry.
-/
import Derived.Test.YteblgbclhaajpaaChecked
import GoSem.Claim
import GoSem.ClaimJoined
import GoSem.ClaimMapViews
import Derived.JoinedTies
import Derived.KernelRfl
namespace Go.Proofs.Yteblgbclhaajpaa
/- THE CELL 'sum', in the pinned program and in every row, IS THE sha256 OF THE DUMP (.gsa) THAT YteblgbclhaajpaaProg.lean LOADS. Nothing in Lean hashes anything: it is a label: what it is worth is what the hold of that sum in a sandbox is worth. -/
noncomputable def Try.pinned : Pinned := { name := "yteblgbclhaajpaa", sum := "0781e40bc68afc411507105c7005b7a7f07672038d3685a1b235b28bb35484a6", checked := Try.checked }
namespace Rows
def none {H : Type} : Left H := { results := [], args := [] }

/-- 'quadrillekeep.PhaserStays': WHATEVER THE INPUT: true; the input reads as it did. -/
def phaserStaysSpec : ChangeSpec := { name := "phaserStays", fn := fun _ => fun
  | [d1, d2] => { results := [.lit (.bool true)], args := [d1, d2] }
  | _ => none }
def phaserStaysRow : OpenClaim := { program := "yteblgbclhaajpaa", sum := "0781e40bc68afc411507105c7005b7a7f07672038d3685a1b235b28bb35484a6", func := "quadrille/quadrillekeep.PhaserStays", spec := "phaserStays", plainKeys := false, apart := false }
def PhaserStaysSaid : Prop := phaserStaysRow.holds Try.pinned (OpenSpec.ofChange phaserStaysSpec)

/-- ITS FALSE NEIGHBOUR: 'it returns false'. Refute it at one input. -/
def phaserStaysWrong : ChangeSpec := { name := "phaserStays", fn := fun _ => fun
  | [d1, d2] => { results := [.lit (.bool false)], args := [d1, d2] }
  | _ => none }
def PhaserStaysWrongFalsely : Prop := phaserStaysRow.holds Try.pinned (OpenSpec.ofChange phaserStaysWrong)

/-- 'quadrillekeep.PhaserTurns': WHATEVER THE INPUT: true; the input reads as it did. -/
def phaserTurnsSpec : ChangeSpec := { name := "phaserTurns", fn := fun _ => fun
  | [d1, d2] => { results := [.lit (.bool true)], args := [d1, d2] }
  | _ => none }
def phaserTurnsRow : OpenClaim := { program := "yteblgbclhaajpaa", sum := "0781e40bc68afc411507105c7005b7a7f07672038d3685a1b235b28bb35484a6", func := "quadrille/quadrillekeep.PhaserTurns", spec := "phaserTurns", plainKeys := false, apart := false }
def PhaserTurnsSaid : Prop := phaserTurnsRow.holds Try.pinned (OpenSpec.ofChange phaserTurnsSpec)

/-- ITS FALSE NEIGHBOUR: 'it returns false'. Refute it at one input. -/
def phaserTurnsWrong : ChangeSpec := { name := "phaserTurns", fn := fun _ => fun
  | [d1, d2] => { results := [.lit (.bool false)], args := [d1, d2] }
  | _ => none }
def PhaserTurnsWrongFalsely : Prop := phaserTurnsRow.holds Try.pinned (OpenSpec.ofChange phaserTurnsWrong)

/-- 'quadrillekeep.PhaserLeaves': WHATEVER THE INPUT: true; the input reads as it did. -/
def phaserLeavesSpec : ChangeSpec := { name := "phaserLeaves", fn := fun _ => fun
  | [d] => { results := [.lit (.bool true)], args := [d] }
  | _ => none }
def phaserLeavesRow : OpenClaim := { program := "yteblgbclhaajpaa", sum := "0781e40bc68afc411507105c7005b7a7f07672038d3685a1b235b28bb35484a6", func := "quadrille/quadrillekeep.PhaserLeaves", spec := "phaserLeaves", plainKeys := false, apart := false }
def PhaserLeavesSaid : Prop := phaserLeavesRow.holds Try.pinned (OpenSpec.ofChange phaserLeavesSpec)

/-- ITS FALSE NEIGHBOUR: 'it returns false'. Refute it at one input. -/
def phaserLeavesWrong : ChangeSpec := { name := "phaserLeaves", fn := fun _ => fun
  | [d] => { results := [.lit (.bool false)], args := [d] }
  | _ => none }
def PhaserLeavesWrongFalsely : Prop := phaserLeavesRow.holds Try.pinned (OpenSpec.ofChange phaserLeavesWrong)

/-- 'quadrillekeep.PhaserComes': WHATEVER THE INPUT: true; the input reads as it did. -/
def phaserComesSpec : ChangeSpec := { name := "phaserComes", fn := fun _ => fun
  | [d1, d2] => { results := [.lit (.bool true)], args := [d1, d2] }
  | _ => none }
def phaserComesRow : OpenClaim := { program := "yteblgbclhaajpaa", sum := "0781e40bc68afc411507105c7005b7a7f07672038d3685a1b235b28bb35484a6", func := "quadrille/quadrillekeep.PhaserComes", spec := "phaserComes", plainKeys := false, apart := false }
def PhaserComesSaid : Prop := phaserComesRow.holds Try.pinned (OpenSpec.ofChange phaserComesSpec)

/-- ITS FALSE NEIGHBOUR: 'it returns false'. Refute it at one input. -/
def phaserComesWrong : ChangeSpec := { name := "phaserComes", fn := fun _ => fun
  | [d1, d2] => { results := [.lit (.bool false)], args := [d1, d2] }
  | _ => none }
def PhaserComesWrongFalsely : Prop := phaserComesRow.holds Try.pinned (OpenSpec.ofChange phaserComesWrong)

/-- 'quadrillekeep.PhaserSwaps': WHATEVER THE INPUT: true; the input reads as it did. -/
def phaserSwapsSpec : ChangeSpec := { name := "phaserSwaps", fn := fun _ => fun
  | [d1, d2, d3] => { results := [.lit (.bool true)], args := [d1, d2, d3] }
  | _ => none }
def phaserSwapsRow : OpenClaim := { program := "yteblgbclhaajpaa", sum := "0781e40bc68afc411507105c7005b7a7f07672038d3685a1b235b28bb35484a6", func := "quadrille/quadrillekeep.PhaserSwaps", spec := "phaserSwaps", plainKeys := false, apart := false }
def PhaserSwapsSaid : Prop := phaserSwapsRow.holds Try.pinned (OpenSpec.ofChange phaserSwapsSpec)

/-- ITS FALSE NEIGHBOUR: 'it returns false'. Refute it at one input. -/
def phaserSwapsWrong : ChangeSpec := { name := "phaserSwaps", fn := fun _ => fun
  | [d1, d2, d3] => { results := [.lit (.bool false)], args := [d1, d2, d3] }
  | _ => none }
def PhaserSwapsWrongFalsely : Prop := phaserSwapsRow.holds Try.pinned (OpenSpec.ofChange phaserSwapsWrong)

/-- 'quadrillekeep.PhaserParts': WHATEVER THE INPUT: true; the input reads as it did. -/
def phaserPartsSpec : ChangeSpec := { name := "phaserParts", fn := fun _ => fun
  | [d1, d2, d3, d4] => { results := [.lit (.bool true)], args := [d1, d2, d3, d4] }
  | _ => none }
def phaserPartsRow : OpenClaim := { program := "yteblgbclhaajpaa", sum := "0781e40bc68afc411507105c7005b7a7f07672038d3685a1b235b28bb35484a6", func := "quadrille/quadrillekeep.PhaserParts", spec := "phaserParts", plainKeys := false, apart := false }
def PhaserPartsSaid : Prop := phaserPartsRow.holds Try.pinned (OpenSpec.ofChange phaserPartsSpec)

/-- ITS FALSE NEIGHBOUR: 'it returns false'. Refute it at one input. -/
def phaserPartsWrong : ChangeSpec := { name := "phaserParts", fn := fun _ => fun
  | [d1, d2, d3, d4] => { results := [.lit (.bool false)], args := [d1, d2, d3, d4] }
  | _ => none }
def PhaserPartsWrongFalsely : Prop := phaserPartsRow.holds Try.pinned (OpenSpec.ofChange phaserPartsWrong)

/-- 'quadrillekeep.ParkApart': WHATEVER THE INPUT: true; the input reads as it did. -/
def parkApartSpec : ChangeSpec := { name := "parkApart", fn := fun _ => fun
  | [d1, d2, d3, d4] => { results := [.lit (.bool true)], args := [d1, d2, d3, d4] }
  | _ => none }
def parkApartRow : OpenClaim := { program := "yteblgbclhaajpaa", sum := "0781e40bc68afc411507105c7005b7a7f07672038d3685a1b235b28bb35484a6", func := "quadrille/quadrillekeep.ParkApart", spec := "parkApart", unfollowed := true, recurses := true, plainKeys := false, apart := false }
def ParkApartSaid : Prop := parkApartRow.holds Try.pinned (OpenSpec.ofChange parkApartSpec)

/-- ITS FALSE NEIGHBOUR: 'it returns false'. Refute it at one input. -/
def parkApartWrong : ChangeSpec := { name := "parkApart", fn := fun _ => fun
  | [d1, d2, d3, d4] => { results := [.lit (.bool false)], args := [d1, d2, d3, d4] }
  | _ => none }
def ParkApartWrongFalsely : Prop := parkApartRow.holds Try.pinned (OpenSpec.ofChange parkApartWrong)

/-- 'quadrillekeep.ParkFirst': WHATEVER THE INPUT: true; the input reads as it did. -/
def parkFirstSpec : ChangeSpec := { name := "parkFirst", fn := fun _ => fun
  | [d1, d2, d3] => { results := [.lit (.bool true)], args := [d1, d2, d3] }
  | _ => none }
def parkFirstRow : OpenClaim := { program := "yteblgbclhaajpaa", sum := "0781e40bc68afc411507105c7005b7a7f07672038d3685a1b235b28bb35484a6", func := "quadrille/quadrillekeep.ParkFirst", spec := "parkFirst", unfollowed := true, recurses := true, plainKeys := false, apart := false }
def ParkFirstSaid : Prop := parkFirstRow.holds Try.pinned (OpenSpec.ofChange parkFirstSpec)

/-- ITS FALSE NEIGHBOUR: 'it returns false'. Refute it at one input. -/
def parkFirstWrong : ChangeSpec := { name := "parkFirst", fn := fun _ => fun
  | [d1, d2, d3] => { results := [.lit (.bool false)], args := [d1, d2, d3] }
  | _ => none }
def ParkFirstWrongFalsely : Prop := parkFirstRow.holds Try.pinned (OpenSpec.ofChange parkFirstWrong)

/-- 'quadrillekeep.ParkPokes': WHATEVER THE INPUT: true; the input reads as it did. -/
def parkPokesSpec : ChangeSpec := { name := "parkPokes", fn := fun _ => fun
  | [d1, d2] => { results := [.lit (.bool true)], args := [d1, d2] }
  | _ => none }
def parkPokesRow : OpenClaim := { program := "yteblgbclhaajpaa", sum := "0781e40bc68afc411507105c7005b7a7f07672038d3685a1b235b28bb35484a6", func := "quadrille/quadrillekeep.ParkPokes", spec := "parkPokes", unfollowed := true, recurses := true, plainKeys := false, apart := false }
def ParkPokesSaid : Prop := parkPokesRow.holds Try.pinned (OpenSpec.ofChange parkPokesSpec)

/-- ITS FALSE NEIGHBOUR: 'it returns false'. Refute it at one input. -/
def parkPokesWrong : ChangeSpec := { name := "parkPokes", fn := fun _ => fun
  | [d1, d2] => { results := [.lit (.bool false)], args := [d1, d2] }
  | _ => none }
def ParkPokesWrongFalsely : Prop := parkPokesRow.holds Try.pinned (OpenSpec.ofChange parkPokesWrong)

/-- 'quadrillekeep.ParkParts': WHATEVER THE INPUT: true; the input reads as it did. -/
def parkPartsSpec : ChangeSpec := { name := "parkParts", fn := fun _ => fun
  | [d1, d2, d3, d4] => { results := [.lit (.bool true)], args := [d1, d2, d3, d4] }
  | _ => none }
def parkPartsRow : OpenClaim := { program := "yteblgbclhaajpaa", sum := "0781e40bc68afc411507105c7005b7a7f07672038d3685a1b235b28bb35484a6", func := "quadrille/quadrillekeep.ParkParts", spec := "parkParts", unfollowed := true, recurses := true, plainKeys := false, apart := false }
def ParkPartsSaid : Prop := parkPartsRow.holds Try.pinned (OpenSpec.ofChange parkPartsSpec)

/-- ITS FALSE NEIGHBOUR: 'it returns false'. Refute it at one input. -/
def parkPartsWrong : ChangeSpec := { name := "parkParts", fn := fun _ => fun
  | [d1, d2, d3, d4] => { results := [.lit (.bool false)], args := [d1, d2, d3, d4] }
  | _ => none }
def ParkPartsWrongFalsely : Prop := parkPartsRow.holds Try.pinned (OpenSpec.ofChange parkPartsWrong)

/-- 'quadrillekeep.LinParts': WHATEVER THE INPUT: true; the input reads as it did. -/
def linPartsSpec : ChangeSpec := { name := "linParts", fn := fun _ => fun
  | [d1, d2, d3, d4] => { results := [.lit (.bool true)], args := [d1, d2, d3, d4] }
  | _ => none }
def linPartsRow : OpenClaim := { program := "yteblgbclhaajpaa", sum := "0781e40bc68afc411507105c7005b7a7f07672038d3685a1b235b28bb35484a6", func := "quadrille/quadrillekeep.LinParts", spec := "linParts", unfollowed := true, recurses := true, plainKeys := false, apart := false }
def LinPartsSaid : Prop := linPartsRow.holds Try.pinned (OpenSpec.ofChange linPartsSpec)

/-- ITS FALSE NEIGHBOUR: 'it returns false'. Refute it at one input. -/
def linPartsWrong : ChangeSpec := { name := "linParts", fn := fun _ => fun
  | [d1, d2, d3, d4] => { results := [.lit (.bool false)], args := [d1, d2, d3, d4] }
  | _ => none }
def LinPartsWrongFalsely : Prop := linPartsRow.holds Try.pinned (OpenSpec.ofChange linPartsWrong)

/- THE SECOND FORM. 'bulk': how many values and letters a reading holds, each counted each time it is reached (what is shared counts as often as it is met; a slice's spare places count too). A statement '..UptoSaid' is the law's where the arguments, and the package variables that the reading takes, are together of bulk at most 1048576: NARROWER than '..Said'. Prove '..Said' where nothing that the law and all that it calls make is longer than what came in: it says more and counts as full. Else prove '..UptoSaid'. A law counts once. -/
mutual
def uptoBulk {H : Type} : DataW H → Nat
  | .lit (.string bytes) => bytes.length + 1
  | .lit _ => 1
  | .nil => 1
  | .ptr d => uptoBulk d + 1
  | .slice elems spare => uptoBulkAll elems + uptoBulkAll spare + 1
  | .agg parts => uptoBulkAll parts + 1
  | .iface _ d => uptoBulk d + 1
  | .map entries => uptoBulkEntries entries + 1
  | .held _ => 1
def uptoBulkAll {H : Type} : List (DataW H) → Nat
  | [] => 0
  | d :: r => uptoBulk d + uptoBulkAll r
def uptoBulkEntries {H : Type} : List (Lit × DataW H) → Nat
  | [] => 0
  | x :: r => uptoBulkEntry x + uptoBulkEntries r
def uptoBulkEntry {H : Type} : Lit × DataW H → Nat
  | (.string bytes, d) => bytes.length + uptoBulk d + 1
  | (_, d) => uptoBulk d + 1
 end
def uptoSmall : (H : Type) → List (DataW H) → Bool := fun _ ds => decide (uptoBulkAll ds ≤ 1048576)
def OpenSpec.upto (s : _root_.Go.ChangeSpec) : _root_.Go.OpenSpec := { _root_.Go.OpenSpec.ofChange s with cond := some uptoSmall }

/-- 'quadrillekeep.PhaserStays', WHERE WHAT IT READS IS OF BULK AT MOST 1048576: true; the input reads as it did. -/
def phaserStaysUptoRow : OpenClaim := { program := "yteblgbclhaajpaa", sum := "0781e40bc68afc411507105c7005b7a7f07672038d3685a1b235b28bb35484a6", func := "quadrille/quadrillekeep.PhaserStays", spec := "phaserStays", plainKeys := false, apart := false, narrowed := true }
def PhaserStaysUptoSaid : Prop := phaserStaysUptoRow.holds Try.pinned (OpenSpec.upto phaserStaysSpec)

/-- 'quadrillekeep.PhaserTurns', WHERE WHAT IT READS IS OF BULK AT MOST 1048576: true; the input reads as it did. -/
def phaserTurnsUptoRow : OpenClaim := { program := "yteblgbclhaajpaa", sum := "0781e40bc68afc411507105c7005b7a7f07672038d3685a1b235b28bb35484a6", func := "quadrille/quadrillekeep.PhaserTurns", spec := "phaserTurns", plainKeys := false, apart := false, narrowed := true }
def PhaserTurnsUptoSaid : Prop := phaserTurnsUptoRow.holds Try.pinned (OpenSpec.upto phaserTurnsSpec)

/-- 'quadrillekeep.PhaserLeaves', WHERE WHAT IT READS IS OF BULK AT MOST 1048576: true; the input reads as it did. -/
def phaserLeavesUptoRow : OpenClaim := { program := "yteblgbclhaajpaa", sum := "0781e40bc68afc411507105c7005b7a7f07672038d3685a1b235b28bb35484a6", func := "quadrille/quadrillekeep.PhaserLeaves", spec := "phaserLeaves", plainKeys := false, apart := false, narrowed := true }
def PhaserLeavesUptoSaid : Prop := phaserLeavesUptoRow.holds Try.pinned (OpenSpec.upto phaserLeavesSpec)

/-- 'quadrillekeep.PhaserComes', WHERE WHAT IT READS IS OF BULK AT MOST 1048576: true; the input reads as it did. -/
def phaserComesUptoRow : OpenClaim := { program := "yteblgbclhaajpaa", sum := "0781e40bc68afc411507105c7005b7a7f07672038d3685a1b235b28bb35484a6", func := "quadrille/quadrillekeep.PhaserComes", spec := "phaserComes", plainKeys := false, apart := false, narrowed := true }
def PhaserComesUptoSaid : Prop := phaserComesUptoRow.holds Try.pinned (OpenSpec.upto phaserComesSpec)

/-- 'quadrillekeep.PhaserSwaps', WHERE WHAT IT READS IS OF BULK AT MOST 1048576: true; the input reads as it did. -/
def phaserSwapsUptoRow : OpenClaim := { program := "yteblgbclhaajpaa", sum := "0781e40bc68afc411507105c7005b7a7f07672038d3685a1b235b28bb35484a6", func := "quadrille/quadrillekeep.PhaserSwaps", spec := "phaserSwaps", plainKeys := false, apart := false, narrowed := true }
def PhaserSwapsUptoSaid : Prop := phaserSwapsUptoRow.holds Try.pinned (OpenSpec.upto phaserSwapsSpec)

/-- 'quadrillekeep.PhaserParts', WHERE WHAT IT READS IS OF BULK AT MOST 1048576: true; the input reads as it did. -/
def phaserPartsUptoRow : OpenClaim := { program := "yteblgbclhaajpaa", sum := "0781e40bc68afc411507105c7005b7a7f07672038d3685a1b235b28bb35484a6", func := "quadrille/quadrillekeep.PhaserParts", spec := "phaserParts", plainKeys := false, apart := false, narrowed := true }
def PhaserPartsUptoSaid : Prop := phaserPartsUptoRow.holds Try.pinned (OpenSpec.upto phaserPartsSpec)

/-- 'quadrillekeep.ParkApart', WHERE WHAT IT READS IS OF BULK AT MOST 1048576: true; the input reads as it did. -/
def parkApartUptoRow : OpenClaim := { program := "yteblgbclhaajpaa", sum := "0781e40bc68afc411507105c7005b7a7f07672038d3685a1b235b28bb35484a6", func := "quadrille/quadrillekeep.ParkApart", spec := "parkApart", unfollowed := true, recurses := true, plainKeys := false, apart := false, narrowed := true }
def ParkApartUptoSaid : Prop := parkApartUptoRow.holds Try.pinned (OpenSpec.upto parkApartSpec)

/-- 'quadrillekeep.ParkFirst', WHERE WHAT IT READS IS OF BULK AT MOST 1048576: true; the input reads as it did. -/
def parkFirstUptoRow : OpenClaim := { program := "yteblgbclhaajpaa", sum := "0781e40bc68afc411507105c7005b7a7f07672038d3685a1b235b28bb35484a6", func := "quadrille/quadrillekeep.ParkFirst", spec := "parkFirst", unfollowed := true, recurses := true, plainKeys := false, apart := false, narrowed := true }
def ParkFirstUptoSaid : Prop := parkFirstUptoRow.holds Try.pinned (OpenSpec.upto parkFirstSpec)

/-- 'quadrillekeep.ParkPokes', WHERE WHAT IT READS IS OF BULK AT MOST 1048576: true; the input reads as it did. -/
def parkPokesUptoRow : OpenClaim := { program := "yteblgbclhaajpaa", sum := "0781e40bc68afc411507105c7005b7a7f07672038d3685a1b235b28bb35484a6", func := "quadrille/quadrillekeep.ParkPokes", spec := "parkPokes", unfollowed := true, recurses := true, plainKeys := false, apart := false, narrowed := true }
def ParkPokesUptoSaid : Prop := parkPokesUptoRow.holds Try.pinned (OpenSpec.upto parkPokesSpec)

/-- 'quadrillekeep.ParkParts', WHERE WHAT IT READS IS OF BULK AT MOST 1048576: true; the input reads as it did. -/
def parkPartsUptoRow : OpenClaim := { program := "yteblgbclhaajpaa", sum := "0781e40bc68afc411507105c7005b7a7f07672038d3685a1b235b28bb35484a6", func := "quadrille/quadrillekeep.ParkParts", spec := "parkParts", unfollowed := true, recurses := true, plainKeys := false, apart := false, narrowed := true }
def ParkPartsUptoSaid : Prop := parkPartsUptoRow.holds Try.pinned (OpenSpec.upto parkPartsSpec)

/-- 'quadrillekeep.LinParts', WHERE WHAT IT READS IS OF BULK AT MOST 1048576: true; the input reads as it did. -/
def linPartsUptoRow : OpenClaim := { program := "yteblgbclhaajpaa", sum := "0781e40bc68afc411507105c7005b7a7f07672038d3685a1b235b28bb35484a6", func := "quadrille/quadrillekeep.LinParts", spec := "linParts", unfollowed := true, recurses := true, plainKeys := false, apart := false, narrowed := true }
def LinPartsUptoSaid : Prop := linPartsUptoRow.holds Try.pinned (OpenSpec.upto linPartsSpec)

end Rows
end Go.Proofs.Yteblgbclhaajpaa
