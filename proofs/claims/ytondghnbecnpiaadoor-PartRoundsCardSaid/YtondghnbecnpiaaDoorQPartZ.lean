/- A whole that has no body: so many rounds, for each number of them. -/
import Derived.Test.YtondghnbecnpiaaDoorQResult
open Go Go.Proofs Go.Mac
set_option maxRecDepth 100000
namespace Go.Mac

abbrev wholeP (r : Int) : List InsZ := [⟨1, 0, 1, 0, 0⟩, ⟨1, 7, r + 1, 0, 0⟩, ⟨12, 0, 7, 4, 0⟩, ⟨0, 0, 0, 0, 0⟩, ⟨16, 1, 0, 0, 0⟩, ⟨16, 2, 0, 0, 0⟩, ⟨3, 0, 0, 1, 0⟩, ⟨10, 2, 0, 0, 0⟩]

def evsOk (l : List EvZ) : Bool := (List.range l.length).all fun i =>
  match l[i]? with
  | some e => e.a == 1 + (i : Int) % 2 && e.v == 1 + (i : Int) / 2 && e.t == 0
  | none => false

def wholeOk (r : Nat) : Bool :=
  rightZ (wholeP r) 0 && allZ (stepsZ (9 * r + 9) (mz0 [wholeP r] [])) && (stepsZ (9 * r + 9) (mz0 [wholeP r] [])).el.length == 2 * r && evsOk (stepsZ (9 * r + 9) (mz0 [wholeP r] [])).el

theorem whole_ok : ((List.range 21).all wholeOk) = true := by decide +kernel

end Go.Mac
