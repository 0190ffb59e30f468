/- slices.DeleteFunc and slices.Clone of numbers. -/
import Derived.Test.YtljglfophhagjaaDoorQPark
open Go Go.Proofs Go.Mac
set_option maxRecDepth 100000
namespace Go.Mac

theorem gz {l : List Int} {i : Nat} {x : Int} (h : l[i]? = some x) : (l.map rowZ)[0 + Int.toNat (i : Int)]? = some (rowZ x) := by simp [h]

section
variable {K : AV → List Nat → List PO → Prop}

abbrev noI (t : Int) (xs : List Int) : List Int := xs.filter fun x => !(x == t)

theorem noI_take (t : Int) (xs : List Int) (i : Nat) (x : Int) (h : xs[i]? = some x) : noI t (xs.take (i + 1)) = noI t (xs.take i) ++ (if x = t then [] else [x]) := by
  have : xs.take (i + 1) = xs.take i ++ [x] := by rw [List.take_add_one, h]; rfl
  rw [this, noI, List.filter_append]
  congr 1
  by_cases hx : x = t <;> simp [hx]

end
end Go.Mac
