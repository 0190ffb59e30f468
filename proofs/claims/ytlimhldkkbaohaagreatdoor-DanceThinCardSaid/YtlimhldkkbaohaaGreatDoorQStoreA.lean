/- A row of what was done. -/
import Derived.Test.YtlimhldkkbaohaaGreatDoorGCount
open Go Go.Proofs Go.Mac
set_option maxRecDepth 100000
namespace Go.Mac

theorem gActN {l : List ActZ} {i : Nat} {x : ActZ} (h : l[i]? = some x) : (l.map rowAct)[0 + Int.toNat (i : Int)]? = some (rowAct x) := by simp [h]

end Go.Mac
