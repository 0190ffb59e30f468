/- The first look at the judge. -/
import Derived.Test.YtlimhldkkbaohaaGreatDoorGJudgeR
import Derived.Test.YtlimhldkkbaohaaGreatDoorQTell
open Go Go.Proofs Go.Mac
set_option maxRecDepth 100000
namespace Go.Mac

abbrev jL : List EvZ := [⟨0, 1, 0, 1⟩, ⟨0, 1, 1, 1⟩, ⟨0, 2, 0, 1⟩]

end Go.Mac
