/- slices.Equal of events. -/
import Derived.Test.YtnhldphlkklfiaaGreatDoorProg
import Derived.Test.YtnhldphlkklfiaaGreatDoorQJudge
open Go Go.Proofs Go.Mac
set_option maxRecDepth 100000
namespace Go.Mac

section
variable {K : AV → List Nat → List PO → Prop}

theorem plainEv : plainT Tryz.prog 45 = true := by decide +kernel

end
end Go.Mac
