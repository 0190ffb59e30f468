/- slices.Equal of instructions. -/
import Derived.Test.YtnhldphlkklfiaaGreatDoorProg
import Derived.Test.YtnhldphlkklfiaaGreatDoorGBase
open Go Go.Proofs Go.Mac
set_option maxRecDepth 100000
namespace Go.Mac

section
variable {K : AV → List Nat → List PO → Prop}

theorem plainIns : plainT Tryz.prog 99 = true := by decide +kernel

end
end Go.Mac
