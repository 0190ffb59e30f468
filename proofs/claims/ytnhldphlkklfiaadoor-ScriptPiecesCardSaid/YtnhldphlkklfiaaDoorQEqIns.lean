/- slices.Equal of instructions. -/
import Derived.Test.YtnhldphlkklfiaaDoorProg
import Derived.Test.YtnhldphlkklfiaaDoorGBase
open Go Go.Proofs Go.Mac
set_option maxRecDepth 100000
namespace Go.Mac

section
variable {K : AV → List Nat → List PO → Prop}

theorem plainIns : plainT Tryd.prog 85 = true := by decide +kernel

end
end Go.Mac
