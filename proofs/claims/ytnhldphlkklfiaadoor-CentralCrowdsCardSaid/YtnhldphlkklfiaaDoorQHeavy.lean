/- What the rows of this seat ask of the program alone. -/
import Derived.Test.YtnhldphlkklfiaaDoorQFacts
import Derived.KernelRfl
import Derived.Test.YtnhldphlkklfiaaDoorRows
namespace Go.Proofs.YtnhldphlkklfiaaDoor
open Go.Mac

theorem heavy : heavyB Tryd.prog Rows.danceLagRow = true := by kernel_rfl

end Go.Proofs.YtnhldphlkklfiaaDoor
