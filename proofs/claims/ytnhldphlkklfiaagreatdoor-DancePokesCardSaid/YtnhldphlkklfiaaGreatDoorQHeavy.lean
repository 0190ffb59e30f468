/- What the rows of this seat ask of the program alone. -/
import Derived.Test.YtnhldphlkklfiaaGreatDoorQFacts
import Derived.KernelRfl
import Derived.Test.YtnhldphlkklfiaaGreatDoorRows
namespace Go.Proofs.YtnhldphlkklfiaaGreatDoor
open Go.Mac

theorem heavy : heavyB Tryz.prog Rows.danceUpRow = true := by kernel_rfl

end Go.Proofs.YtnhldphlkklfiaaGreatDoor
