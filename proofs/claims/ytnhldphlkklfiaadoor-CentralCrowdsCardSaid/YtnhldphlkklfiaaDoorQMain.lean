/- What the cards of this seat ask of the program alone: its main. -/
import Derived.KernelRfl
import Derived.SevenTiedAt
import Derived.Test.YtnhldphlkklfiaaDoorCards
namespace Go.Proofs.YtnhldphlkklfiaaDoor

theorem mainAll : Tryd.prog.mainIs = some (Rows.danceLagCard.stood.harness.1, Rows.danceLagCard.stood.harness.2.toList) := by kernel_rfl

end Go.Proofs.YtnhldphlkklfiaaDoor
