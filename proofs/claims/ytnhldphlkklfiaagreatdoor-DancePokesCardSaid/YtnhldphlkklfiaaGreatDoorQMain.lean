/- What the cards of this seat ask of the program alone: its main. -/
import Derived.KernelRfl
import Derived.SevenTiedAt
import Derived.Test.YtnhldphlkklfiaaGreatDoorCards
namespace Go.Proofs.YtnhldphlkklfiaaGreatDoor

theorem mainAll : Tryz.prog.mainIs = some (Rows.danceUpCard.stood.harness.1, Rows.danceUpCard.stood.harness.2.toList) := by kernel_rfl

end Go.Proofs.YtnhldphlkklfiaaGreatDoor
