/- What the cards of this seat ask of the program alone: its looks. -/
import Derived.KernelRfl
import Derived.SevenTiedAt
import Derived.Test.YtnhldphlkklfiaaGreatDoorRows
namespace Go.Proofs.YtnhldphlkklfiaaGreatDoor

theorem looksAll : true = Tryz.prog.looks [] := by kernel_rfl

end Go.Proofs.YtnhldphlkklfiaaGreatDoor
