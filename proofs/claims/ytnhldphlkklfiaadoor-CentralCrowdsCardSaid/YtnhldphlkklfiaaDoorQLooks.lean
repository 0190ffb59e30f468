/- What the cards of this seat ask of the program alone: its looks. -/
import Derived.KernelRfl
import Derived.SevenTiedAt
import Derived.Test.YtnhldphlkklfiaaDoorRows
namespace Go.Proofs.YtnhldphlkklfiaaDoor

theorem looksAll : true = Tryd.prog.looks [] := by kernel_rfl

end Go.Proofs.YtnhldphlkklfiaaDoor
