/- All at the end: nobody can. -/
import Derived.Test.YtnhldphlkklfiaaGreatDoorGDanceF
open Go Go.Proofs Go.Mac
set_option maxRecDepth 100000
namespace Go.Mac

theorem can_allS {m : MZ} (h : allZ m = true) (t : Nat) : canZ m (t : Int) = false := by
  unfold canZ
  by_cases ht : t < m.ts.length
  · have : (thZ m t).dn = true := by
      have h2 := List.all_eq_true.1 h (m.ts[t]) (List.getElem_mem ht)
      rw [thZ, List.getD_eq_getElem?_getD, List.getElem?_eq_getElem ht]
      exact h2
    rw [Int.toNat_natCast, this]
    simp
  · rw [decide_eq_false (by omega)]
    rfl

end Go.Mac
