/- The judge's laws: what may be cut off; no more than one apart. -/
import Derived.Test.YtnhldphlkklfiaaGreatDoorQJudged
open Go Go.Proofs Go.Mac
set_option maxRecDepth 100000
namespace Go.Mac

theorem runZ_take : ∀ (l : List EvZ) (k i : Nat) (c g : List Int), runZ l i c g = none → runZ (l.take k) i c g = none
  | [], k, i, c, g, h => by simpa using h
  | e :: l, 0, i, c, g, h => rfl
  | e :: l, k + 1, i, c, g, h => by
    rw [List.take_succ_cons, runZ]
    rw [runZ] at h
    split at h
    · rename_i h0
      rw [if_pos h0]
      exact runZ_take l k _ _ _ h
    · cases h

theorem pick16 (n : Int) : ∃ m : Nat, 1 + pickZ n 16 = (m : Int) ∧ 1 ≤ m ∧ m ≤ 16 := by
  have := pickZ_lt n (n := 16) (by decide)
  exact ⟨(1 + pickZ n 16).toNat, by omega, by omega, by omega⟩

end Go.Mac
