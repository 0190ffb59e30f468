/- The machine's sums. -/
import Derived.Test.YtljglfophhagjaaDoorQResult
open Go Go.Proofs Go.Mac
set_option maxRecDepth 100000
namespace Go.Mac

theorem coreSums (x : Int) (_hx : -9223372036854775808 ≤ x ∧ x ≤ 9223372036854775807) (y : Int) (_hy : -9223372036854775808 ≤ y ∧ y ≤ 9223372036854775807) :
    Does Tryd.prog 5 [i64 x, i64 y] [rtH] fun v _ _ => v = bl true := by
  refine does Tryd.func5 rfl (by decide) ?_
  change Does Tryd.prog 24 _ _ _
  refine Does.alone 1 (gone ?_)
  change Does Tryd.prog 25 _ _ _
  have ha : locN (resP [⟨1, 1, x, 0, 0⟩, ⟨1, 2, y, 0, 0⟩, ⟨4, 3, 1, 2, 0⟩]) 3 th0 = some ⟨3, [0, u64m x, u64m y, u64m (u64m x + u64m y), 0, 0, 0, 0], false⟩ := rfl
  obtain ⟨ha1, ha2⟩ := res_run ha rfl rfl (by decide)
  refine Does.on 2 [1] _ _ (result (l := [⟨1, 1, x, 0, 0⟩, ⟨1, 2, y, 0, 0⟩, ⟨4, 3, 1, 2, 0⟩]) (n := 3) (nn := true) rfl (by decide) (by rfl) ha1 ha2 ?_)
  change Does Tryd.prog 25 _ _ _
  have hb : locN (resP [⟨1, 1, y, 0, 0⟩, ⟨3, 3, 1, x, 0⟩]) 2 th0 = some ⟨2, [0, u64m y, 0, u64m (u64m y + u64m x), 0, 0, 0, 0], false⟩ := rfl
  obtain ⟨hb1, hb2⟩ := res_run hb rfl rfl (by decide)
  refine Does.on 3 [2] _ _ (result (l := [⟨1, 1, y, 0, 0⟩, ⟨3, 3, 1, x, 0⟩]) (n := 2) (nn := true) rfl (by decide) (by rfl) hb1 hb2 ?_)
  have e : u64m (u64m x + u64m y) = u64m (u64m y + u64m x) := by rw [Int.add_comm]
  refine brc_intro (fun _ => fin (beq_iff_eq.2 rfl)) (fun h => absurd e (beq_eq_false_iff_ne.1 h))

end Go.Mac
