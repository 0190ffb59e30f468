/- PhaserComes, PhaserLeaves, PhaserTurns: true. -/
import Derived.Test.YtlimhldkkbaohaaQPhaser
import Derived.Test.YtlimhldkkbaohaaGBase
open Go Go.Proofs Go.Mac
set_option maxRecDepth 100000
namespace Go.Mac

section
variable {K : AV → List Nat → List PO → Prop}

theorem phaserSome {p : Ph} {w n : Int} (r : Ph) (a : Int) (h : phDo p w n = some (r, a)) (hK : K (.tup [r.c, .c (.f (.int .i64 a)), okC]) [] []) : Does Try.prog 11 [.p p.c, .p (callC w n)] [] K :=
  phaserDo p w n (fun h' => by rw [h] at h'; cases h') fun r' a' h' => by
    rw [h] at h'
    cases h'
    exact hK

theorem phased (hK : K (bl true) [] []) : Does Try.prog 4 [] [] K := by
  refine does Try.func4 rfl (by decide) ?_
  change Does Try.prog 11 _ _ _
  refine Does.alone 1 (phaserSome (p := ⟨false, 0, 2, 2⟩) (w := 7) (n := 0) ⟨false, 0, 2, 1⟩ 0 rfl ?_)
  change Does Try.prog 11 _ _ _
  refine Does.alone 1 (phaserSome (p := ⟨false, 0, 2, 1⟩) (w := 7) (n := 0) ⟨false, 1, 2, 2⟩ 0 rfl ?_)
  change Does Try.prog 11 _ _ _
  refine Does.alone 1 (phaserSome (p := ⟨false, 1, 2, 2⟩) (w := 10) (n := 1) ⟨false, 1, 2, 2⟩ (-4) rfl ?_)
  refine And.intro plainPhase ?_
  exact hK

end
end Go.Mac
