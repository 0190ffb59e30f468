/- slices.Equal of the end of one of the answers, and what it is. -/
import Derived.Test.YtnkmddcadkcdcaaDoorQAnswers
import Derived.Test.YtnkmddcadkcdcaaDoorGBase
open Go Go.Proofs Go.Mac
set_option maxRecDepth 100000
namespace Go.Mac

section
variable {K : AV → List Nat → List PO → Prop}

theorem equalTail {rss : List (List (List FC))} {i n : Nat} {x y : Int} {nn nn1 : Bool} (hn : n = 3) (hi : rss[i]? = some ([x, y, y, y].map rowZ)) (h : K (bl true) [] [.rows2 false 1 rss, .rows false 1 ([y, y, y].map rowZ)]) :
    Does Tryd.prog 29 [cv (.islc 0 i 1 n none nn1), cv (.slc 1 0 n none nn)] [.rows2 false 1 rss, .rows false 1 ([y, y, y].map rowZ)] K := by
  have rt : i < rss.length := (List.getElem?_eq_some_iff.1 hi).1
  refine does Tryd.func29 rfl (by decide) ?_
  refine brc_intro (fun h => ?_) (fun _ => ?_)
  · exfalso
    simp at h
  refine SS.loop (fun j : Nat => j ≤ n) (fun j => [(0, cv (.islc 0 i 1 n none nn1)), (1, cv (.slc 1 0 n none nn)), (12, i64 n), (13, i64 j)]) (fun _ => [.rows2 false 1 rss, .rows false 1 ([y, y, y].map rowZ)]) (fun j => n - j) []
    (At.mk' [0, 1, 12, 13] 0 (by simp) ⟨rfl, rfl⟩ rfl rfl (by simp) (by simp) (by simp)) ?_
  intro j hj
  refine S_r ?_
  refine brc_intro (fun h' => ?_) (fun h' => ?_)
  · have hlt : j < 3 := by have := of_decide_eq_true h'; have : (j : Int) < (n : Int) := this; omega
    have r0 : ([x, y, y, y].map rowZ)[1 + Int.toNat (j : Int)]? = some (rowZ y) := by
      rcases (show j = 0 ∨ j = 1 ∨ j = 2 by omega) with rfl | rfl | rfl <;> rfl
    have r1 : ([y, y, y].map rowZ)[0 + Int.toNat (j : Int)]? = some (rowZ y) := by
      rcases (show j = 0 ∨ j = 1 ∨ j = 2 by omega) with rfl | rfl | rfl <;> rfl
    have h0 : (0 : Int) ≤ (j : Int) := by omega
    have h3 : (j : Int) < (n : Int) := by omega
    refine SS.inlR ?_
    refine SS.drawR follows (by decide) ?_
    refine And.intro rt (at2 h0 h3 ?_)
    refine Exists.intro ([x, y, y, y].map rowZ) (Exists.intro (rowZ y) (Exists.intro (.int .i64 y) (And.intro hi (And.intro r0 (And.intro rfl ?_)))))
    refine at2 h0 h3 (rd1 (rowZ y) (.int .i64 y) r1 rfl ?_)
    refine brc_intro (fun h' => ?_) (fun _ => ?_)
    · exfalso
      simp at h'
    refine At.mk' [0, 1, 12, 13] (j + 1) ⟨by omega, by omega⟩ ⟨?_, rfl⟩ rfl rfl (by simp) (by simp) (by simp)
    rw [wrap_i64 _ (by omega) (by omega)]
    rfl
  · exact h

end
end Go.Mac
