/- slices.Equal of numbers, and of a beginning of some. -/
import Derived.Test.YtnkmddcadkcdcaaDoorGBase
open Go Go.Proofs Go.Mac
set_option maxRecDepth 100000
namespace Go.Mac

section
variable {K : AV → List Nat → List PO → Prop}

theorem equalIntP {ro1 ro2 : Bool} {xs ys : List Int} {n : Nat} {c1 c2 : Option Nat} {nn1 nn2 : Bool} (hl : xs.length = n) (hn : n < 1000000) (hp : xs <+: ys)
    (h1 : K (bl true) [] ([.rows ro1 1 (xs.map rowZ), .rows ro2 1 (ys.map rowZ)])) :
    Does Tryd.prog 29 [cv (.slc 0 0 n c1 nn1), cv (.slc 1 0 n c2 nn2)] [.rows ro1 1 (xs.map rowZ), .rows ro2 1 (ys.map rowZ)] K := by
  refine does Tryd.func29 rfl (by decide) ?_
  refine brc_intro (fun h => ?_) (fun h => ?_)
  · simp at h
  have hget : ∀ j, j < n → ys[j]? = xs[j]? := fun j hj => by
    obtain ⟨e, rfl⟩ := hp
    rw [List.getElem?_append_left (by omega)]
  refine SS.loop (fun i : Nat => i ≤ n) (fun i => [(0, cv (.slc 0 0 n c1 nn1)), (1, cv (.slc 1 0 n c2 nn2)), (12, i64 n), (13, i64 i)]) (fun _ => [.rows ro1 1 (xs.map rowZ), .rows ro2 1 (ys.map rowZ)]) (fun i => n - i) []
    (At.mk' [0, 1, 12, 13] 0 (by simp) ⟨rfl, rfl⟩ rfl rfl (by simp) (by simp) (by simp)) ?_
  intro i hi
  change i ≤ n at hi
  refine S_r ?_
  refine brc_intro (fun h => ?_) (fun h => ?_)
  · have hlt : i < n := by have := of_decide_eq_true h; omega
    refine SS.inlR ?_
    refine SS.drawR follows (by decide) ?_
    obtain ⟨x, hx⟩ : ∃ x, xs[i]? = some x := ⟨_, List.getElem?_eq_getElem (by omega)⟩
    have hy : ys[i]? = some x := (hget i hlt).trans hx
    refine at2 (by omega) (by omega) (rd1 (rowZ x) (.int .i64 x) (by simp [hx]) rfl ?_)
    refine at2 (by omega) (by omega) (rd1 (rowZ x) (.int .i64 x) (by simp [hy]) rfl ?_)
    refine brc_intro (fun h' => ?_) (fun h' => ?_)
    · simp at h'
    · refine At.mk' [0, 1, 12, 13] (i + 1) ⟨hlt, by omega⟩ ⟨?_, rfl⟩ rfl rfl (by simp) (by simp) (by simp)
      rw [wrap_i64 _ (by omega) (by omega)]
      rfl
  · exact h1

end
end Go.Mac
