/- slices.Equal of a list and a piece of another: acts, events. -/
import Derived.Test.YtnhldphlkklfiaaDoorQEqAct
import Derived.Test.YtnhldphlkklfiaaDoorQEqEv
open Go Go.Proofs Go.Mac
set_option maxRecDepth 100000
namespace Go.Mac

section
variable {K : AV → List Nat → List PO → Prop}

theorem equalActP {ro1 ro2 : Bool} {xs ys : List ActZ} {n : Nat} {c1 c2 : Option Nat} {nn1 nn2 : Bool} (hl : xs.length = n) (hn : n < 1000000) (hp : xs <+: ys)
    (h1 : K (bl true) [] ([.rows ro1 6 (xs.map rowAct), .rows ro2 6 (ys.map rowAct)])) :
    Does Tryd.prog 32 [cv (.slc 0 0 n c1 nn1), cv (.slc 1 0 n c2 nn2)] [.rows ro1 6 (xs.map rowAct), .rows ro2 6 (ys.map rowAct)] K := by
  refine does Tryd.func32 rfl (by decide) ?_
  refine brc_intro (fun h => ?_) (fun h => ?_)
  · simp at h
  have hget : ∀ j, j < n → ys[j]? = xs[j]? := fun j hj => by
    obtain ⟨e, rfl⟩ := hp
    rw [List.getElem?_append_left (by omega)]
  refine SS.loop (fun i : Nat => i ≤ n) (fun i => [(0, cv (.slc 0 0 n c1 nn1)), (1, cv (.slc 1 0 n c2 nn2)), (12, i64 n), (13, i64 i)]) (fun _ => [.rows ro1 6 (xs.map rowAct), .rows ro2 6 (ys.map rowAct)]) (fun i => n - i) []
    (At.mk' [0, 1, 12, 13] 0 (by simp) ⟨rfl, rfl⟩ rfl rfl (by simp) (by simp) (by simp)) ?_
  intro i hi
  change i ≤ n at hi
  refine S_r ?_
  refine brc_intro (fun h => ?_) (fun h => ?_)
  · have hlt : i < n := by have := of_decide_eq_true h; omega
    refine SS.inlR ?_
    refine SS.drawR follows (by decide) ?_
    obtain ⟨x, hx⟩ : ∃ x, xs[i]? = some x := ⟨_, List.getElem?_eq_getElem (by omega)⟩
    have hy : ys[i]? = some x := (hget i hlt).trans hx
    refine at2 (by omega) (by omega) (rdA (rowAct x) (by simp [hx]) ?_)
    refine at2 (by omega) (by omega) (rdA (rowAct x) (by simp [hy]) ?_)
    refine And.intro plainAct ?_
    refine brc_intro (fun h' => ?_) (fun h' => ?_)
    · simp at h'
    · refine At.mk' [0, 1, 12, 13] (i + 1) ⟨hlt, by omega⟩ ⟨?_, rfl⟩ rfl rfl (by simp) (by simp) (by simp)
      rw [wrap_i64 _ (by omega) (by omega)]
      rfl
  · exact h1

theorem equalEvP {ro1 ro2 : Bool} {xs ys : List EvZ} {n : Nat} {c1 c2 : Option Nat} {nn1 nn2 : Bool} (hl : xs.length = n) (hn : n < 1000000) (hp : xs <+: ys)
    (h1 : K (bl true) [] ([.rows ro1 4 (xs.map rowEv), .rows ro2 4 (ys.map rowEv)])) :
    Does Tryd.prog 33 [cv (.slc 0 0 n c1 nn1), cv (.slc 1 0 n c2 nn2)] [.rows ro1 4 (xs.map rowEv), .rows ro2 4 (ys.map rowEv)] K := by
  refine does Tryd.func33 rfl (by decide) ?_
  refine brc_intro (fun h => ?_) (fun h => ?_)
  · simp at h
  have hget : ∀ j, j < n → ys[j]? = xs[j]? := fun j hj => by
    obtain ⟨e, rfl⟩ := hp
    rw [List.getElem?_append_left (by omega)]
  refine SS.loop (fun i : Nat => i ≤ n) (fun i => [(0, cv (.slc 0 0 n c1 nn1)), (1, cv (.slc 1 0 n c2 nn2)), (12, i64 n), (13, i64 i)]) (fun _ => [.rows ro1 4 (xs.map rowEv), .rows ro2 4 (ys.map rowEv)]) (fun i => n - i) []
    (At.mk' [0, 1, 12, 13] 0 (by simp) ⟨rfl, rfl⟩ rfl rfl (by simp) (by simp) (by simp)) ?_
  intro i hi
  change i ≤ n at hi
  refine S_r ?_
  refine brc_intro (fun h => ?_) (fun h => ?_)
  · have hlt : i < n := by have := of_decide_eq_true h; omega
    refine SS.inlR ?_
    refine SS.drawR follows (by decide) ?_
    obtain ⟨x, hx⟩ : ∃ x, xs[i]? = some x := ⟨_, List.getElem?_eq_getElem (by omega)⟩
    have hy : ys[i]? = some x := (hget i hlt).trans hx
    refine at2 (by omega) (by omega) (rdA (rowEv x) (by simp [hx]) ?_)
    refine at2 (by omega) (by omega) (rdA (rowEv x) (by simp [hy]) ?_)
    refine And.intro plainEv ?_
    refine brc_intro (fun h' => ?_) (fun h' => ?_)
    · simp at h'
    · refine At.mk' [0, 1, 12, 13] (i + 1) ⟨hlt, by omega⟩ ⟨?_, rfl⟩ rfl rfl (by simp) (by simp) (by simp)
      rw [wrap_i64 _ (by omega) (by omega)]
      rfl
  · exact h1

end
end Go.Mac
