/- What is left in the end does not hang on the moves. -/
import Derived.Test.YtlimhldkkbaohaaGreatDoorGCount
import Derived.Test.YtlimhldkkbaohaaGreatDoorGDanceH
open Go Go.Proofs Go.Mac
set_option maxRecDepth 100000
namespace Go.Mac

theorem cells_same {nc : Nat} {V V' : Nat → Nat} (h : ∀ c, c < nc → V c = V' c) : cellsL nc V = cellsL nc V' := by
  rw [cellsL, cellsL]
  exact List.map_congr_left fun c hc => by rw [h c (List.mem_range.1 hc)]

/-- Cells in the end, by their kind. -/
def endV (k n R c : Nat) : Nat := if k ≤ 2 then (if c % 2 = 0 then 0 else R) else if (wrL c (kindL k n) 0).isSome = true then R else 0

theorem left_end {k n R : Nat} (hk : 1 ≤ k ∧ k ≤ 6) (hn : 1 ≤ n ∧ n ≤ 16) (hR : R ≤ 6) (ms : List MoveZ) (hm : ms.length ≤ 900) : leftZ k n R ms = cellsL (kindC k n) (endV k n R) := by
  obtain ⟨A, V, hI, he, hleft⟩ := leftZ_get hk hn hR ms hm
  rw [hleft]
  refine cells_same fun c hc => ?_
  have par : ∀ N, kindC k n = 2 * N → k ≤ 2 → (∀ v, v < N → V (2 * v) = 0 ∧ V (2 * v + 1) = R) → V c = endV k n R c := fun N hN hk2 h => by
    rw [endV, if_pos hk2]
    obtain ⟨h1, h2⟩ := h (c / 2) (by omega)
    split
    · rw [show 2 * (c / 2) = c by omega] at h1
      exact h1
    · rw [show 2 * (c / 2) + 1 = c by omega] at h2
      exact h2
  by_cases h1 : k = 1
  · subst h1
    obtain ⟨b, hI⟩ : ∃ b, TI n 1 R 1 (PP 1 n) (fun x => if x < n then 0 else 1) (fun _ => n) (fun _ _ => 0) b A V _ := hI
    exact par 1 rfl (by decide) (tree_ended (tree_one1 hn) hI he)
  by_cases h2 : k = 2
  · subst h2
    obtain ⟨b, hI⟩ : ∃ b, TI n (firstN n (hgtN n)) R (hgtN n) (PP 2 n) (parV n) (sizeV n) (nodeN n) b A V _ := hI
    exact par _ rfl (by decide) (tree_ended (tree_two hn) hI he)
  · rw [kindI, if_neg h1, if_neg h2] at hI
    have e : endV k n R c = if (wrL c (kindL k n) 0).isSome = true then R else 0 := if_neg (show ¬ k ≤ 2 by omega)
    rw [net_ended hI he c, e]

theorem left_same {k n R : Nat} (hk : 1 ≤ k ∧ k ≤ 6) (hn : 1 ≤ n ∧ n ≤ 16) (hR : R ≤ 6) (ms ms' : List MoveZ) (hm : ms.length ≤ 900) (hm' : ms'.length ≤ 900) : leftZ k n R ms = leftZ k n R ms' :=
  (left_end hk hn hR ms hm).trans (left_end hk hn hR ms' hm').symm

theorem left_some : ((List.range 6).all fun k => (List.range 16).all fun m => decide (0 < kindC (k + 1) (m + 1) ∨ k + 1 = 4 ∧ m + 1 = 1)) = true := by decide +kernel

end Go.Mac
