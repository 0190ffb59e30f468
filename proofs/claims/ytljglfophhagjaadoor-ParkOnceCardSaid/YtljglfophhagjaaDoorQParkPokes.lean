/- Lots: who is woken for nothing is gone. -/
import Derived.Test.YtljglfophhagjaaDoorQParkFirst
import Derived.Test.YtljglfophhagjaaDoorQDelInts
open Go Go.Proofs Go.Mac
set_option maxRecDepth 100000
namespace Go.Mac

theorem bedL_cell (l : List NodZ) : ∀ x ∈ bedL l, 0 ≤ x.c ∧ x.c < 4 := by
  have : ∀ (l : List NodZ) (ss : List Slp), (∀ x ∈ ss, 0 ≤ x.c ∧ x.c < 4) → ∀ x ∈ l.foldl bedStep ss, 0 ≤ x.c ∧ x.c < 4 := by
    intro l
    induction l with
    | nil => exact fun ss h => h
    | cons x l ih =>
      refine fun ss h => ih _ fun y hy => ?_
      unfold bedStep at hy
      split at hy
      · exact h y (List.eraseP_subset hy)
      split at hy
      · exact h y hy
      · rcases List.mem_append.1 hy with hy | hy
        · exact h y hy
        · simp at hy
          subst hy
          exact pickZ_lt x.c (by decide)
  exact this l [] (by simp)

theorem atL_append (c : Int) (xs ys : List Slp) : atL c (xs ++ ys) = atL c xs ++ atL c ys := by
  simp [atL]

theorem atL_no {c t : Int} {ss : List Slp} (h : noT ss t) : noI t (atL c ss) = atL c ss := by
  refine List.filter_eq_self.2 fun y hy => ?_
  obtain ⟨x, hx, rfl⟩ := List.mem_map.1 hy
  have := h x (List.mem_filter.1 hx).1
  simpa using this

theorem once_split {pre post : List Slp} {x : Slp} (h : onceL (pre ++ x :: post)) : noT post x.t := by
  unfold onceL at h
  rw [List.map_append, List.map_cons, List.nodup_append, List.nodup_cons] at h
  intro y hy e
  exact h.2.1.1 (List.mem_map.2 ⟨y, hy, e⟩)

end Go.Mac
