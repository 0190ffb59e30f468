/- Lots: who sleeps elsewhere sleeps on. -/
import Derived.Test.YtnkmddcadkcdcaaQParkBed
open Go Go.Proofs Go.Mac
set_option maxRecDepth 100000
namespace Go.Mac

theorem atL_cons (c : Int) (x : Slp) (ss : List Slp) : atL c (x :: ss) = (if x.c = c then [x.t] else []) ++ atL c ss := by
  unfold atL
  by_cases h : x.c = c
  · rw [List.filter_cons_of_pos (by simpa using h), if_pos h]
    rfl
  · rw [List.filter_cons_of_neg (by simpa using h), if_neg h]
    rfl

theorem wakeL_apart (c n o : Int) (ho : c ≠ o) : ∀ (ss : List Slp) (m : Nat), atL o (wakeL c n m ss).2 = atL o ss
  | [], m => rfl
  | x :: ss, m => by
    rw [wakeL]
    split
    · rename_i h
      have : x.c ≠ o := fun e => ho (by omega)
      rw [atL_cons, if_neg this, wakeL_apart c n o ho ss]
      rfl
    · show atL o (x :: (wakeL c n m ss).2) = _
      rw [atL_cons, atL_cons, wakeL_apart c n o ho ss]

theorem atL_le (c : Int) (ss : List Slp) : (atL c ss).length ≤ ss.length := by
  have := atL_len c ss ss.length
  rwa [List.take_length] at this

end Go.Mac
