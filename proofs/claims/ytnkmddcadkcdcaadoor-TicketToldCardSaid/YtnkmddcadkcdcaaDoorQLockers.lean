/- Threads that lock and unlock so often; mutex.Code as made asks for it. -/
import Derived.Test.YtnkmddcadkcdcaaDoorQMade
import Derived.Test.YtnkmddcadkcdcaaDoorQMutex
open Go Go.Proofs Go.Mac
set_option maxRecDepth 100000
namespace Go.Mac

/-- One thread's calls. -/
def lockL : Nat → List CallZ
  | 0 => []
  | n + 1 => lockL n ++ [⟨12, 0⟩, ⟨13, 0⟩]

theorem lockL_len : ∀ n, (lockL n).length = 2 * n
  | 0 => rfl
  | n + 1 => by rw [lockL, List.length_append, lockL_len n]; simp; omega

section
variable {K : AV → List Nat → List PO → Prop}

theorem lockers {n times : Nat} (hn : n ≤ 16) (ht : times ≤ 100) (h : K (cv (.slc 0 0 n none false)) [] [callsH false (List.replicate n (lockL times))]) : Does Tryd.prog 25 [i64 n, i64 times] [] K := by
  refine Does.keep 0 rfl ?_
  refine does Tryd.func25 rfl (by decide) ?_
  refine SS.nil2 5 2 rfl ?_
  refine SS.loop (fun i : Nat => i ≤ n) (fun i => [(1, i64 times), (5, cv (.slc 0 0 i none false)), (7, i64 n), (8, i64 i)]) (fun i => [callsH false (List.replicate i (lockL times))]) (fun i => n - i) [0, 1, 2]
    (At.mk' [1, 5, 7, 8] 0 (by simp) ⟨rfl, rfl⟩ rfl rfl (by simp) (by simp) (by simp)) ?_
  intro i hi
  change i ≤ n at hi
  refine S_r ?_
  refine brc_intro (fun hlt => ?_) (fun hlt => ?_)
  · have hlt : i < n := by
      have := of_decide_eq_true hlt
      have : (i : Int) < (n : Int) := this
      omega
    refine SS.nil 6 2 (by decide) rfl ?_
    refine SS.loop (fun j : Nat => j ≤ times) (fun j => [(1, i64 times), (5, cv (.slc 0 0 i none false)), (6, cv (.slc 1 0 (2 * j) none false)), (7, i64 n), (8, i64 i), (10, i64 times), (11, i64 j)]) (fun j => [callsH false (List.replicate i (lockL times)), .rows false 2 ((lockL j).map rowCallZ)]) (fun j => times - j) [0, 1, 2]
      (At.mk' [1, 5, 6, 7, 8, 10, 11] 0 (by simp) ⟨rfl, rfl⟩ rfl rfl (by simp) (by simp) (by simp)) ?_
    intro j hj
    change j ≤ times at hj
    refine S_r ?_
    refine brc_intro (fun hlt2 => ?_) (fun hlt2 => ?_)
    · have hlt2 : j < times := by
        have := of_decide_eq_true hlt2
        have : (j : Int) < (times : Int) := this
        omega
      refine And.intro (by simp) (Or.inl (And.intro rfl (And.intro (by simp [lockL_len]) (And.intro (by show (2 * j + 2) * 16 ≤ _; omega) (And.intro (by show 2 * j + 2 ≤ _; omega) ?_)))))
      refine At.mk' [1, 5, 6, 7, 8, 10, 11] (j + 1) ⟨hlt2, by omega⟩ ⟨?_, rfl⟩ ?_ rfl (by simp) (by simp) (by decide)
      · rw [wrap_i64 (j + 1) (by omega) (by omega)]
        rfl
      · rw [lockL, List.map_append]
        rfl
    · have hlt2 : ¬ (j : Int) < (times : Int) := of_decide_eq_false hlt2
      obtain rfl : j = times := by omega
      refine And.intro (by simp [lockL_len]) (And.intro rfl (And.intro (by simp) (at2 (by show (i + 1) * 24 ≤ _; omega) (by omega) ?_)))
      refine At.mk' [1, 5, 7, 8] (i + 1) ⟨hlt, by omega⟩ ⟨?_, rfl⟩ ?_ rfl (by simp) (by simp) (by decide)
      · rw [wrap_i64 (i + 1) (by omega) (by omega)]
        rfl
      · rw [List.replicate_succ', callsH, List.map_append]
        rfl
  · have hlt : ¬ (i : Int) < (n : Int) := of_decide_eq_false hlt
    obtain rfl : i = n := by omega
    exact ⟨1, [0], _, _, rfl, rfl, by decide, by decide, rfl, rfl, rfl, rfl, rfl, h⟩

end
end Go.Mac
