/- Threads that draw tickets: their programs as bodies. -/
import Derived.Test.YtnkmddcadkcdcaaDoorQTicZ
import Derived.Test.YtnkmddcadkcdcaaDoorQTicketed
import Derived.Test.YtnkmddcadkcdcaaDoorQLockers
import Derived.Test.YtnkmddcadkcdcaaDoorQEqIntP
open Go Go.Proofs Go.Mac
set_option maxRecDepth 100000
namespace Go.Mac

theorem lockL_pairs : ∀ c, lockL c = (List.replicate c [CallZ.mk 12 0, CallZ.mk 13 0]).flatten
  | 0 => rfl
  | c + 1 => by rw [lockL, lockL_pairs c, List.replicate_succ', List.flatten_append]; simp

theorem tic_pairs : ∀ (c : Nat) (out : List InsZ), ((List.replicate c [CallZ.mk 12 0, CallZ.mk 13 0]).flatten).foldl (fun out c => out ++ ticketIns out.length c) out = out ++ catU out.length (ticL c)
  | 0, out => by simp [ticL, catU]
  | c + 1, out => by
    have e : ([CallZ.mk 12 0, CallZ.mk 13 0] : List CallZ).foldl (fun out c => out ++ ticketIns out.length c) out = out ++ ticB.map (relI (out.length : Nat)) := by
      simp [ticketIns, relI]
    rw [List.replicate_succ, List.flatten_cons, List.foldl_append, e, tic_pairs c]
    simp [ticL, List.replicate_succ, catU, ticU]

theorem ticketP_lock (c : Nat) : ticketP (lockL c) = catP (ticL c) := by
  rw [ticketP, ticketU, lockL_pairs, tic_pairs, catP]
  simp

theorem lockFitT (c : Nat) : ∀ x ∈ lockL c, ticketFit x := fun x hx => by
  rw [lockL_pairs, List.mem_flatten] at hx
  obtain ⟨q, hq, hx⟩ := hx
  obtain rfl := (List.mem_replicate.1 hq).2
  simp only [List.mem_cons, List.not_mem_nil, or_false] at hx
  rcases hx with rfl | rfl <;> simp [ticketFit]

/-- What one needs to ask for such a machine. -/
theorem tickets_made {n c : Nat} (hn : n ≤ 8) (hc : c ≤ 5) (ms : List MoveZ) : (∀ p ∈ (List.replicate n (lockL c)).map ticketP, rightZ p 2 = true) ∧ TicI (4176 + 6 * ms.length) n c (movesZ (mz0 ((List.replicate n (lockL c)).map ticketP) [0, 0]) ms) := by
  have e : (List.replicate n (lockL c)).map ticketP = List.replicate n (catP (ticL c)) := by rw [List.map_replicate, ticketP_lock]
  rw [e]
  refine ⟨fun p hp => ?_, tic_moves hn hc ms⟩
  obtain rfl := (List.mem_replicate.1 hp).2
  exact tic_right hc

end Go.Mac
