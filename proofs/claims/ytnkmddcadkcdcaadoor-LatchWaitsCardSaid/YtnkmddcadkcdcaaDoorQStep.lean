/- A block, part by part. -/
import Derived.Test.YtnkmddcadkcdcaaDoorQCut
open Go Go.Proofs Go.Mac
namespace Go.Mac

theorem SS.block {P : Program} {nt N0 : Nat} {Q : QT} {id : Nat} {c : Code} {T : Tm} {M : List Nat} {H : List PO} (h : SS P nt N0 c T M H fun e T' M' H' => match e with
      | .exit j => (match Nat.beq j id with
        | true => Q .normal T' M' H'
        | false => Q (.exit j) T' M' H')
      | e => Q e T' M' H') : SS P nt N0 (.block id c) T M H Q := by
  refine ⟨fun B R w0 L0 L w a R0 h1 h2 h3 h4 h5 => wp_block (h.run B R w0 L0 L w a _ h1 h2 h3 h4 ?_)⟩
  intro e L' T' M' H' w' a' k1 k2 k3 k4 k5
  cases e with
  | normal => exact h5 .normal L' T' M' H' w' a' k1 k2 k3 k4 k5
  | exit j =>
    simp only [Ex.real, Exit.inBlock]
    dsimp only at k5
    split at k5
    · rename_i hj; rw [if_pos (Nat.eq_of_beq_eq_true hj)]; exact h5 .normal L' T' M' H' w' a' k1 k2 k3 k4 k5
    · rename_i hj; rw [if_neg (Nat.ne_of_beq_eq_false hj)]; exact h5 (.exit j) L' T' M' H' w' a' k1 k2 k3 k4 k5
  | ret => exact h5 .ret L' T' M' H' w' a' k1 k2 k3 k4 k5

end Go.Mac
