/- fair.Rounds, picked. -/
import Derived.Test.YtnhldphlkklfiaaGreatDoorQFair
import Derived.Test.YtnhldphlkklfiaaGreatDoorGBase
open Go Go.Proofs Go.Mac
set_option maxRecDepth 100000
namespace Go.Mac

/-- One behind the other. -/
def roundsL (n k : Nat) : List Int := (List.range k).map fun j => ((j % n : Nat) : Int)

theorem roundsL_length (n k : Nat) : (roundsL n k).length = k := by simp [roundsL]

theorem roundsL_succ (n k : Nat) : roundsL n (k + 1) = roundsL n k ++ [((k % n : Nat) : Int)] := by simp [roundsL, List.range_succ]

section
variable {K : AV → List Nat → List PO → Prop}

theorem roundsF (n times : Nat) (hn : n ≤ 16) (ht : times ≤ 1000) (hK : K (.tup [.c (.slc 0 0 (n * times) none false), .c .niliface]) [] [.rows false 1 ((roundsL n (n * times)).map rowZ)]) :
    Does Tryz.prog 76 [i64 n, i64 times] [] K := by
  refine does Tryz.func76 rfl (by decide) ?_
  refine brc_intro (fun h => ?_) (fun h => ?_)
  · have := of_decide_eq_true h; omega
  refine brc_intro (fun h => ?_) (fun h => ?_)
  · have := of_decide_eq_true h; omega
  refine SS.nil 6 1 (by decide) rfl ?_
  refine SS.loop (fun i : Nat => i ≤ times) (fun i => [(0, i64 n), (1, i64 times), (6, cv (.slc 0 0 (n * i) none false)), (23, i64 times), (24, i64 i)])
    (fun i => [.rows false 1 ((roundsL n (n * i)).map rowZ)]) (fun i => times - i) [0]
    (At.mk' [0, 1, 6, 23, 24] 0 (by simp) ⟨rfl, rfl⟩ rfl rfl (by simp) (by simp) (by simp)) ?_
  intro i hi
  refine S_r ?_
  refine brc_intro (fun h => ?_) (fun h => ?_)
  · have hlt : i < times := by have := of_decide_eq_true h; omega
    refine SS.loop (fun k : Nat => k ≤ n) (fun k => [(0, i64 n), (1, i64 times), (6, cv (.slc 0 0 (n * i + k) none false)), (23, i64 times), (24, i64 i), (26, i64 n), (27, i64 k)])
      (fun k => [.rows false 1 ((roundsL n (n * i + k)).map rowZ)]) (fun k => n - k) [0]
      (At.mk' [0, 1, 6, 23, 24, 26, 27] 0 (by simp) ⟨rfl, rfl⟩ rfl rfl (by simp) (by simp) (by simp)) ?_
    intro k hk
    have hmul : n * i ≤ 16 * 1000 := Nat.mul_le_mul hn (by omega)
    refine S_r ?_
    refine brc_intro (fun h => ?_) (fun h => ?_)
    · have hlt : k < n := by have := of_decide_eq_true h; omega
      refine And.intro (by simp) (Or.inl (And.intro rfl (And.intro ?_ (And.intro ?_ (And.intro ?_ ?_)))))
      · simp [roundsL_length]
      · show (n * i + k + 1) * 8 ≤ _
        omega
      · show n * i + k + 1 ≤ _
        omega
      · have e : (roundsL n (n * i + (k + 1))).map rowZ = (roundsL n (n * i + k)).map rowZ ++ [rowZ k] := by
          rw [show n * i + (k + 1) = n * i + k + 1 by omega, roundsL_succ, Nat.mul_add_mod, Nat.mod_eq_of_lt hlt]
          simp
        refine At.mk' [0, 1, 6, 23, 24, 26, 27] (k + 1) ⟨hlt, by omega⟩ ⟨?_, rfl⟩ (congrArg (fun r => ([.rows false 1 r] : List PO)) e.symm) rfl (by simp) (by simp) (by simp)
        rw [wrap_i64 _ (by omega) (by omega)]
        rfl
    · have h := of_decide_eq_false h
      obtain rfl : n = k := by omega
      refine At.mk' [0, 1, 6, 23, 24] (i + 1) ⟨hlt, by omega⟩ ⟨?_, rfl⟩ rfl rfl (by simp) (by simp) (by simp)
      rw [wrap_i64 _ (by omega) (by omega)]
      rfl
  · have h := of_decide_eq_false h
    obtain rfl : times = i := by omega
    exact hK

theorem picked (hK : K (bl true) [] []) : Does Tryz.prog 52 [] [] K := by
  refine does Tryz.func52 rfl (by decide) ?_
  change Does Tryz.prog 76 _ _ _
  refine Does.alone 0 (roundsF 2 2 (by decide) (by decide) ?_)
  change Does Tryz.prog 77 _ _ _
  refine Does.on 2 [0, 1] _ _ (equalInt (xs := [0, 1, 0, 1]) (ys := [0, 1, 0, 1]) (by decide) (fun _ => ?_) fun h => absurd rfl h)
  change Does Tryz.prog 49 _ _ _
  refine Does.on 2 [0] _ _ (fairIs (ro := false) (all := [0, 1, 0, 1]) (o := 0) (l := [0, 1, 0, 1]) 2 2 (fun i _ => by simp) (by decide) (by decide) fun b hb => ?_)
  obtain rfl : b = true := hb.2 ⟨by decide, by decide, by decide, fun i hi t ht => by
    have h1 : i = 0 ∨ i = 1 ∨ i = 2 ∨ i = 3 := by simp at hi; omega
    have h2 : t = 0 ∨ t = 1 := by omega
    rcases h1 with rfl | rfl | rfl | rfl <;> rcases h2 with rfl | rfl <;> decide⟩
  change Does Tryz.prog 49 _ _ _
  refine Does.on 3 [2] _ _ (fairIs (ro := false) (all := [0, 0, 1]) (o := 0) (l := [0, 0, 1]) 2 2 (fun i _ => by simp) (by decide) (by decide) fun b hb => ?_)
  obtain rfl : b = false := by
    cases b with
    | false => rfl
    | true => exact absurd ((hb.1 rfl).2.2.2 1 (by decide) 1 (by decide)) (by decide)
  exact hK

end
end Go.Mac
