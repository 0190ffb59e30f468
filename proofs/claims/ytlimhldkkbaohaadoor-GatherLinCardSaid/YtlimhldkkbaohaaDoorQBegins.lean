/- Where a phaser begins. -/
import Derived.Test.YtlimhldkkbaohaaDoorGBase
import Derived.Test.YtlimhldkkbaohaaDoorQPackG
open Go Go.Proofs Go.Mac
set_option maxRecDepth 100000
namespace Go.Mac

abbrev begT : List Int := [0, 0, 1, 2147483647, 2147483646]
def begPh (x : Int) : Int := begT.getD (pickZ x 5).toNat 0

theorem begPh_at (x : Int) : begT[(pickZ x 5).toNat]? = some (begPh x) := by
  have h := pickZ_lt x (n := 5) (by decide)
  rw [begPh, List.getD_eq_getElem?_getD, List.getElem?_eq_getElem (by show (pickZ x 5).toNat < 5; omega)]
  rfl

theorem begPh_in (x : Int) : 0 ≤ begPh x ∧ begPh x < 2147483648 := by
  have h := List.mem_of_getElem? (begPh_at x)
  simp only [List.mem_cons, List.not_mem_nil, or_false] at h
  omega

section
variable {K : AV → List Nat → List PO → Prop}

theorem begins (a b : Int) (h : K (.tup [pkPhaseC false (begPh a) (pickZ b 5) (pickZ b 5), .c (.f (.int .u64 (pkWordZ false (begPh a) (pickZ b 5) (pickZ b 5)))), .c (.f (.bool true))]) [] []) : Does Tryd.prog 34 [i64 a, i64 b] [] K := by
  refine does Tryd.func34 rfl (by decide) ?_
  have hpa := pickZ_lt a (n := 5) (by decide)
  have hpb := pickZ_lt b (n := 5) (by decide)
  have hat := begPh_at a
  have hin := begPh_in a
  generalize begPh a = ph at hat hin h
  have hat' : (begT.map rowZ)[0 + Int.toNat (pickZ a 5)]? = some (rowZ ph) := by rw [Nat.zero_add, List.getElem?_map, hat]; rfl
  refine SS.drawR follows (by decide) ?_
  have l0 := hpa.1
  have l1 : pickZ a 5 < ((5 : Nat) : Int) := hpa.2
  repeat' first
    | refine And.intro rfl ?_
    | refine And.intro (And.intro l0 (And.intro l1 rfl)) ?_
    | refine And.intro (Exists.intro (rowZ ph) (Exists.intro (FC.int .i64 ph) (And.intro hat' (And.intro rfl rfl)))) ?_
    | refine at2 l0 l1 (rd1 (rowZ ph) (.int .i64 ph) hat' rfl ?_)
    | refine And.intro ?_ ?_
    | (change Does Tryd.prog 18 _ _ _
       first
         | refine Does.alone 1 (pick a 5 (by decide) ?_)
         | refine Does.alone 2 (pick a 5 (by decide) ?_)
         | refine Does.alone 3 (pick a 5 (by decide) ?_)
         | refine Does.alone 1 (pick b 5 (by decide) ?_)
         | refine Does.alone 2 (pick b 5 (by decide) ?_)
         | refine Does.alone 3 (pick b 5 (by decide) ?_))
  all_goals change Does Tryd.prog 45 _ _ _
  all_goals
    refine Does.alone 3 (pkWord false ph (pickZ b 5) (pickZ b 5) (fun hh => absurd (of_decide_eq_false hh) (fun hno => hno (by omega))) fun _ => ?_)
    refine SS.drawR follows (by decide) ?_
    repeat' first
      | refine And.intro rfl ?_
      | refine And.intro ?_ ?_
  all_goals exact h

end
end Go.Mac
