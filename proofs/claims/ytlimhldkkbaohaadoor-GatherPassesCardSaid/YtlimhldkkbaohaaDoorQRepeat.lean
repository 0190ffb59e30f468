/- slices.Repeat of one slice: as many that share. -/
import Derived.Test.YtlimhldkkbaohaaDoorGBase
import Derived.Test.YtlimhldkkbaohaaDoorGCutMade
open Go Go.Proofs Go.Mac
set_option maxRecDepth 100000
namespace Go.Mac

section
variable {K : AV → List Nat → List PO → Prop}

theorem mulBits (y : Nat) (hy : y ≤ 16) (h : K (.tup [.c (.f (.int .u64 0)), .c (.f (.int .u64 y))]) [] []) : Does Tryd.prog 84 [u64 1, u64 y] [] K := by
  rcases (show y = 0 ∨ y = 1 ∨ y = 2 ∨ y = 3 ∨ y = 4 ∨ y = 5 ∨ y = 6 ∨ y = 7 ∨ y = 8 ∨ y = 9 ∨ y = 10 ∨ y = 11 ∨ y = 12 ∨ y = 13 ∨ y = 14 ∨ y = 15 ∨ y = 16 by omega) with rfl | rfl | rfl | rfl | rfl | rfl | rfl | rfl | rfl | rfl | rfl | rfl | rfl | rfl | rfl | rfl | rfl
  all_goals
    refine does Tryd.func84 rfl (by decide) ?_
    change Does Tryd.prog 113 _ _ _
    refine does Tryd.func113 rfl (by decide) ?_
    exact h

/-- The slices that are there already, and those that are not yet. -/
def repE (l : ILoc) (p : List (List FC)) (n k : Nat) (sz : Nat) : List (Option (ILoc × List (List FC))) := List.replicate k (some (l, p)) ++ List.replicate (n - k) (some (⟨0, 0, 0, sz⟩, []))

theorem repE_len {l : ILoc} {p : List (List FC)} {n k sz : Nat} (hk : k ≤ n) : (repE l p n k sz).length = n := by simp [repE]; omega

theorem repE_over {l : ILoc} {p : List (List FC)} {n k m sz : Nat} (hk : k + m ≤ n) : over (repE l p n k sz) k (List.replicate m (some (l, p))) = repE l p n (k + m) sz := by
  rw [over, repE, repE, List.take_append_of_le_length (by simp), List.length_replicate, List.drop_append, List.drop_eq_nil_of_le (by simp), List.nil_append, List.length_replicate]
  simp only [List.take_replicate, List.drop_replicate, Nat.min_self]
  rw [List.replicate_append_replicate, show k + m - k = m by omega, show n - k - m = n - (k + m) by omega]

theorem repE_take {l : ILoc} {p : List (List FC)} {n k m sz : Nat} (hm : m ≤ k) : ((repE l p n k sz).drop 0).take m = List.replicate m (some (l, p)) := by
  rw [List.drop_zero, repE, List.take_append_of_le_length (by simpa using hm), List.take_replicate, Nat.min_eq_left hm]

end
end Go.Mac
