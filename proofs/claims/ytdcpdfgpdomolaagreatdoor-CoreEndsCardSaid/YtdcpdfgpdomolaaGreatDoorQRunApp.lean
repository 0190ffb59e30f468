/- Many steps, in two parts; how many they are. -/
import Derived.Test.YtdcpdfgpdomolaaGreatDoorGMachB
open Go Go.Proofs Go.Mac
set_option maxRecDepth 100000
namespace Go.Mac

theorem runF_acc : ∀ (l : List Int) (c : Nat) (m : MZ), l.foldl runS (c, m) = (c + (l.foldl runS (0, m)).1, (l.foldl runS (0, m)).2)
  | [], c, m => by simp
  | x :: l, c, m => by
    have e : ∀ c, runS (c, m) x = (c + (if (stepZ m x).1 = 0 ∨ m.k < (stepZ m x).2.k then 1 else 0), (stepZ m x).2) := fun _ => rfl
    rw [List.foldl_cons, List.foldl_cons, e, e, runF_acc l (c + _), runF_acc l (0 + _)]
    simp only [Nat.zero_add, Nat.add_assoc]

theorem runM_app (m : MZ) (a b : List Int) : runM m (a ++ b) = ((runM m a).1 + (runM (runM m a).2 b).1, (runM (runM m a).2 b).2) := by
  rw [runM, List.foldl_append, runM, runM]
  exact runF_acc b _ _

theorem stepZ_k2 (m : MZ) (t : Int) : (stepZ m t).1 ≠ 0 ∧ (stepZ m t).2.k = m.k ∨ (stepZ m t).2.k = m.k + 1 := by
  unfold stepZ
  repeat (split; · exact .inl ⟨by simp, rfl⟩)
  rw [goZ, doZ]
  split
  · exact .inr rfl
  · split
    · rename_i m' hf
      right
      have : ∀ (m m' : MZ) (t : Nat) (x : ThZ) (i : InsZ), farZ m t x i = some m' → m'.k = m.k := by
        intro m m' t x i hf
        unfold farZ at hf
        repeat' (split at hf)
        all_goals first | (obtain rfl := Option.some.inj hf; first | rfl | (split <;> rfl)) | cases hf
      rw [this _ _ _ _ _ hf]
      rfl
    · exact .inr rfl

theorem runF_k : ∀ (l : List Int) (p : Nat × MZ), (l.foldl runS p).1 + p.2.k = p.1 + (l.foldl runS p).2.k
  | [], _ => rfl
  | x :: l, p => by
    have h := runF_k l (runS p x)
    rw [List.foldl_cons]
    have h2 : (runS p x).1 + p.2.k = p.1 + (runS p x).2.k := by
      rw [runS]
      dsimp only
      rcases stepZ_k2 p.2 x with ⟨h1, h2⟩ | h2
      · rw [if_neg (by omega), h2]
        rfl
      · rw [if_pos (by omega), h2]
        omega
    omega

theorem runM_k (m : MZ) (l : List Int) : (runM m l).1 + m.k = (runM m l).2.k := by
  have := runF_k l (0, m)
  rw [runM]
  simpa using this

end Go.Mac
