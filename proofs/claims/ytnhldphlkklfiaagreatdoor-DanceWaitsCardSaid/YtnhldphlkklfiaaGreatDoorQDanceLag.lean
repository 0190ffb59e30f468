/- Nobody goes ahead of any one. -/
import Derived.Test.YtnhldphlkklfiaaGreatDoorQDanceL
open Go Go.Proofs Go.Mac
set_option maxRecDepth 100000
namespace Go.Mac

theorem run_at : ∀ (l : List EvZ) (i : Nat) (c g : List Int), runZ l i c g = none → ∀ (j : Nat) (e : EvZ), l[j]? = some e →
    (oneZ e ((l.take j).foldl (fun p e => (oneZ e p.1 p.2).2) (c, g)).1 ((l.take j).foldl (fun p e => (oneZ e p.1 p.2).2) (c, g)).2).1 = 0
  | [], _, _, _, _, j, e, h => by cases h
  | x :: l, i, c, g, h, j, e, hj => by
    rw [runZ] at h
    split at h
    · rename_i h1
      cases j with
      | zero =>
        obtain rfl := Option.some.inj hj
        exact h1
      | succ j =>
        rw [List.take_succ_cons, List.foldl_cons]
        exact run_at l (i + 1) _ _ h j e hj
    · cases h

theorem check_at {n : Nat} {l : List EvZ} (h : checkZ n l = none) {j : Nat} {e : EvZ} (hj : l[j]? = some e) : (oneZ e (evS n (l.take j)).1 (evS n (l.take j)).2).1 = 0 := run_at l 0 _ _ h j e hj

theorem evS_len : ∀ (l : List EvZ) (p : List Int × List Int), (l.foldl (fun p e => (oneZ e p.1 p.2).2) p).1.length = p.1.length
  | [], _ => rfl
  | e :: l, p => by rw [List.foldl_cons, evS_len l]; exact (oneZ_len e p.1 p.2).1

/-- What one event makes of who came, and how far who goes. -/
theorem one_lag {e : EvZ} {c g : List Int} (h : (oneZ e c g).1 = 0) {w : Nat} (hw : w < c.length) :
    (oneZ e c g).2.1.getD w 0 = (if e.a = 1 ∧ e.t = w then e.v else c.getD w 0) ∧ (e.a = 2 → e.v ≤ c.getD w 0) := by
  unfold oneZ at h ⊢
  split at h
  · cases h
  · rename_i h1
    rw [if_neg h1]
    split at h
    · cases h
    · rename_i h2
      rw [if_neg h2]
      split at h
      · rename_i h3
        rw [if_pos h3]
        split at h
        · cases h
        · rename_i h4
          rw [if_neg h4]
          refine ⟨?_, fun h5 => absurd (h3.symm.trans h5) (by decide)⟩
          have hv : e.v = c.getD e.t.toNat 0 + 1 := Classical.byContradiction fun hne => h4 (.inr hne)
          dsimp only
          rw [List.getD_eq_getElem?_getD, List.getElem?_set]
          by_cases ht : e.t = w
          · rw [if_pos (by omega), if_pos (by omega), if_pos ⟨h3, ht⟩, hv]
            rfl
          · rw [if_neg (by omega), if_neg (fun h => ht h.2), ← List.getD_eq_getElem?_getD]
      · rename_i h3
        rw [if_neg h3]
        split at h
        · cases h
        · rename_i h4
          rw [if_neg h4]
          split at h
          · cases h
          · rename_i h5
            rw [if_neg h5]
            refine ⟨by rw [if_neg (fun h => h3 h.1)], fun _ => ?_⟩
            have hx : c.getD w 0 ∈ c := by
              rw [List.getD_eq_getElem?_getD, List.getElem?_eq_getElem hw]
              exact List.getElem_mem hw
            have := mt List.any_eq_true.2 h5
            exact Classical.byContradiction fun hne => this ⟨_, hx, decide_eq_true (by omega)⟩

end Go.Mac
