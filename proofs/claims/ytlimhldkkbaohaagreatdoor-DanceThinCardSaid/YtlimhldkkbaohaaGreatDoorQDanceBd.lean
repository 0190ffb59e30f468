/- No more steps than three times the instructions, for each round and one. -/
import Derived.Test.YtlimhldkkbaohaaGreatDoorQDanceZ
import Derived.Test.YtlimhldkkbaohaaGreatDoorQDanceL
open Go Go.Proofs Go.Mac
set_option maxRecDepth 100000
namespace Go.Mac

/-- Picks as moves. -/
def pickS (n : Nat) (t : Int) : MoveZ := ⟨pickZ t n, false⟩

theorem size_ge (k n : Nat) : ∀ i, 8 * i ≤ sizeT k n i
  | 0 => Nat.zero_le _
  | i + 1 => by
    have := size_ge k n i
    rw [size_succ]
    omega

theorem dance_bound {k n R : Nat} (hk : 1 ≤ k ∧ k ≤ 6) (hn : 1 ≤ n ∧ n ≤ 16) (hR : R ≤ 6) (l : List Int) :
    ∃ A V b, DI n (kindC k n) R (PP k n) (kindI k n R) (kindF k n R) b A V (finish (movesZ (danceM k n R) (l.map (pickS n)))) ∧ (∀ t, t < n → (A t).l = .ended) ∧ b ≤ 3 * sizeT k n n * (R + 1) := by
  obtain ⟨A, V, h, _⟩ := DI.steps (kind_bar R hk hn) (fun _ => False) (l.map (pickS n)) (fun x hx => by
    obtain ⟨t, _, rfl⟩ := List.mem_map.1 hx
    exact ⟨rfl, fun _ h => h.elim⟩) (dance_begin hk hn (show R ≤ 20 by omega))
  obtain ⟨h1, h2⟩ := cost_le hk hn
  have h3 : R * costK k n ≤ 6 * costK k n := Nat.mul_le_mul_right _ hR
  have h4 : R * costK k n ≤ R * (3 * sizeT k n n) := Nat.mul_le_mul_left _ h1
  have h5 := size_ge k n n
  obtain ⟨A', V', g1, g2⟩ := h.finish (kind_bar R hk hn) (by omega)
  refine ⟨A', V', _, g1, g2, ?_⟩
  rw [Nat.mul_add, Nat.mul_one, Nat.mul_comm _ R]
  omega

end Go.Mac
