/- Numbers turned into calls of those who look, or change. -/
import Derived.Test.YtlimhldkkbaohaaDoorGBase
import Derived.Test.YtlimhldkkbaohaaDoorGCutMade
open Go Go.Proofs Go.Mac
set_option maxRecDepth 100000
namespace Go.Mac

/-- One number's calls; one thread's. -/
def look2 (n : Int) : List CallZ := if Int.tmod n 3 = 0 then [⟨16, 0⟩, ⟨17, 0⟩] else [⟨14, 0⟩, ⟨15, 0⟩]
def lookJ (x : List Int) (j : Nat) : List CallZ := ((x.take j).map look2).flatten
def lookL (x : List Int) : List CallZ := lookJ x 6
def lookersZ (l : List (List Int)) : List (List CallZ) := (l.take 8).map lookL

theorem look2_len (n : Int) : (look2 n).length = 2 := by rw [look2]; split <;> rfl

theorem lookJ_succ {x : List Int} {j : Nat} {y : Int} (h : x[j]? = some y) : lookJ x (j + 1) = lookJ x j ++ look2 y := by
  rw [lookJ, List.take_add_one, h, List.map_append, List.flatten_append]
  simp [lookJ]

theorem lookJ_len : ∀ {j : Nat} {x : List Int}, j ≤ x.length → (lookJ x j).length = 2 * j
  | 0, x, _ => by simp [lookJ]
  | j + 1, x, h => by
    obtain ⟨y, hy⟩ : ∃ y, x[j]? = some y := ⟨_, List.getElem?_eq_getElem (by omega)⟩
    rw [lookJ_succ hy, List.length_append, lookJ_len (by omega), look2_len]
    omega

theorem lookJ_all {x : List Int} {j : Nat} (h : j = min x.length 6) : lookJ x j = lookL x := by
  rw [lookL, lookJ, lookJ]
  subst h
  rcases Nat.le_total x.length 6 with h | h
  · rw [Nat.min_eq_left h, List.take_length, List.take_of_length_le h]
  · rw [Nat.min_eq_right h]

section
variable {K : AV → List Nat → List PO → Prop}

end
end Go.Mac
