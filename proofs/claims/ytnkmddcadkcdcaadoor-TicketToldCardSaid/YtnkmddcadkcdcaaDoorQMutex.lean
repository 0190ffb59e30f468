/- mutex.Code: the program of a thread that locks and unlocks. -/
import Derived.Test.YtnkmddcadkcdcaaDoorQCallZ
import Derived.Test.YtnkmddcadkcdcaaDoorGBase
open Go Go.Proofs Go.Mac
set_option maxRecDepth 100000
namespace Go.Mac

def mutexIns (p : Int) (c : CallZ) : List InsZ :=
  if c.w = 13 then [⟨1, 5, 0, 0, 0⟩, ⟨6, 1, 0, 0, 0⟩, ⟨9, 3, 0, 1, 5⟩, ⟨11, 3, 0, p + 1, 0⟩, ⟨11, 1, 2, p + 6, 0⟩, ⟨10, p + 7, 0, 0, 0⟩, ⟨15, 0, 1, -1, 0⟩, ⟨16, 3, 1, 0, 0⟩]
  else [⟨1, 5, 0, 0, 0⟩, ⟨1, 6, 1, 0, 0⟩, ⟨1, 4, 2, 0, 0⟩, ⟨9, 3, 0, 5, 6⟩, ⟨11, 3, 1, p + 14, 0⟩, ⟨6, 1, 0, 0, 0⟩, ⟨11, 1, 0, p + 12, 0⟩, ⟨11, 1, 2, p + 10, 0⟩, ⟨9, 3, 0, 6, 4⟩, ⟨11, 3, 0, p + 5, 0⟩, ⟨14, 0, 4, 0, 0⟩, ⟨10, p + 5, 0, 0, 0⟩,
    ⟨9, 3, 0, 5, 4⟩, ⟨11, 3, 0, p + 5, 0⟩, ⟨16, 3, 5, 0, 0⟩]

/-- The instructions of some calls. -/
def mutexU (l : List CallZ) : List InsZ := l.foldl (fun out c => out ++ mutexIns out.length c) []
def mutexP (l : List CallZ) : List InsZ := mutexU l ++ [⟨0, 0, 0, 0, 0⟩]
def mutexFit (c : CallZ) : Prop := (c.w = 12 ∨ c.w = 13) ∧ c.n = 0

theorem mutexU_take (l : List CallZ) (i : Nat) (c : CallZ) (h : l[i]? = some c) : mutexU (l.take (i + 1)) = mutexU (l.take i) ++ mutexIns (mutexU (l.take i)).length c := by
  rw [mutexU, List.take_add_one, h, List.foldl_append]
  rfl

theorem mutexU_len (l : List CallZ) : ∀ i, (mutexU (l.take i)).length ≤ 15 * i
  | 0 => by simp [mutexU]
  | i + 1 => by
    have ih := mutexU_len l i
    cases h : l[i]? with
    | none =>
      have : l.take (i + 1) = l.take i := by rw [List.take_add_one, h]; simp
      rw [this]; omega
    | some c =>
      rw [mutexU_take l i c h, List.length_append]
      have : (mutexIns (mutexU (l.take i)).length c).length ≤ 15 := by
        rw [mutexIns]; split <;> exact Nat.le_of_ble_eq_true rfl
      omega

theorem gCall {l : List CallZ} {i : Nat} {x : CallZ} (h : l[i]? = some x) : (l.map rowCallZ)[0 + Int.toNat (i : Int)]? = some (rowCallZ x) := by simp [h]

section
variable {K : AV → List Nat → List PO → Prop}

end
end Go.Mac
