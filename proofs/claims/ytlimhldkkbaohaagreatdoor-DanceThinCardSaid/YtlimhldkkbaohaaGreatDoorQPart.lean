/- Levels, Tell, Await, pieced. -/
import Derived.Test.YtlimhldkkbaohaaGreatDoorGEqB
import Derived.Test.YtlimhldkkbaohaaGreatDoorGBase
open Go Go.Proofs Go.Mac
set_option maxRecDepth 100000
namespace Go.Mac

/-- So often 1 is doubled to be no less. -/
def isLev (n : Int) (l : Nat) : Prop := l ≤ 61 ∧ n ≤ 2 ^ l ∧ (0 < l → (2 : Int) ^ (l - 1) < n)

theorem pow_mono {a b : Nat} (h : a ≤ b) : (2 : Int) ^ a ≤ 2 ^ b := by
  have := Nat.pow_le_pow_right (n := 2) (by decide) h
  exact_mod_cast this

theorem isLev_mono {n m : Int} {l k : Nat} (h1 : isLev n l) (h2 : isLev m k) (h : n ≤ m) : l ≤ k := by
  rcases Nat.lt_or_ge k l with hlt | hge
  · have h3 := h1.2.2 (by omega)
    have h4 := pow_mono (show k ≤ l - 1 by omega)
    have h5 := h2.2.1
    omega
  · exact hge

theorem isLev_unique {n : Int} {l k : Nat} (h1 : isLev n l) (h2 : isLev n k) : l = k :=
  Nat.le_antisymm (isLev_mono h1 h2 (Int.le_refl _)) (isLev_mono h2 h1 (Int.le_refl _))

theorem isLev_double {n : Int} {l : Nat} (h : isLev n l) (hn : 1 ≤ n) (hb : n ≤ 1073741824) : isLev (2 * n) (l + 1) := by
  obtain ⟨h1, h2, h3⟩ := h
  refine ⟨?_, ?_, fun _ => ?_⟩
  · rcases Nat.lt_or_ge 31 l with h | h
    · have := h3 (by omega)
      have := pow_mono (show 31 ≤ l - 1 by omega)
      omega
    · omega
  · rw [Int.pow_succ]; omega
  · rcases Nat.eq_zero_or_pos l with rfl | hl
    · simp; omega
    · have := h3 hl
      have e : (2 : Int) ^ (l + 1 - 1) = 2 ^ (l - 1) * 2 := by rw [← Int.pow_succ]; congr 1; omega
      omega

section
variable {K : AV → List Nat → List PO → Prop}

theorem levels (n : Int) (hn : n ≤ 2305843009213693952) (hK : ∀ l : Nat, isLev n l → K (i64 l) [] []) : Does Tryz.prog 86 [i64 n] [] K := by
  refine does Tryz.func86 rfl (by decide) ?_
  refine SS.loop (fun l : Nat => l ≤ 61 ∧ (0 < l → (2:Int) ^ (l - 1) < n)) (fun l => [(0, i64 n), (3, i64 l), (4, i64 (2 ^ l))]) (fun _ => []) (fun l => 62 - l) []
    (At.mk' [0, 3, 4] 0 (by simp) ⟨rfl, rfl⟩ rfl rfl (by simp) (by simp) (by simp)) ?_
  rintro l ⟨hl, hp⟩
  refine S_r ?_
  refine brc_intro (fun h => ?_) (fun h => ?_)
  · have h := of_decide_eq_true h
    refine brc_intro (fun h' => ?_) (fun h' => ?_)
    · have hl' : l < 61 := by
        rcases Nat.lt_or_ge l 61 with h | h
        · exact h
        · have : l = 61 := by omega
          subst this
          omega
      have hp2 : (2:Int) ^ (l + 1) = 2 ^ l * 2 := by rw [Int.pow_succ]
      have hp3 := pow_mono (show l + 1 ≤ 61 by omega)
      have hp0 : (0:Int) < 2 ^ l := Int.pow_pos (by decide)
      have e1 : IntKind.i64.wrap ((l : Int) + 1) = ((l + 1 : Nat) : Int) := by rw [wrap_i64] <;> omega
      have e2 : IntKind.i64.wrap ((2:Int) ^ l * 2) = 2 ^ (l + 1) := by rw [wrap_i64] <;> omega
      exact At.mk' [0, 3, 4] (l + 1) ⟨⟨by omega, fun _ => h⟩, by omega⟩ ⟨by simp only [e1, e2], rfl⟩ rfl rfl (by simp) (by simp) (by simp)
    · have h' := of_decide_eq_false h'
      omega
  · have h := of_decide_eq_false h
    exact hK l ⟨hl, by omega, hp⟩

theorem tell (cell n : Int) (hK : K (cv (.slc 0 0 2 none true)) [] [.rows false 5 [rowIns ⟨7, cell, 0, -1, 0⟩, rowIns ⟨15, cell, n, -1, 0⟩]]) : Does Tryz.prog 104 [i64 cell, i64 n] [] K := by
  refine does Tryz.func104 rfl (by decide) ?_
  exact hK

theorem await (place cell : Int) (h : 0 ≤ place ∧ place ≤ 1000000)
    (hK : K (cv (.slc 0 0 5 none true)) [] [.rows false 5 [rowIns ⟨6, 1, cell, 0, 0⟩, rowIns ⟨12, 1, 0, place + 3, 0⟩, rowIns ⟨10, place + 5, 0, 0, 0⟩, rowIns ⟨14, cell, 1, 0, 0⟩, rowIns ⟨10, place, 0, 0, 0⟩]]) :
    Does Tryz.prog 103 [i64 place, i64 cell] [] K := by
  rw [← wrap_i64 (place + 3) (by omega) (by omega), ← wrap_i64 (place + 5) (by omega) (by omega)] at hK
  refine does Tryz.func103 rfl (by decide) ?_
  exact hK

end
end Go.Mac
