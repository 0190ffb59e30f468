/- pick. -/
import Derived.Test.YtondghnbecnpiaaDoorQTypes
open Go Go.Proofs Go.Mac
set_option maxRecDepth 100000
namespace Go.Mac

/-- One of n numbers. -/
def pickZ (a n : Int) : Int := a % 18446744073709551616 % n

theorem pickZ_lt (a : Int) {n : Int} (hn : 0 < n) : 0 ≤ pickZ a n ∧ pickZ a n < n := ⟨Int.emod_nonneg _ (by omega), Int.emod_lt_of_pos _ hn⟩

theorem wrap_u64_mod (a : Int) : IntKind.u64.wrap a = a % 18446744073709551616 := by
  simp only [IntKind.wrap, IntKind.bits, IntKind.signed]
  simp

theorem pick {K : AV → List Nat → List PO → Prop} (a n : Int) (hn : 0 < n ∧ n ≤ 4611686018427387904) (hK : K (i64 (pickZ a n)) [] []) : Does Tryd.prog 17 [i64 a, i64 n] [] K := by
  refine does Tryd.func17 rfl (by decide) ?_
  refine nonzero_intro (by rw [wrap_u64 n (by omega) (by omega)]; omega) ?_
  refine eqz (K := fun z => K (i64 z) [] []) hK ?_
  have h := pickZ_lt a hn.1
  unfold pickZ at h ⊢
  rw [wrap_u64 n (by omega) (by omega), wrap_u64_mod, Int.tmod_eq_emod_of_nonneg (by omega)]
  exact (wrap_i64 _ (by omega) (by omega)).symm

end Go.Mac
