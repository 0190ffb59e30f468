/- Words of a phaser; places of instructions. -/
import Derived.Test.YtlimhldkkbaohaaDoorGWay
import Derived.Test.YtlimhldkkbaohaaDoorQGather
import Derived.Test.YtlimhldkkbaohaaDoorGLinB
open Go Go.Proofs Go.Mac
set_option maxRecDepth 100000
namespace Go.Mac

/-- A word that is not over, and may be. -/
def RW (r : Int) : Prop := 0 ≤ r ∧ r < 9223372036854775808 ∧ r % 65536 ≤ r / 65536 % 65536
/-- A word that was read: if it is over, so is what is there. -/
def WD (v r : Int) : Prop := 0 ≤ r ∧ r < 18446744073709551616 ∧ (r < 9223372036854775808 → RW r) ∧ (9223372036854775808 ≤ r → 9223372036854775808 ≤ v)

section
variable {r : Int} (h : 0 ≤ r ∧ r < 18446744073709551616)
include h

theorem gb_over : bitsZ r 63 1 = if 9223372036854775808 ≤ r then 1 else 0 := by
  have e1 : (2 : Int) ^ min (Int.toNat 63) 64 = 9223372036854775808 := rfl
  have e4 : r.fdiv 9223372036854775808 = r / 9223372036854775808 := Int.fdiv_eq_ediv_of_nonneg _ (by omega)
  have e5 : IntKind.u64.wrap (IntKind.u64.wrap (1 * 2 ^ min (Int.toNat 1) 64) - 1) = 1 := by decide
  rw [bitsZ, e1, e4, e5, and_z 1 _ 1 (by omega) (by omega) (by omega) (by omega), wrap_u64 _ (by omega) (by omega)]
  split <;> omega

theorem gb_wait : bitsZ r 0 16 = r % 65536 := by
  have e1 : (2 : Int) ^ min (Int.toNat 0) 64 = 1 := rfl
  have e4 : r.fdiv 1 = r := by rw [Int.fdiv_eq_ediv_of_nonneg _ (by omega)]; omega
  have e5 : IntKind.u64.wrap (IntKind.u64.wrap (1 * 2 ^ min (Int.toNat 16) 64) - 1) = 65535 := by decide
  rw [bitsZ, e1, e4, e5, and_z 16 _ 65535 (by omega) (by omega) (by omega) (by omega), wrap_u64 _ (by omega) (by omega)]
  rfl

theorem gb_part : bitsZ r 16 16 = r / 65536 % 65536 := by
  have e1 : (2 : Int) ^ min (Int.toNat 16) 64 = 65536 := rfl
  have e4 : r.fdiv 65536 = r / 65536 := Int.fdiv_eq_ediv_of_nonneg _ (by omega)
  have e5 : IntKind.u64.wrap (IntKind.u64.wrap (1 * 65536) - 1) = 65535 := by decide
  rw [bitsZ, e1, e4, e5, and_z 16 _ 65535 (by omega) (by omega) (by omega) (by omega), wrap_u64 _ (by omega) (by omega)]
  rfl

theorem gb_phase : bitsZ r 32 31 = r / 4294967296 % 2147483648 := by
  have e1 : (2 : Int) ^ min (Int.toNat 32) 64 = 4294967296 := rfl
  have e4 : r.fdiv 4294967296 = r / 4294967296 := Int.fdiv_eq_ediv_of_nonneg _ (by omega)
  have e5 : IntKind.u64.wrap (IntKind.u64.wrap (1 * 2 ^ min (Int.toNat 31) 64) - 1) = 2147483647 := by decide
  rw [bitsZ, e1, e4, e5, and_z 31 _ 2147483647 (by omega) (by omega) (by omega) (by omega), wrap_u64 _ (by omega) (by omega)]
  rfl

end

theorem um_add {a b : Int} : u64m (a + u64m b) = (a + b) % 18446744073709551616 := by
  rw [u64m, u64m, wrap_u64_mod, wrap_u64_mod]
  omega

theorem get_left {B T : List InsZ} : ∀ (o : Nat) (i : InsZ), B[o]? = some i → (B ++ T)[o]? = some i := fun o i h => by
  rw [List.getElem?_append_left (List.getElem?_eq_some_iff.1 h).1]
  exact h

theorem get_right {A B : List InsZ} {q : Nat} (hq : A.length = q) : ∀ (o : Nat) (i : InsZ), B[o]? = some i → (A ++ B)[q + o]? = some i := fun o i h => by
  rw [List.getElem?_append_right (by omega), hq, Nat.add_sub_cancel_left]
  exact h

theorem gfit_w {c : CallZ} (h : gFit c) : (c.w = 6 ∧ 1 ≤ c.n ∧ c.n ≤ 65535) ∨ c.w = 10 ∨ c.w = 11 ∨ c.w = 9 ∨ c.w = 8 ∨ c.w = 7 := by
  rw [gFit, gFitB] at h
  by_cases h6 : c.w = 6
  · rw [if_pos h6] at h
    exact .inl ⟨h6, of_decide_eq_true h⟩
  · rw [if_neg h6] at h
    by_cases h10 : c.w = 10
    · exact .inr (.inl h10)
    · rw [if_neg h10] at h
      split at h
      · omega
      · cases h


def arrM (c : CallZ) : Int := if c.w = 8 then -65537 else -1

end Go.Mac
