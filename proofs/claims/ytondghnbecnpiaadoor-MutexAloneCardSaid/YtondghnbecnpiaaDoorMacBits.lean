/- Bits of numbers as sums and remainders: no program in sight. -/
import Derived.Test.YtondghnbecnpiaaDoorMacRow
namespace Go.Mac
open Go

theorem bv_toNat (a : Nat) (h : a < 18446744073709551616) : (BitVec.ofInt 64 (a : Int)).toNat = a := by
  simp
  omega

/-- Or of what does not overlap is the sum. -/
theorem or_z (k : Nat) (a b : Int) (ha : 0 ≤ a) (ha' : a < 2 ^ k) (hb : 0 ≤ b) (hc : b * 2 ^ k < 18446744073709551616) (ha2 : a < 18446744073709551616) :
    (((BitVec.ofInt 64 a ||| BitVec.ofInt 64 (b * 2 ^ k)).toNat : Nat) : Int) = a + b * 2 ^ k := by
  obtain ⟨a, rfl⟩ := Int.eq_ofNat_of_zero_le ha
  obtain ⟨b, rfl⟩ := Int.eq_ofNat_of_zero_le hb
  have e : ((b : Int) * 2 ^ k) = ((b * 2 ^ k : Nat) : Int) := by rw [Int.natCast_mul, Int.natCast_pow]; rfl
  rw [e] at hc ⊢
  rw [BitVec.toNat_or, bv_toNat a (by omega), bv_toNat _ (by omega)]
  have ha'' : a < 2 ^ k := by exact_mod_cast ha'
  have := Nat.shiftLeft_add_eq_or_of_lt ha'' b
  rw [Nat.shiftLeft_eq] at this
  rw [Nat.or_comm, ← this]
  omega

/-- And with low bits alone is the remainder. -/
theorem and_z (k : Nat) (a m : Int) (ha : 0 ≤ a) (ha' : a < 18446744073709551616) (hm : m = 2 ^ k - 1) (hk : m < 18446744073709551616) :
    (((BitVec.ofInt 64 a &&& BitVec.ofInt 64 m).toNat : Nat) : Int) = a % 2 ^ k := by
  obtain ⟨a, rfl⟩ := Int.eq_ofNat_of_zero_le ha
  have h1 : 1 ≤ 2 ^ k := Nat.one_le_two_pow
  have e : m = ((2 ^ k - 1 : Nat) : Int) := by rw [hm, Int.ofNat_sub h1, Int.natCast_pow]; rfl
  rw [e] at hk ⊢
  rw [BitVec.toNat_and, bv_toNat a (by omega), bv_toNat _ (by omega), Nat.and_two_pow_sub_one_eq_mod, Int.natCast_emod, Int.natCast_pow]
  rfl

end Go.Mac
