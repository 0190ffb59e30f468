/- The machine's bits. -/
import Derived.Test.YtljglfophhagjaaDoorQResult
import Derived.Test.YtljglfophhagjaaDoorQMachWF
open Go Go.Proofs Go.Mac
set_option maxRecDepth 100000
namespace Go.Mac

theorem bitsZ_eq {r : Int} (h0 : 0 ≤ r) (h1 : r < 18446744073709551616) (c d : Nat) (hc : c ≤ 63) (hd : d ≤ 63) : bitsZ r c d = r / 2 ^ c % 2 ^ d := by
  have e1 : r.fdiv (2 ^ (min (c : Int).toNat 64)) = r / 2 ^ c := by
    rw [Int.toNat_natCast, Nat.min_eq_left (by omega), Int.fdiv_eq_ediv_of_nonneg _ (Int.le_of_lt (Int.pow_pos (by decide)))]
  have hp : (2 : Int) ^ d ≤ 2 ^ 63 := by exact_mod_cast Nat.pow_le_pow_right (by decide) hd
  have hp1 : (1 : Int) ≤ 2 ^ d := by exact_mod_cast Nat.one_le_two_pow
  have e2 : IntKind.u64.wrap (IntKind.u64.wrap (1 * 2 ^ (min (d : Int).toNat 64)) - 1) = 2 ^ d - 1 := by
    rw [Int.toNat_natCast, Nat.min_eq_left (by omega), Int.one_mul, wrap_u64 (2 ^ d) (by omega) (by omega), wrap_u64 _ (by omega) (by omega)]
  have hq : r / 2 ^ c ≤ r := Int.ediv_le_self _ h0
  have hq0 : 0 ≤ r / 2 ^ c := Int.ediv_nonneg h0 (Int.le_of_lt (Int.pow_pos (by decide)))
  rw [bitsZ, e1, e2, and_z d (r / 2 ^ c) (2 ^ d - 1) hq0 (by omega) rfl (by omega)]
  have h2 := Int.emod_nonneg (r / 2 ^ c) (show (2 : Int) ^ d ≠ 0 by omega)
  have h3 := Int.emod_lt_of_pos (r / 2 ^ c) (show (0 : Int) < 2 ^ d by omega)
  exact wrap_u64 _ h2 (by omega)

theorem coreFields (x : Int) (_hx : -9223372036854775808 ≤ x ∧ x ≤ 9223372036854775807) (y : Int) (_hy : -9223372036854775808 ≤ y ∧ y ≤ 9223372036854775807) :
    Does Tryd.prog 6 [i64 x, i64 y] [rtH] fun v _ _ => v = bl true := by
  refine does Tryd.func6 rfl (by decide) ?_
  change Does Tryd.prog 24 _ _ _
  refine Does.alone 1 (gone ?_)
  change Does Tryd.prog 13 _ _ _
  refine Does.alone 1 (pick y 62 (by decide) ?_)
  have hp := pickZ_lt y (n := 62) (by decide)
  obtain ⟨k, hk⟩ := Int.eq_ofNat_of_zero_le hp.1
  rw [hk] at hp ⊢
  obtain ⟨a, ha⟩ : ∃ a, a = k + 1 := ⟨_, rfl⟩
  have e1 : IntKind.i64.wrap (1 + (k : Int)) = (a : Int) := by rw [wrap_i64 _ (by omega) (by omega)]; omega
  change Does Tryd.prog 25 _ _ _
  rw [e1]
  obtain ⟨r0, r1⟩ := u64m_lt x
  have eA : bitsZ (u64m x) ((0 : Nat) : Int) (a : Int) = u64m x % 2 ^ a := by
    rw [bitsZ_eq r0 r1 0 a (by decide) (by omega)]
    simp
  have hp1 : (1 : Int) ≤ 2 ^ a := by exact_mod_cast Nat.one_le_two_pow
  have hp2 : (2 : Int) ≤ 2 ^ a := by
    have : (2 : Int) ^ 1 ≤ 2 ^ a := by exact_mod_cast Nat.pow_le_pow_right (by decide) (show 1 ≤ a by omega)
    simpa using this
  have hp3 : (2 : Int) ^ a ≤ 2 ^ 63 := by exact_mod_cast Nat.pow_le_pow_right (by decide) (show a ≤ 63 by omega)
  have hq0 : 0 ≤ u64m x / 2 ^ a := Int.ediv_nonneg r0 (by omega)
  have hdm := Int.mul_ediv_add_emod (u64m x) (2 ^ a)
  have hm0 := Int.emod_nonneg (u64m x) (show (2 : Int) ^ a ≠ 0 by omega)
  have hm1 := Int.emod_lt_of_pos (u64m x) (show (0 : Int) < 2 ^ a by omega)
  have hq1 : u64m x / 2 ^ a < 2 ^ 63 := Int.ediv_lt_of_lt_mul (by omega) (by
    have : (2 : Int) ^ 63 * 2 ≤ 2 ^ 63 * 2 ^ a := Int.mul_le_mul_of_nonneg_left hp2 (by decide)
    omega)
  have eB : bitsZ (u64m x) (a : Int) ((63 : Nat) : Int) = u64m x / 2 ^ a := by
    rw [bitsZ_eq r0 r1 a 63 (by omega) (by decide)]
    exact Int.emod_eq_of_lt hq0 hq1
  have hmul : u64m x / 2 ^ a * 2 ^ a ≤ u64m x := Int.ediv_mul_le _ (by omega)
  have eC : IntKind.u64.wrap (u64m x / 2 ^ a * 2 ^ (min (a : Int).toNat 64)) = u64m x / 2 ^ a * 2 ^ a := by
    rw [Int.toNat_natCast, Nat.min_eq_left (by omega)]
    exact wrap_u64 _ (Int.mul_nonneg hq0 (by omega)) (by omega)
  have eD : IntKind.u64.wrap ((BitVec.ofInt 64 (u64m x / 2 ^ a * 2 ^ a) ||| BitVec.ofInt 64 (u64m x % 2 ^ a)).toNat) = u64m x := by
    rw [BitVec.or_comm, or_z a _ _ hm0 hm1 hq0 (by omega) (by omega)]
    have : u64m x % 2 ^ a + u64m x / 2 ^ a * 2 ^ a = u64m x := by rw [Int.mul_comm (u64m x / 2 ^ a)]; omega
    rw [this]
    exact wrap_u64 _ r0 r1
  have eE : IntKind.u64.wrap (1 * 2 ^ (min (a : Int).toNat 64)) = 2 ^ a := by
    rw [Int.toNat_natCast, Nat.min_eq_left (by omega), Int.one_mul]
    exact wrap_u64 _ (by omega) (by omega)
  have hal : locN (resP [⟨1, 1, x, 0, 0⟩, ⟨5, 3, 1, 0, (a : Int)⟩]) 2 th0 = some ⟨2, [0, u64m x, 0, bitsZ (u64m x) ((0 : Nat) : Int) (a : Int), 0, 0, 0, 0], false⟩ := rfl
  obtain ⟨ha1, ha2⟩ := res_run hal rfl rfl (by decide)
  have hra : ∀ c d : Int, 0 ≤ c ∧ c ≤ 63 → 1 ≤ d ∧ d ≤ 63 → rightZ (resP [⟨1, 1, x, 0, 0⟩, ⟨5, 3, 1, c, d⟩]) 1 = true := fun c d hc hd => by
    have h6 : fitsZ 6 c 1 4 = true := by simp [fitsZ]; omega
    have h7 : fitsZ 7 d 1 4 = true := by simp [fitsZ]; omega
    have h5 : okI 1 4 ⟨5, 3, 1, c, d⟩ = true := by
      show (true && true && true && fitsZ 6 c 1 4 && fitsZ 7 d 1 4) = true
      rw [h6, h7]; rfl
    show (true && true && (okI 1 4 ⟨1, 1, x, 0, 0⟩ && (okI 1 4 ⟨5, 3, 1, c, d⟩ && (okI 1 4 ⟨7, 0, 3, -1, 0⟩ && (okI 1 4 ⟨0, 0, 0, 0, 0⟩ && true)))) && true) = true
    rw [h5]
    rfl
  refine Does.on 3 [2] _ _ (result (l := [⟨1, 1, x, 0, 0⟩, ⟨5, 3, 1, 0, (a : Int)⟩]) (n := 2) (nn := true) rfl (by decide) (hra 0 a (by decide) (by omega)) ha1 (ha2.trans (show [bitsZ (u64m x) ((0 : Nat) : Int) (a : Int)] = _ by rw [eA])) ?_)
  change Does Tryd.prog 25 _ _ _
  have hbl : locN (resP [⟨1, 1, x, 0, 0⟩, ⟨5, 3, 1, (a : Int), 63⟩]) 2 th0 = some ⟨2, [0, u64m x, 0, bitsZ (u64m x) (a : Int) ((63 : Nat) : Int), 0, 0, 0, 0], false⟩ := rfl
  obtain ⟨hb1, hb2⟩ := res_run hbl rfl rfl (by decide)
  refine Does.on 4 [3] _ _ (result (l := [⟨1, 1, x, 0, 0⟩, ⟨5, 3, 1, (a : Int), 63⟩]) (n := 2) (nn := true) rfl (by decide) (hra a 63 (by omega) (by decide)) hb1 (hb2.trans (show [bitsZ (u64m x) (a : Int) ((63 : Nat) : Int)] = _ by rw [eB])) ?_)
  refine brc_intro (fun _ => ?_) (fun h => absurd (show (IntKind.u64.wrap ((BitVec.ofInt 64 (IntKind.u64.wrap (u64m x / 2 ^ a * 2 ^ (min (a : Int).toNat 64))) ||| BitVec.ofInt 64 (u64m x % 2 ^ a)).toNat) == u64m x) = false from h) (by rw [eC, eD]; simp))
  refine fin (show decide (u64m x % 2 ^ a < IntKind.u64.wrap (1 * 2 ^ (min (a : Int).toNat 64))) = true from ?_)
  rw [eE]
  exact decide_eq_true hm1

end Go.Mac
