/- Numerals: what is written is read. -/
import Derived.Lib.AtoiAll
import Derived.Lib.ItoaNum
namespace Go.Mac
open Go

/-- One digit more. -/
theorem parse_snoc (d : UInt8) (hd : 48 ≤ d.toNat ∧ d.toNat ≤ 57) : ∀ (l : List UInt8) (acc m : Nat), Lib.parseUint10 acc l = .ok m → m * 10 + (d.toNat - 48) < 18446744073709551616 → Lib.parseUint10 acc (l ++ [d]) = .ok (m * 10 + (d.toNat - 48))
  | [], acc, m, h, hm => by
    simp only [Lib.parseUint10] at h
    injection h with h
    subst h
    show Lib.parseUint10 acc [d] = _
    simp only [Lib.parseUint10]
    rw [if_pos hd, if_neg (by omega), if_neg (by omega)]
  | c :: r, acc, m, h, hm => by
    simp only [List.cons_append, Lib.parseUint10] at h ⊢
    split at h
    · rename_i hc
      rw [if_pos hc]
      split at h
      · cases h
      · rename_i h1
        rw [if_neg h1]
        split at h
        · cases h
        · rename_i h2
          rw [if_neg h2]
          exact parse_snoc d hd r _ m h hm
    · cases h

theorem dig_toNat (k : Nat) (hk : k < 10) : (UInt8.ofNat (48 + k)).toNat = 48 + k := by
  rw [UInt8.toNat_ofNat']
  omega

theorem decDigits_dig : ∀ (n u : Nat), u < n → ∀ b ∈ Lib.decDigits u, 48 ≤ b.toNat ∧ b.toNat ≤ 57
  | 0, u, h => absurd h (by omega)
  | n + 1, u, h => fun b hb => by
    rw [Lib.decDigits] at hb
    split at hb
    · rename_i hu
      obtain rfl := List.mem_singleton.1 hb
      rw [dig_toNat _ hu]; omega
    · rename_i hu
      rcases List.mem_append.1 hb with hb | hb
      · exact decDigits_dig n (u / 10) (by omega) b hb
      · obtain rfl := List.mem_singleton.1 hb
        rw [dig_toNat _ (by omega)]; omega

theorem decDigits_ne (u : Nat) : Lib.decDigits u ≠ [] := by
  rw [Lib.decDigits]
  split <;> simp

theorem parse_dec : ∀ (n u : Nat), u < n → u < 18446744073709551616 → Lib.parseUint10 0 (Lib.decDigits u) = .ok u
  | 0, u, h, _ => absurd h (by omega)
  | n + 1, u, h, hu => by
    rw [Lib.decDigits]
    split
    · rename_i h10
      have hd := dig_toNat u h10
      show Lib.parseUint10 0 ([] ++ [UInt8.ofNat (48 + u)]) = _
      rw [parse_snoc _ (by omega) [] 0 0 rfl (by omega), hd]
      congr 1; omega
    · rename_i h10
      have hd := dig_toNat (u % 10) (by omega)
      rw [parse_snoc _ (by omega) _ 0 (u / 10) (parse_dec n (u / 10) (by omega) (by omega)) (by omega), hd]
      congr 1; omega

theorem parseMag_dec (u : Nat) (hu : u < 18446744073709551616) : Lib.parseMag (Lib.decDigits u) = .ok u := by
  rw [Lib.parseMag, if_neg (decDigits_ne u)]
  exact parse_dec (u + 1) u (by omega) hu

/-- WHAT IS WRITTEN IS READ. -/
theorem atoi_itoa (n : Int) (h0 : -9223372036854775808 ≤ n) (h1 : n ≤ 9223372036854775807) : Lib.atoiAll (Lib.itoa n) = .ok n := by
  unfold Lib.itoa
  split
  · rename_i hn
    unfold Lib.atoiAll
    dsimp only
    rw [if_pos (.inr (by decide)), parseMag_dec _ (by omega)]
    dsimp only
    rw [if_neg (fun h => h.1 (by decide)), if_neg (fun h => by have := h.2; omega), if_pos (by decide)]
    congr 1; omega
  · rename_i hn
    obtain ⟨c, r, hcr⟩ : ∃ c r, Lib.decDigits n.toNat = c :: r := by
      cases h : Lib.decDigits n.toNat with
      | nil => exact absurd h (decDigits_ne _)
      | cons c r => exact ⟨c, r, rfl⟩
    have hc := decDigits_dig (n.toNat + 1) n.toNat (by omega) c (by rw [hcr]; simp)
    have hm := parseMag_dec n.toNat (by omega)
    rw [hcr] at hm ⊢
    unfold Lib.atoiAll
    dsimp only
    rw [if_neg (by omega), hm]
    dsimp only
    rw [if_neg (by omega), if_neg (by omega), if_neg (by omega)]
    congr 1; omega

theorem atoi_range {l : List UInt8} {v : Int} (h : Lib.atoiAll l = .ok v) : -9223372036854775808 ≤ v ∧ v ≤ 9223372036854775807 := by
  unfold Lib.atoiAll at h
  split at h
  · cases h
  · dsimp only at h
    split at h
    · cases h
    · cases h
    · rename_i u _
      split at h
      · cases h
      · split at h
        · cases h
        · injection h with h
          subst h
          split <;> omega

/-- What an Itoa writes is neither blank nor a line's end. -/
theorem itoa_plain (n : Int) : ∀ b ∈ Lib.itoa n, b ≠ 32 ∧ b ≠ 10 := by
  have key : ∀ u : Nat, ∀ b ∈ Lib.decDigits u, b ≠ 32 ∧ b ≠ 10 := fun u b hb => by
    have := decDigits_dig (u + 1) u (by omega) b hb
    exact ⟨fun e => by subst e; exact absurd this.1 (by decide), fun e => by subst e; exact absurd this.1 (by decide)⟩
  intro b hb
  unfold Lib.itoa at hb
  split at hb
  · rcases List.mem_cons.1 hb with rfl | hb
    · decide
    · exact key _ b hb
  · exact key _ b hb

theorem itoa_ne (n : Int) : Lib.itoa n ≠ [] := by
  unfold Lib.itoa
  split
  · simp
  · exact decDigits_ne _

/-- A numeral, and of which number it is just the one. -/
def tokV (t : List UInt8) : Option Int :=
  match Lib.atoiAll t with
  | .ok v => if Lib.itoa v = t then some v else none
  | _ => none

theorem tok_itoa {n : Int} (h0 : -9223372036854775808 ≤ n) (h1 : n ≤ 9223372036854775807) : tokV (Lib.itoa n) = some n := by
  rw [tokV, atoi_itoa n h0 h1]
  exact if_pos rfl

theorem tok_back {t : List UInt8} {v : Int} (h : tokV t = some v) : Lib.itoa v = t ∧ -9223372036854775808 ≤ v ∧ v ≤ 9223372036854775807 := by
  unfold tokV at h
  split at h
  · rename_i u hu
    split at h
    · rename_i hi
      obtain rfl := Option.some.inj h
      exact ⟨hi, atoi_range hu⟩
    · cases h
  · cases h

theorem decDigits_len : ∀ (k u : Nat), u < 10 ^ (k + 1) → (Lib.decDigits u).length ≤ k + 1
  | 0, u, h => by
    rw [Lib.decDigits, dif_pos (by simpa using h)]; simp
  | k + 1, u, h => by
    rw [Lib.decDigits]
    split
    · simp
    · rw [List.length_append]
      have := decDigits_len k (u / 10) (by rw [Nat.pow_succ] at h; omega)
      simp; omega

theorem itoa_len {n : Int} (h0 : -9223372036854775808 ≤ n) (h1 : n ≤ 9223372036854775807) : (Lib.itoa n).length ≤ 20 := by
  unfold Lib.itoa
  split
  · have := decDigits_len 18 n.natAbs (by rw [show (10 : Nat) ^ (18 + 1) = 10000000000000000000 from rfl]; omega)
    simp; omega
  · have := decDigits_len 18 n.toNat (by rw [show (10 : Nat) ^ (18 + 1) = 10000000000000000000 from rfl]; omega)
    omega

end Go.Mac
