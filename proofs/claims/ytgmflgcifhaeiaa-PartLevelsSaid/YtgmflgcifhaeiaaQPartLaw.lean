/- PartLevels: true. -/
import Derived.Test.YtgmflgcifhaeiaaQPart
open Go Go.Proofs Go.Mac
set_option maxRecDepth 100000
namespace Go.Mac

theorem shl1 {l : Nat} (h : l ≤ 61) : IntKind.i64.wrap (1 * 2 ^ min (Int.toNat (l : Int)) IntKind.i64.bits) = 2 ^ l := by
  have e : min (Int.toNat (l : Int)) IntKind.i64.bits = l := by
    have : IntKind.i64.bits = 64 := rfl
    rw [this, Int.toNat_natCast]
    omega
  rw [e, Int.one_mul]
  have h1 := pow_mono h
  have h2 : (0:Int) < 2 ^ l := Int.pow_pos (by decide)
  exact wrap_i64 _ (by omega) (by omega)

theorem partLevels (n : Int) (_hn : -9223372036854775808 ≤ n ∧ n ≤ 9223372036854775807) (m : Int) (_hm : -9223372036854775808 ≤ m ∧ m ≤ 9223372036854775807) : Does Try.prog 6 [i64 n, i64 m] [] fun v _ _ => v = bl true := by
  refine does Try.func6 rfl (by decide) ?_
  change Does Try.prog 19 _ _ _
  refine Does.alone 0 (pieced ?_)
  change Does Try.prog 20 _ _ _
  refine Does.alone 0 (pick _ _ (by decide) ?_)
  change Does Try.prog 20 _ _ _
  refine Does.alone 0 (pick _ _ (by decide) ?_)
  have h1 := pickZ_lt n (n := 1073741824) (by decide)
  have h2 := pickZ_lt m (n := 1073741824) (by decide)
  generalize pickZ n 1073741824 = a at *
  generalize pickZ m 1073741824 = b at *
  change Does Try.prog 21 _ _ _
  rw [wrap_i64 (1 + a) (by omega) (by omega), wrap_i64 (1 + b) (by omega) (by omega), wrap_i64 (2 * (1 + a)) (by omega) (by omega)]
  refine Does.alone 0 (levels _ (by omega) fun l2 hl2 => ?_)
  change Does Try.prog 21 _ _ _
  refine Does.alone 0 (levels _ (by omega) fun l hl => ?_)
  obtain rfl : l2 = l + 1 := isLev_unique hl2 (isLev_double hl (by omega) (by omega))
  have e1 : IntKind.i64.wrap ((l : Int) + 1) = ((l + 1 : Nat) : Int) := by rw [wrap_i64 _ (by have := hl.1; omega) (by have := hl.1; omega)]; rfl
  refine brc_intro (fun _ => ?_) (fun h => absurd h (by rw [e1]; simp))
  have two : (Does Try.prog 21 [i64 (1 + a)] [] fun x M Hl' => x = i64 l ∧ M = [] ∧ Hl' = []) := levels _ (by omega) fun k hk => by rw [isLev_unique hk hl]; exact ⟨rfl, rfl, rfl⟩
  have rest : ∀ l' : Nat, isLev (1 + a) l' → l' = l := fun l' h => isLev_unique h hl
  have h61 := hl.1
  have fin2 : ∀ {b c : Bool}, b = true → c = true → (b && c) = true := fun h h' => by rw [h, h']; rfl
  refine brc_intro (fun h => ?_) (fun h => ?_)
  · change Does Try.prog 21 _ _ _
    refine Does.alone 0 (levels _ (by omega) fun l' h' => ?_)
    obtain rfl := rest l' h'
    refine brc_intro (fun h => ?_) (fun h => absurd h (by rw [shl1 h61]; have := hl.2.1; simp; omega))
    refine brc_intro (fun h => ?_) (fun h => ?_)
    · exact fin rfl
    · have ha : 1 + a ≠ 1 := by simpa using h
      change Does Try.prog 21 _ _ _
      refine Does.alone 0 (levels _ (by omega) fun l'' h'' => ?_)
      obtain rfl : l'' = l' := isLev_unique h'' h'
      have hpos : 0 < l'' := Nat.pos_of_ne_zero fun e => by
        have := hl.2.1
        rw [e] at this
        simp at this
        omega
      have e2 : IntKind.i64.wrap ((l'' : Int) - 1) = ((l'' - 1 : Nat) : Int) := by rw [wrap_i64 _ (by omega) (by omega)]; omega
      refine nonneg_intro (by rw [e2]; omega) ?_
      refine fin ?_
      rw [e2, shl1 (by omega)]
      exact decide_eq_true (hl.2.2 hpos)
  · have hab : a ≤ b := by have := of_decide_eq_false h; omega
    change Does Try.prog 21 _ _ _
    refine Does.alone 0 (levels _ (by omega) fun l' h' => ?_)
    obtain rfl := rest l' h'
    change Does Try.prog 21 _ _ _
    refine Does.alone 0 (levels _ (by omega) fun k hk => ?_)
    have hlk := isLev_mono h' hk (by omega)
    refine brc_intro (fun _ => ?_) (fun h => absurd h (by simp; omega))
    change Does Try.prog 21 _ _ _
    refine Does.alone 0 (levels _ (by omega) fun l' h' => ?_)
    obtain rfl := rest l' h'
    refine brc_intro (fun h => ?_) (fun h => absurd h (by rw [shl1 h61]; have := hl.2.1; simp; omega))
    refine brc_intro (fun h => ?_) (fun h => ?_)
    · exact fin rfl
    · have ha : 1 + a ≠ 1 := by simpa using h
      change Does Try.prog 21 _ _ _
      refine Does.alone 0 (levels _ (by omega) fun l'' h'' => ?_)
      obtain rfl : l'' = l' := isLev_unique h'' h'
      have hpos : 0 < l'' := Nat.pos_of_ne_zero fun e => by
        have := hl.2.1
        rw [e] at this
        simp at this
        omega
      have e2 : IntKind.i64.wrap ((l'' : Int) - 1) = ((l'' - 1 : Nat) : Int) := by rw [wrap_i64 _ (by omega) (by omega)]; omega
      refine nonneg_intro (by rw [e2]; omega) ?_
      refine fin ?_
      rw [e2, shl1 (by omega)]
      exact decide_eq_true (hl.2.2 hpos)

end Go.Mac
