/- Barriers: the programs of Spread and Tourney, walked. -/
import Derived.Test.YtlimhldkkbaohaaGreatDoorGDanceE
open Go Go.Proofs Go.Mac
set_option maxRecDepth 100000
namespace Go.Mac

theorem lev_is {n : Nat} (hn : 1 ≤ n ∧ n ≤ 16) : isLev (n : Int) (levN n) := by
  have h : n = 1 ∨ n = 2 ∨ n = 3 ∨ n = 4 ∨ n = 5 ∨ n = 6 ∨ n = 7 ∨ n = 8 ∨ n = 9 ∨ n = 10 ∨ n = 11 ∨ n = 12 ∨ n = 13 ∨ n = 14 ∨ n = 15 ∨ n = 16 := by omega
  rcases h with rfl | rfl | rfl | rfl | rfl | rfl | rfl | rfl | rfl | rfl | rfl | rfl | rfl | rfl | rfl | rfl <;> exact ⟨by decide, by decide, by decide⟩

theorem lev_le (n : Nat) : levN n ≤ 4 := by
  rw [levN]
  split
  · omega
  · split
    · omega
    · split
      · omega
      · split <;> omega

theorem spreadU_off (n id : Nat) : ∀ r, offP (spreadU n id r) (spreadU n id r).length = 7 * r
  | 0 => rfl
  | r + 1 => by rw [spreadU, offP_app, spreadU_off n id r]; show 7 * r + 7 = _; omega

theorem two_pow {r : Nat} (hr : r < 4) : 1 ≤ 2 ^ r ∧ 2 ^ r ≤ 8 := by
  have h : r = 0 ∨ r = 1 ∨ r = 2 ∨ r = 3 := by omega
  rcases h with rfl | rfl | rfl | rfl <;> decide

/-- One, so often doubled. -/
theorem shl_one {r : Nat} (hr : r < 4) : IntKind.i64.wrap (1 * 2 ^ (min ((r : Int)).toNat (IntKind.bits .i64))) = ((2 ^ r : Nat) : Int) := by
  have h : r = 0 ∨ r = 1 ∨ r = 2 ∨ r = 3 := by omega
  rcases h with rfl | rfl | rfl | rfl <;> decide

section
variable {K : AV → List Nat → List PO → Prop}

theorem spreadBody {n id : Nat} (hn : 1 ≤ n ∧ n ≤ 16) (hid : id < n) (hK : K (cv (.slc 0 0 (bodyN (spreadP n id)).length none false)) [] [.rows false 5 ((bodyN (spreadP n id)).map rowIns)]) : Does Tryz.prog 87 [i64 n, i64 id] [] K := by
  have hlen : ∀ j, (bodyN (spreadU n id j)).length = 7 * j := fun j => by rw [bodyN_len, spreadU_off]
  have hL := lev_le n
  refine Does.keep 0 rfl ?_
  refine does Tryz.func87 rfl (by decide) ?_
  change Does Tryz.prog 86 _ _ _
  refine Does.alone 0 (levels n (by omega) fun l hl => ?_)
  obtain rfl : l = levN n := isLev_unique hl (lev_is hn)
  refine SS.nil 5 5 (by decide) rfl ?_
  refine SS.loop (fun r : Nat => r ≤ levN n) (fun r => [(0, i64 n), (1, i64 id), (5, cv (.slc 0 0 (7 * r) none false)), (6, i64 (levN n)), (10, i64 (levN n)), (11, i64 r)]) (fun r => [.rows false 5 ((bodyN (spreadU n id r)).map rowIns)]) (fun r => levN n - r) [0]
    (At.mk' [0, 1, 5, 6, 10, 11] 0 (Nat.zero_le _) ⟨rfl, rfl⟩ rfl rfl (by simp) (by simp) (by simp)) ?_
  intro r hr
  change r ≤ levN n at hr
  refine S_r ?_
  refine brc_intro (fun hlt => ?_) (fun hlt => ?_)
  · have hlt : r < levN n := by
      have := of_decide_eq_true hlt
      have : (r : Int) < (levN n : Int) := this
      omega
    have hr4 : r < 4 := by omega
    obtain ⟨p1, p8⟩ := two_pow hr4
    have hm : (id + 2 ^ r) % n < n := Nat.mod_lt _ (by omega)
    have hm4 : (id + 2 ^ r) % n * levN n ≤ 16 * 4 := Nat.mul_le_mul (by omega) hL
    have hi4 : id * levN n ≤ 16 * 4 := Nat.mul_le_mul (by omega) hL
    have hw1 : IntKind.i64.wrap (IntKind.i64.wrap ((IntKind.i64.wrap ((id : Int) + IntKind.i64.wrap (1 * 2 ^ (min ((r : Int)).toNat (IntKind.bits .i64))))).tmod (n : Int) * (levN n : Int)) + (r : Int)) = (((id + 2 ^ r) % n * levN n + r : Nat) : Int) := by
      rw [shl_one hr4, wrap_i64 ((id : Int) + ((2 ^ r : Nat) : Int)) (by omega) (by omega)]
      rw [show (id : Int) + ((2 ^ r : Nat) : Int) = ((id + 2 ^ r : Nat) : Int) by omega, ← Int.ofNat_tmod, ← Int.natCast_mul]
      rw [wrap_i64 (((id + 2 ^ r) % n * levN n : Nat) : Int) (by omega) (by omega), wrap_i64 _ (by omega) (by omega)]
      omega
    have hw2 : IntKind.i64.wrap (IntKind.i64.wrap ((id : Int) * (levN n : Int)) + (r : Int)) = ((id * levN n + r : Nat) : Int) := by
      rw [← Int.natCast_mul, wrap_i64 ((id * levN n : Nat) : Int) (by omega) (by omega), wrap_i64 _ (by omega) (by omega)]
      omega
    have hw3 : IntKind.i64.wrap (5 + ((7 * r + 2 : Nat) : Int)) = ((5 + (7 * r + 2) : Nat) : Int) := by
      rw [wrap_i64 _ (by omega) (by omega)]
      omega
    refine nonzero_intro (by omega) ?_
    change Does Tryz.prog 104 _ _ _
    refine Does.alone 1 (tellN (n := 1) hw1 rfl ?_)
    refine And.intro (Nat.le_of_ble_eq_true rfl) (Or.inl (And.intro rfl (And.intro (by simp [hlen]) (And.intro (by show (7 * r + 2) * 40 ≤ _; omega) (And.intro (by show 7 * r + 2 ≤ _; omega) ?_)))))
    change Does Tryz.prog 103 _ _ _
    refine Does.alone 2 (awaitN hw3 hw2 (by omega) ?_)
    refine And.intro (Nat.le_of_ble_eq_true rfl) (Or.inl (And.intro rfl (And.intro (by simp [hlen]) (And.intro (by show (7 * r + 2 + 5) * 40 ≤ _; omega) (And.intro (by show 7 * r + 2 + 5 ≤ _; omega) ?_)))))
    refine At.mk' [0, 1, 5, 6, 10, 11] (r + 1) ⟨hlt, by omega⟩ ⟨?_, rfl⟩ ?_ rfl (by simp) (by simp) (by decide)
    · rw [wrap_i64 (r + 1) (by omega) (by omega)]
      rfl
    · rw [spreadU, show spreadU n id r ++ [Pc.tl ((id + 2 ^ r) % n * levN n + r) 1, Pc.aw (id * levN n + r)] = spreadU n id r ++ [Pc.tl ((id + 2 ^ r) % n * levN n + r) 1] ++ [Pc.aw (id * levN n + r)] by simp, bodyN_snoc, bodyN_snoc, List.length_append, hlen, List.map_append, List.map_append]
      rfl
  · have hlt : ¬ (r : Int) < (levN n : Int) := of_decide_eq_false hlt
    obtain rfl : r = levN n := by omega
    rw [spreadP, hlen] at hK
    exact ⟨1, [0], [.rows false 5 ((bodyN (spreadU n id (levN n))).map rowIns)], cv (.slc 0 0 (7 * levN n) none false), rfl, rfl, by decide, by decide, rfl, rfl, rfl, rfl, rfl, hK⟩

/-- A bit of a number. -/
theorem bit_and : ∀ id, id < 16 → ∀ r, r < 5 → IntKind.i64.wrap ((BitVec.ofInt (IntKind.bits .i64) (((id : Nat) : Int).fdiv (2 ^ (min (((r : Nat) : Int)).toNat (IntKind.bits .i64)))) &&& BitVec.ofInt (IntKind.bits .i64) 1).toNat) = ((id / 2 ^ r % 2 : Nat) : Int) := by decide +kernel

theorem tourneyU_off (n id : Nat) : ∀ r, offP (tourneyU n id r) (tourneyU n id r).length ≤ 5 * r
  | 0 => Nat.le_refl _
  | r + 1 => by
    rw [tourneyU, offP_app]
    have := tourneyU_off n id r
    split
    · show _ + 5 ≤ _
      omega
    · show _ + 0 ≤ _
      omega

theorem lose_out {L id r : Nat} (hr : r ≤ 4) (h : ¬ (r < L ∧ id / 2 ^ r % 2 = 0)) : loseN L id (5 - r) r = r := by
  rw [show 5 - r = (4 - r) + 1 by omega, loseN, if_neg h]

theorem lose_in {L id r : Nat} (hr : r ≤ 4) (h : r < L ∧ id / 2 ^ r % 2 = 0) : loseN L id (5 - r) r = loseN L id (5 - (r + 1)) (r + 1) := by
  rw [show 5 - r = (4 - r) + 1 by omega, loseN, if_pos h, show 5 - (r + 1) = 4 - r by omega]

theorem tourneyP_is {n id r : Nat} (h : loseN (levN n) id 5 0 = r) : tourneyP n id = tourneyU n id r ++ ((if r < levN n then [.tl ((id - 2 ^ r) * levN n + r) 1, .aw (n * levN n + id)] else []) ++ tourneyD n id r) := by
  subst h
  rfl

def idxD : Nat → Int
  | 0 => -1
  | i + 1 => i

theorem idxD_eq {r : Nat} (hr : r ≤ 100) : IntKind.i64.wrap ((r : Int) - 1) = idxD r := by
  rw [wrap_i64 _ (by omega) (by omega)]
  cases r with
  | zero => rfl
  | succ r => show ((r + 1 : Nat) : Int) - 1 = r; omega

/-- The way down. -/
theorem tourneyTail {n id : Nat} (hn : 1 ≤ n ∧ n ≤ 16) (hid : id < n) : ∀ i, i ≤ 4 → offP (tourneyD n id i) (tourneyD n id i).length ≤ 2 * i
  | 0, _ => Nat.le_refl _
  | i + 1, h => by
    rw [tourneyD, offP_app]
    have := tourneyTail hn hid i (by omega)
    split
    · show 2 + _ ≤ _
      omega
    · show 0 + _ ≤ _
      omega

set_option maxHeartbeats 1000000 in
theorem tourneyBody {n id : Nat} (hn : 1 ≤ n ∧ n ≤ 16) (hid : id < n) (hK : K (cv (.slc 0 0 (bodyN (tourneyP n id)).length none false)) [] [.rows false 5 ((bodyN (tourneyP n id)).map rowIns)]) : Does Tryz.prog 88 [i64 n, i64 id] [] K := by
  have hL := lev_le n
  refine Does.keep 0 rfl ?_
  refine does Tryz.func88 rfl (by decide) ?_
  change Does Tryz.prog 86 _ _ _
  refine Does.alone 0 (levels n (by omega) fun l hl => ?_)
  obtain rfl : l = levN n := isLev_unique hl (lev_is hn)
  refine SS.nil 5 5 (by decide) rfl ?_
  refine SS.loop (fun r : Nat => r ≤ levN n ∧ loseN (levN n) id (5 - r) r = loseN (levN n) id 5 0) (fun r => [(0, i64 n), (1, i64 id), (5, cv (.slc 0 0 (bodyN (tourneyU n id r)).length none false)), (6, i64 (levN n)), (7, i64 r)]) (fun r => [.rows false 5 ((bodyN (tourneyU n id r)).map rowIns)]) (fun r => levN n - r) [0]
    (At.mk' [0, 1, 5, 6, 7] 0 ⟨Nat.zero_le _, rfl⟩ ⟨rfl, rfl⟩ rfl rfl (by simp) (by simp) (by simp)) ?_
  rintro r ⟨hr, hlo⟩
  have hUb : (bodyN (tourneyU n id r)).length ≤ 20 := by
    have := tourneyU_off n id r
    rw [bodyN_len]
    omega
  have hi4 : id * levN n ≤ 16 * 4 := Nat.mul_le_mul (by omega) hL
  have hn4 : n * levN n ≤ 16 * 4 := Nat.mul_le_mul (by omega) hL
  have hbit := bit_and id (by omega) r (by omega)
  have hrw : IntKind.i64.wrap ((r : Int) + 1) = ((r + 1 : Nat) : Int) := by
    rw [wrap_i64 _ (by omega) (by omega)]
    omega
  refine S_r ?_
  refine brc_intro (fun h1 => brc_intro (fun h2 => ?_) (fun h2 => ?_)) (fun h1 => ?_)
  · have hlt : r < levN n := by
      have := of_decide_eq_true h1
      have : (r : Int) < (levN n : Int) := this
      omega
    have hb0 : id / 2 ^ r % 2 = 0 := by
      have h3 : (IntKind.i64.wrap _ == 0) = true := h2
      rw [hbit] at h3
      have : ((id / 2 ^ r % 2 : Nat) : Int) = 0 := by simpa using h3
      omega
    have hr4 : r < 4 := by omega
    obtain ⟨p1, p8⟩ := two_pow hr4
    have hs : IntKind.i64.wrap ((id : Int) + IntKind.i64.wrap (1 * 2 ^ (min ((r : Int)).toNat (IntKind.bits .i64)))) = ((id + 2 ^ r : Nat) : Int) := by
      rw [shl_one hr4, wrap_i64 _ (by omega) (by omega)]
      omega
    have hw2 : IntKind.i64.wrap (IntKind.i64.wrap ((id : Int) * (levN n : Int)) + (r : Int)) = ((id * levN n + r : Nat) : Int) := by
      rw [← Int.natCast_mul, wrap_i64 ((id * levN n : Nat) : Int) (by omega) (by omega), wrap_i64 _ (by omega) (by omega)]
      omega
    have hw3 : IntKind.i64.wrap (5 + (((bodyN (tourneyU n id r)).length : Nat) : Int)) = ((5 + (bodyN (tourneyU n id r)).length : Nat) : Int) := by
      rw [wrap_i64 _ (by omega) (by omega)]
      omega
    have hin := lose_in (L := levN n) (by omega) ⟨hlt, hb0⟩
    refine SS.inlR ?_
    refine brc_intro (fun h3 => ?_) (fun h3 => ?_)
    · have h3 : id + 2 ^ r < n := by
        have h3 : IntKind.i64.wrap ((id : Int) + IntKind.i64.wrap (1 * 2 ^ (min ((r : Int)).toNat (IntKind.bits .i64)))) < (n : Int) := of_decide_eq_true h3
        rw [hs] at h3
        omega
      change Does Tryz.prog 103 _ _ _
      refine Does.alone 1 (awaitN hw3 hw2 (by omega) ?_)
      refine And.intro (Nat.le_of_ble_eq_true rfl) (Or.inl (And.intro rfl (And.intro (by simp) (And.intro (by show ((bodyN (tourneyU n id r)).length + 5) * 40 ≤ _; omega) (And.intro (by show (bodyN (tourneyU n id r)).length + 5 ≤ _; omega) ?_)))))
      refine At.mk' [0, 1, 5, 6, 7] (r + 1) ⟨⟨hlt, by rw [← hin]; exact hlo⟩, by omega⟩ ⟨?_, rfl⟩ ?_ rfl (by simp) (by simp) (by decide)
      · rw [hrw, tourneyU, if_pos h3, bodyN_snoc, List.length_append]
        rfl
      · rw [tourneyU, if_pos h3, bodyN_snoc, List.map_append]
        rfl
    · have h3 : ¬ id + 2 ^ r < n := by
        have h3 : ¬ IntKind.i64.wrap ((id : Int) + IntKind.i64.wrap (1 * 2 ^ (min ((r : Int)).toNat (IntKind.bits .i64)))) < (n : Int) := of_decide_eq_false h3
        rw [hs] at h3
        omega
      refine At.mk' [0, 1, 5, 6, 7] (r + 1) ⟨⟨hlt, by rw [← hin]; exact hlo⟩, by omega⟩ ⟨?_, rfl⟩ ?_ rfl (by simp) (by simp) (by decide)
      · rw [hrw, tourneyU, if_neg h3, List.append_nil]
      · rw [tourneyU, if_neg h3, List.append_nil]
        rfl
  · have hlt : r < levN n := by
      have := of_decide_eq_true h1
      have : (r : Int) < (levN n : Int) := this
      omega
    have hb1 : ¬ id / 2 ^ r % 2 = 0 := fun e => by
      have h3 : (IntKind.i64.wrap _ == 0) = false := h2
      rw [hbit, e] at h3
      simp at h3
    have hr4 : r < 4 := by omega
    obtain ⟨p1, p8⟩ := two_pow hr4
    have hge : 2 ^ r ≤ id := Classical.byContradiction fun h => hb1 (by rw [Nat.div_eq_of_lt (by omega)])
    rw [lose_out (by omega) fun h => hb1 h.2] at hlo
    have hP := tourneyP_is (n := n) hlo.symm
    rw [if_pos hlt] at hP
    have hs : IntKind.i64.wrap ((id : Int) - IntKind.i64.wrap (1 * 2 ^ (min ((r : Int)).toNat (IntKind.bits .i64)))) = ((id - 2 ^ r : Nat) : Int) := by
      rw [shl_one hr4, wrap_i64 _ (by omega) (by omega)]
      omega
    have hd4 : (id - 2 ^ r) * levN n ≤ 16 * 4 := Nat.mul_le_mul (by omega) hL
    have hw1 : IntKind.i64.wrap (IntKind.i64.wrap (IntKind.i64.wrap ((id : Int) - IntKind.i64.wrap (1 * 2 ^ (min ((r : Int)).toNat (IntKind.bits .i64)))) * (levN n : Int)) + (r : Int)) = (((id - 2 ^ r) * levN n + r : Nat) : Int) := by
      rw [hs, ← Int.natCast_mul, wrap_i64 (((id - 2 ^ r) * levN n : Nat) : Int) (by omega) (by omega), wrap_i64 _ (by omega) (by omega)]
      omega
    have hw2 : IntKind.i64.wrap (IntKind.i64.wrap ((n : Int) * (levN n : Int)) + (id : Int)) = ((n * levN n + id : Nat) : Int) := by
      rw [← Int.natCast_mul, wrap_i64 ((n * levN n : Nat) : Int) (by omega) (by omega), wrap_i64 _ (by omega) (by omega)]
      omega
    have hw3 : IntKind.i64.wrap (5 + (((bodyN (tourneyU n id r)).length + 2 : Nat) : Int)) = ((5 + ((bodyN (tourneyU n id r)).length + 2) : Nat) : Int) := by
      rw [wrap_i64 _ (by omega) (by omega)]
      omega
    refine brc_intro (fun _ => ?_) (fun h => absurd (show (r : Int) < (levN n : Int) by omega) (of_decide_eq_false h))
    change Does Tryz.prog 104 _ _ _
    refine Does.alone 1 (tellN (n := 1) hw1 rfl ?_)
    refine And.intro (Nat.le_of_ble_eq_true rfl) (Or.inl (And.intro rfl (And.intro (by simp) (And.intro (by show ((bodyN (tourneyU n id r)).length + 2) * 40 ≤ _; omega) (And.intro (by show (bodyN (tourneyU n id r)).length + 2 ≤ _; omega) ?_)))))
    change Does Tryz.prog 103 _ _ _
    refine Does.alone 2 (awaitN hw3 hw2 (by omega) ?_)
    refine And.intro (Nat.le_of_ble_eq_true rfl) (Or.inl (And.intro rfl (And.intro (by simp) (And.intro (by show ((bodyN (tourneyU n id r)).length + 2 + 5) * 40 ≤ _; omega) (And.intro (by show (bodyN (tourneyU n id r)).length + 2 + 5 ≤ _; omega) ?_)))))
    have hQ0 : tourneyP n id = (tourneyU n id r ++ [Pc.tl ((id - 2 ^ r) * levN n + r) 1] ++ [Pc.aw (n * levN n + id)]) ++ tourneyD n id (r) := hP.trans (by simp)
    have hB0 : (bodyN (tourneyU n id r ++ [Pc.tl ((id - 2 ^ r) * levN n + r) 1] ++ [Pc.aw (n * levN n + id)])).length ≤ 30 := by
      rw [bodyN_snoc, bodyN_snoc, List.length_append, List.length_append]
      show (bodyN (tourneyU n id r)).length + 2 + 5 ≤ 30
      omega
    refine SS.loop (fun q : Nat × List Pc => q.1 ≤ r ∧ tourneyP n id = q.2 ++ tourneyD n id q.1 ∧ (bodyN q.2).length + 2 * q.1 ≤ 40) (fun q => [(0, i64 n), (1, i64 id), (5, cv (.slc 0 0 (bodyN q.2).length none false)), (6, i64 (levN n)), (7, i64 (idxD q.1))]) (fun q => [.rows false 5 ((bodyN q.2).map rowIns)]) (fun q => q.1) [0]
      (At.mk' [0, 1, 5, 6, 7] (r, (tourneyU n id r ++ [Pc.tl ((id - 2 ^ r) * levN n + r) 1] ++ [Pc.aw (n * levN n + id)])) ⟨Nat.le_refl _, hQ0, by show (bodyN (tourneyU n id r ++ [Pc.tl ((id - 2 ^ r) * levN n + r) 1] ++ [Pc.aw (n * levN n + id)])).length + 2 * (r) ≤ 40; omega⟩ ⟨?_, rfl⟩ ?_ rfl (by simp) (by simp) (by simp)) ?_
    · rw [idxD_eq (by omega)]
      dsimp only
      rw [bodyN_snoc, bodyN_snoc, List.length_append, List.length_append]
      rfl
    · dsimp only
      rw [bodyN_snoc, bodyN_snoc, List.map_append, List.map_append, List.length_append]
      rfl
    rintro ⟨i, Q⟩ ⟨hi, hQ, hB⟩
    change i ≤ r at hi
    change tourneyP n id = Q ++ tourneyD n id i at hQ
    change (bodyN Q).length + 2 * i ≤ 40 at hB
    cases i with
    | zero =>
      refine S_r ?_
      rw [hQ, show tourneyD n id 0 = [] from rfl, List.append_nil] at hK
      exact ⟨1, [0], [.rows false 5 ((bodyN Q).map rowIns)], cv (.slc 0 0 (bodyN Q).length none false), rfl, rfl, by decide, by decide, rfl, rfl, rfl, rfl, rfl, hK⟩
    | succ i =>
      have hi4 : i < 4 := by omega
      obtain ⟨q1, q8⟩ := two_pow hi4
      have hs4 : IntKind.i64.wrap ((id : Int) + IntKind.i64.wrap (1 * 2 ^ (min ((i : Int)).toNat (IntKind.bits .i64)))) = ((id + 2 ^ i : Nat) : Int) := by
        rw [shl_one hi4, wrap_i64 _ (by omega) (by omega)]
        omega
      have hw4 : IntKind.i64.wrap (IntKind.i64.wrap (IntKind.i64.wrap ((n : Int) * (levN n : Int)) + (id : Int)) + IntKind.i64.wrap (1 * 2 ^ (min ((i : Int)).toNat (IntKind.bits .i64)))) = ((n * levN n + id + 2 ^ i : Nat) : Int) := by
        rw [← Int.natCast_mul, wrap_i64 ((n * levN n : Nat) : Int) (by omega) (by omega), wrap_i64 (((n * levN n : Nat) : Int) + (id : Int)) (by omega) (by omega), shl_one hi4, wrap_i64 _ (by omega) (by omega)]
        omega
      have hdn : IntKind.i64.wrap (idxD (i + 1, Q).1 - 1) = idxD i := idxD_eq (r := i) (by omega)
      refine S_r ?_
      refine SS.inlR ?_
      refine brc_intro (fun h5 => ?_) (fun h5 => ?_)
      · have h5 : id + 2 ^ i < n := by
          have h5 : IntKind.i64.wrap ((id : Int) + IntKind.i64.wrap (1 * 2 ^ (min ((i : Int)).toNat (IntKind.bits .i64)))) < (n : Int) := of_decide_eq_true h5
          rw [hs4] at h5
          omega
        change Does Tryz.prog 104 _ _ _
        refine Does.alone 1 (tellN (n := 1) hw4 rfl ?_)
        refine And.intro (Nat.le_of_ble_eq_true rfl) (Or.inl (And.intro rfl (And.intro (by simp) (And.intro (by show ((bodyN Q).length + 2) * 40 ≤ _; omega) (And.intro (by show (bodyN Q).length + 2 ≤ _; omega) ?_)))))
        refine At.mk' [0, 1, 5, 6, 7] (i, Q ++ [Pc.tl (n * levN n + id + 2 ^ i) 1]) ⟨⟨by show i ≤ _; omega, ?_, ?_⟩, by show i < i + 1; omega⟩ ⟨?_, rfl⟩ ?_ rfl (by simp) (by simp) (by decide)
        · show tourneyP n id = Q ++ [Pc.tl (n * levN n + id + 2 ^ i) 1] ++ tourneyD n id i
          rw [hQ, tourneyD, if_pos h5]
          simp
        · show (bodyN (Q ++ [Pc.tl (n * levN n + id + 2 ^ i) 1])).length + 2 * i ≤ 40
          rw [bodyN_snoc, List.length_append]
          show (bodyN Q).length + 2 + 2 * i ≤ 40
          omega
        · rw [hdn]
          dsimp only
          rw [bodyN_snoc, List.length_append]
          rfl
        · dsimp only
          rw [bodyN_snoc, List.map_append]
          rfl
      · have h5 : ¬ id + 2 ^ i < n := by
          have h5 : ¬ IntKind.i64.wrap ((id : Int) + IntKind.i64.wrap (1 * 2 ^ (min ((i : Int)).toNat (IntKind.bits .i64)))) < (n : Int) := of_decide_eq_false h5
          rw [hs4] at h5
          omega
        refine At.mk' [0, 1, 5, 6, 7] (i, Q) ⟨⟨by show i ≤ _; omega, ?_, by show (bodyN Q).length + 2 * i ≤ 40; omega⟩, by show i < i + 1; omega⟩ ⟨?_, rfl⟩ rfl rfl (by simp) (by simp) (by simp)
        · show tourneyP n id = Q ++ tourneyD n id i
          rw [hQ, tourneyD, if_neg h5]
          simp
        · rw [hdn]
  · have hge : ¬ r < levN n := by
      have := of_decide_eq_false h1
      have : ¬ (r : Int) < (levN n : Int) := this
      omega
    obtain rfl : r = levN n := by omega
    rw [lose_out hL fun h => hge h.1] at hlo
    have hP := tourneyP_is (n := n) hlo.symm
    rw [if_neg hge] at hP
    refine brc_intro (fun h => absurd (of_decide_eq_true h) (by omega)) (fun _ => ?_)
    have hQ0 : tourneyP n id = (tourneyU n id (levN n)) ++ tourneyD n id (levN n) := hP.trans (by simp)
    have hB0 : (bodyN (tourneyU n id (levN n))).length ≤ 30 := by
      omega
    refine SS.loop (fun q : Nat × List Pc => q.1 ≤ levN n ∧ tourneyP n id = q.2 ++ tourneyD n id q.1 ∧ (bodyN q.2).length + 2 * q.1 ≤ 40) (fun q => [(0, i64 n), (1, i64 id), (5, cv (.slc 0 0 (bodyN q.2).length none false)), (6, i64 (levN n)), (7, i64 (idxD q.1))]) (fun q => [.rows false 5 ((bodyN q.2).map rowIns)]) (fun q => q.1) [0]
      (At.mk' [0, 1, 5, 6, 7] (levN n, (tourneyU n id (levN n))) ⟨Nat.le_refl _, hQ0, by show (bodyN (tourneyU n id (levN n))).length + 2 * (levN n) ≤ 40; omega⟩ ⟨?_, rfl⟩ ?_ rfl (by simp) (by simp) (by simp)) ?_
    · rw [idxD_eq (by omega)]
    · rfl
    rintro ⟨i, Q⟩ ⟨hi, hQ, hB⟩
    change i ≤ levN n at hi
    change tourneyP n id = Q ++ tourneyD n id i at hQ
    change (bodyN Q).length + 2 * i ≤ 40 at hB
    cases i with
    | zero =>
      refine S_r ?_
      rw [hQ, show tourneyD n id 0 = [] from rfl, List.append_nil] at hK
      exact ⟨1, [0], [.rows false 5 ((bodyN Q).map rowIns)], cv (.slc 0 0 (bodyN Q).length none false), rfl, rfl, by decide, by decide, rfl, rfl, rfl, rfl, rfl, hK⟩
    | succ i =>
      have hi4 : i < 4 := by omega
      obtain ⟨q1, q8⟩ := two_pow hi4
      have hs4 : IntKind.i64.wrap ((id : Int) + IntKind.i64.wrap (1 * 2 ^ (min ((i : Int)).toNat (IntKind.bits .i64)))) = ((id + 2 ^ i : Nat) : Int) := by
        rw [shl_one hi4, wrap_i64 _ (by omega) (by omega)]
        omega
      have hw4 : IntKind.i64.wrap (IntKind.i64.wrap (IntKind.i64.wrap ((n : Int) * (levN n : Int)) + (id : Int)) + IntKind.i64.wrap (1 * 2 ^ (min ((i : Int)).toNat (IntKind.bits .i64)))) = ((n * levN n + id + 2 ^ i : Nat) : Int) := by
        rw [← Int.natCast_mul, wrap_i64 ((n * levN n : Nat) : Int) (by omega) (by omega), wrap_i64 (((n * levN n : Nat) : Int) + (id : Int)) (by omega) (by omega), shl_one hi4, wrap_i64 _ (by omega) (by omega)]
        omega
      have hdn : IntKind.i64.wrap (idxD (i + 1, Q).1 - 1) = idxD i := idxD_eq (r := i) (by omega)
      refine S_r ?_
      refine SS.inlR ?_
      refine brc_intro (fun h5 => ?_) (fun h5 => ?_)
      · have h5 : id + 2 ^ i < n := by
          have h5 : IntKind.i64.wrap ((id : Int) + IntKind.i64.wrap (1 * 2 ^ (min ((i : Int)).toNat (IntKind.bits .i64)))) < (n : Int) := of_decide_eq_true h5
          rw [hs4] at h5
          omega
        change Does Tryz.prog 104 _ _ _
        refine Does.alone 1 (tellN (n := 1) hw4 rfl ?_)
        refine And.intro (Nat.le_of_ble_eq_true rfl) (Or.inl (And.intro rfl (And.intro (by simp) (And.intro (by show ((bodyN Q).length + 2) * 40 ≤ _; omega) (And.intro (by show (bodyN Q).length + 2 ≤ _; omega) ?_)))))
        refine At.mk' [0, 1, 5, 6, 7] (i, Q ++ [Pc.tl (n * levN n + id + 2 ^ i) 1]) ⟨⟨by show i ≤ _; omega, ?_, ?_⟩, by show i < i + 1; omega⟩ ⟨?_, rfl⟩ ?_ rfl (by simp) (by simp) (by decide)
        · show tourneyP n id = Q ++ [Pc.tl (n * levN n + id + 2 ^ i) 1] ++ tourneyD n id i
          rw [hQ, tourneyD, if_pos h5]
          simp
        · show (bodyN (Q ++ [Pc.tl (n * levN n + id + 2 ^ i) 1])).length + 2 * i ≤ 40
          rw [bodyN_snoc, List.length_append]
          show (bodyN Q).length + 2 + 2 * i ≤ 40
          omega
        · rw [hdn]
          dsimp only
          rw [bodyN_snoc, List.length_append]
          rfl
        · dsimp only
          rw [bodyN_snoc, List.map_append]
          rfl
      · have h5 : ¬ id + 2 ^ i < n := by
          have h5 : ¬ IntKind.i64.wrap ((id : Int) + IntKind.i64.wrap (1 * 2 ^ (min ((i : Int)).toNat (IntKind.bits .i64)))) < (n : Int) := of_decide_eq_false h5
          rw [hs4] at h5
          omega
        refine At.mk' [0, 1, 5, 6, 7] (i, Q) ⟨⟨by show i ≤ _; omega, ?_, by show (bodyN Q).length + 2 * i ≤ 40; omega⟩, by show i < i + 1; omega⟩ ⟨?_, rfl⟩ rfl rfl (by simp) (by simp) (by simp)
        · show tourneyP n id = Q ++ tourneyD n id i
          rw [hQ, tourneyD, if_neg h5]
          simp
        · rw [hdn]

end
end Go.Mac
