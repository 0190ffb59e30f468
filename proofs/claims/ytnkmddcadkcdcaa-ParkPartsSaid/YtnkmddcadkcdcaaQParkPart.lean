/- Lots: who is woken twice is woken at once. -/
import Derived.Test.YtnkmddcadkcdcaaQParkFirst
import Derived.Test.YtnkmddcadkcdcaaQConcat
open Go Go.Proofs Go.Mac
set_option maxRecDepth 100000
namespace Go.Mac

set_option maxHeartbeats 2000000 in
theorem parkParts (l : List NodZ) (c : Int) (_hc : -9223372036854775808 ≤ c ∧ c ≤ 9223372036854775807) (n : Int) (_hn : -9223372036854775808 ≤ n ∧ n ≤ 9223372036854775807) (m : Int) (_hm : -9223372036854775808 ≤ m ∧ m ≤ 9223372036854775807) :
    Does Try.prog 3 [cv (.slc 0 0 l.length none false), i64 c, i64 n, i64 m] [.rows true 3 (l.map rowNodZ)] fun v _ _ => v = bl true := by
  refine does Try.func3 rfl (by decide) ?_
  change Does Try.prog 6 _ _ _
  refine Does.alone 1 (asleep ?_)
  refine brc_intro (fun _ => rfl) (fun h => ?_)
  have hl : l.length ≤ 60 := by have := of_decide_eq_false h; omega
  change Does Try.prog 7 _ _ _
  refine Does.on 1 [0] _ _ (bed l hl fun nn ex hex => ?_)
  change Does Try.prog 7 _ _ _
  refine Does.on 3 [0] _ _ (bed l hl fun nq eq heq => ?_)
  have hb := bedL_len l l.length
  rw [List.take_length] at hb
  generalize bedL l = ss at *
  change Does Try.prog 8 _ _ _
  refine Does.alone 5 (pick c 4 (by decide) ?_)
  change Does Try.prog 8 _ _ _
  refine Does.alone 5 (pick n 9 (by decide) ?_)
  change Does Try.prog 8 _ _ _
  refine Does.alone 5 (pick m 9 (by decide) ?_)
  have hcb := pickZ_lt c (n := 4) (by decide)
  have hnb := pickZ_lt n (n := 9) (by decide)
  have hmb := pickZ_lt m (n := 9) (by decide)
  generalize pickZ c 4 = c at *
  generalize pickZ n 9 = n at *
  generalize pickZ m 9 = m at *
  obtain ⟨o1, k1, h1⟩ : ∃ o1 k1, wakeL c n 0 ss = (o1, k1) := ⟨_, _, rfl⟩
  obtain ⟨o2, k2, h2⟩ : ∃ o2 k2, wakeL c m 0 k1 = (o2, k2) := ⟨_, _, rfl⟩
  obtain ⟨o3, k3, h3⟩ : ∃ o3 k3, wakeL c (n + m) 0 ss = (o3, k3) := ⟨_, _, rfl⟩
  have l1 := wakeL_len c n ss 0
  have l2 := wakeL_len c m k1 0
  have l3 := wakeL_len c (n + m) ss 0
  have a1 := wakeL_out c n ss 0
  have a2 := wakeL_out c m k1 0
  have a3 := wakeL_out c (n + m) ss 0
  have b1 := wakeL_kept c n ss 0
  have b2 := wakeL_kept c m k1 0
  have b3 := wakeL_kept c (n + m) ss 0
  rw [h1] at l1 a1 b1
  rw [h2] at l2 a2 b2
  rw [h3] at l3 a3 b3
  dsimp only at l1 l2 l3 a1 a2 a3 b1 b2 b3
  have hN : (n + m - (0 : Nat)).toNat = (n - (0 : Nat)).toNat + (m - (0 : Nat)).toNat := by omega
  have hout : o1 ++ o2 = o3 := by rw [a1, a2, a3, b1, hN, List.take_add]
  have hat : atL c k2 = atL c k3 := by rw [b2, b3, b1, hN, List.drop_drop]
  have hwr : IntKind.i64.wrap (n + m) = n + m := wrap_i64 _ (by omega) (by omega)
  clear a1 a2 a3 b1 b2 b3 hN
  change Does Try.prog 11 _ _ _
  refine Does.on 5 [1, 2] _ _ (lotWake (n := 16) (k := ss.length) (nn := nn) (ss := ss) (ex := ex) c n h1 rfl (by omega) hex fun nn1 b1 ex1 hex1 => ?_)
  change Does Try.prog 11 _ _ _
  refine Does.on 9 [1, 2] _ _ (lotWake (n := 16) (k := k1.length) (nn := nn1) (ss := k1) (ex := ex1) c m h2 rfl (by omega) hex1 fun nn2 b2 ex2 hex2 => ?_)
  refine And.intro (by simp) (And.intro (by simp) ?_)
  change Does Try.prog 10 _ _ _
  refine Does.on 14 [13] _ _ (concat2 o1 o2 (by omega) fun b => ?_)
  change Does Try.prog 11 _ _ _
  rw [hwr]
  refine Does.on 15 [3, 4] _ _ (lotWake (n := 16) (k := ss.length) (nn := nq) (ss := ss) (ex := eq) c (n + m) h3 rfl (by omega) heq fun nn3 b3 ex3 hex3 => ?_)
  have ho3 : o1.length + o2.length = o3.length := by rw [← hout, List.length_append]
  change Does Try.prog 9 _ _ _
  rw [hout, ho3]
  refine Does.on 19 [14, 18] _ _ (equalPart (all1 := o3) (all2 := o3) (o1 := 0) (o2 := 0) (n1 := o3.length) (n2 := o3.length) o3 o3 (by omega) rfl rfl (by simp) (by simp) (fun _ => ?_) fun h => absurd rfl h)
  have ha1 := atL_le c k2
  have ha2 := atL_le c k3
  change Does Try.prog 12 _ _ _
  refine Does.on 19 [1, 2] _ _ (lotAt (n := 16) (k := k2.length) (nn := nn2) (ss := k2) (ex := ex2) c rfl (by omega) ?_)
  change Does Try.prog 12 _ _ _
  refine Does.on 20 [3, 4] _ _ (lotAt (n := 16) (k := k3.length) (nn := nn3) (ss := k3) (ex := ex3) c rfl (by omega) ?_)
  rw [hat]
  change Does Try.prog 9 _ _ _
  refine Does.on 21 [19, 20] _ _ (equalPart (all1 := atL c k3) (all2 := atL c k3) (o1 := 0) (o2 := 0) (n1 := (atL c k3).length) (n2 := (atL c k3).length) (nn1 := false) (nn2 := false) (atL c k3) (atL c k3) (by omega) rfl rfl (by simp) (by simp) (fun _ => ?_) fun h => absurd rfl h)
  exact rfl

end Go.Mac
