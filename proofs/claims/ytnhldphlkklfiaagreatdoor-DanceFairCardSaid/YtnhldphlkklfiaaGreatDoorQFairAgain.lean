/- Who has gone on to the end goes on no more. -/
import Derived.Test.YtnhldphlkklfiaaGreatDoorQLeaves
import Derived.Test.YtnhldphlkklfiaaGreatDoorQDanceC3
import Derived.Test.YtnhldphlkklfiaaGreatDoorQRounds
open Go Go.Proofs Go.Mac
set_option maxRecDepth 100000
namespace Go.Mac

theorem sweep_still {m : MZ} (h : ∀ t : Nat, canZ m (t : Int) = false) : ∀ n, sweepN m n = (m, false)
  | 0 => rfl
  | n + 1 => by
    rw [sweepN_succ, sweep_still h n, sweepS, if_neg (fun h' => by rw [h] at h'; cases h'.1)]

theorem can_all {m : MZ} (h : allZ m = true) (t : Nat) : canZ m (t : Int) = false := by
  unfold canZ
  by_cases ht : t < m.ts.length
  · have : (thZ m t).dn = true := by
      have h2 := List.all_eq_true.1 h (m.ts[t]) (List.getElem_mem ht)
      rw [thZ, List.getD_eq_getElem?_getD, List.getElem?_eq_getElem ht]
      exact h2
    rw [Int.toNat_natCast, this]
    simp
  · rw [decide_eq_false (by omega)]
    rfl

theorem finish_all {m : MZ} (hw : WF m) (h : allZ m = true) : finish m = m := by
  rw [finish_step hw, sweep_still (can_all h)]
  rfl

theorem fairAgain (k : Int) (_hk : -9223372036854775808 ≤ k ∧ k ≤ 9223372036854775807) (n : Int) (_hn : -9223372036854775808 ≤ n ∧ n ≤ 9223372036854775807) (R : Int) (_hR : -9223372036854775808 ≤ R ∧ R ≤ 9223372036854775807) (ms : List MoveZ) :
    Does Tryz.prog 18 [i64 k, i64 n, i64 R, cv (.slc 0 0 ms.length none false)] [.rows true 2 (ms.map rowMove), rtH] fun v _ _ => v = bl true := by
  refine does Tryz.func18 rfl (by decide) ?_
  change Does Tryz.prog 52 _ _ _
  refine Does.alone 2 (picked ?_)
  change Does Tryz.prog 20 _ _ _
  refine Does.on 2 [1] _ _ (danced ?_)
  refine brc_intro (fun _ => rfl) (fun h => ?_)
  have hms : ms.length ≤ 600 := by
    have := of_decide_eq_false h
    omega
  change Does Tryz.prog 21 _ _ _
  refine Does.alone 2 (ball k n R ?_)
  obtain ⟨k, hk, hk6⟩ := pick6 k
  obtain ⟨n, hn, hn16⟩ := pick16b n
  obtain ⟨R, hR, hR6⟩ := pick7 R
  rw [hk, hn, hR]
  obtain ⟨z, hz⟩ : ∃ z, movesZ (danceM k n R) (ms.map (pickM n)) = z := ⟨_, rfl⟩
  obtain ⟨A, V, hD, he⟩ := dance_finish hk6 hn16 hR6 (ms.map (pickM n)) (by rw [List.length_map]; omega)
  rw [hz] at hD
  have hall : allZ (finish z) = true := by
    obtain ⟨o1, o2, o3, o4, o5, o6⟩ := hD.ended (kind_bar R hk6 hn16) hn16.1 he
    exact o1
  change Does Tryz.prog 23 _ _ _
  refine Does.on 2 [0] _ _ (floor (k := k) (n := n) (R := R) (ms := ms) (z := z) (kindAll hk6 hn16 (by omega)) rfl (by omega) hz fun v hv hw => ?_)
  clear hD he
  change Does Tryz.prog 53 _ _ _
  refine Does.on 11 [2, 3, 4, 5, 6, 7, 8, 9, 10] _ _ (coreSteps (m := z) (v := v) ?_)
  change Does Tryz.prog 24 _ _ _
  refine Does.on 11 [2, 3, 4, 5, 6, 7, 8, 9, 10] _ _ (fairFinishN (m := z) (v := v) hw hv fun v1 c hv1 hw1 hc => ?_)
  have hk0 := hw.k
  have hk1 := hw1.k
  have hfin := finish_all hw1 hall
  generalize finish z = z1 at hw1 hc hk1 hfin
  have hsum : IntKind.i64.wrap ((z.k : Int) + c) = (z1.k : Int) := by
    rw [hc, wrap_i64 ((z1.k : Int) - z.k) (by omega) (by omega), wrap_i64 _ (by omega) (by omega)]
    omega
  change Does Tryz.prog 53 _ _ _
  refine Does.on 11 [2, 3, 4, 5, 6, 7, 8, 9, 10] _ _ (coreSteps (m := z1) (v := v1) ?_)
  refine brc_intro (fun _ => ?_) (fun h => ?_)
  rotate_left
  · have h : ((z1.k : Int) == IntKind.i64.wrap ((z.k : Int) + c)) = false := h
    rw [hsum] at h
    simp at h
  change Does Tryz.prog 24 _ _ _
  refine Does.on 11 [2, 3, 4, 5, 6, 7, 8, 9, 10] _ _ (fairFinishN (m := z1) (v := v1) hw1 hv1 fun v2 c2 hv2 hw2 hc2 => ?_)
  rw [hfin] at hc2 ⊢
  obtain rfl : c2 = 0 := by
    rw [hc2, wrap_i64 _ (by omega) (by omega)]
    omega
  change Does Tryz.prog 53 _ _ _
  refine Does.on 11 [2, 3, 4, 5, 6, 7, 8, 9, 10] _ _ (coreSteps (m := z1) (v := v2) ?_)
  refine fin ?_
  rw [hsum]
  simp

end Go.Mac
