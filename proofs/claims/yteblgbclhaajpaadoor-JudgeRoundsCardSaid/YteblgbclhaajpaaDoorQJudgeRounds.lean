/- The judge's law on rounds. -/
import Derived.Test.YteblgbclhaajpaaDoorQJudgeInv
import Derived.Test.YteblgbclhaajpaaDoorQJudgeLaw
open Go Go.Proofs Go.Mac
set_option maxRecDepth 100000
namespace Go.Mac

theorem judgeRounds (l : List EvZ) (n : Int) (_hn : -9223372036854775808 ≤ n ∧ n ≤ 9223372036854775807) :
    Does Tryd.prog 6 [cv (.slc 0 0 l.length none false), i64 n] [.rows true 4 (l.map rowEv), rtH] fun v _ _ => v = bl true := by
  refine does Tryd.func6 rfl (by decide) ?_
  change Does Tryd.prog 7 _ _ _
  refine Does.on 2 [1] _ _ (judged ?_)
  refine brc_intro (fun _ => fin rfl) (fun h => ?_)
  have hl : l.length ≤ 100 := by have := of_decide_eq_false h; omega
  change Does Tryd.prog 8 _ _ _
  refine Does.alone 2 (pick n 16 (by decide) ?_)
  obtain ⟨m, hm, hm1⟩ := pick16 n
  change Does Tryd.prog 10 _ _ _
  rw [hm, wrap_i64 m (by omega) (by omega)]
  refine Does.on 2 [0] _ _ (rounds (all := l) (l := l) (k := l.length) (n := m) (ro := true) (nn := false) (c := none) rfl (fun i _ => rfl) (by omega) (by omega) (fun hok => ?_) fun e i h => ?_)
  · have hr := rounds_apart (n := m) (by omega) hok
    refine brc_intro (fun _ => ?_) (fun h => by have h := of_decide_eq_false (show decide (allG m l ≤ anyR l) = false from h); omega)
    have hw : IntKind.i64.wrap (allG m l + 2) = allG m l + 2 := by
      obtain ⟨u, hu, h⟩ := (allG_min (n := m) (by omega) l).2
      have hs := goneR_small m l l.length
      rw [List.take_length] at hs
      have := small_getD (by omega) hs u
      exact wrap_i64 _ (by omega) (by omega)
    refine brc_intro (fun _ => ?_) (fun h => by have h := of_decide_eq_false (show decide (anyR l ≤ IntKind.i64.wrap (allG m l + 2)) = false from h); rw [hw] at h; omega)
    change Does Tryd.prog 11 _ _ _
    refine Does.on 2 [0] _ _ (check (all := l) (l := l) (k := l.length) (n := m) (ro := true) (nn := false) (c := none) rfl (fun i _ => rfl) (by omega) (by omega) (fun hok => ?_) fun e i h => absurd (hok.symm.trans h) (by simp))
    exact fin rfl
  · change Does Tryd.prog 11 _ _ _
    refine Does.on 3 [0] _ _ (check (all := l) (l := l) (k := l.length) (n := m) (ro := true) (nn := false) (c := none) rfl (fun i _ => rfl) (by omega) (by omega) (fun hok => absurd (hok.symm.trans h) (by simp)) fun e i h => ?_)
    exact fin rfl

end Go.Mac
