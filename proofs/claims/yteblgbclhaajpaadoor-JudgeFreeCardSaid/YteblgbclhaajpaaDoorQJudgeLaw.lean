/- The judge's laws: what may be cut off; no more than one apart. -/
import Derived.Test.YteblgbclhaajpaaDoorQJudged
open Go Go.Proofs Go.Mac
set_option maxRecDepth 100000
namespace Go.Mac

theorem runZ_take : ∀ (l : List EvZ) (k i : Nat) (c g : List Int), runZ l i c g = none → runZ (l.take k) i c g = none
  | [], k, i, c, g, h => by simpa using h
  | e :: l, 0, i, c, g, h => rfl
  | e :: l, k + 1, i, c, g, h => by
    rw [List.take_succ_cons, runZ]
    rw [runZ] at h
    split at h
    · rename_i h0
      rw [if_pos h0]
      exact runZ_take l k _ _ _ h
    · cases h

theorem pick16 (n : Int) : ∃ m : Nat, 1 + pickZ n 16 = (m : Int) ∧ 1 ≤ m ∧ m ≤ 16 := by
  have := pickZ_lt n (n := 16) (by decide)
  exact ⟨(1 + pickZ n 16).toNat, by omega, by omega, by omega⟩

theorem judgeCut (l : List EvZ) (n : Int) (_hn : -9223372036854775808 ≤ n ∧ n ≤ 9223372036854775807) (a : Int) (_ha : -9223372036854775808 ≤ a ∧ a ≤ 9223372036854775807) :
    Does Tryd.prog 4 [cv (.slc 0 0 l.length none false), i64 n, i64 a] [.rows true 4 (l.map rowEv), rtH] fun v _ _ => v = bl true := by
  refine does Tryd.func4 rfl (by decide) ?_
  change Does Tryd.prog 7 _ _ _
  refine Does.on 2 [1] _ _ (judged ?_)
  refine brc_intro (fun _ => fin rfl) (fun h => ?_)
  have hl : l.length ≤ 100 := by have := of_decide_eq_false h; omega
  change Does Tryd.prog 8 _ _ _
  refine Does.alone 2 (pick n 16 (by decide) ?_)
  change Does Tryd.prog 8 _ _ _
  rw [wrap_i64 (l.length + 1) (by omega) (by omega)]
  refine Does.alone 2 (pick a (l.length + 1) (by omega) ?_)
  obtain ⟨m, hm, hm1⟩ := pick16 n
  have ha := pickZ_lt a (n := l.length + 1) (by omega)
  obtain ⟨k, hk⟩ := Int.eq_ofNat_of_zero_le ha.1
  rw [hk] at ha ⊢
  refine SS.drawR follows (by decide) ?_
  refine Or.inl (And.intro (by omega) (And.intro (by omega) ?_))
  change Does Tryd.prog 11 _ _ _
  rw [hm, wrap_i64 m (by omega) (by omega)]
  refine Does.on 2 [0] _ _ (check (all := l) (l := l) (k := l.length) (n := m) (ro := true) (nn := false) (c := none) rfl (fun i _ => rfl) (by omega) (by omega) (fun hok => ?_) fun e i h => ?_)
  · repeat' (first | refine And.intro rfl ?_ | refine And.intro (Or.inl (And.intro (by omega) (And.intro (by omega) rfl))) ?_ | fail)
    change Does Tryd.prog 11 _ _ _
    refine Does.on 2 [0] _ _ (check (all := l) (l := l.take k) (k := k) (n := m) (ro := true) (nn := false || Nat.blt 0 l.length) (c := none) (by simp; omega) (fun i hi => (List.getElem?_take_of_lt hi).symm) (by omega) (by omega) (fun hok' => ?_) fun e i h => absurd ((runZ_take l k 0 _ _ hok).symm.trans h) (by simp))
    exact fin rfl
  · repeat' (first | refine And.intro rfl ?_ | refine And.intro (Or.inl (And.intro (by omega) (And.intro (by omega) rfl))) ?_ | fail)
    change Does Tryd.prog 11 _ _ _
    refine Does.on 3 [0] _ _ (check (all := l) (l := l.take k) (k := k) (n := m) (ro := true) (nn := false || Nat.blt 0 l.length) (c := none) (by simp; omega) (fun i hi => (List.getElem?_take_of_lt hi).symm) (by omega) (by omega) (fun hok' => ?_) fun e i h => ?_)
    · exact fin rfl
    · exact fin rfl

end Go.Mac
