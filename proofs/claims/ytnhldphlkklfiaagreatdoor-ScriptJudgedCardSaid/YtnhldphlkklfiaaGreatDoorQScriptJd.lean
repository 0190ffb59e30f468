/- A script of any bytes, judged: the walk. -/
import Derived.Test.YtnhldphlkklfiaaGreatDoorQScripted
import Derived.Test.YtnhldphlkklfiaaGreatDoorQDanceL
open Go Go.Proofs Go.Mac
set_option maxRecDepth 100000
namespace Go.Mac

theorem scriptJudged (t : List UInt8) (_ht : t.length ≤ 140737488355328) : Does Tryz.prog 19 [st t] [rtH] fun v _ _ => v = bl true := by
  refine does Tryz.func19 rfl (by decide) ?_
  change Does Tryz.prog 54 _ _ _
  refine Does.alone 1 (scripted ?_)
  change Does Tryz.prog 38 _ _ _
  refine Does.on 1 [0] _ _ (judged ?_)
  refine brc_intro (fun _ => rfl) (fun h => ?_)
  have hl : t.length ≤ 900 := by
    have := of_decide_eq_false h
    omega
  obtain ⟨k, n, R, hk, hn, hr, k1, n1, r1⟩ := scrOf t
  obtain ⟨ms, hms⟩ : ∃ ms, scrM t = ms := ⟨_, rfl⟩
  obtain ⟨m, hm⟩ : ∃ m, ms.length = m := ⟨_, rfl⟩
  obtain ⟨z, hz⟩ : ∃ z, movesZ (danceM k n R) ms = z := ⟨_, rfl⟩
  have hml : m ≤ 900 := by
    have := scrM_len t
    rw [hms, hm] at this
    omega
  have hmi : ∀ x ∈ ms, 0 ≤ x.th ∧ x.th < (n : Int) := fun x hx => by
    have := scrM_in t x (hms.symm ▸ hx)
    rwa [hn] at this
  have hn16 : 1 ≤ n ∧ n ≤ 16 := by omega
  obtain ⟨A, V, hD⟩ := dance_moves k1 hn16 (show R ≤ 20 by omega) ms
  obtain ⟨A', V', hD', he⟩ := dance_finish k1 hn16 (show R ≤ 6 by omega) ms (by omega)
  rw [hz] at hD hD'
  obtain ⟨o1, o2, o3, o4, o5⟩ := hD.order (kind_bar R k1 hn16) hn16.1
  obtain ⟨p1, p2, p3, p4, p5, p6⟩ := hD'.ended (kind_bar R k1 hn16) hn16.1 he
  clear hD hD' he
  change Does Tryz.prog 55 _ _ _
  refine Does.alone 1 (decodeN (t := t) (ms := ms) (m := m) (by omega) hk hn hr hms hm ?_)
  change Does Tryz.prog 56 _ _ _
  refine Does.on 3 [1] _ _ (play (ms := ms) (m := m) (z := z) k1 n1 r1 hm (by omega) hmi hz fun v hv hw => ?_)
  have hel := hw.el
  have hkz := hw.k
  refine SS.drawR follows (by decide) ?_
  change Does Tryz.prog 31 _ _ _
  refine Does.on 12 [3, 4, 5, 6, 7, 8, 9, 10, 11] _ _ (coreEvents (m := z) (v := v) (by omega) ?_)
  repeat' (first | refine And.intro rfl ?_ | fail)
  change Does Tryz.prog 57 _ _ _
  refine Does.on 13 [12] _ _ (rounds (all := z.el) (l := z.el) (k := z.el.length) (n := n) (ro := false) rfl (fun i _ => rfl) hn16 (by omega) (fun _ => ?_) fun e i h => absurd (o1.symm.trans h) (by simp))
  repeat' (first | refine And.intro rfl ?_ | fail)
  change Does Tryz.prog 24 _ _ _
  refine Does.on 13 [3, 4, 5, 6, 7, 8, 9, 10, 11] _ _ (fairFinish (m := z) (v := v) hw hv fun v1 c hv1 hw1 => ?_)
  generalize finish z = z1 at p1 p2 p3 p4 p5 p6 hw1
  have hel1 := hw1.el
  have hkz1 := hw1.k
  refine SS.drawR follows (by decide) ?_
  change Does Tryz.prog 31 _ _ _
  refine Does.on 13 [3, 4, 5, 6, 7, 8, 9, 10, 11] _ _ (coreEvents (m := z1) (v := v1) (by omega) ?_)
  repeat' (first | refine And.intro rfl ?_ | fail)
  change Does Tryz.prog 57 _ _ _
  refine Does.on 14 [13] _ _ (rounds (all := z1.el) (l := z1.el) (k := z1.el.length) (n := n) (ro := false) rfl (fun i _ => rfl) hn16 (by omega) (fun _ => ?_) fun e i h => absurd (p3.symm.trans h) (by simp))
  rw [p4, p5]
  repeat' (first | refine And.intro rfl ?_ | fail)
  change Does Tryz.prog 51 _ _ _
  refine Does.on 14 [3, 4, 5, 6, 7, 8, 9, 10, 11] _ _ (coreEnds (m := z1) (v := v1) hw1 ?_)
  rw [p1, p2]
  refine brc_intro (fun _ => ?_) (fun h => absurd o4 (of_decide_eq_false h))
  refine brc_intro (fun _ => ?_) (fun h => absurd (show ((R : Int) == (R : Int)) = false from h) (by simp))
  refine fin ?_
  simp

end Go.Mac
