/- Threads that lock and unlock: each has its turn. -/
import Derived.Test.YtfgmlilpojnnhaaDoorQLocked
import Derived.Test.YtfgmlilpojnnhaaDoorQMutexZ2
open Go Go.Proofs Go.Mac
set_option maxRecDepth 100000
namespace Go.Mac

theorem mutB_split (p : Int) : mutB.map (relI p) = mutexIns p ⟨12, 0⟩ ++ mutexIns (p + 15) ⟨13, 0⟩ := by
  rw [mutexIns, mutexIns, if_neg (show ¬ (12 : Int) = 13 by decide), if_pos (show (13 : Int) = 13 from rfl)]
  have e1 : p + 15 + 1 = p + 16 := by omega
  have e2 : p + 15 + 6 = p + 21 := by omega
  have e3 : p + 15 + 7 = p + 22 := by omega
  rw [e1, e2, e3]
  rfl

theorem mutexU_lock : ∀ c, mutexU (lockL c) = repU mutB c
  | 0 => rfl
  | c + 1 => by
    have ih := mutexU_lock c
    have e : mutexU (lockL (c + 1)) = (mutexU (lockL c) ++ mutexIns (mutexU (lockL c)).length ⟨12, 0⟩) ++ mutexIns (mutexU (lockL c) ++ mutexIns (mutexU (lockL c)).length ⟨12, 0⟩).length ⟨13, 0⟩ := by
      rw [mutexU, lockL, List.foldl_append]; rfl
    rw [e, ih, repU, mutB_split, List.append_assoc, List.length_append]
    have : ((((repU mutB c).length + (mutexIns (repU mutB c).length ⟨12, 0⟩).length : Nat)) : Int) = ((repU mutB c).length : Int) + 15 := by
      rw [show (mutexIns (repU mutB c).length ⟨12, 0⟩).length = 15 from rfl]
      omega
    rw [this]

theorem mutexP_lock (c : Nat) : mutexP (lockL c) = repP mutB c := by rw [mutexP, repP, mutexU_lock]

theorem lockFit : ∀ n, ∀ c ∈ lockL n, mutexFit c
  | 0, c, h => by cases h
  | n + 1, c, h => by
    rw [lockL, List.mem_append] at h
    rcases h with h | h
    · exact lockFit n c h
    · simp only [List.mem_cons, List.not_mem_nil, or_false] at h
      rcases h with rfl | rfl <;> simp [mutexFit]

theorem mutexEnds (a : Int) (_ha : -9223372036854775808 ≤ a ∧ a ≤ 9223372036854775807) (b : Int) (_hb : -9223372036854775808 ≤ b ∧ b ≤ 9223372036854775807) (ms : List MoveZ) :
    Does Tryd.prog 3 [i64 a, i64 b, cv (.slc 0 0 ms.length none false)] [.rows true 2 (ms.map rowMove), rtH] fun v _ _ => v = bl true := by
  refine does Tryd.func3 rfl (by decide) ?_
  change Does Tryd.prog 15 _ _ _
  refine Does.alone 2 (locked ?_)
  refine brc_intro (fun _ => rfl) (fun h => ?_)
  have hms : ms.length ≤ 600 := by
    have := of_decide_eq_false h
    omega
  change Does Tryd.prog 16 _ _ _
  refine Does.alone 2 (pick a 8 (by decide) ?_)
  change Does Tryd.prog 16 _ _ _
  refine Does.alone 2 (pick b 6 (by decide) ?_)
  have hpa := pickZ_lt a (n := 8) (by decide)
  have hpb := pickZ_lt b (n := 6) (by decide)
  rw [wrap_i64 (1 + pickZ a 8) (by omega) (by omega)]
  obtain ⟨n, hn⟩ := Int.eq_ofNat_of_zero_le (show 0 ≤ 1 + pickZ a 8 by omega)
  obtain ⟨c, hc⟩ := Int.eq_ofNat_of_zero_le hpb.1
  have hn8 : n ≤ 8 := by omega
  have hc5 : c ≤ 5 := by omega
  rw [hn, hc]
  clear hn hc hpa hpb
  change Does Tryd.prog 18 _ _ _
  refine Does.alone 2 (lockers (n := n) (times := c) (by omega) (by omega) ?_)
  have hI := mut_moves hn8 hc5 ms
  obtain ⟨z, hz⟩ : ∃ z, movesZ (mz0 (List.replicate n (repP mutB c)) [0]) ms = z := ⟨_, rfl⟩
  rw [hz] at hI
  have hll := lockL_len c
  change Does Tryd.prog 17 _ _ _
  refine Does.on 4 [2, 3, 0] _ _ (made (ls := List.replicate n (lockL c)) (ps := List.replicate n (repP mutB c)) (ws := [0]) (ms := ms) (f := 19) (n := n) (nc := 1) (ro := false) (ro2 := false) (ro3 := true) (by simp) (by simp) rfl rfl (by omega) (by decide) (by omega) (fun p hp => ?_) (by decide) (hz := hz) (fun i l p hl hp K' hK' => ?_) fun v hv hw => ?_)
  · obtain rfl := (List.mem_replicate.1 hp).2
    exact List.all_eq_true.1 mutRight c (List.mem_range.2 (by omega))
  · obtain rfl := (List.mem_replicate.1 (List.mem_of_getElem? hl)).2
    obtain rfl := (List.mem_replicate.1 (List.mem_of_getElem? hp)).2
    rw [← mutexP_lock] at hK'
    exact mutexCode' i i _ hl (by omega) (lockFit c) hK'
  · change Does Tryd.prog 20 _ _ _
    refine Does.on 13 [4, 5, 6, 7, 8, 9, 10, 11, 12] _ _ (fairFinish (m := z) (v := v) hw hv fun v1 _ hv1 hw1 => ?_)
    obtain ⟨_, hd, hws, hel⟩ := mut_finish hI (by omega)
    have hall := all_of hd
    have hst := stuck_of hd
    generalize finish z = z1 at hw1 hall hst hws hel
    have hel1 := hw1.el
    have hk1 := hw1.k
    change Does Tryd.prog 21 _ _ _
    refine Does.on 13 [4, 5, 6, 7, 8, 9, 10, 11, 12] _ _ (coreEnds (m := z1) (v := v1) hw1 ?_)
    rw [hall, hst]
    change Does Tryd.prog 23 _ _ _
    refine Does.on 13 [4, 5, 6, 7, 8, 9, 10, 11, 12] _ _ (coreCellsL (m := z1) (v := v1) hw1 hws ?_)
    change Does Tryd.prog 22 _ _ _
    refine Does.on 15 [13, 14] _ _ (equalU (xs := [0]) (ys := [0]) (by decide) (fun _ => ?_) fun h => absurd rfl h)
    change Does Tryd.prog 24 _ _ _
    refine Does.on 15 [4, 5, 6, 7, 8, 9, 10, 11, 12] _ _ (coreEvents (m := z1) (v := v1) (by omega) ?_)
    refine fin (show ((z1.el.length : Int) == IntKind.i64.wrap (IntKind.i64.wrap (2 * (n : Int)) * (c : Int))) = true from ?_)
    have hb : n * c ≤ 8 * 5 := Nat.mul_le_mul hn8 hc5
    have e2 : ((2 * n * c : Nat) : Int) = 2 * (n : Int) * (c : Int) := by rw [Int.natCast_mul, Int.natCast_mul]; rfl
    have e3 : (2 * n * c : Nat) = 2 * (n * c) := Nat.mul_assoc 2 n c
    rw [wrap_i64 (2 * (n : Int)) (by omega) (by omega), ← e2, wrap_i64 ((2 * n * c : Nat) : Int) (by omega) (by omega), hel]
    simp

end Go.Mac
