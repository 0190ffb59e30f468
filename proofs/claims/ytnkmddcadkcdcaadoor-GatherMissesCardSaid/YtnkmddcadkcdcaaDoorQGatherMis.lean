/- Too few pass: nobody is told anything. -/
import Derived.Test.YtnkmddcadkcdcaaDoorQGathered
import Derived.Test.YtnkmddcadkcdcaaDoorQMissS
import Derived.Test.YtnkmddcadkcdcaaDoorQRepeat
open Go Go.Proofs Go.Mac
set_option maxRecDepth 100000
namespace Go.Mac

set_option maxHeartbeats 2000000 in
theorem gatherMisses (a : Int) (_ha : -9223372036854775808 ≤ a ∧ a ≤ 9223372036854775807) (b : Int) (_hb : -9223372036854775808 ≤ b ∧ b ≤ 9223372036854775807) (ms : List MoveZ) :
    Does Tryd.prog 17 [i64 a, i64 b, cv (.slc 0 0 ms.length none false)] [.rows true 2 (ms.map rowMove), rtH] fun v _ _ => v = bl true := by
  refine does Tryd.func17 rfl (by decide) ?_
  change Does Tryd.prog 54 _ _ _
  refine Does.alone 2 (gathered ?_)
  refine brc_intro (fun _ => rfl) (fun h => ?_)
  have hms : ms.length ≤ 400 := by
    have := of_decide_eq_false h
    omega
  change Does Tryd.prog 23 _ _ _
  refine Does.alone 2 (pick a 8 (by decide) ?_)
  change Does Tryd.prog 23 _ _ _
  refine Does.alone 2 (pick b 5 (by decide) ?_)
  have hpa := pickZ_lt a (n := 8) (by decide)
  have hpb := pickZ_lt b (n := 5) (by decide)
  rw [wrap_i64 (1 + pickZ a 8) (by omega) (by omega)]
  obtain ⟨n, hn⟩ := Int.eq_ofNat_of_zero_le (show 0 ≤ 1 + pickZ a 8 by omega)
  obtain ⟨k, hk⟩ := Int.eq_ofNat_of_zero_le (show 0 ≤ 1 + pickZ b 5 by omega)
  have hn8 : 1 ≤ n ∧ n ≤ 8 := by omega
  have hk5 : 1 ≤ k ∧ k ≤ 5 := by omega
  have wk : IntKind.i64.wrap (1 + pickZ b 5) = k := by rw [wrap_i64 (1 + pickZ b 5) (by omega) (by omega)]; exact hk
  rw [hn]
  clear hn hk hpa hpb
  have hw0 : IntKind.i64.wrap ((n : Int) + (k : Int)) = ((n + k : Nat) : Int) := wrap_i64 _ (by omega) (by omega)
  have hwz : pkWordZ false 0 ((n + k : Nat) : Int) ((n + k : Nat) : Int) = msW (n + k) 0 := by simp [pkWordZ, msW]
  have hwb : 0 ≤ msW (n + k) 0 ∧ msW (n + k) 0 < 18446744073709551616 := by rw [msW]; omega
  change Does Tryd.prog 55 _ _ _
  rw [wk, hw0]
  refine Does.alone 2 (pkWord false 0 _ _ ?_ fun _ => ?_)
  · intro h
    exfalso
    have := of_decide_eq_false h
    omega
  rw [hwz]
  refine And.intro rfl ?_
  change Does Tryd.prog 47 _ _ _
  refine Does.on 4 [3] _ _ (repeatCalls (n := n) (p := [rowCallZ ⟨9, 0⟩]) (by omega) ?_)
  have hmap : List.replicate n [rowCallZ ⟨9, 0⟩] = (List.replicate n [CallZ.mk 9 0]).map fun l => l.map rowCallZ := by rw [List.map_replicate]; rfl
  rw [hmap]
  have hps : (List.replicate n [CallZ.mk 9 0]).map gathP = List.replicate n (catP ([()].map fun _ => passB)) := by rw [List.map_replicate, pass_cat]
  have hr : ∀ p ∈ (List.replicate n [CallZ.mk 9 0]).map gathP, rightZ p 1 = true := fun p hp => by
    rw [hps] at hp
    rw [(List.mem_replicate.1 hp).2]
    exact pass_right
  have hlen : (List.replicate n [CallZ.mk 9 0]).length = n := by simp
  have hone : ∀ x ∈ List.replicate n [CallZ.mk 9 0], x = [CallZ.mk 9 0] := fun x hx => (List.mem_replicate.1 hx).2
  generalize List.replicate n [CallZ.mk 9 0] = calls at hps hr hlen hone ⊢
  have hI := ms_moves (N := n + k) (n := n) ⟨hn8.2, by omega, by omega⟩ ms
  rw [msM, ← hps] at hI
  obtain ⟨z, hz⟩ : ∃ z, movesZ (mz0 (calls.map gathP) [msW (n + k) 0]) ms = z := ⟨_, rfl⟩
  rw [hz] at hI
  generalize msW (n + k) 0 = w at hwb hz hI ⊢
  change Does Tryd.prog 24 _ _ _
  refine Does.on 6 [4, 5, 0] _ _ (made (ls := calls) (ps := calls.map gathP) (ws := [w]) (ms := ms) (f := 56) (n := n) (nc := 1) (ro := false) (ro2 := false) (ro3 := true) hlen (by rw [List.length_map]; exact hlen) rfl rfl (by omega) (by decide) (by omega) hr (fun v hv => by obtain rfl := List.mem_singleton.1 hv; exact hwb) (hz := hz) (fun i l p hl hp K' hK' => ?_) fun v hv hw => ?_)
  · obtain rfl : gathP l = p := by
      rw [List.getElem?_map, hl] at hp
      exact Option.some.inj hp
    obtain rfl := hone l (List.mem_of_getElem? hl)
    exact gatherCode' i i _ hl (by decide) (fun c hc => by rw [List.mem_singleton.1 hc]; simp [gFit, gFitB]) hK'
  change Does Tryd.prog 27 _ _ _
  refine Does.on 15 [6, 7, 8, 9, 10, 11, 12, 13, 14] _ _ (fairFinish (m := z) (v := v) hw hv fun v1 _ hv1 hw1 => ?_)
  obtain ⟨f1, f2⟩ := ms_fin hI hn8.1 (by omega)
  generalize finish z = z1 at hw1 f1 f2
  change Does Tryd.prog 31 _ _ _
  refine Does.on 15 [6, 7, 8, 9, 10, 11, 12, 13, 14] _ _ (coreEnds (m := z1) (v := v1) hw1 ?_)
  rw [f2]
  change Does Tryd.prog 36 _ _ _
  refine Does.on 15 [6, 7, 8, 9, 10, 11, 12, 13, 14] _ _ (coreEvents (m := z1) (v := v1) (by rw [f1]; decide) ?_)
  rw [f1]
  exact rfl

end Go.Mac
