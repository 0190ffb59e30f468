/- Who closes tells all: GatherCloses. -/
import Derived.Test.YtnkmddcadkcdcaaDoorQGuests
import Derived.Test.YtnkmddcadkcdcaaDoorQBegins
import Derived.Test.YtnkmddcadkcdcaaDoorQGathered
import Derived.Test.YtnkmddcadkcdcaaDoorQGcM
import Derived.Test.YtnkmddcadkcdcaaDoorQEqTail
open Go Go.Proofs Go.Mac
set_option maxRecDepth 100000
namespace Go.Mac

set_option maxHeartbeats 4000000 in
theorem gatherCloses (l : List (List Int)) (_hw : ∀ xs ∈ l, ∀ x ∈ xs, -9223372036854775808 ≤ x ∧ x ≤ 9223372036854775807) (hl : l.length ≤ 9223372036854775807) (hm : ∀ xs ∈ l, xs.length ≤ 9223372036854775807) (a : Int) (_ha : -9223372036854775808 ≤ a ∧ a ≤ 9223372036854775807) (b : Int) (_hb : -9223372036854775808 ≤ b ∧ b ≤ 9223372036854775807) (ms : List MoveZ) :
    Does Tryd.prog 18 [cv (.slc 0 0 l.length none false), i64 a, i64 b, cv (.slc 1 0 ms.length none false)] [.rows2 true 1 (l.map fun xs => xs.map rowZ), .rows true 2 (ms.map rowMove), rtH] fun v _ _ => v = bl true := by
  refine does Tryd.func18 rfl (by decide) ?_
  change Does Tryd.prog 54 _ _ _
  refine Does.alone 3 (gathered ?_)
  refine brc_intro (fun _ => rfl) (fun h => ?_)
  have hms : ms.length ≤ 500 := by
    have := of_decide_eq_false h
    omega
  change Does Tryd.prog 57 _ _ _
  refine Does.on 3 [0] _ _ (guests (l := l) rfl hl hm ?_)
  obtain ⟨g1, g2, g3, g4⟩ := guests_made l
  have hg : (guestsZ l).length = min l.length 6 := by
    rw [List.length_append] at g1
    exact Nat.add_right_cancel g1
  generalize guestsZ l = calls at g1 g2 g3 g4 hg
  have hn6 : min l.length 6 ≤ 6 := by omega
  generalize min l.length 6 = n at g1 g4 hg hn6
  refine And.intro (by simp) ?_
  refine And.intro rfl ?_
  have hmap : (List.map (fun l => List.map rowCallZ l) calls ++ [[[FC.int IntKind.i64 11, FC.int IntKind.i64 0], [FC.int IntKind.i64 7, FC.int IntKind.i64 0], [FC.int IntKind.i64 9, FC.int IntKind.i64 0], [FC.int IntKind.i64 6, FC.int IntKind.i64 1]]]) = (calls ++ [ownL]).map fun l => l.map rowCallZ := by rw [List.map_append]; rfl
  refine And.intro (by rw [List.length_map]; exact hg.symm) (And.intro (show (n + 1) * 24 ≤ 140737488355328 by omega) (And.intro (by omega) ?_))
  rw [hmap]
  generalize calls ++ [ownL] = asked at g1 g2 g3 g4 ⊢
  clear hmap hg
  have hpb := pickZ_lt b (n := 5) (by decide)
  have hph := begPh_in a
  change Does Tryd.prog 58 _ _ _
  refine Does.alone 6 (begins a b ?_)
  generalize begPh a = ph at hph ⊢
  generalize pickZ b 5 = pa at hpb ⊢
  have hwz : pkWordZ false ph pa pa = pa + pa * 65536 + ph * 4294967296 := by simp [pkWordZ]
  have hRW : RW (pkWordZ false ph pa pa) := by
    have d1 : (pa + pa * 65536 + ph * 4294967296) / 65536 = pa + ph * 65536 := by omega
    have d2 : (pa + pa * 65536 + ph * 4294967296) % 65536 = pa := by omega
    rw [hwz, RW, d1, d2]
    omega
  have hwb : 0 ≤ pkWordZ false ph pa pa ∧ pkWordZ false ph pa pa < 18446744073709551616 := ⟨hRW.1, by have := hRW.2.1; omega⟩
  generalize pkWordZ false ph pa pa = w at hRW hwb ⊢
  clear hwz
  have hI := fun m => gc_moves (ll := asked) (by omega) g2 g3 g4 hRW m
  obtain ⟨z, hz⟩ : ∃ z, movesZ (mz0 (asked.map gathP) [w]) ms = z := ⟨_, rfl⟩
  have hI := hI ms
  rw [hz, g1] at hI
  change Does Tryd.prog 24 _ _ _
  refine Does.on 8 [3, 7, 1] _ _ (made (ls := asked) (ps := asked.map gathP) (ws := [w]) (ms := ms) (f := 56) (n := n + 1) (nc := 1) (ro := false) (ro2 := false) (ro3 := true) g1 (by rw [List.length_map]; exact g1) rfl rfl (by omega) (by decide) (by omega) (fun p hp => ?_) (fun v hv => by obtain rfl := List.mem_singleton.1 hv; exact hwb) (hz := hz) (fun i l p hl hp K' hK' => ?_) fun v hv hw => ?_)
  · obtain ⟨l', hl', rfl⟩ := List.mem_map.1 hp
    exact asked_right (g2 l' hl') (g3 l' hl')
  · obtain rfl : gathP l = p := by
      rw [List.getElem?_map, hl] at hp
      exact Option.some.inj hp
    have hl' := List.mem_of_getElem? hl
    exact gatherCode' i i l hl (Nat.le_trans (g2 l hl') (by decide)) (fun c hc => asked_ok.1 c (g3 l hl' c hc)) hK'
  change Does Tryd.prog 27 _ _ _
  refine Does.on 17 [8, 9, 10, 11, 12, 13, 14, 15, 16] _ _ (fairFinish (m := z) (v := v) hw hv fun v1 _ hv1 hw1 => ?_)
  obtain ⟨f1, f2, ⟨u, f3, f4, f5⟩, x, f6, f7⟩ := gc_fin hI (by omega)
  generalize finish z = z1 at hw1 f1 f2 f3 f6
  clear hI hz
  change Does Tryd.prog 31 _ _ _
  refine Does.on 17 [8, 9, 10, 11, 12, 13, 14, 15, 16] _ _ (coreEnds (m := z1) (v := v1) hw1 ?_)
  rw [f1, f2]
  change Does Tryd.prog 33 _ _ _
  refine Does.on 17 [8, 9, 10, 11, 12, 13, 14, 15, 16] _ _ (coreCellsL (m := z1) (v := v1) hw1 f3 ?_)
  change Does Tryd.prog 30 _ _ _
  refine Does.on 18 [8, 9, 10, 11, 12, 13, 14, 15, 16] _ _ (answers (m := z1) (v := v1) hw1 (n + 1) (by omega) ?_)
  have hrow : ((ansL (n + 1) z1.el).map fun l => l.map rowZ)[n]? = some ([x, -1, -1, -1].map rowZ) := by
    rw [List.getElem?_map, ansL, List.getElem?_map, List.getElem?_range (Nat.lt_succ_self n), ← f6]
    rfl
  generalize ((ansL (n + 1) z1.el).map fun l => l.map rowZ) = rss at hrow ⊢
  have wn : IntKind.i64.wrap (((n + 1 : Nat) : Int) - 1) = (n : Int) := by rw [wrap_i64 _ (by omega) (by omega)]; omega
  have hrow' : rss[0 + Int.toNat (IntKind.i64.wrap (((n + 1 : Nat) : Int) - 1))]? = some ([x, -1, -1, -1].map rowZ) := by rw [wn, Nat.zero_add, Int.toNat_natCast]; exact hrow
  have e63 : (u.fdiv (2 ^ min (Int.toNat 63) IntKind.u64.bits) == 1) = true := by
    have e3 : IntKind.u64.bits = 64 := rfl
    rw [e3]
    have e : u.fdiv (2 ^ min (Int.toNat 63) 64) = 1 := by
      show u.fdiv 9223372036854775808 = 1
      rw [Int.fdiv_eq_ediv_of_nonneg _ (by decide)]
      omega
    rw [e]
    rfl
  refine at2 (a := 0 ≤ IntKind.i64.wrap (((n + 1 : Nat) : Int) - 1)) (b := IntKind.i64.wrap (((n + 1 : Nat) : Int) - 1) < ((n + 1 : Nat) : Int)) (by rw [wn]; omega) (by rw [wn]; omega) ?_
  refine Exists.intro ([x, -1, -1, -1].map rowZ) (And.intro hrow' ?_)
  rw [wn, show 0 + Int.toNat (n : Int) = n by simp]
  have hg : ([u].map rowU)[0]? = some (rowU u) := rfl
  refine at2 (by simp) (by simp) (rd1 (rowU u) (.int .u64 u) hg rfl ?_)
  refine brc_intro (fun h63 => ?_) (fun h63 => ?_)
  rotate_left
  · exfalso
    rw [e63] at h63
    cases h63
  have rt : n < rss.length := (List.getElem?_eq_some_iff.1 hrow).1
  have r0 : ([x, -1, -1, -1].map rowZ)[0 + Int.toNat 0]? = some (rowZ x) := rfl
  refine And.intro rt (at2 (by decide) (by simp) ?_)
  refine Exists.intro ([x, -1, -1, -1].map rowZ) (Exists.intro (rowZ x) (Exists.intro (.int .i64 x) (And.intro hrow (And.intro r0 (And.intro rfl ?_)))))
  rcases f7 with rfl | rfl
  · refine And.intro rt ?_
    refine And.intro (by decide) (And.intro (by simp) ?_)
    change Does Tryd.prog 29 _ _ _
    refine Does.on 20 [18, 19] _ _ (equalTail (x := 0) (y := -1) (n := 3) rfl hrow ?_)
    exact rfl
  · refine And.intro rt (at2 (by decide) (by simp) ?_)
    refine Exists.intro ([-1, -1, -1, -1].map rowZ) (Exists.intro (rowZ (-1)) (Exists.intro (.int .i64 (-1)) (And.intro hrow (And.intro r0 (And.intro rfl ?_)))))
    refine And.intro rt ?_
    refine And.intro (by decide) (And.intro (by simp) ?_)
    change Does Tryd.prog 29 _ _ _
    refine Does.on 20 [18, 19] _ _ (equalTail (x := -1) (y := -1) (n := 3) rfl hrow ?_)
    exact rfl

end Go.Mac
