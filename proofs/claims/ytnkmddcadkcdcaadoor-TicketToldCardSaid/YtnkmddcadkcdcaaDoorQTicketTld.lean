/- Tickets: each is told to one, who frees just that one. -/
import Derived.Test.YtnkmddcadkcdcaaDoorQTicL
import Derived.Test.YtnkmddcadkcdcaaDoorQMapSet
open Go Go.Proofs Go.Mac
set_option maxRecDepth 100000
namespace Go.Mac

theorem dupL_get : ∀ {p : List Nat} {j i : Nat}, p[j]? = some i → (dupL p)[2 * j]? = some (i : Int) ∧ (dupL p)[2 * j + 1]? = some (i : Int)
  | [], j, i, h => by simp at h
  | a :: p, 0, i, h => by
    obtain rfl : a = i := by simpa using h
    exact ⟨rfl, rfl⟩
  | a :: p, j + 1, i, h => by
    have := dupL_get (p := p) (j := j) (i := i) (by simpa using h)
    exact this

/-- The tickets of the first threads. -/
def keysL (D : List Nat) (t : Nat) : List Int := ((List.range t).flatMap fun s => pos s D).map Int.ofNat

theorem keysL_succ (D : List Nat) (t : Nat) : keysL D (t + 1) = keysL D t ++ (pos t D).map Int.ofNat := by
  rw [keysL, List.range_succ, List.flatMap_append, List.map_append]
  simp [keysL]

theorem keysL_mem {D : List Nat} {t : Nat} {x : Int} (h : x ∈ keysL D t) : ∃ i s : Nat, x = i ∧ s < t ∧ D[i]? = some s := by
  obtain ⟨i, hi, rfl⟩ := List.mem_map.1 h
  obtain ⟨s, hs, hi⟩ := List.mem_flatMap.1 hi
  exact ⟨i, s, rfl, List.mem_range.1 hs, pos_mem.1 hi⟩

theorem keysL_len {D : List Nat} {n c : Nat} (h : ∀ t, t < n → (pos t D).length = c) : ∀ t, t ≤ n → (keysL D t).length = t * c
  | 0, _ => by simp [keysL]
  | t + 1, ht => by rw [keysL_succ, List.length_append, keysL_len h t (by omega), List.length_map, h t (by omega), Nat.succ_mul]

set_option maxHeartbeats 2000000 in
theorem ticketTold (a : Int) (_ha : -9223372036854775808 ≤ a ∧ a ≤ 9223372036854775807) (b : Int) (_hb : -9223372036854775808 ≤ b ∧ b ≤ 9223372036854775807) (ms : List MoveZ) :
    Does Tryd.prog 4 [i64 a, i64 b, cv (.slc 0 0 ms.length none false)] [.rows true 2 (ms.map rowMove), rtH] fun v _ _ => v = bl true := by
  refine does Tryd.func4 rfl (by decide) ?_
  change Does Tryd.prog 22 _ _ _
  refine Does.alone 2 (ticketed ?_)
  refine brc_intro (fun _ => rfl) (fun h => ?_)
  have hms : ms.length ≤ 600 := by
    have := of_decide_eq_false h
    omega
  change Does Tryd.prog 23 _ _ _
  refine Does.alone 2 (pick a 8 (by decide) ?_)
  change Does Tryd.prog 23 _ _ _
  refine Does.alone 2 (pick b 6 (by decide) ?_)
  have hpa := pickZ_lt a (n := 8) (by decide)
  have hpb := pickZ_lt b (n := 6) (by decide)
  rw [wrap_i64 (1 + pickZ a 8) (by omega) (by omega)]
  obtain ⟨n, hn⟩ := Int.eq_ofNat_of_zero_le (show 0 ≤ 1 + pickZ a 8 by omega)
  obtain ⟨c, hc⟩ := Int.eq_ofNat_of_zero_le hpb.1
  have hn8 : n ≤ 8 := by omega
  have hc5 : c ≤ 5 := by omega
  rw [hn, hc]
  clear hn hc hpa hpb
  change Does Tryd.prog 25 _ _ _
  refine Does.alone 2 (lockers (n := n) (times := c) (by omega) (by omega) ?_)
  obtain ⟨hr, hI⟩ := tickets_made hn8 hc5 ms
  obtain ⟨z, hz⟩ : ∃ z, movesZ (mz0 ((List.replicate n (lockL c)).map ticketP) [0, 0]) ms = z := ⟨_, rfl⟩
  rw [hz] at hI
  have hll := lockL_len c
  change Does Tryd.prog 24 _ _ _
  refine Does.on 4 [2, 3, 0] _ _ (made (ls := List.replicate n (lockL c)) (ps := (List.replicate n (lockL c)).map ticketP) (ws := [0, 0]) (ms := ms) (f := 26) (n := n) (nc := 2) (ro := false) (ro2 := false) (ro3 := true) (by simp) (by simp) rfl rfl (by omega) (by decide) (by omega) hr (by decide) (hz := hz) (fun i l p hl hp K' hK' => ?_) fun v hv hw => ?_)
  · obtain rfl : ticketP l = p := by
      rw [List.getElem?_map, hl] at hp
      exact Option.some.inj hp
    obtain rfl := (List.mem_replicate.1 (List.mem_of_getElem? hl)).2
    exact ticketCode' i i _ hl (by omega) (lockFitT c) hK'
  generalize List.replicate n (lockL c) = calls
  clear hr hz
  have hnc : n * c ≤ 40 := by
    have := Nat.mul_le_mul hn8 hc5
    omega
  have wnc : IntKind.i64.wrap ((n : Int) * (c : Int)) = ((n * c : Nat) : Int) := by
    rw [← Int.natCast_mul]
    exact wrap_i64 _ (by omega) (by omega)
  change Does Tryd.prog 27 _ _ _
  refine Does.on 13 [4, 5, 6, 7, 8, 9, 10, 11, 12] _ _ (fairFinish (m := z) (v := v) hw hv fun v1 _ hv1 hw1 => ?_)
  obtain ⟨hall, D, hD, hws, _, _, hans⟩ := tic_fin hI (by omega)
  generalize finish z = z1 at hw1 hall hws hans
  change Does Tryd.prog 30 _ _ _
  refine Does.on 14 [4, 5, 6, 7, 8, 9, 10, 11, 12] _ _ (answers (m := z1) (v := v1) hw1 n (by omega) ?_)
  have hrow : ∀ t, t < n → ((ansL n z1.el).map fun l => l.map rowZ)[t]? = some ((dupL (pos t D)).map rowZ) := fun t ht => by
    rw [List.getElem?_map, ansL, List.getElem?_map, List.getElem?_range ht, ← (hans t ht).2]
    rfl
  have hrl : ((ansL n z1.el).map fun l => l.map rowZ).length = n := by simp [ansL]
  generalize ((ansL n z1.el).map fun l => l.map rowZ) = rss at hrow hrl
  have hpl : ∀ t, t < n → (pos t D).length = c := fun t ht => (hans t ht).1
  clear hans
  refine SS.loop (fun p : Nat × MapZ × Nat => p.1 ≤ n ∧ MSet p.2.1 (keysL D p.1)) (fun p => [(0, i64 n), (1, i64 c), (7, cv (.ptr 4 0)), (8, cv (.map 13)), (37, cv (.slc 14 0 n none true)), (38, i64 n), (39, i64 p.1)])
    (fun p => [.rows true 2 (ms.map rowMove), rtH, callsH false calls, .rows false 1 [rowU 0, rowU 0]] ++ machS 4 z1 v1 ++ [.mp 0 true p.2.1 p.2.2, .rows2 false 1 rss]) (fun p => n - p.1) [2, 10, 11, 12]
    (At.mk' [0, 1, 7, 8, 37, 38, 39] (0, [], 0) ⟨Nat.zero_le _, MSet.nil⟩ ⟨rfl, rfl⟩ rfl rfl (by simp) (by simp) (by decide)) ?_
  rintro ⟨t, es, clk⟩ ⟨ht, hms1⟩
  change t ≤ n at ht
  change MSet es (keysL D t) at hms1
  refine S_r ?_
  refine brc_intro (fun hlt => ?_) (fun hlt => ?_)
  · have hlt : t < n := by
      have := of_decide_eq_true hlt
      have : (t : Int) < (n : Int) := this
      omega
    have hrt : rss[0 + Int.toNat (t : Int)]? = some ((dupL (pos t D)).map rowZ) := by rw [Nat.zero_add, Int.toNat_natCast]; exact hrow t hlt
    have hp := hpl t hlt
    have hdl : ((dupL (pos t D)).map rowZ).length = 2 * c := by rw [List.length_map, dup_len, hp]
    have wrt : IntKind.i64.wrap ((t : Int) + 1) = ((t + 1 : Nat) : Int) := wrap_i64 _ (by omega) (by omega)
    refine SS.inlR ?_
    refine at2 (a := (0 : Int) ≤ (t : Int)) (b := (t : Int) < (n : Int)) (by omega) (by omega) ?_
    refine Exists.intro ((dupL (pos t D)).map rowZ) (And.intro hrt ?_)
    rw [hdl, show 0 + Int.toNat (t : Int) = t by simp]
    refine brc_intro (fun h => ?_) (fun _ => ?_)
    · exfalso
      have h : (((2 * c : Nat) : Int) != IntKind.i64.wrap (2 * (c : Int))) = true := h
      rw [wrap_i64 (2 * (c : Int)) (by omega) (by omega)] at h
      simp at h
    refine SS.loop (fun p : Nat × MapZ × Nat => p.1 ≤ c ∧ MSet p.2.1 (keysL D t ++ ((pos t D).take p.1).map Int.ofNat)) (fun p => [(0, i64 n), (1, i64 c), (7, cv (.ptr 4 0)), (8, cv (.map 13)), (10, cv (.islc 14 t 0 (2 * c) none false)), (11, i64 (2 * p.1 : Nat)), (37, cv (.slc 14 0 n none true)), (38, i64 n), (39, i64 t)])
      (fun p => [.rows true 2 (ms.map rowMove), rtH, callsH false calls, .rows false 1 [rowU 0, rowU 0]] ++ machS 4 z1 v1 ++ [.mp 0 true p.2.1 p.2.2, .rows2 false 1 rss]) (fun p => c - p.1) [2, 10, 11, 12]
      (At.mk' [0, 1, 7, 8, 10, 11, 37, 38, 39] (0, es, clk) ⟨Nat.zero_le _, by rw [List.take_zero, List.map_nil, List.append_nil]; exact hms1⟩ ⟨rfl, rfl⟩ rfl rfl (by simp) (by simp) (by decide)) ?_
    clear hms1
    rintro ⟨j, es, clk⟩ ⟨hj, hms1⟩
    change j ≤ c at hj
    change MSet es (keysL D t ++ ((pos t D).take j).map Int.ofNat) at hms1
    refine S_r ?_
    refine brc_intro (fun hlt2 => ?_) (fun hlt2 => ?_)
    · have hlt2 : j < c := by
        have := of_decide_eq_true hlt2
        have : ((2 * j : Nat) : Int) < ((2 * c : Nat) : Int) := this
        omega
      obtain ⟨i, hi⟩ : ∃ i, (pos t D)[j]? = some i := ⟨_, List.getElem?_eq_getElem (by omega)⟩
      obtain ⟨g0, g1⟩ := dupL_get hi
      have hDi := pos_mem.1 (List.mem_of_getElem? hi)
      have hiD : i < n * c := by rw [← hD]; exact (List.getElem?_eq_some_iff.1 hDi).1
      have hnot : (i : Int) ∉ keysL D t ++ ((pos t D).take j).map Int.ofNat := fun hm => by
        rcases List.mem_append.1 hm with hm | hm
        · obtain ⟨i', s, e, hs, h1⟩ := keysL_mem hm
          obtain rfl : i = i' := by omega
          rw [hDi] at h1
          have := Option.some.inj h1
          omega
        · obtain ⟨i', hm, e⟩ := List.mem_map.1 hm
          obtain rfl : i = i' := by
            have e : (i' : Int) = (i : Int) := e
            omega
          obtain ⟨q, hq⟩ := List.mem_iff_getElem?.1 hm
          rw [List.getElem?_take] at hq
          split at hq
          · rename_i hqj
            have h1 := List.pairwise_iff_getElem.1 (pos_pair t D) q j (by omega) (by omega) hqj
            rw [(List.getElem?_eq_some_iff.1 hq).2, (List.getElem?_eq_some_iff.1 hi).2] at h1
            omega
          · cases hq
      have hgt := hms1.get i
      rw [if_neg hnot] at hgt
      have r0 : ((dupL (pos t D)).map rowZ)[0 + Int.toNat ((2 * j : Nat) : Int)]? = some (rowZ i) := by rw [Nat.zero_add, Int.toNat_natCast, List.getElem?_map, g0]; rfl
      have wr1 : IntKind.i64.wrap (((2 * j : Nat) : Int) + 1) = ((2 * j + 1 : Nat) : Int) := wrap_i64 _ (by omega) (by omega)
      have r1 : ((dupL (pos t D)).map rowZ)[0 + Int.toNat ((2 * j + 1 : Nat) : Int)]? = some (rowZ i) := by rw [Nat.zero_add, Int.toNat_natCast, List.getElem?_map, g1]; rfl
      have b0 : (0 : Int) ≤ ((2 * j : Nat) : Int) := by omega
      have b1 : ((2 * j : Nat) : Int) < ((2 * c : Nat) : Int) := by omega
      have rt : t < rss.length := by omega
      have hrt0 : rss[t]? = some ((dupL (pos t D)).map rowZ) := hrow t hlt
      have r1' : ((dupL (pos t D)).map rowZ)[0 + Int.toNat (IntKind.i64.wrap (((2 * j : Nat) : Int) + 1))]? = some (rowZ i) := by rw [wr1]; exact r1
      have b2 : (0 : Int) ≤ IntKind.i64.wrap (((2 * j : Nat) : Int) + 1) := by omega
      have b3 : IntKind.i64.wrap (((2 * j : Nat) : Int) + 1) < ((2 * c : Nat) : Int) := by omega
      refine SS.inlR ?_
      refine SS.drawR follows (by decide) ?_
      refine And.intro rt (at2 b0 b1 ?_)
      refine Exists.intro ((dupL (pos t D)).map rowZ) (Exists.intro (rowZ i) (Exists.intro (.int .i64 i) (And.intro hrt0 (And.intro r0 (And.intro rfl ?_)))))
      refine And.intro rt (at2 b2 b3 ?_)
      refine Exists.intro ((dupL (pos t D)).map rowZ) (Exists.intro (rowZ i) (Exists.intro (.int .i64 i) (And.intro hrt0 (And.intro r1' (And.intro rfl ?_)))))
      refine brc_intro (fun h => ?_) (fun _ => ?_)
      · simp at h
      refine And.intro rt (at2 b0 b1 ?_)
      refine Exists.intro ((dupL (pos t D)).map rowZ) (Exists.intro (rowZ i) (Exists.intro (.int .i64 i) (And.intro hrt0 (And.intro r0 (And.intro rfl ?_)))))
      refine brc_intro (fun h => ?_) (fun _ => ?_)
      · have h : (mpGet es [(i : Int)] != 0) = true := h
        rw [hgt] at h
        cases h
      refine And.intro rt (at2 b0 b1 ?_)
      refine Exists.intro ((dupL (pos t D)).map rowZ) (Exists.intro (rowZ i) (Exists.intro (.int .i64 i) (And.intro hrt0 (And.intro r0 (And.intro rfl ?_)))))
      refine And.intro rt (at2 b0 b1 ?_)
      refine Exists.intro ((dupL (pos t D)).map rowZ) (Exists.intro (rowZ i) (Exists.intro (.int .i64 i) (And.intro hrt0 (And.intro r0 (And.intro rfl ?_)))))
      refine brc_intro (fun h => ?_) (fun _ => ?_)
      · have h := of_decide_eq_true h
        have h : (i : Int) ≥ IntKind.i64.wrap ((n : Int) * (c : Int)) := h
        rw [wnc] at h
        omega
      have hput := hms1.put hnot clk
      have htk : keysL D t ++ ((pos t D).take (j + 1)).map Int.ofNat = keysL D t ++ ((pos t D).take j).map Int.ofNat ++ [(i : Int)] := by
        rw [List.take_add_one, hi, List.append_assoc, List.map_append]
        rfl
      have wr2 : IntKind.i64.wrap (((2 * j : Nat) : Int) + 2) = ((2 * (j + 1) : Nat) : Int) := wrap_i64 _ (by omega) (by omega)
      refine brc_intro (fun hk0 => ?_) (fun hk0 => ?_)
      · have hk0 := of_decide_eq_true hk0
        have hk0 : ((2 * j : Nat) : Int) > 0 := hk0
        obtain ⟨q, hq⟩ : ∃ q, j = q + 1 := ⟨j - 1, by omega⟩
        obtain ⟨u, hu⟩ : ∃ u, (pos t D)[q]? = some u := ⟨_, List.getElem?_eq_getElem (by omega)⟩
        have hui : u < i := by
          have h1 := List.pairwise_iff_getElem.1 (pos_pair t D) q j (by omega) (by omega) (by omega)
          rw [(List.getElem?_eq_some_iff.1 hu).2, (List.getElem?_eq_some_iff.1 hi).2] at h1
          exact h1
        have wr3 : IntKind.i64.wrap (((2 * j : Nat) : Int) - 2) = ((2 * q : Nat) : Int) := by rw [wrap_i64 _ (by omega) (by omega)]; omega
        have r3 : ((dupL (pos t D)).map rowZ)[0 + Int.toNat (IntKind.i64.wrap (((2 * j : Nat) : Int) - 2))]? = some (rowZ u) := by rw [wr3, Nat.zero_add, Int.toNat_natCast, List.getElem?_map, (dupL_get hu).1]; rfl
        have b4 : (0 : Int) ≤ IntKind.i64.wrap (((2 * j : Nat) : Int) - 2) := by omega
        have b5 : IntKind.i64.wrap (((2 * j : Nat) : Int) - 2) < ((2 * c : Nat) : Int) := by omega
        refine And.intro rt (at2 b0 b1 ?_)
        refine Exists.intro ((dupL (pos t D)).map rowZ) (Exists.intro (rowZ i) (Exists.intro (.int .i64 i) (And.intro hrt0 (And.intro r0 (And.intro rfl ?_)))))
        refine And.intro rt (at2 b4 b5 ?_)
        refine Exists.intro ((dupL (pos t D)).map rowZ) (Exists.intro (rowZ u) (Exists.intro (.int .i64 u) (And.intro hrt0 (And.intro r3 (And.intro rfl ?_)))))
        refine brc_intro (fun h => ?_) (fun _ => ?_)
        · have h := of_decide_eq_true h
          have h : (i : Int) ≤ (u : Int) := h
          omega
        refine And.intro rt (at2 b0 b1 ?_)
        refine Exists.intro ((dupL (pos t D)).map rowZ) (Exists.intro (rowZ i) (Exists.intro (.int .i64 i) (And.intro hrt0 (And.intro r0 (And.intro rfl ?_)))))
        refine At.mk' [0, 1, 7, 8, 10, 11, 37, 38, 39] (j + 1, mpPut es [(i : Int)] 1 clk, mpClk es [(i : Int)] clk) ⟨⟨hlt2, by show MSet _ (keysL D t ++ ((pos t D).take (j + 1)).map Int.ofNat); rw [htk]; exact hput⟩, by show c - (j + 1) < c - j; omega⟩ ⟨?_, rfl⟩ rfl rfl (by simp) (by simp) (by decide)
        rw [wr2]
        first | done | rfl
      · skip
        refine And.intro rt (at2 b0 b1 ?_)
        refine Exists.intro ((dupL (pos t D)).map rowZ) (Exists.intro (rowZ i) (Exists.intro (.int .i64 i) (And.intro hrt0 (And.intro r0 (And.intro rfl ?_)))))
        refine At.mk' [0, 1, 7, 8, 10, 11, 37, 38, 39] (j + 1, mpPut es [(i : Int)] 1 clk, mpClk es [(i : Int)] clk) ⟨⟨hlt2, by show MSet _ (keysL D t ++ ((pos t D).take (j + 1)).map Int.ofNat); rw [htk]; exact hput⟩, by show c - (j + 1) < c - j; omega⟩ ⟨?_, rfl⟩ rfl rfl (by simp) (by simp) (by decide)
        rw [wr2]
        first | done | rfl
    · have hlt2 : ¬ ((2 * j : Nat) : Int) < ((2 * c : Nat) : Int) := of_decide_eq_false hlt2
      obtain rfl : j = c := by omega
      refine At.mk' [0, 1, 7, 8, 37, 38, 39] (t + 1, es, clk) ⟨⟨hlt, ?_⟩, by show n - (t + 1) < n - t; omega⟩ ⟨?_, rfl⟩ rfl rfl (by simp) (by simp) (by decide)
      · show MSet es (keysL D (t + 1))
        rw [keysL_succ]
        rw [← hp, List.take_length] at hms1
        exact hms1
      · rw [wrt]
        first | done | rfl
  · have hlt : ¬ (t : Int) < (n : Int) := of_decide_eq_false hlt
    obtain rfl : t = n := by omega
    have hlen := hms1.len
    rw [keysL_len hpl t (Nat.le_refl _)] at hlen
    change Does Tryd.prog 31 _ _ _
    refine Does.on 15 [4, 5, 6, 7, 8, 9, 10, 11, 12] _ _ (coreEnds (m := z1) (v := v1) hw1 ?_)
    rw [hall]
    refine brc_intro (fun _ => ?_) (fun h => ?_)
    · change Does Tryd.prog 33 _ _ _
      refine Does.on 15 [4, 5, 6, 7, 8, 9, 10, 11, 12] _ _ (coreCellsL (m := z1) (v := v1) hw1 hws ?_)
      change Does Tryd.prog 32 _ _ _
      rw [wnc, wrap_u64 ((t * c : Nat) : Int) (by omega) (by omega)]
      refine Does.on 17 [15, 16] _ _ (equalU (xs := [((t * c : Nat) : Int), ((t * c : Nat) : Int)]) (ys := [((t * c : Nat) : Int), ((t * c : Nat) : Int)]) (by simp) (fun _ => ?_) fun h => absurd rfl h)
      exact rfl
    · exfalso
      have h : ((es.length : Int) == IntKind.i64.wrap ((t : Int) * (c : Int))) = false := h
      rw [wnc, hlen] at h
      simp at h

end Go.Mac
