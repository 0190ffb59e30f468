/- Once a round: the gates. -/
import Derived.Test.YtnhldphlkklfiaaGreatDoorQUpDown
import Derived.Test.YtnhldphlkklfiaaGreatDoorQStoreW
import Derived.Test.YtnhldphlkklfiaaGreatDoorQDanceL
open Go Go.Proofs Go.Mac
set_option maxRecDepth 100000
namespace Go.Mac

theorem one_get {g n i : Nat} (h : [n][i]? = some g) : [rowZ (n : Int)][0 + Int.toNat (i : Int)]? = some (rowZ (g : Int)) := by
  rcases i with _ | i
  · obtain rfl := Option.some.inj h; rfl
  · simp at h

theorem danceGates (k : Int) (_hk : -9223372036854775808 ≤ k ∧ k ≤ 9223372036854775807) (n : Int) (_hn : -9223372036854775808 ≤ n ∧ n ≤ 9223372036854775807) (R : Int) (_hR : -9223372036854775808 ≤ R ∧ R ≤ 9223372036854775807) (ms : List MoveZ) :
    Does Tryz.prog 8 [i64 k, i64 n, i64 R, cv (.slc 0 0 ms.length none false)] [.rows true 2 (ms.map rowMove), rtH] fun v _ _ => v = bl true := by
  refine does Tryz.func8 rfl (by decide) ?_
  change Does Tryz.prog 20 _ _ _
  refine Does.on 2 [1] _ _ (danced ?_)
  refine brc_intro (fun _ => rfl) (fun h => ?_)
  have hms : ms.length ≤ 500 := by
    have := of_decide_eq_false h
    omega
  change Does Tryz.prog 21 _ _ _
  refine Does.alone 2 (ball 0 n R ?_)
  obtain ⟨n, hn, hn16⟩ := pick16b n
  obtain ⟨R, hR, hR6⟩ := pick7 R
  rw [hn, hR]
  change Does Tryz.prog 22 _ _ _
  refine Does.alone 3 (pick k 3 (by decide) ?_)
  obtain ⟨p, hp, hp3⟩ : ∃ p : Nat, pickZ k 3 = p ∧ p < 3 := by
    have := pickZ_lt k (n := 3) (by decide)
    exact ⟨(pickZ k 3).toNat, by omega, by omega⟩
  rw [hp]
  refine at2 (a := (0 : Int) ≤ (p : Int)) (b := (p : Int) < 3) (by omega) (by omega) (rd1 (rowZ ((p + 1 : Nat) : Int)) (.int .i64 ((p + 1 : Nat) : Int)) (by
    have : p = 0 ∨ p = 1 ∨ p = 2 := by omega
    rcases this with rfl | rfl | rfl <;> rfl) rfl ?_)
  obtain ⟨k, hk⟩ : ∃ k, p + 1 = k := ⟨_, rfl⟩
  rw [hk]
  have hk3 : 1 ≤ k ∧ k ≤ 3 := by omega
  clear hk hp
  have hlaw := fun c => dance_gates hk3 hn16 hR6 (ms.map (pickM n)) (by rw [List.length_map]; omega) c
  obtain ⟨z, hz⟩ : ∃ z, movesZ (danceM k n R) (ms.map (pickM n)) = z := ⟨_, rfl⟩
  obtain ⟨A, V, hD, he⟩ := dance_finish (k := k) (by omega) hn16 hR6 (ms.map (pickM n)) (by rw [List.length_map]; omega)
  rw [hz] at hlaw hD
  have hws : (finish z).ws.length = kindC k n := by rw [hD.abs.ws, cellsL_len]
  clear hD he
  have hko := kindAll (k := k) (R := R) (by omega) hn16 (show R ≤ 20 by omega)
  have h300 := hko.nc300
  change Does Tryz.prog 23 _ _ _
  refine Does.on 3 [0] _ _ (floor (k := k) (n := n) (R := R) (ms := ms) (z := z) hko rfl (by omega) hz fun v hv hw => ?_)
  change Does Tryz.prog 24 _ _ _
  refine Does.on 12 [3, 4, 5, 6, 7, 8, 9, 10, 11] _ _ (fairFinish (m := z) (v := v) hw hv fun v1 c hv1 hw1 => ?_)
  generalize finish z = z1 at hlaw hw1 hws
  refine brc_intro (fun h3 => ?_) (fun h3 => ?_)
  · have h3 : k = 3 := by
      have h3 : ((k : Int) == 3) = true := h3
      have h3 : (k : Int) = 3 := by simpa using h3
      omega
    refine brc_intro (fun h2 => ?_) (fun _ => ?_)
    · exfalso
      have h2 : ((k : Int) == 2) = true := h2
      rw [h3] at h2
      cases h2
    have hg : ∀ (j : Nat) (g : Nat), [n][j]? = some g → (stN g z1.al).length = R := fun j g hj => by
      have : g = n := by
        rcases j with _ | j
        · exact (Option.some.inj hj).symm
        · simp at hj
      exact hlaw g (by rw [if_pos h3]; exact this)
    refine SS.loop (fun i : Nat => i ≤ 1) (fun i => [(2, i64 R), (9, cv (.ptr 3 0)), (10, cv (.slc 13 0 1 none true)), (58, cv (.slc 13 0 1 none true)), (59, i64 ((1 : Nat) : Int)), (60, i64 i)])
      (fun _ => [.rows true 2 (ms.map rowMove), rtH, .rows false 1 [rowZ 1, rowZ 2, rowZ 3]] ++ machS 3 z1 v1 ++ [.rows false 1 [rowZ 1], .rows false 1 [rowZ n]]) (fun i => 1 - i) [9, 10, 11, 13]
      (At.mk' [2, 9, 10, 58, 59, 60] 0 (Nat.zero_le _) ⟨rfl, rfl⟩ rfl rfl (by simp) (by simp) (by decide)) ?_
    intro i hi
    change i ≤ 1 at hi
    refine S_r ?_
    refine brc_intro (fun hlt => ?_) (fun hlt => ?_)
    · have hlt : i < 1 := by
        have := of_decide_eq_true hlt
        have : (i : Int) < ((1 : Nat) : Int) := this
        omega
      obtain ⟨g, hgi⟩ : ∃ g, ([n])[i]? = some g := ⟨_, List.getElem?_eq_getElem (by simp; omega)⟩
      have hgs := hg i g hgi
      refine SS.inlR ?_
      refine at2 (a := (0 : Int) ≤ (i : Int)) (b := (i : Int) < ((1 : Nat) : Int)) (by omega) (by omega) (rd1 (rowZ g) (.int .i64 g) (one_get hgi) rfl ?_)
      change Does Tryz.prog 25 _ _ _
      refine Does.on 14 [3, 4, 5, 6, 7, 8, 9, 10, 11] _ _ (stores (m := z1) (v := v1) (c := g) hw1 ?_)
      rw [hgs]
      refine brc_intro (fun h9 => ?_) (fun _ => ?_)
      · have h9 : ((R : Int) != (R : Int)) = true := h9
        simp at h9
      refine At.mk' [2, 9, 10, 58, 59, 60] (i + 1) ⟨hlt, by omega⟩ ⟨?_, rfl⟩ rfl rfl (by simp) (by simp) (by decide)
      rw [wrap_i64 (i + 1) (by omega) (by omega)]
      rfl
    · refine fin ?_
      exact decide_eq_true (show ((1 : Nat) : Int) > 0 by omega)
  · have h3 : k ≠ 3 := by
      have h3 : ((k : Int) == 3) = false := h3
      have h3 : (k : Int) ≠ 3 := by simpa using h3
      omega
    refine brc_intro (fun h2 => ?_) (fun h2 => ?_)
    · have h2 : k = 2 := by
        have h2 : ((k : Int) == 2) = true := h2
        have h2 : (k : Int) = 2 := by simpa using h2
        omega
      obtain ⟨N, hN⟩ : ∃ N, firstN n (hgtN n) = N := ⟨_, rfl⟩
      have hC : kindC k n = 2 * N := by rw [h2, ← hN]; rfl
      have hN1 : 1 ≤ N := by
        have := (path_at hn16 (show 0 < n by omega) (show 0 < hgtN n from (hgt_le n).1)).2.1
        omega
      refine SS.nil 10 1 (by decide) rfl ?_
      refine SS.loop (fun j : Nat => j ≤ N) (fun j => [(2, i64 R), (9, cv (.ptr 3 0)), (10, cv (.slc 13 0 j none false)), (11, i64 ((2 * j + 1 : Nat) : Int))])
        (fun j => [.rows true 2 (ms.map rowMove), rtH, .rows false 1 [rowZ 1, rowZ 2, rowZ 3]] ++ machS 3 z1 v1 ++ [.rows false 1 [rowZ 1], .rows false 1 (((List.range j).map fun i => 2 * i + 1).map fun g : Nat => rowZ g)]) (fun j => N - j) [9, 10, 11, 13]
        (At.mk' [2, 9, 10, 11] 0 (Nat.zero_le _) ⟨rfl, rfl⟩ rfl rfl (by simp) (by simp) (by decide)) ?_
      intro j hj
      change j ≤ N at hj
      refine S_r ?_
      change Does Tryz.prog 29 _ _ _
      refine Does.on 14 [3, 4, 5, 6, 7, 8, 9, 10, 11] _ _ (coreCellsL (m := z1) (v := v1) hw1 rfl ?_)
      refine brc_intro (fun hlt => ?_) (fun hlt => ?_)
      · have hlt : j < N := by
          have := of_decide_eq_true hlt
          have : ((2 * j + 1 : Nat) : Int) < (z1.ws.length : Int) := this
          omega
        refine And.intro (by simp) (Or.inl (And.intro rfl (And.intro (by simp) (And.intro (by show (j + 1) * 8 ≤ _; omega) (And.intro (by show j + 1 ≤ _; omega) ?_)))))
        refine At.mk' [2, 9, 10, 11] (j + 1) ⟨hlt, by omega⟩ ⟨?_, rfl⟩ ?_ rfl (by simp) (by simp) (by decide)
        · rw [wrap_i64 (((2 * j + 1 : Nat) : Int) + 2) (by omega) (by omega), show ((2 * j + 1 : Nat) : Int) + 2 = ((2 * (j + 1) + 1 : Nat) : Int) by omega]
          rfl
        · rw [List.range_succ, List.map_append, List.map_append]
          rfl
      · have hlt : ¬ j < N := by
          have := of_decide_eq_false hlt
          have : ¬ ((2 * j + 1 : Nat) : Int) < (z1.ws.length : Int) := this
          omega
        obtain rfl : j = N := by omega
        have hg : ∀ (i : Nat) (g : Nat), ((List.range j).map fun i => 2 * i + 1)[i]? = some g → (stN g z1.al).length = R := fun i g hi => by
          rw [List.getElem?_map] at hi
          have hij : i < j := by
            refine Classical.byContradiction fun h9 => ?_
            rw [List.getElem?_eq_none (by simp; omega)] at hi
            cases hi
          rw [List.getElem?_range hij] at hi
          obtain rfl := Option.some.inj hi
          exact hlaw _ (by rw [if_neg h3]; exact ⟨by show (2 * i + 1) % 2 = 1; omega, by rw [hC]; show 2 * i + 1 < 2 * j; omega⟩)
        refine SS.loop (fun i : Nat => i ≤ j) (fun i => [(2, i64 R), (9, cv (.ptr 3 0)), (10, cv (.slc 13 0 j none false)), (58, cv (.slc 13 0 j none false)), (59, i64 ((j : Nat) : Int)), (60, i64 i)])
          (fun _ => [.rows true 2 (ms.map rowMove), rtH, .rows false 1 [rowZ 1, rowZ 2, rowZ 3]] ++ machS 3 z1 v1 ++ [.rows false 1 [rowZ 1], .rows false 1 (((List.range j).map fun i => 2 * i + 1).map fun g : Nat => rowZ g)]) (fun i => j - i) [9, 10, 11, 13]
          (At.mk' [2, 9, 10, 58, 59, 60] 0 (Nat.zero_le _) ⟨rfl, rfl⟩ rfl rfl (by simp) (by simp) (by decide)) ?_
        intro i hi
        change i ≤ j at hi
        refine S_r ?_
        refine brc_intro (fun hlt => ?_) (fun hlt => ?_)
        · have hlt : i < j := by
            have := of_decide_eq_true hlt
            have : (i : Int) < ((j : Nat) : Int) := this
            omega
          obtain ⟨g, hgi⟩ : ∃ g, ((List.range j).map fun i => 2 * i + 1)[i]? = some g := ⟨_, List.getElem?_eq_getElem (by simp; omega)⟩
          have hgs := hg i g hgi
          refine SS.inlR ?_
          refine at2 (a := (0 : Int) ≤ (i : Int)) (b := (i : Int) < ((j : Nat) : Int)) (by omega) (by omega) (rd1 (rowZ g) (.int .i64 g) (by rw [Int.toNat_natCast, Nat.zero_add, List.getElem?_map, hgi]; rfl) rfl ?_)
          change Does Tryz.prog 25 _ _ _
          refine Does.on 14 [3, 4, 5, 6, 7, 8, 9, 10, 11] _ _ (stores (m := z1) (v := v1) (c := g) hw1 ?_)
          rw [hgs]
          refine brc_intro (fun h9 => ?_) (fun _ => ?_)
          · have h9 : ((R : Int) != (R : Int)) = true := h9
            simp at h9
          refine At.mk' [2, 9, 10, 58, 59, 60] (i + 1) ⟨hlt, by omega⟩ ⟨?_, rfl⟩ rfl rfl (by simp) (by simp) (by decide)
          rw [wrap_i64 (i + 1) (by omega) (by omega)]
          rfl
        · refine fin ?_
          exact decide_eq_true (show ((j : Nat) : Int) > 0 by omega)
    · have h2 : k ≠ 2 := by
        have h2 : ((k : Int) == 2) = false := h2
        have h2 : (k : Int) ≠ 2 := by simpa using h2
        omega
      have hg : ∀ (j : Nat) (g : Nat), [1][j]? = some g → (stN g z1.al).length = R := fun j g hj => by
        have : g = 1 := by
          rcases j with _ | j
          · exact (Option.some.inj hj).symm
          · simp at hj
        exact hlaw g (by rw [if_neg h3]; exact ⟨by omega, by rw [show k = 1 by omega]; show g < 2; omega⟩)
      refine SS.loop (fun i : Nat => i ≤ 1) (fun i => [(2, i64 R), (9, cv (.ptr 3 0)), (10, cv (.slc 12 0 1 none true)), (58, cv (.slc 12 0 1 none true)), (59, i64 ((1 : Nat) : Int)), (60, i64 i)])
        (fun _ => [.rows true 2 (ms.map rowMove), rtH, .rows false 1 [rowZ 1, rowZ 2, rowZ 3]] ++ machS 3 z1 v1 ++ [.rows false 1 [rowZ 1]]) (fun i => 1 - i) [9, 10, 11, 13]
        (At.mk' [2, 9, 10, 58, 59, 60] 0 (Nat.zero_le _) ⟨rfl, rfl⟩ rfl rfl (by simp) (by simp) (by decide)) ?_
      intro i hi
      change i ≤ 1 at hi
      refine S_r ?_
      refine brc_intro (fun hlt => ?_) (fun hlt => ?_)
      · have hlt : i < 1 := by
          have := of_decide_eq_true hlt
          have : (i : Int) < ((1 : Nat) : Int) := this
          omega
        obtain ⟨g, hgi⟩ : ∃ g, ([1])[i]? = some g := ⟨_, List.getElem?_eq_getElem (by simp; omega)⟩
        have hgs := hg i g hgi
        refine SS.inlR ?_
        refine at2 (a := (0 : Int) ≤ (i : Int)) (b := (i : Int) < ((1 : Nat) : Int)) (by omega) (by omega) (rd1 (rowZ g) (.int .i64 g) (one_get hgi) rfl ?_)
        change Does Tryz.prog 25 _ _ _
        refine Does.on 13 [3, 4, 5, 6, 7, 8, 9, 10, 11] _ _ (stores (m := z1) (v := v1) (c := g) hw1 ?_)
        rw [hgs]
        refine brc_intro (fun h9 => ?_) (fun _ => ?_)
        · have h9 : ((R : Int) != (R : Int)) = true := h9
          simp at h9
        refine At.mk' [2, 9, 10, 58, 59, 60] (i + 1) ⟨hlt, by omega⟩ ⟨?_, rfl⟩ rfl rfl (by simp) (by simp) (by decide)
        rw [wrap_i64 (i + 1) (by omega) (by omega)]
        rfl
      · refine fin ?_
        exact decide_eq_true (show ((1 : Nat) : Int) > 0 by omega)

end Go.Mac
