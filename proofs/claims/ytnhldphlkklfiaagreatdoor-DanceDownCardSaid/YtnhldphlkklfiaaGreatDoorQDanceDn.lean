/- From above: the walk. -/
import Derived.Test.YtnhldphlkklfiaaGreatDoorQUpDown
import Derived.Test.YtnhldphlkklfiaaGreatDoorQStoreW
import Derived.Test.YtnhldphlkklfiaaGreatDoorQDanceL
open Go Go.Proofs Go.Mac
set_option maxRecDepth 100000
namespace Go.Mac

theorem down_at {n j : Nat} (hn : 1 ≤ n ∧ n ≤ 16) (hj : j < 4) (hc : 1 < cntN n j) : j < 3 ∧ ∀ i, i < cntN n j → firstN n j + i < firstN n (hgtN n) ∧ parV n (n + (firstN n j + i)) = firstN n (j + 1) + i / 2 ∧ firstN n (j + 1) + i / 2 < firstN n (hgtN n) := by
  have h1 := all_range down_ok (t := n - 1) (by omega)
  rw [show n - 1 + 1 = n by omega] at h1
  have h2 := all_range h1 (t := j) hj
  rw [decide_eq_true hc] at h2
  simp only [Bool.not_true, Bool.false_or, Bool.and_eq_true, decide_eq_true_eq] at h2
  refine ⟨h2.1, fun i hi => ?_⟩
  have h3 := all_range h2.2 hi
  simp only [Bool.and_eq_true, decide_eq_true_eq, beq_iff_eq] at h3
  exact ⟨h3.1.1, h3.1.2, h3.2⟩

theorem down_end {n j : Nat} (hn : 1 ≤ n ∧ n ≤ 16) (hj : j < 4) (hc : ¬ 1 < cntN n j) (hp : j = 0 ∨ 1 < cntN n (j - 1)) : firstN n j < firstN n (hgtN n) := by
  have h1 := all_range down_top (t := n - 1) (by omega)
  rw [show n - 1 + 1 = n by omega] at h1
  have h2 := all_range h1 (t := j) hj
  rw [decide_eq_false hc] at h2
  rcases hp with rfl | hp
  · simpa using h2
  · rw [decide_eq_true hp] at h2
    simpa using h2

theorem half_up (m : Nat) (hm : m ≤ 1000) : IntKind.i64.wrap (Int.tdiv (IntKind.i64.wrap ((m : Int) + 1)) 2) = (((m + 1) / 2 : Nat) : Int) := by
  rw [wrap_i64 ((m : Int) + 1) (by omega) (by omega), Int.tdiv_eq_ediv_of_nonneg (by omega), wrap_i64 _ (by omega) (by omega)]
  omega

theorem danceDown (n : Int) (_hn : -9223372036854775808 ≤ n ∧ n ≤ 9223372036854775807) (R : Int) (_hR : -9223372036854775808 ≤ R ∧ R ≤ 9223372036854775807) (ms : List MoveZ) :
    Does Tryz.prog 4 [i64 n, i64 R, cv (.slc 0 0 ms.length none false)] [.rows true 2 (ms.map rowMove), rtH] fun v _ _ => v = bl true := by
  refine does Tryz.func4 rfl (by decide) ?_
  change Does Tryz.prog 20 _ _ _
  refine Does.on 2 [1] _ _ (danced ?_)
  refine brc_intro (fun _ => rfl) (fun h => ?_)
  have hms : ms.length ≤ 500 := by
    have := of_decide_eq_false h
    omega
  change Does Tryz.prog 21 _ _ _
  refine Does.alone 2 (ball 0 n R ?_)
  obtain ⟨n, hn, hn16⟩ := pick16b n
  obtain ⟨R, hR, hR6⟩ := pick7 R
  rw [hn, hR]
  obtain ⟨hlen, hord⟩ := dance_down hn16 hR6 (ms.map (pickM n)) (by rw [List.length_map]; omega)
  obtain ⟨z, hz⟩ : ∃ z, movesZ (danceM 2 n R) (ms.map (pickM n)) = z := ⟨_, rfl⟩
  rw [hz] at hlen hord
  have hko := kindAll (k := 2) (R := R) (by omega) hn16 (show R ≤ 20 by omega)
  have h20 : firstN n (hgtN n) ≤ 20 := (path_at hn16 (show 0 < n by omega) (show 0 < hgtN n from (hgt_le n).1)).2.2.1
  change Does Tryz.prog 23 _ _ _
  refine Does.on 2 [0] _ _ (floor (k := 2) (n := n) (R := R) (ms := ms) (z := z) hko rfl (by omega) hz fun v hv hw => ?_)
  change Does Tryz.prog 24 _ _ _
  refine Does.on 11 [2, 3, 4, 5, 6, 7, 8, 9, 10] _ _ (fairFinish (m := z) (v := v) hw hv fun v1 c hv1 hw1 => ?_)
  generalize finish z = z1 at hlen hord hw1
  have e0 : IntKind.i64.wrap (Int.tdiv (IntKind.i64.wrap ((n : Int) + 1)) 2) = ((cntN n 0 : Nat) : Int) := half_up n (by omega)
  refine SS.loop (fun j : Nat => j < 4 ∧ (j = 0 ∨ 1 < cntN n (j - 1)) ∧ cntN n j ≤ 20) (fun j => [(0, i64 n), (1, i64 R), (7, cv (.ptr 2 0)), (8, i64 (firstN n j)), (9, i64 (cntN n j))])
    (fun _ => [.rows true 2 (ms.map rowMove), rtH] ++ machS 2 z1 v1) (fun j => 4 - j) [8, 9, 10]
    (At.mk' [0, 1, 7, 8, 9] 0 ⟨by decide, .inl rfl, by show (n + 1) / 2 ≤ 20; omega⟩ ⟨?_, rfl⟩ rfl rfl (by simp) (by simp) (by decide)) ?_
  · rw [← e0]
    rfl
  rintro j ⟨hj4, hjp, hj20⟩
  refine S_r ?_
  refine brc_intro (fun hlt => ?_) (fun hlt => ?_)
  · have hlt : 1 < cntN n j := by
      have := of_decide_eq_true hlt
      have : ((cntN n j : Nat) : Int) > 1 := this
      omega
    obtain ⟨hj3, hat⟩ := down_at hn16 hj4 hlt
    have hf20 : firstN n j ≤ 20 := by
      have := (hat 0 (by omega)).1
      omega
    have e1 : IntKind.i64.wrap (((firstN n j : Nat) : Int) + ((cntN n j : Nat) : Int)) = ((firstN n (j + 1) : Nat) : Int) := by
      rw [wrap_i64 _ (by omega) (by omega)]
      show _ = ((firstN n j + cntN n j : Nat) : Int)
      omega
    have e2 : IntKind.i64.wrap (Int.tdiv (IntKind.i64.wrap (((cntN n j : Nat) : Int) + 1)) 2) = ((cntN n (j + 1) : Nat) : Int) := half_up _ (by omega)
    have hc20 : cntN n (j + 1) ≤ 20 := by
      show (cntN n j + 1) / 2 ≤ 20
      omega
    have hf20' : firstN n (j + 1) ≤ 20 := by
      have := (hat 0 (by omega)).2.2
      omega
    refine SS.loop (fun i : Nat => i ≤ cntN n j) (fun i => [(0, i64 n), (1, i64 R), (7, cv (.ptr 2 0)), (8, i64 (firstN n j)), (9, i64 (cntN n j)), (10, i64 (firstN n (j + 1))), (43, i64 (cntN n j)), (44, i64 i)])
      (fun _ => [.rows true 2 (ms.map rowMove), rtH] ++ machS 2 z1 v1) (fun i => cntN n j - i) [8, 9, 10]
      (At.mk' [0, 1, 7, 8, 9, 10, 43, 44] 0 (Nat.zero_le _) ⟨?_, rfl⟩ rfl rfl (by simp) (by simp) (by decide)) ?_
    · rw [← e1]
      rfl
    intro i hi
    change i ≤ cntN n j at hi
    refine S_r ?_
    refine brc_intro (fun hlt2 => ?_) (fun hlt2 => ?_)
    · have hlt2 : i < cntN n j := by
        have := of_decide_eq_true hlt2
        have : (i : Int) < ((cntN n j : Nat) : Int) := this
        omega
      obtain ⟨a1, a2, a3⟩ := hat i hlt2
      have w1 : IntKind.i64.wrap (IntKind.i64.wrap (2 * IntKind.i64.wrap (((firstN n j : Nat) : Int) + (i : Int))) + 1) = ((2 * (firstN n j + i) + 1 : Nat) : Int) := by
        rw [wrap_i64 (((firstN n j : Nat) : Int) + (i : Int)) (by omega) (by omega), wrap_i64 (2 * _) (by omega) (by omega), wrap_i64 _ (by omega) (by omega)]
        omega
      have w2 : IntKind.i64.wrap (IntKind.i64.wrap (2 * IntKind.i64.wrap (((firstN n (j + 1) : Nat) : Int) + IntKind.i64.wrap (Int.tdiv (i : Int) 2))) + 1) = ((2 * (firstN n (j + 1) + i / 2) + 1 : Nat) : Int) := by
        rw [Int.tdiv_eq_ediv_of_nonneg (by omega), wrap_i64 ((i : Int) / 2) (by omega) (by omega), wrap_i64 (((firstN n (j + 1) : Nat) : Int) + (i : Int) / 2) (by omega) (by omega), wrap_i64 (2 * _) (by omega) (by omega), wrap_i64 _ (by omega) (by omega)]
        omega
      have l1 := hlen _ a1
      have l2 := hlen _ a3
      have ho := hord (2 * (firstN n j + i) + 1) (2 * (firstN n (j + 1) + i / 2) + 1) ⟨firstN n j + i, a1, by rw [a2]; exact a3, rfl, by rw [a2]⟩
      refine SS.inlR ?_
      change Does Tryz.prog 25 _ _ _
      rw [w1]
      refine Does.on 11 [2, 3, 4, 5, 6, 7, 8, 9, 10] _ _ (stores (m := z1) (v := v1) (c := 2 * (firstN n j + i) + 1) hw1 ?_)
      change Does Tryz.prog 25 _ _ _
      rw [w2]
      refine Does.on 12 [2, 3, 4, 5, 6, 7, 8, 9, 10] _ _ (stores (m := z1) (v := v1) (c := 2 * (firstN n (j + 1) + i / 2) + 1) hw1 ?_)
      generalize stN (2 * (firstN n j + i) + 1) z1.al = lo at l1 ho
      generalize stN (2 * (firstN n (j + 1) + i / 2) + 1) z1.al = hh at l2 ho
      rw [l1, l2]
      refine brc_intro (fun h9 => ?_) (fun _ => ?_)
      · have h9 : ((R : Int) != (R : Int)) = true := h9
        simp at h9
      refine brc_intro (fun h9 => ?_) (fun _ => ?_)
      · have h9 : ((R : Int) != (R : Int)) = true := h9
        simp at h9
      refine SS.loop (fun r : Nat => r ≤ R) (fun r => [(0, i64 n), (1, i64 R), (7, cv (.ptr 2 0)), (8, i64 (firstN n j)), (9, i64 (cntN n j)), (10, i64 (firstN n (j + 1))), (12, cv (.slc 11 0 R none false)), (13, cv (.slc 12 0 R none false)), (43, i64 (cntN n j)), (44, i64 i), (73, i64 R), (74, i64 r)])
        (fun _ => [.rows true 2 (ms.map rowMove), rtH] ++ machS 2 z1 v1 ++ [.rows false 1 (lo.map rowZ), .rows false 1 (hh.map rowZ)]) (fun r => R - r) [8, 9, 10]
        (At.mk' [0, 1, 7, 8, 9, 10, 12, 13, 43, 44, 73, 74] 0 (Nat.zero_le _) ⟨rfl, rfl⟩ rfl rfl (by simp) (by simp) (by decide)) ?_
      intro r hr
      change r ≤ R at hr
      refine S_r ?_
      refine brc_intro (fun hlt3 => ?_) (fun hlt3 => ?_)
      · have hlt3 : r < R := by
          have := of_decide_eq_true hlt3
          have : (r : Int) < (R : Int) := this
          omega
        obtain ⟨x, hx⟩ : ∃ x, lo[r]? = some x := ⟨_, List.getElem?_eq_getElem (by omega)⟩
        obtain ⟨y, hy⟩ : ∃ y, hh[r]? = some y := ⟨_, List.getElem?_eq_getElem (by omega)⟩
        have hxy := ho r x y hx hy
        refine SS.inlR ?_
        refine SS.drawR follows (by decide) ?_
        refine at2 (a := (0 : Int) ≤ (r : Int)) (b := (r : Int) < (R : Int)) (by omega) (by omega) (rd1 (rowZ x) (.int .i64 x) (by simp [hx]) rfl ?_)
        refine at2 (a := (0 : Int) ≤ (r : Int)) (b := (r : Int) < (R : Int)) (by omega) (by omega) (rd1 (rowZ y) (.int .i64 y) (by simp [hy]) rfl ?_)
        refine brc_intro (fun h9 => ?_) (fun _ => ?_)
        · have h9 : x ≤ y := of_decide_eq_true h9
          omega
        refine At.mk' [0, 1, 7, 8, 9, 10, 12, 13, 43, 44, 73, 74] (r + 1) ⟨hlt3, by omega⟩ ⟨?_, rfl⟩ rfl rfl (by simp) (by simp) (by decide)
        rw [wrap_i64 (r + 1) (by omega) (by omega)]
        rfl
      · refine At.mk' [0, 1, 7, 8, 9, 10, 43, 44] (i + 1) ⟨hlt2, by omega⟩ ⟨?_, rfl⟩ rfl rfl (by simp) (by simp) (by decide)
        rw [wrap_i64 (i + 1) (by omega) (by omega)]
        rfl
    · refine At.mk' [0, 1, 7, 8, 9] (j + 1) ⟨⟨by omega, .inr hlt, hc20⟩, by omega⟩ ⟨?_, rfl⟩ rfl rfl (by simp) (by simp) (by decide)
      rw [← e2]
  · have hlt : ¬ 1 < cntN n j := by
      have := of_decide_eq_false hlt
      have : ¬ ((cntN n j : Nat) : Int) > 1 := this
      omega
    have hfe := down_end hn16 hj4 hlt hjp
    have w1 : IntKind.i64.wrap (IntKind.i64.wrap (2 * ((firstN n j : Nat) : Int)) + 1) = ((2 * firstN n j + 1 : Nat) : Int) := by
      rw [wrap_i64 (2 * _) (by omega) (by omega), wrap_i64 _ (by omega) (by omega)]
      omega
    have l1 := hlen _ hfe
    change Does Tryz.prog 25 _ _ _
    rw [w1]
    refine Does.on 11 [2, 3, 4, 5, 6, 7, 8, 9, 10] _ _ (stores (m := z1) (v := v1) (c := 2 * firstN n j + 1) hw1 ?_)
    rw [l1]
    refine fin ?_
    simp

end Go.Mac
