/- Barriers: the nodes of Combine, walked. -/
import Derived.Test.YtlimhldkkbaohaaGreatDoorQDanceB3
import Derived.Test.YtlimhldkkbaohaaGreatDoorGDanceD
open Go Go.Proofs Go.Mac
set_option maxRecDepth 100000
namespace Go.Mac

/-- How many come to a level. -/
def comeN (n : Nat) : Nat → Nat
  | 0 => n
  | j + 1 => cntN n j

theorem cnt_come (n j : Nat) : cntN n j = (comeN n j + 1) / 2 := by cases j <;> rfl

abbrev rowNode (s u : Int) : List FC := [.int .i64 s, .int .i64 u]
def szI (n j i : Nat) : Int := ((min 2 (comeN n j - 2 * i) : Nat) : Int)
/-- A level's nodes, the first ones of which know what stands above. -/
def levR (n j k : Nat) : List (List FC) := (List.range (cntN n j)).map fun i => rowNode (szI n j i) (if i < k then ((firstN n (j + 1) + i / 2 : Nat) : Int) else -1)
def newR (n j k : Nat) : List (List FC) := (List.range k).map fun i => rowNode (szI n j i) (-1)
def nodesU (n : Nat) : Nat → List (List FC)
  | 0 => []
  | j + 1 => nodesU n j ++ levR n j (cntN n j)
def nodesF (n : Nat) : List (List FC) := nodesU n (hgtN n - 1) ++ newR n (hgtN n - 1) (cntN n (hgtN n - 1))

theorem levR_len (n j k : Nat) : (levR n j k).length = cntN n j := by simp [levR]
theorem newR_len (n j k : Nat) : (newR n j k).length = k := by simp [newR]
theorem nodesU_len (n : Nat) : ∀ j, (nodesU n j).length = firstN n j
  | 0 => rfl
  | j + 1 => by rw [nodesU, List.length_append, nodesU_len n j, levR_len]; rfl

theorem newR_succ (n j k : Nat) : newR n j (k + 1) = newR n j k ++ [rowNode (szI n j k) (-1)] := by simp [newR, List.range_succ]
theorem newR_all (n j : Nat) : newR n j (cntN n j) = levR n j 0 := by
  rw [newR, levR]
  refine List.map_congr_left fun i _ => ?_
  rw [if_neg (Nat.not_lt_zero _)]

theorem levR_get {n j k i : Nat} (hi : i < cntN n j) : (levR n j k)[i]? = some (rowNode (szI n j i) (if i < k then ((firstN n (j + 1) + i / 2 : Nat) : Int) else -1)) := by
  rw [levR, List.getElem?_map, List.getElem?_range hi]
  rfl

theorem levR_set {n j k : Nat} (_hk : k < cntN n j) : (levR n j k).set k (rowNode (szI n j k) ((firstN n (j + 1) + k / 2 : Nat) : Int)) = levR n j (k + 1) := by
  refine List.ext_getElem? fun i => ?_
  by_cases hi : i < cntN n j
  · by_cases e : k = i
    · subst e
      rw [List.getElem?_set_self (by rw [levR_len]; exact hi), levR_get hi, if_pos (Nat.lt_succ_self _)]
    · rw [List.getElem?_set_ne e, levR_get hi, levR_get hi]
      by_cases h : i < k
      · rw [if_pos h, if_pos (by omega)]
      · rw [if_neg h, if_neg (by omega)]
  · rw [List.getElem?_eq_none (by rw [List.length_set, levR_len]; omega), List.getElem?_eq_none (by rw [levR_len]; omega)]

theorem nodes_small : ((List.range 16).all fun m => (List.range (hgtN (m + 1))).all fun j => decide (comeN (m + 1) j ≤ 16 ∧ 1 ≤ comeN (m + 1) j ∧ firstN (m + 1) (j + 1) ≤ 20 ∧ (cntN (m + 1) j = 1 ↔ j + 1 = hgtN (m + 1)))) = true := by decide +kernel

theorem nodes_at {n j : Nat} (hn : 1 ≤ n ∧ n ≤ 16) (hj : j < hgtN n) : comeN n j ≤ 16 ∧ 1 ≤ comeN n j ∧ firstN n (j + 1) ≤ 20 ∧ (cntN n j = 1 ↔ j + 1 = hgtN n) := by
  have h1 := all_range nodes_small (t := n - 1) (by omega)
  rw [show n - 1 + 1 = n by omega] at h1
  exact of_decide_eq_true (all_range h1 hj)

section
variable {K : AV → List Nat → List PO → Prop}

set_option maxHeartbeats 1000000 in
theorem combineNodes {n : Nat} (hn : 1 ≤ n ∧ n ≤ 16) (hK : K (cv (.slc 0 0 (firstN n (hgtN n)) none false)) [] [.rows false 2 (nodesF n)]) : Does Tryz.prog 83 [i64 n] [] K := by
  refine Does.keep 0 rfl ?_
  refine does Tryz.func83 rfl (by decide) ?_
  refine SS.nil 3 2 (by decide) rfl ?_
  have hh : 0 < hgtN n := by rw [hgtN]; split <;> (try split) <;> (try split) <;> omega
  refine SS.loop (fun j : Nat => j < hgtN n) (fun j => [(0, i64 (comeN n j)), (3, cv (.slc 0 0 (firstN n j) none false))]) (fun j => [.rows false 2 (nodesU n j)]) (fun j => hgtN n - j) [0]
    (At.mk' [0, 3] 0 hh ⟨rfl, rfl⟩ rfl rfl (by simp) (by simp) (by simp)) ?_
  intro j hj
  change j < hgtN n at hj
  obtain ⟨hc16, hc1, hf20, hone⟩ := nodes_at hn hj
  have hcc := cnt_come n j
  have hfj : firstN n (j + 1) = firstN n j + cntN n j := rfl
  refine S_r ?_
  refine SS.loop (fun i : Nat => i ≤ cntN n j) (fun i => [(0, i64 (comeN n j)), (3, cv (.slc 0 0 (firstN n j + i) none false)), (4, i64 (firstN n j)), (5, i64 ((2 * i : Nat) : Int))]) (fun i => [.rows false 2 (nodesU n j ++ newR n j i)]) (fun i => cntN n j - i) [0]
    (At.mk' [0, 3, 4, 5] 0 (Nat.zero_le _) ⟨rfl, rfl⟩ (by rw [show newR n j 0 = [] from rfl, List.append_nil]; rfl) rfl (by simp) (by simp) (by simp)) ?_
  intro i hi
  change i ≤ cntN n j at hi
  refine S_r ?_
  refine brc_intro (fun h1 => ?_) (fun h1 => ?_)
  · have h1 : ((2 * i : Nat) : Int) < (comeN n j : Int) := of_decide_eq_true h1
    have hw : IntKind.i64.wrap ((comeN n j : Int) - ((2 * i : Nat) : Int)) = ((comeN n j - 2 * i : Nat) : Int) := by
      rw [wrap_i64 _ (by omega) (by omega)]
      omega
    have hs : (if IntKind.i64.wrap ((comeN n j : Int) - ((2 * i : Nat) : Int)) < (2 : Int) then IntKind.i64.wrap ((comeN n j : Int) - ((2 * i : Nat) : Int)) else (2 : Int)) = szI n j i := by
      rw [hw, szI]
      split <;> omega
    refine And.intro (Nat.le_of_ble_eq_true rfl) (Or.inl (And.intro rfl (And.intro (by simp [nodesU_len, newR_len]) (And.intro (by show (firstN n j + i + 1) * 16 ≤ _; omega) (And.intro (by show firstN n j + i + 1 ≤ _; omega) ?_)))))
    refine At.mk' [0, 3, 4, 5] (i + 1) ⟨by show i + 1 ≤ _; omega, by show cntN n j - (i + 1) < cntN n j - i; omega⟩ ⟨?_, rfl⟩ ?_ rfl (by simp) (by simp) (by decide)
    · rw [wrap_i64 (((2 * i : Nat) : Int) + 2) (by omega) (by omega), show ((2 * i : Nat) : Int) + 2 = ((2 * (i + 1) : Nat) : Int) by omega]
      rfl
    · rw [newR_succ, ← hs, ← List.append_assoc]
      rfl
  · have h1 : ¬ ((2 * i : Nat) : Int) < (comeN n j : Int) := of_decide_eq_false h1
    obtain rfl : i = cntN n j := by omega
    have hq : IntKind.i64.wrap ((IntKind.i64.wrap ((comeN n j : Int) + 1)).tdiv 2) = (cntN n j : Int) := by
      rw [wrap_i64 ((comeN n j : Int) + 1) (by omega) (by omega), show ((comeN n j : Int) + 1) = ((comeN n j + 1 : Nat) : Int) by omega, show ((2 : Int)) = ((2 : Nat) : Int) from rfl, ← Int.ofNat_tdiv, ← hcc, wrap_i64 _ (by omega) (by omega)]
    refine brc_intro (fun h2 => ?_) (fun h2 => ?_)
    · have h2 : (IntKind.i64.wrap ((IntKind.i64.wrap ((comeN n j : Int) + 1)).tdiv 2) == 1) = true := h2
      rw [hq] at h2
      have h2 : cntN n j = 1 := by
        have : (cntN n j : Int) = 1 := by simpa using h2
        omega
      have hje := hone.1 h2
      obtain rfl : j = hgtN n - 1 := by omega
      rw [show hgtN n = hgtN n - 1 + 1 by omega] at hK
      exact ⟨1, [0], [.rows false 2 (nodesF n)], cv (.slc 0 0 (firstN n (hgtN n - 1) + cntN n (hgtN n - 1)) none false), rfl, rfl, by decide, by decide, rfl, rfl, rfl, rfl, rfl, hK⟩
    · have h2 : (IntKind.i64.wrap ((IntKind.i64.wrap ((comeN n j : Int) + 1)).tdiv 2) == 1) = false := h2
      rw [hq] at h2
      have h2 : cntN n j ≠ 1 := fun e => by rw [e] at h2; simp at h2
      have hje : j + 1 < hgtN n := by
        have := fun h => h2 (hone.2 h)
        omega
      refine SS.loop (fun k : Nat => k ≤ cntN n j) (fun k => [(0, i64 (cntN n j)), (3, cv (.slc 0 0 (firstN n j + cntN n j) none false)), (4, i64 (firstN n j)), (6, i64 ((firstN n j + k : Nat) : Int))]) (fun k => [.rows false 2 (nodesU n j ++ levR n j k)]) (fun k => cntN n j - k) [0]
        (At.mk' [0, 3, 4, 6] 0 (Nat.zero_le _) ⟨by rw [hq]; rfl, rfl⟩ (by rw [newR_all]; rfl) rfl (by simp) (by simp) (by simp)) ?_
      intro k hk
      change k ≤ cntN n j at hk
      refine S_r ?_
      refine brc_intro (fun h3 => ?_) (fun h3 => ?_)
      · have h3 : ((firstN n j + k : Nat) : Int) < ((firstN n j + cntN n j : Nat) : Int) := of_decide_eq_true h3
        have hkl : k < cntN n j := by omega
        have hu : IntKind.i64.wrap (((firstN n j + cntN n j : Nat) : Int) + IntKind.i64.wrap ((IntKind.i64.wrap (((firstN n j + k : Nat) : Int) - (firstN n j : Int))).tdiv 2)) = ((firstN n (j + 1) + k / 2 : Nat) : Int) := by
          rw [wrap_i64 (((firstN n j + k : Nat) : Int) - (firstN n j : Int)) (by omega) (by omega), show (((firstN n j + k : Nat) : Int) - (firstN n j : Int)) = ((k : Nat) : Int) by omega, show ((2 : Int)) = ((2 : Nat) : Int) from rfl, ← Int.ofNat_tdiv, wrap_i64 ((k / 2 : Nat) : Int) (by omega) (by omega), wrap_i64 _ (by omega) (by omega)]
          omega
        have hg : (nodesU n j ++ levR n j k)[0 + Int.toNat ((firstN n j + k : Nat) : Int)]? = some (rowNode (szI n j k) (-1)) := by
          rw [Int.toNat_natCast, Nat.zero_add, List.getElem?_append_right (by rw [nodesU_len]; omega), nodesU_len, Nat.add_sub_cancel_left, levR_get hkl, if_neg (Nat.lt_irrefl _)]
        refine at2 (a := (0 : Int) ≤ ((firstN n j + k : Nat) : Int)) (b := ((firstN n j + k : Nat) : Int) < ((firstN n j + cntN n j : Nat) : Int)) (by omega) (by omega) (wrF (rowNode (szI n j k) (-1)) (.int .i64 (IntKind.i64.wrap (((firstN n j + cntN n j : Nat) : Int) + IntKind.i64.wrap ((IntKind.i64.wrap (((firstN n j + k : Nat) : Int) - (firstN n j : Int))).tdiv 2)))) hg rfl (by show 0 + 1 < 2; omega) ?_)
        refine At.mk' [0, 3, 4, 6] (k + 1) ⟨by show k + 1 ≤ _; omega, by show cntN n j - (k + 1) < cntN n j - k; omega⟩ ⟨?_, rfl⟩ ?_ rfl (by simp) (by simp) (by decide)
        · rw [wrap_i64 (((firstN n j + k : Nat) : Int) + 1) (by omega) (by omega), show ((firstN n j + k : Nat) : Int) + 1 = ((firstN n j + (k + 1) : Nat) : Int) by omega]
        · rw [hu, ← levR_set hkl]
          have : (nodesU n j ++ levR n j k).set (0 + Int.toNat ((firstN n j + k : Nat) : Int)) (rowNode (szI n j k) ((firstN n (j + 1) + k / 2 : Nat) : Int)) = nodesU n j ++ (levR n j k).set k (rowNode (szI n j k) ((firstN n (j + 1) + k / 2 : Nat) : Int)) := by
            rw [Int.toNat_natCast, Nat.zero_add, List.set_append_right _ _ (by rw [nodesU_len]; omega), nodesU_len, Nat.add_sub_cancel_left]
          rw [← this]
          rfl
      · have h3 : ¬ ((firstN n j + k : Nat) : Int) < ((firstN n j + cntN n j : Nat) : Int) := of_decide_eq_false h3
        obtain rfl : k = cntN n j := by omega
        exact At.mk' [0, 3] (j + 1) ⟨hje, by omega⟩ ⟨rfl, rfl⟩ rfl rfl (by simp) (by simp) (by simp)

end
end Go.Mac
