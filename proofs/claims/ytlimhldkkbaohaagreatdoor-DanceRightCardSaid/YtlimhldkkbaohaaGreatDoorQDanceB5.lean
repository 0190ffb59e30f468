/- Barriers: the programs of Combine, walked. -/
import Derived.Test.YtlimhldkkbaohaaGreatDoorQDanceB4
import Derived.Test.YtlimhldkkbaohaaGreatDoorGDanceF
import Derived.Test.YtlimhldkkbaohaaGreatDoorQDanceC2
open Go Go.Proofs Go.Mac
set_option maxRecDepth 100000
namespace Go.Mac

def nodeB : Option (List FC) → Int → Int → Bool
  | some [.int .i64 a, .int .i64 b], s, u => a == s && b == u
  | _, _, _ => false

theorem nodeB_ok {o : Option (List FC)} {s u : Int} (h : nodeB o s u = true) : o = some (rowNode s u) := by
  unfold nodeB at h
  split at h
  · simp only [Bool.and_eq_true, beq_iff_eq] at h
    rw [h.1, h.2]
  · cases h

/-- The node at a level of somebody's way; -1 beyond. -/
def vI (n id j : Nat) : Int := if j < hgtN n then (nodeN n id j : Int) else -1

theorem path_small : ((List.range 16).all fun m => (List.range (m + 1)).all fun id => (List.range (hgtN (m + 1))).all fun j =>
    nodeB (nodesF (m + 1))[nodeN (m + 1) id j]? (sizeN (m + 1) id j) (vI (m + 1) id (j + 1)) && decide (nodeN (m + 1) id j < firstN (m + 1) (hgtN (m + 1)) ∧ firstN (m + 1) (hgtN (m + 1)) ≤ 20 ∧ 1 ≤ sizeN (m + 1) id j ∧ sizeN (m + 1) id j ≤ 2 ∧
      offP (combineP (m + 1) id) (2 * hgtN (m + 1) - j) = 8 * hgtN (m + 1) + 4 * (hgtN (m + 1) - j))) = true := by decide +kernel

theorem path_at {n id j : Nat} (hn : 1 ≤ n ∧ n ≤ 16) (hid : id < n) (hj : j < hgtN n) : (nodesF n)[nodeN n id j]? = some (rowNode (sizeN n id j) (vI n id (j + 1))) ∧ nodeN n id j < firstN n (hgtN n) ∧ firstN n (hgtN n) ≤ 20 ∧ 1 ≤ sizeN n id j ∧ sizeN n id j ≤ 2 ∧
    offP (combineP n id) (2 * hgtN n - j) = 8 * hgtN n + 4 * (hgtN n - j) := by
  have h1 := all_range path_small (t := n - 1) (by omega)
  rw [show n - 1 + 1 = n by omega] at h1
  have h2 := all_range (all_range h1 hid) hj
  rw [Bool.and_eq_true] at h2
  exact ⟨nodeB_ok h2.1, of_decide_eq_true h2.2⟩

theorem hgt_le (n : Nat) : 1 ≤ hgtN n ∧ hgtN n ≤ 4 := by
  rw [hgtN]
  split
  · omega
  · split
    · omega
    · split <;> omega

def pathR (n id j : Nat) : List (List FC) := (List.range j).map fun i => [.int .i64 (nodeN n id i)]
theorem pathR_len (n id j : Nat) : (pathR n id j).length = j := by simp [pathR]
theorem pathR_succ (n id j : Nat) : pathR n id (j + 1) = pathR n id j ++ [[.int .i64 (nodeN n id j)]] := by simp [pathR, List.range_succ]
theorem pathR_get {n id j i : Nat} (hi : i < j) : (pathR n id j)[0 + Int.toNat (i : Int)]? = some [.int .i64 (nodeN n id i)] := by
  rw [Int.toNat_natCast, Nat.zero_add, pathR, List.getElem?_map, List.getElem?_range hi]
  rfl

theorem combU_off (n id h : Nat) : ∀ j, offP (combU n id h j) (combU n id h j).length = 8 * j
  | 0 => rfl
  | j + 1 => by rw [combU, offP_app, combU_off n id h j]; show 8 * j + 8 = _; omega

theorem bodyQ_snoc (q : Nat → Nat) (P : List Pc) (x : Pc) : bodyQ q 5 (P ++ [x]) = bodyQ q 5 P ++ pcI q (5 + offP P P.length) x := by
  rw [bodyQ_app]
  show _ ++ (pcI _ _ x ++ []) = _
  rw [List.append_nil]

section
variable {K : AV → List Nat → List PO → Prop}

theorem combineDown (x : Int) {h j : Nat} (hh : h ≤ 4) (hj : j < h) (hx : x = (j : Int) - 1) (hK : K (i64 ((5 + (8 * h + 4 * (h - j)) : Nat) : Int)) [] [.one [.f (.int .i64 h)]]) : Does Tryz.prog 105 [i64 x, cv (.ptr 0 0)] [.one [.f (.int .i64 h)]] K := by
  have e : IntKind.i64.wrap (IntKind.i64.wrap (5 + IntKind.i64.wrap (8 * (h : Int))) + IntKind.i64.wrap (4 * IntKind.i64.wrap (IntKind.i64.wrap ((h : Int) - 1) - x))) = ((5 + (8 * h + 4 * (h - j)) : Nat) : Int) := by
    subst hx
    rw [wrap_i64 (8 * (h : Int)) (by omega) (by omega), wrap_i64 (5 + 8 * (h : Int)) (by omega) (by omega), wrap_i64 ((h : Int) - 1) (by omega) (by omega), wrap_i64 ((h : Int) - 1 - ((j : Int) - 1)) (by omega) (by omega), wrap_i64 (4 * _) (by omega) (by omega), wrap_i64 _ (by omega) (by omega)]
    omega
  rw [← e] at hK
  refine does Tryz.func105 rfl (by decide) ?_
  exact hK

set_option maxHeartbeats 2000000 in
theorem combineBody {n id : Nat} (hn : 1 ≤ n ∧ n ≤ 16) (hid : id < n) (hK : K (cv (.slc 0 0 (bodyP (combineP n id)).length none false)) [] [.rows false 5 ((bodyP (combineP n id)).map rowIns)]) : Does Tryz.prog 84 [i64 n, i64 id] [] K := by
  obtain ⟨hh1, hh4⟩ := hgt_le n
  refine Does.keep 0 rfl ?_
  refine does Tryz.func84 rfl (by decide) ?_
  change Does Tryz.prog 83 _ _ _
  refine Does.alone 0 (combineNodes hn ?_)
  refine SS.nil 6 1 (by decide) rfl ?_
  have hv0 : IntKind.i64.wrap ((id : Int).tdiv 2) = vI n id 0 := by
    rw [vI, if_pos (by omega), show ((2 : Int)) = ((2 : Nat) : Int) from rfl, ← Int.ofNat_tdiv, wrap_i64 _ (by omega) (by omega)]
    show ((id / 2 : Nat) : Int) = ((0 + id / 2 ^ 1 : Nat) : Int)
    rw [Nat.zero_add, Nat.pow_one]
  refine SS.loop (fun j : Nat => j ≤ hgtN n) (fun j => [(5, cv (.slc 0 0 (firstN n (hgtN n)) none false)), (6, cv (.slc 1 0 j none false)), (7, i64 (vI n id j))]) (fun j => [.rows false 2 (nodesF n), .rows false 1 (pathR n id j)]) (fun j => hgtN n - j) [1]
    (At.mk' [5, 6, 7] 0 (Nat.zero_le _) ⟨by rw [hv0]; rfl, rfl⟩ rfl rfl (by simp) (by simp) (by simp)) ?_
  intro j hj
  change j ≤ hgtN n at hj
  refine S_r ?_
  refine brc_intro (fun h1 => ?_) (fun h1 => ?_)
  · have h1 : vI n id j ≥ 0 := of_decide_eq_true h1
    have hjh : j < hgtN n := Classical.byContradiction fun h => by rw [vI, if_neg h] at h1; omega
    have hv : vI n id j = (nodeN n id j : Int) := by rw [vI, if_pos hjh]
    obtain ⟨p1, p2, p3, p4, p5, p6⟩ := path_at hn hid hjh
    refine And.intro (Nat.le_of_ble_eq_true rfl) (Or.inl (And.intro rfl (And.intro (by simp [pathR_len]) (And.intro (by show (j + 1) * 8 ≤ _; omega) (And.intro (by show j + 1 ≤ _; omega) ?_)))))
    refine at2 (a := (0 : Int) ≤ vI n id j) (b := vI n id j < ((firstN n (hgtN n) : Nat) : Int)) (by omega) (by omega) (rd1 (rowNode (sizeN n id j) (vI n id (j + 1))) (.int .i64 (vI n id (j + 1))) (by rw [hv, Int.toNat_natCast, Nat.zero_add]; exact p1) rfl ?_)
    refine At.mk' [5, 6, 7] (j + 1) ⟨hjh, by omega⟩ ⟨rfl, rfl⟩ ?_ rfl (by simp) (by simp) (by decide)
    rw [pathR_succ, ← hv]
    rfl
  · have h1 : ¬ vI n id j ≥ 0 := of_decide_eq_false h1
    have hjh : ¬ j < hgtN n := fun h => h1 (by rw [vI, if_pos h]; omega)
    obtain rfl : j = hgtN n := by omega
    clear h1 hjh hj
    refine SS.nil 10 5 (by decide) rfl ?_
    generalize hhh : hgtN n = h at *
    refine SS.loop (fun j : Nat => j ≤ h) (fun j => [(5, cv (.slc 0 0 (firstN n h) none false)), (6, cv (.slc 1 0 h none false)), (8, cv (.ptr 2 0)), (9, cv (.func 105 [2])), (10, cv (.slc 3 0 (8 * j) none false)), (34, cv (.slc 1 0 h none false)), (35, i64 h), (36, i64 j)])
      (fun j => [.rows false 2 (nodesF n), .rows false 1 (pathR n id h), .one [.f (.int .i64 h)], .rows false 5 ((bodyQ (fun j => 5 + offP (combineP n id) j) 5 (combU n id h j)).map rowIns)]) (fun j => h - j) [1, 3]
      (At.mk' [5, 6, 8, 9, 10, 34, 35, 36] 0 (Nat.zero_le _) ⟨rfl, rfl⟩ rfl rfl (by simp) (by simp) (by simp)) ?_
    intro j hj
    change j ≤ h at hj
    have hlen : (bodyQ (fun j => 5 + offP (combineP n id) j) 5 (combU n id h j)).length = 8 * j := by rw [bodyQ_len, combU_off]
    refine S_r ?_
    refine brc_intro (fun h1 => ?_) (fun h1 => ?_)
    · have hjh : j < h := by
        have := of_decide_eq_true h1
        have : (j : Int) < (h : Int) := this
        omega
      obtain ⟨p1, p2, p3, p4, p5, p6⟩ := path_at hn hid (show j < hgtN n by omega)
      rw [hhh] at p2 p3 p6
      have w8 : IntKind.i64.wrap (5 + IntKind.i64.wrap (8 * (j : Int))) = ((5 + 8 * j : Nat) : Int) := by
        rw [wrap_i64 (8 * (j : Int)) (by omega) (by omega), wrap_i64 _ (by omega) (by omega)]
        omega
      have wv : IntKind.i64.wrap (2 * (nodeN n id j : Int)) = ((2 * nodeN n id j : Nat) : Int) := by
        rw [wrap_i64 _ (by omega) (by omega)]
        omega
      have wv1 : IntKind.i64.wrap (IntKind.i64.wrap (2 * (nodeN n id j : Int)) + 1) = ((2 * nodeN n id j + 1 : Nat) : Int) := by
        rw [wv, wrap_i64 _ (by omega) (by omega)]
        omega
      have ws : IntKind.i64.wrap ((sizeN n id j : Int) - 1) = (sizeN n id j : Int) - 1 := wrap_i64 _ (by omega) (by omega)
      have wa8 : IntKind.i64.wrap (IntKind.i64.wrap (5 + IntKind.i64.wrap (8 * (j : Int))) + 8) = ((5 + 8 * j : Nat) : Int) + 8 := by
        rw [w8, wrap_i64 _ (by omega) (by omega)]
      have wa2 : IntKind.i64.wrap (IntKind.i64.wrap (5 + IntKind.i64.wrap (8 * (j : Int))) + 2) = ((5 + 8 * j + 2 : Nat) : Int) := by
        rw [w8, wrap_i64 _ (by omega) (by omega)]
        omega
      have wj : IntKind.i64.wrap ((j : Int) - 1) = (j : Int) - 1 := wrap_i64 _ (by omega) (by omega)
      refine at2 (a := (0 : Int) ≤ (j : Int)) (b := (j : Int) < (h : Int)) (by omega) (by omega) (rd1 [.int .i64 (nodeN n id j)] (.int .i64 (nodeN n id j)) (pathR_get hjh) rfl ?_)
      refine at2 (a := (0 : Int) ≤ (nodeN n id j : Int)) (b := (nodeN n id j : Int) < ((firstN n h : Nat) : Int)) (by omega) (by omega) (rd1 (rowNode (sizeN n id j) (vI n id (j + 1))) (.int .i64 (sizeN n id j)) (by rw [Int.toNat_natCast, Nat.zero_add]; exact p1) rfl ?_)
      refine And.intro (Nat.le_of_ble_eq_true rfl) (Or.inl (And.intro rfl (And.intro (by simp [hlen]) (And.intro (by show (8 * j + 2) * 40 ≤ _; omega) (And.intro (by show 8 * j + 2 ≤ _; omega) ?_)))))
      change Does Tryz.prog 103 _ _ _
      refine Does.alone 5 (awaitN wa2 wv1 (by omega) ?_)
      refine And.intro (Nat.le_of_ble_eq_true rfl) (Or.inl (And.intro rfl (And.intro (by simp [hlen]) (And.intro (by show (8 * j + 2 + 5) * 40 ≤ _; omega) (And.intro (by show 8 * j + 2 + 5 ≤ _; omega) ?_)))))
      change Does Tryz.prog 105 _ _ _
      refine Does.on 6 [2] _ _ (combineDown (h := h) (j := j) _ hh4 hjh wj ?_)
      refine And.intro (Nat.le_of_ble_eq_true rfl) (Or.inl (And.intro rfl (And.intro (by simp [hlen]; omega) (And.intro (by show (8 * j + 2 + 5 + 1) * 40 ≤ _; omega) (And.intro (by show 8 * j + 2 + 5 + 1 ≤ _; omega) ?_)))))
      refine At.mk' [5, 6, 8, 9, 10, 34, 35, 36] (j + 1) ⟨hjh, by omega⟩ ⟨?_, rfl⟩ ?_ rfl (by simp) (by simp) (by decide)
      · rw [wrap_i64 (j + 1) (by omega) (by omega)]
        rfl
      · rw [combU, bodyQ_snoc, combU_off, List.map_append]
        show _ = [_, _, _, PO.rows false 5 (_ ++ ((([⟨8, 1, ((2 * nodeN n id j : Nat) : Int), 1, 0⟩, ⟨11, 1, (sizeN n id j : Int) - 1, ((5 + 8 * j : Nat) : Int) + 8, 0⟩] : List InsZ) ++ awI (5 + 8 * j + 2) (2 * nodeN n id j + 1) ++ ([⟨10, ((5 + offP (combineP n id) (2 * h - j) : Nat) : Int), 0, 0, 0⟩] : List InsZ)).map rowIns))]
        rw [p6, List.map_append, List.map_append, wv, ws, wa8]
        rw [← List.append_assoc, ← List.append_assoc]
        rfl
    · have hjh : ¬ j < h := by
        have := of_decide_eq_false h1
        have : ¬ (j : Int) < (h : Int) := this
        omega
      obtain rfl : j = h := by omega
      have hQ0 : combineP n id = combU n id j j ++ combD n id j := by rw [combineP, hhh]
      refine SS.loop (fun q : Nat × List Pc => q.1 ≤ j ∧ combineP n id = q.2 ++ combD n id q.1 ∧ (bodyQ (fun j => 5 + offP (combineP n id) j) 5 q.2).length + 4 * q.1 ≤ 100) (fun q => [(5, cv (.slc 0 0 (firstN n j) none false)), (6, cv (.slc 1 0 j none false)), (10, cv (.slc 3 0 (bodyQ (fun j => 5 + offP (combineP n id) j) 5 q.2).length none false)), (14, i64 (idxD q.1))])
        (fun q => [.rows false 2 (nodesF n), .rows false 1 (pathR n id j), .one [.f (.int .i64 j)], .rows false 5 ((bodyQ (fun j => 5 + offP (combineP n id) j) 5 q.2).map rowIns)]) (fun q => q.1) [1, 3]
        (At.mk' [5, 6, 10, 14] (j, combU n id j j) ⟨Nat.le_refl _, hQ0, by show (bodyQ (fun j => 5 + offP (combineP n id) j) 5 (combU n id j j)).length + 4 * j ≤ 100; rw [hlen]; omega⟩ ⟨?_, rfl⟩ rfl rfl (by simp) (by simp) (by simp)) ?_
      · rw [idxD_eq (by omega)]
        dsimp only
        rw [hlen]
      rintro ⟨i, Q⟩ ⟨hi, hQ, hB⟩
      change i ≤ j at hi
      change combineP n id = Q ++ combD n id i at hQ
      change (bodyQ (fun j => 5 + offP (combineP n id) j) 5 Q).length + 4 * i ≤ 100 at hB
      have hlQ : (bodyQ (fun j => 5 + offP (combineP n id) j) 5 Q).length = offP Q Q.length := bodyQ_len _ _ _
      cases i with
      | zero =>
        refine S_r ?_
        have hQe : combineP n id = Q := by rw [hQ]; exact List.append_nil _
        have e : bodyP (combineP n id) = bodyQ (fun j => 5 + offP (combineP n id) j) 5 Q := by
          rw [bodyP]
          rw [← hQe]
        rw [e] at hK
        exact ⟨4, [3], [.rows false 5 ((bodyQ (fun j => 5 + offP (combineP n id) j) 5 Q).map rowIns)], cv (.slc 0 0 (bodyQ (fun j => 5 + offP (combineP n id) j) 5 Q).length none false), rfl, rfl, by decide, by decide, rfl, rfl, rfl, rfl, rfl, hK⟩
      | succ i =>
        have hij : i < j := by omega
        obtain ⟨p1, p2, p3, p4, p5, p6⟩ := path_at hn hid (show i < hgtN n by omega)
        rw [hhh] at p2 p3 p6
        have wv : IntKind.i64.wrap (2 * (nodeN n id i : Int)) = ((2 * nodeN n id i : Nat) : Int) := by
          rw [wrap_i64 _ (by omega) (by omega)]
          omega
        have wv1 : IntKind.i64.wrap (IntKind.i64.wrap (2 * (nodeN n id i : Int)) + 1) = ((2 * nodeN n id i + 1 : Nat) : Int) := by
          rw [wv, wrap_i64 _ (by omega) (by omega)]
          omega
        have hdn : IntKind.i64.wrap (idxD (i + 1, Q).1 - 1) = idxD i := idxD_eq (r := i) (by omega)
        refine S_r ?_
        refine at2 (a := (0 : Int) ≤ (i : Int)) (b := (i : Int) < (j : Int)) (by omega) (by omega) (rd1 [.int .i64 (nodeN n id i)] (.int .i64 (nodeN n id i)) (pathR_get hij) rfl ?_)
        refine And.intro (Nat.le_of_ble_eq_true rfl) (Or.inl (And.intro rfl (And.intro (by simp) (And.intro (by show ((bodyQ (fun j => 5 + offP (combineP n id) j) 5 Q).length + 2) * 40 ≤ _; omega) (And.intro (by show (bodyQ (fun j => 5 + offP (combineP n id) j) 5 Q).length + 2 ≤ _; omega) ?_)))))
        refine at2 (a := (0 : Int) ≤ (nodeN n id i : Int)) (b := (nodeN n id i : Int) < ((firstN n j : Nat) : Int)) (by omega) (by omega) (rd1 (rowNode (sizeN n id i) (vI n id (i + 1))) (.int .i64 (sizeN n id i)) (by rw [Int.toNat_natCast, Nat.zero_add]; exact p1) rfl ?_)
        change Does Tryz.prog 104 _ _ _
        refine Does.alone 5 (tellN (n := sizeN n id i) wv1 rfl ?_)
        refine And.intro (Nat.le_of_ble_eq_true rfl) (Or.inl (And.intro rfl (And.intro (by simp) (And.intro (by show ((bodyQ (fun j => 5 + offP (combineP n id) j) 5 Q).length + 2 + 2) * 40 ≤ _; omega) (And.intro (by show (bodyQ (fun j => 5 + offP (combineP n id) j) 5 Q).length + 2 + 2 ≤ _; omega) ?_)))))
        have hsn : bodyQ (fun j => 5 + offP (combineP n id) j) 5 (Q ++ [Pc.dn (2 * nodeN n id i) (sizeN n id i)]) = bodyQ (fun j => 5 + offP (combineP n id) j) 5 Q ++ (([⟨1, 2, 0, 0, 0⟩, ⟨7, ((2 * nodeN n id i : Nat) : Int), 2, -1, 0⟩] : List InsZ) ++ tlI (2 * nodeN n id i + 1) (sizeN n id i)) := bodyQ_snoc _ _ _
        refine At.mk' [5, 6, 10, 14] (i, Q ++ [Pc.dn (2 * nodeN n id i) (sizeN n id i)]) ⟨⟨by show i ≤ j; omega, ?_, ?_⟩, by show i < i + 1; omega⟩ ⟨?_, rfl⟩ ?_ rfl (by simp) (by simp) (by decide)
        · show combineP n id = Q ++ [Pc.dn (2 * nodeN n id i) (sizeN n id i)] ++ combD n id i
          rw [hQ, combD]
          simp
        · show (bodyQ (fun j => 5 + offP (combineP n id) j) 5 (Q ++ [Pc.dn (2 * nodeN n id i) (sizeN n id i)])).length + 4 * i ≤ 100
          rw [hsn, List.length_append]
          show (bodyQ (fun j => 5 + offP (combineP n id) j) 5 Q).length + 4 + 4 * i ≤ 100
          omega
        · rw [hdn]
          dsimp only
          rw [hsn, List.length_append]
          rfl
        · dsimp only
          rw [hsn, List.map_append, ← wv, List.map_append, ← List.append_assoc]
          rfl

end
end Go.Mac
