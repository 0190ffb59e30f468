/- What is left in the cells of Combine in the end. -/
import Derived.Test.YtnhldphlkklfiaaGreatDoorQLeaves
import Derived.Test.YtnhldphlkklfiaaGreatDoorQDanceC3
open Go Go.Proofs Go.Mac
set_option maxRecDepth 100000
namespace Go.Mac

theorem comb_nodes : ((List.range 16).all fun m => decide (1 ≤ firstN (m + 1) (hgtN (m + 1)) ∧ firstN (m + 1) (hgtN (m + 1)) ≤ m + 5)) = true := by decide +kernel

theorem combineLeaves (n : Int) (_hn : -9223372036854775808 ≤ n ∧ n ≤ 9223372036854775807) (R : Int) (_hR : -9223372036854775808 ≤ R ∧ R ≤ 9223372036854775807) (ms : List MoveZ) :
    Does Tryz.prog 7 [i64 n, i64 R, cv (.slc 0 0 ms.length none false)] [.rows true 2 (ms.map rowMove), rtH] fun v _ _ => v = bl true := by
  refine does Tryz.func7 rfl (by decide) ?_
  change Does Tryz.prog 20 _ _ _
  refine Does.on 2 [1] _ _ (danced ?_)
  refine brc_intro (fun _ => rfl) (fun h => ?_)
  have hms : ms.length ≤ 600 := by
    have := of_decide_eq_false h
    omega
  change Does Tryz.prog 21 _ _ _
  refine Does.alone 2 (ball 0 n R ?_)
  obtain ⟨n, hn, hn16⟩ := pick16b n
  obtain ⟨R, hR, hR6⟩ := pick7 R
  rw [hn, hR]
  obtain ⟨A, V, hI, he, hleft⟩ := leftZ_get (k := 2) (by decide) hn16 hR6 ms (by omega)
  obtain ⟨N, hN⟩ : ∃ N, firstN n (hgtN n) = N := ⟨_, rfl⟩
  have hN1 : 1 ≤ N ∧ N ≤ n + 4 := by
    have := of_decide_eq_true (all_range comb_nodes (t := n - 1) (by omega))
    rw [show n - 1 + 1 = n by omega, hN] at this
    omega
  obtain ⟨b, hI⟩ : ∃ b, TI n (firstN n (hgtN n)) R (hgtN n) (PP 2 n) (parV n) (sizeV n) (nodeN n) b A V _ := hI
  have hV := tree_ended (tree_two hn16) hI he
  rw [hN] at hV
  have hC : kindC 2 n = 2 * N := by rw [← hN]; rfl
  have hget : ∀ c, c < 2 * N → (leftZ 2 n R ms)[c]? = some ((V c : Nat) : Int) := fun c hc => by
    rw [hleft, hC, cellsL, List.getElem?_map, List.getElem?_range hc]
    rfl
  have hlen : (leftZ 2 n R ms).length = 2 * N := by rw [hleft, hC, cellsL_len]
  change Does Tryz.prog 28 _ _ _
  refine Does.on 2 [0] _ _ (left (k := 2) (n := n) (R := R) (ms := ms) (kindAll (k := 2) (by decide) hn16 (by omega)) rfl (by omega) fun _ => ?_)
  rw [hlen]
  generalize leftZ 2 n R ms = w at hget
  have c1 : decide (((2 * N : Nat) : Int) < 2) = false := decide_eq_false (by omega)
  have c2 : (!((((2 * N : Nat) : Int).tmod 2) == 0)) = false := by
    rw [show ((2 * N : Nat) : Int) = 2 * (N : Int) by omega, Int.mul_tmod_right]
    rfl
  have c3 : decide (((2 * N : Nat) : Int) > IntKind.i64.wrap (IntKind.i64.wrap (2 * (n : Int)) + 8)) = false := by
    rw [wrap_i64 (2 * (n : Int)) (by omega) (by omega), wrap_i64 _ (by omega) (by omega)]
    exact decide_eq_false (by omega)
  refine brc_intro (fun h => ?_) (fun _ => ?_)
  · exact absurd (c1.symm.trans h) (by decide)
  refine brc_intro (fun h => ?_) (fun _ => ?_)
  · exact absurd (c2.symm.trans h) (by decide)
  refine brc_intro (fun h => ?_) (fun _ => ?_)
  · exact absurd (c3.symm.trans h) (by decide)
  · refine SS.loop (fun i : Nat => i ≤ N) (fun i => [(1, i64 R), (7, cv (.slc 2 0 (2 * N) none false)), (8, i64 ((2 * i : Nat) : Int))]) (fun _ => [.rows true 2 (ms.map rowMove), rtH, .rows false 1 (w.map rowU)]) (fun i => N - i) []
      (At.mk' [1, 7, 8] 0 (Nat.zero_le _) ⟨rfl, rfl⟩ rfl rfl (by simp) (by simp) (by simp)) ?_
    intro i hi
    change i ≤ N at hi
    refine S_r ?_
    refine brc_intro (fun h1 => ?_) (fun h1 => ?_)
    · have hlt : i < N := by
        have := of_decide_eq_true h1
        have : ((2 * i : Nat) : Int) < ((2 * N : Nat) : Int) := this
        omega
      obtain ⟨v0, v1⟩ := hV i hlt
      refine SS.inlR ?_
      refine at2 (a := (0 : Int) ≤ ((2 * i : Nat) : Int)) (b := ((2 * i : Nat) : Int) < ((2 * N : Nat) : Int)) (by omega) (by omega) ?_
      have hg : ∀ c, c < 2 * N → (w.map rowU)[0 + ((c : Nat) : Int).toNat]? = some (rowU (V c)) := fun c hc => by
        rw [Nat.zero_add, Int.toNat_natCast, List.getElem?_map, hget c hc]
        rfl
      have e1 : IntKind.i64.wrap (((2 * i : Nat) : Int) + 1) = ((2 * i + 1 : Nat) : Int) := by rw [wrap_i64 _ (by omega) (by omega)]; omega
      have g0 : (w.map rowU)[0 + ((2 * i : Nat) : Int).toNat]? = some (rowU 0) := by rw [hg _ (by omega), v0]; rfl
      have g1 : (w.map rowU)[0 + (IntKind.i64.wrap (((2 * i : Nat) : Int) + 1)).toNat]? = some (rowU R) := by rw [e1, hg _ (by omega), v1]
      refine rd1 (rowU 0) (.int .u64 0) g0 rfl ?_
      refine at2 (a := (0 : Int) ≤ IntKind.i64.wrap (((2 * i : Nat) : Int) + 1)) (b := IntKind.i64.wrap (((2 * i : Nat) : Int) + 1) < ((2 * N : Nat) : Int)) (by omega) (by omega) ?_
      refine rd1 (rowU R) (.int .u64 R) g1 rfl ?_
      refine brc_intro (fun h => ?_) (fun _ => ?_)
      · have c4 : (!((R : Int) == IntKind.u64.wrap (R : Int))) = false := by
          rw [wrap_u64 _ (by omega) (by omega), beq_self_eq_true]
          rfl
        exact absurd (c4.symm.trans h) (by decide)
      · refine At.mk' [1, 7, 8] (i + 1) ⟨hlt, by omega⟩ ⟨?_, rfl⟩ rfl rfl (by simp) (by simp) (by simp)
        rw [wrap_i64 (((2 * i : Nat) : Int) + 2) (by omega) (by omega), show ((2 * i : Nat) : Int) + 2 = ((2 * (i + 1) : Nat) : Int) by omega]
    · rfl

end Go.Mac
