/- What a script is, at one script: the walk. -/
import Derived.Test.YtnhldphlkklfiaaGreatDoorQScript
open Go Go.Proofs Go.Mac
set_option maxRecDepth 100000
namespace Go.Mac

section
variable {K : AV → List Nat → List PO → Prop}

/-- slices.Equal of moves: the same ones. -/
theorem equalMv {ro1 ro2 : Bool} {xs : List MoveZ} {n : Nat} {c1 c2 : Option Nat} {nn1 nn2 : Bool} (hl : xs.length = n) (hn : n < 1000000)
    (h1 : K (bl true) [] ([.rows ro1 2 (xs.map rowMove), .rows ro2 2 (xs.map rowMove)])) :
    Does Tryz.prog 79 [cv (.slc 0 0 n c1 nn1), cv (.slc 1 0 n c2 nn2)] [.rows ro1 2 (xs.map rowMove), .rows ro2 2 (xs.map rowMove)] K := by
  refine does Tryz.func79 rfl (by decide) ?_
  refine brc_intro (fun h => ?_) (fun h => ?_)
  · simp at h
  refine SS.loop (fun i : Nat => i ≤ n) (fun i => [(0, cv (.slc 0 0 n c1 nn1)), (1, cv (.slc 1 0 n c2 nn2)), (12, i64 n), (13, i64 i)]) (fun _ => [.rows ro1 2 (xs.map rowMove), .rows ro2 2 (xs.map rowMove)]) (fun i => n - i) []
    (At.mk' [0, 1, 12, 13] 0 (by simp) ⟨rfl, rfl⟩ rfl rfl (by simp) (by simp) (by simp)) ?_
  intro i hi
  change i ≤ n at hi
  refine S_r ?_
  refine brc_intro (fun h => ?_) (fun h => ?_)
  · have hlt : i < n := by have := of_decide_eq_true h; omega
    refine SS.inlR ?_
    refine SS.drawR follows (by decide) ?_
    obtain ⟨x, hx⟩ : ∃ x, xs[i]? = some x := ⟨_, List.getElem?_eq_getElem (by omega)⟩
    refine at2 (by omega) (by omega) (rdA (rowMove x) (by simp [hx]) ?_)
    refine at2 (by omega) (by omega) (rdA (rowMove x) (by simp [hx]) ?_)
    refine And.intro (by decide +kernel) ?_
    refine brc_intro (fun h' => ?_) (fun h' => ?_)
    · simp at h'
    · refine At.mk' [0, 1, 12, 13] (i + 1) ⟨hlt, by omega⟩ ⟨?_, rfl⟩ rfl rfl (by simp) (by simp) (by simp)
      rw [wrap_i64 _ (by omega) (by omega)]
      rfl
  · exact h1

abbrev scrT : List UInt8 := [1, 2, 3, 5, 225]
abbrev scrT2 : List UInt8 := [1, 2, 3, 2, 225]
abbrev scrL : List MoveZ := [⟨2, false⟩, ⟨1, true⟩]

theorem encode {ro nn : Bool} {c : Option Nat} (h : K (.tup [.c (.f (.str scrT2)), okP]) [] [.rows ro 2 (scrL.map rowMove)]) :
    Does Tryz.prog 78 [.p (.agg [.f (.int .i64 2), .f (.int .i64 3), .f (.int .i64 3), .slc 0 0 2 c nn])] [.rows ro 2 (scrL.map rowMove)] K := by
  refine does Tryz.func78 rfl (by decide) ?_
  change Does Tryz.prog 80 _ _ _
  refine Does.on 2 [0] _ _ (scrRight (k := 2) (n := 3) (r := 3) (ms := scrL) (m := 2) (by decide) (by decide) (by decide) rfl (by decide) (by decide) ?_)
  refine SS.loop (fun p : Nat × Bool => p.1 ≤ 2) (fun p => [(1, cv (.ptr 1 0)), (4, cv (.slc 2 0 (3 + p.1) none p.2)), (25, cv (.slc 0 0 2 c nn)), (26, i64 2), (27, i64 p.1)])
    (fun p => [.rows ro 2 (scrL.map rowMove), .one [.f (.int .i64 2), .f (.int .i64 3), .f (.int .i64 3), .slc 0 0 2 c nn], .rows false 1 ((([1, 2, 3, 2, 225] : List Int).take (3 + p.1)).map fun b => [.int .u8 b])]) (fun p => 2 - p.1) [2]
    (At.mk' [1, 4, 25, 26, 27] (0, true) (by simp) ⟨rfl, rfl⟩ rfl rfl (by simp) (by simp) (by simp)) ?_
  rintro ⟨i, b⟩ hi
  change i ≤ 2 at hi
  rcases (show i = 0 ∨ i = 1 ∨ i = 2 by omega) with rfl | rfl | rfl
  · refine S_r ?_
    refine SS.inlR ?_
    refine at2 (a := (0 : Int) ≤ 0) (b := (0 : Int) < 2) (by decide) (by decide) (rdA (rowMove ⟨2, false⟩) rfl ?_)
    refine And.intro (by simp) (Or.inl (And.intro rfl (And.intro rfl (And.intro (Nat.le_of_ble_eq_true rfl) (And.intro (Nat.le_of_ble_eq_true rfl) ?_)))))
    refine At.mk' [1, 4, 25, 26, 27] (1, b) ⟨Nat.le_of_ble_eq_true rfl, by simp⟩ ⟨rfl, rfl⟩ rfl rfl (by simp) (by simp) (by simp)
  · refine S_r ?_
    refine SS.inlR ?_
    refine at2 (a := (0 : Int) ≤ 1) (b := (1 : Int) < 2) (by decide) (by decide) (rdA (rowMove ⟨1, true⟩) rfl ?_)
    refine And.intro (by simp) (Or.inl (And.intro rfl (And.intro rfl (And.intro (Nat.le_of_ble_eq_true rfl) (And.intro (Nat.le_of_ble_eq_true rfl) ?_)))))
    refine At.mk' [1, 4, 25, 26, 27] (2, b) ⟨Nat.le_of_ble_eq_true rfl, by simp⟩ ⟨rfl, rfl⟩ rfl rfl (by simp) (by simp) (by simp)
  · refine S_r ?_
    refine And.intro (Nat.le_of_ble_eq_true rfl) (And.intro (fun y hy => ?_) ?_)
    · have hy : y ∈ [[FC.int .u8 1], [FC.int .u8 2], [FC.int .u8 3], [FC.int .u8 2], [FC.int .u8 225]] := hy
      simp at hy
      rcases hy with rfl | rfl | rfl | rfl | rfl <;> exact ⟨_, rfl⟩
    exact h

theorem decodeT (h : K (.p (.agg [.f (.int .i64 2), .f (.int .i64 3), .f (.int .i64 3), .slc 0 0 2 none false])) [] [.rows false 2 (scrL.map rowMove)]) :
    Does Tryz.prog 55 [st scrT] [] K := by
  refine decode scrT (by decide) ?_
  rw [show scrK scrT = 2 by decide, show scrN scrT = 3 by decide, show scrR scrT = 3 by decide, show scrM scrT = scrL from rfl]
  exact h

theorem scripted (hK : K (bl true) [] []) : Does Tryz.prog 54 [] [] K := by
  refine does Tryz.func54 rfl (by decide) ?_
  change Does Tryz.prog 55 _ _ _
  refine Does.alone 0 (decodeT ?_)
  change Does Tryz.prog 78 _ _ _
  refine Does.on 2 [0] _ _ (encode ?_)
  change Does Tryz.prog 79 _ _ _
  refine Does.on 3 [0, 2] _ _ (equalMv (xs := scrL) rfl (by decide) ?_)
  exact hK

end
end Go.Mac
