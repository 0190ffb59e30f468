/- A machine of threads that do the same, behind steps, in the end. -/
import Derived.Test.YtnkmddcadkcdcaaDoorGFinish
import Derived.Test.YtnkmddcadkcdcaaDoorQMachNew
import Derived.Test.YtnkmddcadkcdcaaDoorGMachB
import Derived.Test.YtnkmddcadkcdcaaDoorQGone
import Derived.Test.YtnkmddcadkcdcaaDoorQCut
import Derived.Test.YtnkmddcadkcdcaaDoorGBase
import Derived.Test.YtnkmddcadkcdcaaDoorQRepeat
open Go Go.Proofs Go.Mac
set_option maxRecDepth 100000
namespace Go.Mac

/-- Steps, by whom moves pick. -/
def stepsL (n : Nat) (ms : List MoveZ) : List MoveZ := ms.map fun m => ⟨pickZ m.th n, false⟩

section
variable {K : AV → List Nat → List PO → Prop}

theorem raced {p : List InsZ} {ms : List MoveZ} {ro3 nn nn3 : Bool} {c3 : Option Nat} {n k q : Nat} (hp : p.length = q) (hms : ms.length = k) (hn : 1 ≤ n ∧ n ≤ 16) (hk : k ≤ 1000000) (hr : rightZ p 1 = true)
    {z : MZ} (hz : movesZ (mz0 (List.replicate n p) [0]) (stepsL n ms) = z) (h : ∀ v, okV v → WF z → WF (finish z) → K (cv (.ptr 2 0)) [0] ([.gone, .rows ro3 2 (ms.map rowMove)] ++ machS 2 (finish z) v)) :
    Does Tryd.prog 43 [i64 n, cv (.slc 0 0 q none nn), cv (.slc 1 0 k c3 nn3)] [.rows false 5 (p.map rowIns), .rows ro3 2 (ms.map rowMove)] K := by
  subst hz hp
  refine Does.keep 2 rfl ?_
  refine does Tryd.func43 rfl (by decide) ?_
  refine And.intro (by simp) ?_
  change Does Tryd.prog 81 _ _ _
  refine Does.on 3 [2] _ _ (repeatIns (n := n) (p := p.map rowIns) hn ?_)
  have hmap : List.replicate n (p.map rowIns) = (List.replicate n p).map fun p => p.map rowIns := by rw [List.map_replicate]
  rw [hmap]
  have hr' : ∀ x ∈ List.replicate n p, rightZ x 1 = true := fun x hx => by rw [(List.mem_replicate.1 hx).2]; exact hr
  have w0 : WF (mz0 (List.replicate n p) [0]) := mz0_wf (by rw [List.length_replicate]; exact hn.2) (by simp) hr' (by simp)
  have hpl : (List.replicate n p).length = n := by simp
  change Does Tryd.prog 68 _ _ _
  clear hmap
  generalize List.replicate n p = ps at hpl hr' w0 h ⊢
  subst hpl
  refine Does.on 5 [3, 4] _ _ (coreNew (ps := ps) (ws := [0]) (n := ps.length) (nc := 1) (ro := false) (ro2 := false) rfl rfl hn.2 (by decide) hr' fun v hv => ?_)
  refine SS.loop (fun p : Nat × VZ => p.1 ≤ k ∧ okV p.2) (fun p => [(0, i64 ps.length), (7, cv (.ptr 5 0)), (26, cv (.slc 1 0 k c3 nn3)), (27, i64 k), (28, i64 p.1)])
    (fun q => [.gone, .rows ro3 2 (ms.map rowMove), .gone, .rows2 false 5 (ps.map fun p => p.map rowIns), .rows false 1 [rowU 0]] ++ machS 5 (movesZ (mz0 ps [0]) ((stepsL ps.length ms).take q.1)) q.2) (fun p => k - p.1) [0, 2, 11, 12, 13]
    (At.mk' [0, 7, 26, 27, 28] (0, v) ⟨by simp, hv⟩ ⟨rfl, rfl⟩ rfl rfl (by simp) (by simp) (by decide)) ?_
  rintro ⟨i, v1⟩ ⟨hik, hv1⟩
  change i ≤ k at hik
  change okV v1 at hv1
  refine S_r ?_
  refine brc_intro (fun hlt => ?_) (fun hlt => ?_)
  · have hlt : i < k := by
      have := of_decide_eq_true hlt
      have : (i : Int) < (k : Int) := this
      omega
    obtain ⟨x, hx⟩ : ∃ x, ms[i]? = some x := ⟨_, List.getElem?_eq_getElem (by omega)⟩
    have hw1 := w0.moves ((stepsL ps.length ms).take i)
    have hnx := movesZ_take (mz0 ps [0]) (stepsL ps.length ms) i ⟨pickZ x.th ps.length, false⟩ (by rw [stepsL, List.getElem?_map, hx]; rfl)
    rw [moveZ, if_neg (fun h => by cases h)] at hnx
    have hxm : (ms.map rowMove)[0 + Int.toNat (i : Int)]? = some (rowMove x) := by simp [hx]
    refine at2 (a := (0 : Int) ≤ (i : Int)) (b := (i : Int) < (k : Int)) (by omega) (by omega) (rdA (rowMove x) hxm ?_)
    change Does Tryd.prog 23 _ _ _
    refine Does.alone 15 (pick x.th ps.length (by omega) ?_)
    change Does Tryd.prog 41 _ _ _
    refine Does.on 15 [5, 6, 7, 8, 9, 10, 11, 12, 13] _ _ (coreStep (m := movesZ (mz0 ps [0]) ((stepsL ps.length ms).take i)) (v := v1) hw1 hv1 (pickZ x.th ps.length) (fun _ v' hv' => ?_) fun _ v' hv' => ?_)
    all_goals
      rw [show (stepZ (movesZ (mz0 ps [0]) ((stepsL ps.length ms).take i)) (pickZ x.th ps.length)).2 = movesZ (mz0 ps [0]) ((stepsL ps.length ms).take (i + 1)) from hnx.symm]
      refine At.mk' [0, 7, 26, 27, 28] (i + 1, v') ⟨⟨hlt, hv'⟩, by show k - (i + 1) < k - i; omega⟩ ⟨?_, rfl⟩ rfl rfl (by simp) (by simp) (by decide)
      rw [wrap_i64 (i + 1) (by omega) (by omega)]
      rfl
  · have hlt : ¬ (i : Int) < (k : Int) := of_decide_eq_false hlt
    obtain rfl : i = k := by omega
    have hw1 := w0.moves (stepsL ps.length ms)
    rw [show (stepsL ps.length ms).take i = stepsL ps.length ms from List.take_of_length_le (by rw [stepsL, List.length_map]; omega)]
    change Does Tryd.prog 27 _ _ _
    refine Does.on 14 [5, 6, 7, 8, 9, 10, 11, 12, 13] _ _ (fairFinish (m := movesZ (mz0 ps [0]) (stepsL ps.length ms)) (v := v1) hw1 hv1 fun v2 _ hv2 hw2 => ?_)
    exact ⟨14, [0, 1, 5, 6, 7, 8, 9, 10, 11, 12, 13], _, _, rfl, rfl, by decide, by decide, rfl, rfl, rfl, rfl, rfl, h v2 hv2 hw1 hw2⟩

end
end Go.Mac
