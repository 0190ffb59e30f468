/- The first look at the machine. -/
import Derived.Test.YtnkmddcadkcdcaaDoorQMachNew
import Derived.Test.YtnkmddcadkcdcaaDoorGMachB
import Derived.Test.YtnkmddcadkcdcaaDoorQEqEv
open Go Go.Proofs Go.Mac
set_option maxRecDepth 100000
namespace Go.Mac

abbrev goneP : List (List InsZ) := [[⟨8, 1, 0, 3, 0⟩, ⟨16, 3, 1, 0, 0⟩, ⟨0, 0, 0, 0, 0⟩], [⟨14, 0, 0, 0, 0⟩, ⟨0, 0, 0, 0, 0⟩]]

theorem mz0_wf {ps : List (List InsZ)} {ws : List Int} (hn : ps.length ≤ 16) (hnc : ws.length ≤ 300) (hr : ∀ p ∈ ps, rightZ p ws.length = true) (hws : ∀ v ∈ ws, 0 ≤ v ∧ v < 18446744073709551616) : WF (mz0 ps ws) := by
  refine ⟨by simp [mz0], by simpa [mz0] using hn, hr, fun x hx => ?_, fun t x p hx hp => ?_, rfl, ⟨hnc, hws⟩, ⟨by simp [mz0], by simp [mz0]⟩, by simp [mz0], by simp [mz0], by simp [mz0], by simp [mz0]⟩
  · obtain rfl := List.eq_of_mem_replicate (show x ∈ List.replicate ps.length th0 from hx)
    exact ⟨rfl, by decide⟩
  · obtain rfl := List.eq_of_mem_replicate (show x ∈ List.replicate ps.length th0 from List.mem_of_getElem? hx)
    have := hr p (List.mem_of_getElem? hp)
    simp only [rightZ, Bool.and_eq_true, decide_eq_true_eq] at this
    exact ⟨Nat.zero_le _, fun _ => by show 0 < p.length; omega⟩

theorem gone_facts : (stepZ (mz0 goneP [0]) 1).1 = 0 ∧ (stepZ (stepZ (mz0 goneP [0]) 1).2 0).1 = 0 ∧ (runM (stepZ (stepZ (mz0 goneP [0]) 1).2 0).2 [0, 0, 0, 1]).1 = 2 := by decide +kernel

theorem gone_facts2 : (runM (stepZ (stepZ (mz0 goneP [0]) 1).2 0).2 [0, 0, 0, 1]).2.ts.length = 2 ∧ (thZ (runM (stepZ (stepZ (mz0 goneP [0]) 1).2 0).2 [0, 0, 0, 1]).2 1).dn = false ∧ cellZ (runM (stepZ (stepZ (mz0 goneP [0]) 1).2 0).2 [0, 0, 0, 1]).2 1 = 0 ∧
    allZ (runM (stepZ (stepZ (mz0 goneP [0]) 1).2 0).2 [0, 0, 0, 1]).2 = false ∧ stuckZ (runM (stepZ (stepZ (mz0 goneP [0]) 1).2 0).2 [0, 0, 0, 1]).2 = true ∧ (runM (stepZ (stepZ (mz0 goneP [0]) 1).2 0).2 [0, 0, 0, 1]).2.ws = [3] ∧
    (runM (stepZ (stepZ (mz0 goneP [0]) 1).2 0).2 [0, 0, 0, 1]).2.k = 4 := by decide +kernel

theorem gone_facts3 : ((runM (stepZ (stepZ (mz0 goneP [0]) 1).2 0).2 [0, 0, 0, 1]).2.el.map fun e => [e.w, e.a, e.t, e.v]) = [[3, 3, 0, 0]] ∧ (runM (stepZ (stepZ (mz0 goneP [0]) 1).2 0).2 [0, 0, 0, 1]).2.nc = 1 := by decide +kernel

theorem ev_eq {l : List EvZ} (h : (l.map fun e => [e.w, e.a, e.t, e.v]) = [[3, 3, 0, 0]]) : l = [⟨3, 3, 0, 0⟩] := by
  rcases l with _ | ⟨⟨w, a, t, v⟩, _ | ⟨y, l⟩⟩
  · simp at h
  · simp at h
    obtain ⟨rfl, rfl, rfl, rfl⟩ := h
    rfl
  · simp at h

theorem gone {K : AV → List Nat → List PO → Prop} (hK : K (bl true) [] []) : Does Tryd.prog 42 [] [] K := by
  refine does Tryd.func42 rfl (by decide) ?_
  refine And.intro rfl ?_
  refine And.intro rfl ?_
  change Does Tryd.prog 68 _ _ _
  obtain ⟨g1, g2, g3⟩ := gone_facts
  have w0 : WF (mz0 goneP [0]) := mz0_wf (by decide) (by decide) (by decide) (by decide)
  refine Does.on 4 [2, 3] _ _ (coreNew (ps := goneP) (ws := [0]) (n := 2) (nc := 1) (ro := false) (ro2 := false) rfl rfl (by decide) (by decide) (by decide) fun v hv => ?_)
  change Does Tryd.prog 41 _ _ _
  refine Does.on 13 [4, 5, 6, 7, 8, 9, 10, 11, 12] _ _ (coreStep (m := mz0 goneP [0]) (v := v) w0 hv 1 (fun _ v1 hv1 => ?_) fun h => absurd g1 h)
  have w1 := w0.step 1
  obtain ⟨f1, f2, f3, f4, f5, f6, f7⟩ := gone_facts2
  obtain ⟨f8, f9⟩ := gone_facts3
  have f8 := ev_eq f8
  generalize (stepZ (mz0 goneP [0]) 1).2 = m1 at *
  change Does Tryd.prog 41 _ _ _
  refine Does.on 13 [4, 5, 6, 7, 8, 9, 10, 11, 12] _ _ (coreStep (m := m1) (v := v1) w1 hv1 0 (fun _ v2 hv2 => ?_) fun h => absurd g2 h)
  have w2 := w1.step 0
  generalize (stepZ m1 0).2 = m2 at *
  change Does Tryd.prog 79 _ _ _
  refine Does.on 14 [4, 5, 6, 7, 8, 9, 10, 11, 12, 13] _ _ (coreRun (m := m2) (v := v2) (l := [0, 0, 0, 1]) (n := 4) (ro := false) (nn := true) (c := none) w2 hv2 rfl (by decide) fun v3 hv3 => ?_)
  have w3 := runM_wf w2 [0, 0, 0, 1]
  rw [g3]
  generalize (runM m2 [0, 0, 0, 1]).2 = m3 at *
  change Does Tryd.prog 48 _ _ _
  refine Does.on 14 [4, 5, 6, 7, 8, 9, 10, 11, 12] _ _ (coreAt (m := m3) (v := v3) w3 1 (fun h => absurd (by rw [f1]; decide) h) (fun _ h => absurd (f2.symm.trans h) (by decide)) fun _ _ => ?_)
  rw [f3]
  change Does Tryd.prog 31 _ _ _
  refine Does.on 14 [4, 5, 6, 7, 8, 9, 10, 11, 12] _ _ (coreEnds (m := m3) (v := v3) w3 ?_)
  rw [f4, f5]
  change Does Tryd.prog 33 _ _ _
  refine Does.on 14 [4, 5, 6, 7, 8, 9, 10, 11, 12] _ _ (coreCells (m := m3) (v := v3) w3.nc (by omega) ?_)
  rw [f6, f9]
  change Does Tryd.prog 32 _ _ _
  refine Does.on 16 [14, 15] _ _ (equalU (xs := [3]) (ys := [3]) (ro1 := false) (ro2 := false) (nn1 := false) (nn2 := true) (c1 := none) (c2 := none) (by decide) (fun _ => ?_) fun h => absurd rfl h)
  change Does Tryd.prog 36 _ _ _
  refine Does.on 16 [4, 5, 6, 7, 8, 9, 10, 11, 12] _ _ (coreEvents (m := m3) (v := v3) (by rw [f8]; decide) ?_)
  rw [f8]
  change Does Tryd.prog 80 _ _ _
  refine Does.on 18 [16, 17] _ _ (equalEv (xs := [⟨3, 3, 0, 0⟩]) (ys := [⟨3, 3, 0, 0⟩]) (ro1 := false) (ro2 := false) (nn1 := false) (nn2 := true) (c1 := none) (c2 := none) (by decide) (fun _ => ?_) fun h => absurd rfl h)
  change Does Tryd.prog 61 _ _ _
  refine Does.on 18 [4, 5, 6, 7, 8, 9, 10, 11, 12] _ _ (coreSteps (m := m3) (v := v3) ?_)
  rw [f7]
  exact hK

end Go.Mac
