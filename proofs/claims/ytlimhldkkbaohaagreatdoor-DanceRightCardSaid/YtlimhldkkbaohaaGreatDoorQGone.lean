/- The first look at the machine. -/
import Derived.Test.YtlimhldkkbaohaaGreatDoorQMachNew
import Derived.Test.YtlimhldkkbaohaaGreatDoorGMachB
import Derived.Test.YtlimhldkkbaohaaGreatDoorQEqEv
open Go Go.Proofs Go.Mac
set_option maxRecDepth 100000
namespace Go.Mac

abbrev goneP : List (List InsZ) := [[⟨8, 1, 0, 3, 0⟩, ⟨16, 3, 1, 0, 0⟩, ⟨0, 0, 0, 0, 0⟩], [⟨14, 0, 0, 0, 0⟩, ⟨0, 0, 0, 0, 0⟩]]

theorem mz0_wf {ps : List (List InsZ)} {ws : List Int} (hn : ps.length ≤ 16) (hnc : ws.length ≤ 300) (hr : ∀ p ∈ ps, rightZ p ws.length = true) (hws : ∀ v ∈ ws, 0 ≤ v ∧ v < 18446744073709551616) : WF (mz0 ps ws) := by
  refine ⟨by simp [mz0], by simpa [mz0] using hn, hr, fun x hx => ?_, fun t x p hx hp => ?_, rfl, ⟨hnc, hws⟩, ⟨by simp [mz0], by simp [mz0]⟩, by simp [mz0], by simp [mz0], by simp [mz0], by simp [mz0]⟩
  · obtain rfl := List.eq_of_mem_replicate (show x ∈ List.replicate ps.length th0 from hx)
    exact ⟨rfl, by decide⟩
  · obtain rfl := List.eq_of_mem_replicate (show x ∈ List.replicate ps.length th0 from List.mem_of_getElem? hx)
    have := hr p (List.mem_of_getElem? hp)
    simp only [rightZ, Bool.and_eq_true, decide_eq_true_eq] at this
    exact ⟨Nat.zero_le _, fun _ => by show 0 < p.length; omega⟩

theorem gone_facts : (stepZ (mz0 goneP [0]) 1).1 = 0 ∧ (stepZ (stepZ (mz0 goneP [0]) 1).2 0).1 = 0 ∧ (runM (stepZ (stepZ (mz0 goneP [0]) 1).2 0).2 [0, 0, 0, 1]).1 = 2 := by decide +kernel

theorem gone_facts2 : (runM (stepZ (stepZ (mz0 goneP [0]) 1).2 0).2 [0, 0, 0, 1]).2.ts.length = 2 ∧ (thZ (runM (stepZ (stepZ (mz0 goneP [0]) 1).2 0).2 [0, 0, 0, 1]).2 1).dn = false ∧ cellZ (runM (stepZ (stepZ (mz0 goneP [0]) 1).2 0).2 [0, 0, 0, 1]).2 1 = 0 ∧
    allZ (runM (stepZ (stepZ (mz0 goneP [0]) 1).2 0).2 [0, 0, 0, 1]).2 = false ∧ stuckZ (runM (stepZ (stepZ (mz0 goneP [0]) 1).2 0).2 [0, 0, 0, 1]).2 = true ∧ (runM (stepZ (stepZ (mz0 goneP [0]) 1).2 0).2 [0, 0, 0, 1]).2.ws = [3] ∧
    (runM (stepZ (stepZ (mz0 goneP [0]) 1).2 0).2 [0, 0, 0, 1]).2.k = 4 := by decide +kernel

theorem gone_facts3 : ((runM (stepZ (stepZ (mz0 goneP [0]) 1).2 0).2 [0, 0, 0, 1]).2.el.map fun e => [e.w, e.a, e.t, e.v]) = [[3, 3, 0, 0]] ∧ (runM (stepZ (stepZ (mz0 goneP [0]) 1).2 0).2 [0, 0, 0, 1]).2.nc = 1 := by decide +kernel

theorem ev_eq {l : List EvZ} (h : (l.map fun e => [e.w, e.a, e.t, e.v]) = [[3, 3, 0, 0]]) : l = [⟨3, 3, 0, 0⟩] := by
  rcases l with _ | ⟨⟨w, a, t, v⟩, _ | ⟨y, l⟩⟩
  · simp at h
  · simp at h
    obtain ⟨rfl, rfl, rfl, rfl⟩ := h
    rfl
  · simp at h

end Go.Mac
