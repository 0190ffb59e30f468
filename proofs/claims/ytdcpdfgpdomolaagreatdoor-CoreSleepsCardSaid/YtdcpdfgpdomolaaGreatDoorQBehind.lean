/- A machine of given programs, behind given moves. -/
import Derived.Test.YtdcpdfgpdomolaaGreatDoorQFits
import Derived.Test.YtdcpdfgpdomolaaGreatDoorGFinish
import Derived.Test.YtdcpdfgpdomolaaGreatDoorQGone
import Derived.Test.YtdcpdfgpdomolaaGreatDoorQCut
open Go Go.Proofs Go.Mac
set_option maxRecDepth 100000
namespace Go.Mac

theorem fits_facts {ps : List (List InsZ)} {nc : Nat} (h : fitsP ps nc = true) : (∀ p ∈ ps, rightZ p nc = true) ∧ ps.length ≤ 16 ∧ nc ≤ 100 := by
  simp only [fitsP, Bool.and_eq_true, List.all_eq_true, decide_eq_true_eq] at h
  exact ⟨h.1.1.1, h.1.1.2, h.2⟩

section
variable {K : AV → List Nat → List PO → Prop}

theorem behind {ps : List (List InsZ)} {ws : List Int} {ms : List MoveZ} {ro ro2 ro3 : Bool} {c c2 c3 : Option Nat} {nn nn2 nn3 : Bool} {n nc k : Nat} (hps : ps.length = n) (hws : ws.length = nc) (hms : ms.length = k)
    (hf : fitsP ps nc = true) (hk : k ≤ 1000000) (hwv : ∀ v ∈ ws, 0 ≤ v ∧ v < 18446744073709551616)
    {z : MZ} (hz : movesZ (mz0 ps ws) ms = z) (h : ∀ v, okV v → WF z → K (cv (.ptr 3 0)) [] ([.rows2 ro 5 (ps.map fun p => p.map rowIns), .rows ro2 1 (ws.map rowU), .rows ro3 2 (ms.map rowMove)] ++ machS 3 z v)) :
    Does Tryz.prog 9 [cv (.slc 0 0 n c nn), cv (.slc 1 0 nc c2 nn2), cv (.slc 2 0 k c3 nn3)] [.rows2 ro 5 (ps.map fun p => p.map rowIns), .rows ro2 1 (ws.map rowU), .rows ro3 2 (ms.map rowMove)] K := by
  subst hz
  obtain ⟨hr, hn, hnc⟩ := fits_facts hf
  refine Does.keep 3 rfl ?_
  refine does Tryz.func9 rfl (by decide) ?_
  change Does Tryz.prog 24 _ _ _
  have w0 : WF (mz0 ps ws) := mz0_wf (by omega) (by omega) (by rw [hws]; exact hr) hwv
  refine Does.on 3 [0, 1] _ _ (coreNew (ps := ps) (ws := ws) (n := n) (nc := nc) hps hws (by omega) (by omega) hr fun v hv => ?_)
  subst hps hws
  refine SS.loop (fun p : Nat × VZ => p.1 ≤ k ∧ okV p.2) (fun p => [(7, cv (.ptr 3 0)), (19, cv (.slc 2 0 k c3 nn3)), (20, i64 k), (21, i64 p.1)])
    (fun p => [.rows2 ro 5 (ps.map fun p => p.map rowIns), .rows ro2 1 (ws.map rowU), .rows ro3 2 (ms.map rowMove)] ++ machS 3 (movesZ (mz0 ps ws) (ms.take p.1)) p.2) (fun p => k - p.1) [9, 10, 11]
    (At.mk' [7, 19, 20, 21] (0, v) ⟨by simp, hv⟩ ⟨rfl, rfl⟩ rfl rfl (by simp) (by simp) (by decide)) ?_
  rintro ⟨i, v1⟩ ⟨hik, hv1⟩
  change i ≤ k at hik
  change okV v1 at hv1
  refine S_r ?_
  refine brc_intro (fun hlt => ?_) (fun hlt => ?_)
  · have hlt : i < k := by
      have := of_decide_eq_true hlt
      have : (i : Int) < (k : Int) := this
      omega
    obtain ⟨x, hx⟩ : ∃ x, ms[i]? = some x := ⟨_, List.getElem?_eq_getElem (by omega)⟩
    have hw1 := w0.moves (ms.take i)
    have hnx := movesZ_take (mz0 ps ws) ms i x hx
    have hxm : (ms.map rowMove)[0 + Int.toNat (i : Int)]? = some (rowMove x) := by simp [hx]
    refine SS.inlR ?_
    refine at2 (a := (0 : Int) ≤ (i : Int)) (b := (i : Int) < (k : Int)) (by omega) (by omega) (rdA (rowMove x) hxm ?_)
    refine brc_intro (fun hp => ?_) (fun hp => ?_)
    · rw [moveZ, if_pos (show x.pk = true from hp)] at hnx
      change Does Tryz.prog 13 _ _ _
      refine Does.on 13 [3, 4, 5, 6, 7, 8, 9, 10, 11] _ _ (corePoke (m := movesZ (mz0 ps ws) (ms.take i)) (v := v1) hw1 hv1 x.th (fun v' hv' => ?_) fun e v' hv' => ?_)
      all_goals
        rw [← hnx]
        refine At.mk' [7, 19, 20, 21] (i + 1, v') ⟨⟨hlt, hv'⟩, by show k - (i + 1) < k - i; omega⟩ ⟨?_, rfl⟩ rfl rfl (by simp) (by simp) (by decide)
        rw [wrap_i64 (i + 1) (by omega) (by omega)]
        rfl
    · rw [moveZ, if_neg (show ¬ x.pk = true from fun h => by rw [show x.pk = false from hp] at h; cases h)] at hnx
      change Does Tryz.prog 14 _ _ _
      refine Does.on 13 [3, 4, 5, 6, 7, 8, 9, 10, 11] _ _ (coreStep (m := movesZ (mz0 ps ws) (ms.take i)) (v := v1) hw1 hv1 x.th (fun _ v' hv' => ?_) fun _ v' hv' => ?_)
      all_goals
        rw [← hnx]
        refine At.mk' [7, 19, 20, 21] (i + 1, v') ⟨⟨hlt, hv'⟩, by show k - (i + 1) < k - i; omega⟩ ⟨?_, rfl⟩ rfl rfl (by simp) (by simp) (by decide)
        rw [wrap_i64 (i + 1) (by omega) (by omega)]
        rfl
  · have hlt : ¬ (i : Int) < (k : Int) := of_decide_eq_false hlt
    obtain rfl : i = k := by omega
    rw [show ms.take i = ms from List.take_of_length_le (by omega)]
    exact ⟨12, [0, 1, 2, 3, 4, 5, 6, 7, 8, 9, 10, 11], _, _, rfl, rfl, by decide, by decide, rfl, rfl, rfl, rfl, rfl, h v1 hv1 (w0.moves ms)⟩

end
end Go.Mac
