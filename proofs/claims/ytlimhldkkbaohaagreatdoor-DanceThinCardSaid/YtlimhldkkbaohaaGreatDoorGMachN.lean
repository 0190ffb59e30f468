/- Texts that belong together; the first of them: The machine of threads: a new one. -/
import Derived.Test.YtlimhldkkbaohaaGreatDoorGMachB
import Derived.Test.YtlimhldkkbaohaaGreatDoorQTell
import Derived.Test.YtlimhldkkbaohaaGreatDoorGEqB

/- The machine of threads: a new one. -/
section
open Go Go.Proofs Go.Mac
set_option maxRecDepth 100000
namespace Go.Mac

abbrev th0 : ThZ := ⟨0, [0, 0, 0, 0, 0, 0, 0, 0], false⟩
/-- A machine at first. -/
def mz0 (ps : List (List InsZ)) (ws : List Int) : MZ := ⟨ps, List.replicate ps.length th0, ws, [], [], [], 0, ws.length⟩

section
variable {K : AV → List Nat → List PO → Prop}

theorem coreNew {ps : List (List InsZ)} {ws : List Int} {ro ro2 nn nn2 : Bool} {c c2 : Option Nat} {n nc : Nat} (hps : ps.length = n) (hws : ws.length = nc) (hn : n ≤ 16) (hnc : nc ≤ 300) (hr : ∀ p ∈ ps, rightZ p nc = true)
    (h : ∀ v, okV v → K (.tup [.c (.ptr 2 0), okP]) [] ([.rows2 ro 5 (ps.map fun p => p.map rowIns), .rows ro2 1 (ws.map rowU)] ++
      [.one [.slc 3 0 n none v.np, .slc 4 0 n none true, .ptr 5 0, .ptr 7 0, .slc 9 0 0 none v.na, .slc 10 0 0 none v.ne, .f (.int .i64 0)],
       .rows2 false 5 (ps.map fun p => p.map rowIns), .rows false 10 ((List.replicate n th0).map rowT), .one [.slc 6 0 nc none v.nm], .rows false 1 (ws.map rowU),
       .one [.f (.int .i64 n), .slc 8 0 0 none v.nl], .rows false 2 (v.ex.map rowS), .rows false 6 [], .rows false 4 []])) :
    Does Tryz.prog 46 [cv (.slc 0 0 n c nn), cv (.slc 1 0 nc c2 nn2)] [.rows2 ro 5 (ps.map fun p => p.map rowIns), .rows ro2 1 (ws.map rowU)] K := by
  refine Does.keep 2 rfl ?_
  refine Does.nilOut 7 1 2 (by decide) ?_
  refine Does.nilOut 5 4 6 (by decide) ?_
  refine Does.nilOut 5 5 4 (by decide) ?_
  refine does Tryz.func46 rfl (by decide) ?_
  refine brc_intro (fun h => ?_) (fun _ => ?_)
  · have := of_decide_eq_true h; omega
  change Does Tryz.prog 74 _ _ _
  refine Does.on 2 [1] _ _ (memOf (l := ws) (ro := ro2) nc hws hnc ?_)
  refine at2 (a := (0 : Int) ≤ (n : Int)) (b := (n : Int) ≤ (n : Int)) (by omega) (by omega) ?_
  refine at2 (by show ((80 : Nat) : Int) * (n : Int) ≤ _; omega) (by omega) ?_
  refine SS.nilH2 5 0 5 rfl rfl ?_
  refine SS.loop (fun i : Nat => i ≤ n) (fun i => [(0, cv (.slc 0 0 n c nn)), (1, cv (.slc 1 0 nc c2 nn2)), (8, cv (.ptr 5 0)), (30, cv (.slc 0 0 n c nn)), (31, i64 n), (32, i64 i)])
    (fun i => [.rows2 ro 5 (ps.map fun p => p.map rowIns), .rows ro2 1 (ws.map rowU), .rows false 1 (ws.map rowU), .one [.slc 2 0 nc none false], .rows false 10 ((List.replicate n th0).map rowT),
      .one [.slc 6 0 i none false, .slc 4 0 n none true, .ptr 3 0, .nilptr, .nilslc, .nilslc, .f (.int .i64 0)], .rows2 false 5 ((ps.take i).map fun p => p.map rowIns)]) (fun i => n - i) [6, 7, 8]
    (At.mk' [0, 1, 8, 30, 31, 32] 0 (by simp) ⟨rfl, rfl⟩ (by rw [List.map_replicate]; rfl) rfl (by simp) (by simp) (by simp)) ?_
  intro i hi
  change i ≤ n at hi
  refine S_r ?_
  refine brc_intro (fun hlt => ?_) (fun hlt => ?_)
  · have hlt : i < n := by
      have := of_decide_eq_true hlt
      have : (i : Int) < (n : Int) := this
      omega
    obtain ⟨p, hp⟩ : ∃ p, ps[i]? = some p := ⟨_, List.getElem?_eq_getElem (by omega)⟩
    have hpm : (ps.map fun p => p.map rowIns)[0 + Int.toNat (i : Int)]? = some (p.map rowIns) := by simp [hp]
    have hrp := hr p (List.mem_of_getElem? hp)
    refine SS.inlR ?_
    refine at2 (a := (0 : Int) ≤ (i : Int)) (b := (i : Int) < (n : Int)) (by omega) (by omega) ?_
    refine Exists.intro (p.map rowIns) (And.intro hpm ?_)
    change Does Tryz.prog 11 _ _ _
    have hlen : (p.map rowIns).length = p.length := by simp
    have hpl : p.length ≤ 600 := by
      simp only [rightZ, Bool.and_eq_true, decide_eq_true_eq] at hrp
      exact hrp.1.1.2.2
    refine Does.on 7 [0] _ _ (rightRow (ps := ps) (p := p) (ro := ro) nc hpm (by omega) (fun _ => ?_) (fun h => absurd (h.symm.trans hrp) (by decide)) fun h => absurd (h.symm.trans hrp) (by decide))
    refine SS.drawR follows (by decide) ?_
    refine Exists.intro (p.map rowIns) (And.intro hpm (And.intro (by simp) ?_))
    rw [show List.take (p.map rowIns).length (List.drop 0 (p.map rowIns)) = p.map rowIns from by rw [List.drop_zero, List.take_length]]
    refine at2 (by show (p.map rowIns).length * 40 ≤ _; omega) (by omega) ?_
    repeat' (first | refine And.intro rfl ?_ | fail)
    refine And.intro (by simp; omega) (at2 (by show (i + 1) * 24 ≤ _; omega) (by omega) ?_)
    repeat' (first | refine And.intro rfl ?_ | fail)
    refine At.mk' [0, 1, 8, 30, 31, 32] (i + 1) ⟨hlt, by omega⟩ ⟨?_, rfl⟩ ?_ rfl (by simp) (by simp) (by decide)
    · rw [wrap_i64 (i + 1) (by omega) (by omega)]
      rfl
    · have e : (ps.take (i + 1)).map (fun p => p.map rowIns) = (ps.take i).map (fun p => p.map rowIns) ++ [p.map rowIns] := by
        rw [List.take_add_one, hp, List.map_append]
        rfl
      rw [e]
      rfl
  · have hlt : ¬ (i : Int) < (n : Int) := of_decide_eq_false hlt
    obtain rfl : n = i := by omega
    rw [show ps.take n = ps from List.take_of_length_le (by omega)]
    change Does Tryz.prog 76 _ _ _
    refine Does.alone 7 (lotNew n hn ?_)
    have hk := h ⟨false, false, false, false, false, []⟩ (by simp [okV])
    refine Exists.intro _ (And.intro rfl (And.intro rfl ?_))
    refine Exists.intro _ (And.intro rfl (And.intro rfl ?_))
    refine Exists.intro _ (And.intro rfl (And.intro rfl ?_))
    exact ⟨11, [0, 1, 5, 6, 4, 3, 2, 7, 10, 9, 8], _, _, rfl, rfl, by decide, by decide, rfl, rfl, rfl, rfl, rfl, hk⟩

end
end Go.Mac
end

/- The first look at the machine. -/
section
open Go Go.Proofs Go.Mac
set_option maxRecDepth 100000
namespace Go.Mac

abbrev goneP : List (List InsZ) := [[⟨8, 1, 0, 3, 0⟩, ⟨16, 3, 1, 0, 0⟩, ⟨0, 0, 0, 0, 0⟩], [⟨14, 0, 0, 0, 0⟩, ⟨0, 0, 0, 0, 0⟩]]

theorem mz0_wf {ps : List (List InsZ)} {ws : List Int} (hn : ps.length ≤ 16) (hnc : ws.length ≤ 300) (hr : ∀ p ∈ ps, rightZ p ws.length = true) (hws : ∀ v ∈ ws, 0 ≤ v ∧ v < 18446744073709551616) : WF (mz0 ps ws) := by
  refine ⟨by simp [mz0], by simpa [mz0] using hn, hr, fun x hx => ?_, fun t x p hx hp => ?_, rfl, ⟨hnc, hws⟩, ⟨by simp [mz0], by simp [mz0]⟩, by simp [mz0], by simp [mz0], by simp [mz0], by simp [mz0]⟩
  · obtain rfl := List.eq_of_mem_replicate (show x ∈ List.replicate ps.length th0 from hx)
    exact ⟨rfl, by decide⟩
  · obtain rfl := List.eq_of_mem_replicate (show x ∈ List.replicate ps.length th0 from List.mem_of_getElem? hx)
    have := hr p (List.mem_of_getElem? hp)
    simp only [rightZ, Bool.and_eq_true, decide_eq_true_eq] at this
    exact ⟨Nat.zero_le _, fun _ => by show 0 < p.length; omega⟩

theorem gone_facts : (stepZ (mz0 goneP [0]) 1).1 = 0 ∧ (stepZ (stepZ (mz0 goneP [0]) 1).2 0).1 = 0 ∧ (runM (stepZ (stepZ (mz0 goneP [0]) 1).2 0).2 [0, 0, 0, 1]).1 = 2 := by decide +kernel

theorem gone_facts2 : (runM (stepZ (stepZ (mz0 goneP [0]) 1).2 0).2 [0, 0, 0, 1]).2.ts.length = 2 ∧ (thZ (runM (stepZ (stepZ (mz0 goneP [0]) 1).2 0).2 [0, 0, 0, 1]).2 1).dn = false ∧ cellZ (runM (stepZ (stepZ (mz0 goneP [0]) 1).2 0).2 [0, 0, 0, 1]).2 1 = 0 ∧
    allZ (runM (stepZ (stepZ (mz0 goneP [0]) 1).2 0).2 [0, 0, 0, 1]).2 = false ∧ stuckZ (runM (stepZ (stepZ (mz0 goneP [0]) 1).2 0).2 [0, 0, 0, 1]).2 = true ∧ (runM (stepZ (stepZ (mz0 goneP [0]) 1).2 0).2 [0, 0, 0, 1]).2.ws = [3] ∧
    (runM (stepZ (stepZ (mz0 goneP [0]) 1).2 0).2 [0, 0, 0, 1]).2.k = 4 := by decide +kernel

theorem gone_facts3 : ((runM (stepZ (stepZ (mz0 goneP [0]) 1).2 0).2 [0, 0, 0, 1]).2.el.map fun e => [e.w, e.a, e.t, e.v]) = [[3, 3, 0, 0]] ∧ (runM (stepZ (stepZ (mz0 goneP [0]) 1).2 0).2 [0, 0, 0, 1]).2.nc = 1 := by decide +kernel

theorem ev_eq {l : List EvZ} (h : (l.map fun e => [e.w, e.a, e.t, e.v]) = [[3, 3, 0, 0]]) : l = [⟨3, 3, 0, 0⟩] := by
  rcases l with _ | ⟨⟨w, a, t, v⟩, _ | ⟨y, l⟩⟩
  · simp at h
  · simp at h
    obtain ⟨rfl, rfl, rfl, rfl⟩ := h
    rfl
  · simp at h

end Go.Mac
end
