/- Two machines of the same programs behind the same moves are alike. -/
import Derived.Test.YtamgfmpkjakkdaaGreatDoorQWritten
import Derived.Test.YtamgfmpkjakkdaaGreatDoorQBehind
import Derived.Test.YtamgfmpkjakkdaaGreatDoorQTell
import Derived.Test.YtamgfmpkjakkdaaGreatDoorQGone
import Derived.Test.YtamgfmpkjakkdaaGreatDoorQCount
import Derived.Test.YtamgfmpkjakkdaaGreatDoorGBase
import Derived.Test.YtamgfmpkjakkdaaGreatDoorQEqEv
import Derived.Test.YtamgfmpkjakkdaaGreatDoorQEqAct
open Go Go.Proofs Go.Mac
set_option maxRecDepth 100000
namespace Go.Mac

theorem coreSame (ps : List (List InsZ)) (hl : ps.length ≤ 9223372036854775807) (ws : List Int) (hws : ∀ x ∈ ws, 0 ≤ x ∧ x < 18446744073709551616) (hwl : ws.length ≤ 9223372036854775807) (ms : List MoveZ) :
    Does Tryz.prog 6 [cv (.slc 0 0 ps.length none false), cv (.slc 1 0 ws.length none false), cv (.slc 2 0 ms.length none false)] [.rows2 true 5 (ps.map fun p => p.map rowIns), .rows true 1 (ws.map rowU), .rows true 2 (ms.map rowMove), rtH, powH] fun v _ _ => v = bl true := by
  refine does Tryz.func6 rfl (by decide) ?_
  change Does Tryz.prog 9 _ _ _
  refine Does.alone 5 (gone ?_)
  change Does Tryz.prog 10 _ _ _
  refine Does.on 5 [4] _ _ (written ?_)
  refine brc_intro (fun _ => rfl) (fun h => ?_)
  have hms : ms.length ≤ 300 := by
    have := of_decide_eq_false h
    omega
  change Does Tryz.prog 11 _ _ _
  refine Does.on 5 [0, 1] _ _ (fitsAll (ps := ps) (ws := ws) rfl rfl hl hwl ?_)
  refine brc_intro (fun _ => rfl) (fun hf => ?_)
  have hf : fitsP ps ws.length = true := by simpa using hf
  obtain ⟨z, hz⟩ : ∃ z, movesZ (mz0 ps ws) ms = z := ⟨_, rfl⟩
  obtain ⟨_, hp16, _⟩ := fits_facts hf
  change Does Tryz.prog 12 _ _ _
  refine Does.on 5 [0, 1, 2] _ _ (behind (ps := ps) (ws := ws) (ms := ms) rfl rfl rfl hf (by omega) hws hz fun v hv hw => ?_)
  change Does Tryz.prog 12 _ _ _
  refine Does.on 14 [0, 1, 2] _ _ (behind (ps := ps) (ws := ws) (ms := ms) rfl rfl rfl hf (by omega) hws hz fun v2 hv2 hw2 => ?_)
  have hal := hw.al
  have hel := hw.el
  have hk := hw.k
  refine SS.loop (fun i : Nat => i ≤ ps.length) (fun i => [(7, cv (.ptr 5 0)), (8, cv (.ptr 14 0)), (46, i64 ps.length), (47, i64 i)])
    (fun _ => [.rows2 true 5 (ps.map fun p => p.map rowIns), .rows true 1 (ws.map rowU), .rows true 2 (ms.map rowMove), rtH, powH] ++ machS 5 z v ++ machS 14 z v2) (fun i => ps.length - i) []
    (At.mk' [7, 8, 46, 47] 0 (by simp) ⟨rfl, rfl⟩ rfl rfl (by simp) (by simp) (by simp)) ?_
  intro i hi
  change i ≤ ps.length at hi
  refine S_r ?_
  refine brc_intro (fun hlt => ?_) (fun hlt => ?_)
  · have hlt : i < ps.length := by
      have := of_decide_eq_true hlt
      have : (i : Int) < (ps.length : Int) := this
      omega
    refine SS.inlR ?_
    change Does Tryz.prog 14 _ _ _
    by_cases hr : 0 ≤ (i : Int) ∧ (i : Int) < z.ts.length
    · cases hd : (thZ z (i : Int).toNat).dn with
      | true =>
        refine Does.on 23 [5, 6, 7, 8, 9, 10, 11, 12, 13] _ _ (coreAt (m := z) (v := v) hw (i : Int) (fun h => absurd hr h) (fun _ _ => ?_) fun _ h => by rw [hd] at h; cases h)
        change Does Tryz.prog 14 _ _ _
        refine Does.on 23 [14, 15, 16, 17, 18, 19, 20, 21, 22] _ _ (coreAt (m := z) (v := v2) hw2 (i : Int) (fun h => absurd hr h) (fun _ _ => ?_) fun _ h => by rw [hd] at h; cases h)
        change Does Tryz.prog 18 _ _ _
        refine Does.on 23 [3] _ _ (tellErrno 6 ?_)
        change Does Tryz.prog 18 _ _ _
        refine Does.on 23 [3] _ _ (tellErrno 6 ?_)
        refine At.mk' [7, 8, 46, 47] (i + 1) ⟨hlt, by omega⟩ ⟨?_, rfl⟩ rfl rfl (by simp) (by simp) (by decide)
        rw [wrap_i64 ((i : Int) + 1) (by omega) (by omega)]
        rfl
      | false =>
        refine Does.on 23 [5, 6, 7, 8, 9, 10, 11, 12, 13] _ _ (coreAt (m := z) (v := v) hw (i : Int) (fun h => absurd hr h) (fun _ h => by rw [hd] at h; cases h) fun _ _ => ?_)
        change Does Tryz.prog 14 _ _ _
        refine Does.on 23 [14, 15, 16, 17, 18, 19, 20, 21, 22] _ _ (coreAt (m := z) (v := v2) hw2 (i : Int) (fun h => absurd hr h) (fun _ h => by rw [hd] at h; cases h) fun _ _ => ?_)
        refine brc_intro (fun h => ?_) (fun _ => ?_)
        · exfalso
          simp at h
        refine brc_intro (fun h => ?_) (fun _ => ?_)
        · exfalso
          simp at h
        change Does Tryz.prog 18 _ _ _
        refine Does.alone 23 (tellNil ?_)
        change Does Tryz.prog 18 _ _ _
        refine Does.alone 23 (tellNil ?_)
        refine At.mk' [7, 8, 46, 47] (i + 1) ⟨hlt, by omega⟩ ⟨?_, rfl⟩ rfl rfl (by simp) (by simp) (by decide)
        rw [wrap_i64 ((i : Int) + 1) (by omega) (by omega)]
        rfl
    · refine Does.on 23 [5, 6, 7, 8, 9, 10, 11, 12, 13] _ _ (coreAt (m := z) (v := v) hw (i : Int) (fun _ => ?_) (fun h => absurd h hr) fun h => absurd h hr)
      change Does Tryz.prog 14 _ _ _
      refine Does.on 23 [14, 15, 16, 17, 18, 19, 20, 21, 22] _ _ (coreAt (m := z) (v := v2) hw2 (i : Int) (fun _ => ?_) (fun h => absurd h hr) fun h => absurd h hr)
      change Does Tryz.prog 18 _ _ _
      refine Does.on 23 [3] _ _ (tellErrno 2 ?_)
      change Does Tryz.prog 18 _ _ _
      refine Does.on 23 [3] _ _ (tellErrno 2 ?_)
      refine At.mk' [7, 8, 46, 47] (i + 1) ⟨hlt, by omega⟩ ⟨?_, rfl⟩ rfl rfl (by simp) (by simp) (by decide)
      rw [wrap_i64 ((i : Int) + 1) (by omega) (by omega)]
      rfl
  · change Does Tryz.prog 22 _ _ _
    refine Does.on 23 [5, 6, 7, 8, 9, 10, 11, 12, 13] _ _ (coreActs (m := z) (v := v) (by omega) ?_)
    change Does Tryz.prog 22 _ _ _
    refine Does.on 24 [14, 15, 16, 17, 18, 19, 20, 21, 22] _ _ (coreActs (m := z) (v := v2) (by omega) ?_)
    change Does Tryz.prog 21 _ _ _
    refine Does.on 25 [23, 24] _ _ (equalAct (xs := z.al) (ys := z.al) (by omega) (fun _ => ?_) fun h => absurd rfl h)
    change Does Tryz.prog 24 _ _ _
    refine Does.on 25 [5, 6, 7, 8, 9, 10, 11, 12, 13] _ _ (coreEvents (m := z) (v := v) (by omega) ?_)
    change Does Tryz.prog 24 _ _ _
    refine Does.on 26 [14, 15, 16, 17, 18, 19, 20, 21, 22] _ _ (coreEvents (m := z) (v := v2) (by omega) ?_)
    change Does Tryz.prog 23 _ _ _
    refine Does.on 27 [25, 26] _ _ (equalEv (xs := z.el) (ys := z.el) (by omega) (fun _ => ?_) fun h => absurd rfl h)
    have hnc := hw.nc
    have hw300 := hw.ws.1
    change Does Tryz.prog 26 _ _ _
    refine Does.on 27 [5, 6, 7, 8, 9, 10, 11, 12, 13] _ _ (coreCellsL (m := z) (v := v) hw rfl ?_)
    change Does Tryz.prog 26 _ _ _
    refine Does.on 28 [14, 15, 16, 17, 18, 19, 20, 21, 22] _ _ (coreCellsL (m := z) (v := v2) hw2 rfl ?_)
    change Does Tryz.prog 25 _ _ _
    refine Does.on 29 [27, 28] _ _ (equalU (xs := z.ws) (ys := z.ws) (by omega) (fun _ => ?_) fun h => absurd rfl h)
    change Does Tryz.prog 15 _ _ _
    refine Does.on 29 [5, 6, 7, 8, 9, 10, 11, 12, 13] _ _ (coreSteps (m := z) (v := v) ?_)
    change Does Tryz.prog 15 _ _ _
    refine Does.on 29 [14, 15, 16, 17, 18, 19, 20, 21, 22] _ _ (coreSteps (m := z) (v := v2) ?_)
    refine fin ?_
    simp

end Go.Mac
