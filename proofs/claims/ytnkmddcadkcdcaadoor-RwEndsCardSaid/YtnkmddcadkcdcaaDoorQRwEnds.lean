/- Those who look, or change: each has its turn. -/
import Derived.Test.YtnkmddcadkcdcaaDoorQRwL
open Go Go.Proofs Go.Mac
set_option maxRecDepth 100000
namespace Go.Mac

theorem rwEnds (l : List (List Int)) (_hw : ∀ xs ∈ l, ∀ x ∈ xs, -9223372036854775808 ≤ x ∧ x ≤ 9223372036854775807) (hl : l.length ≤ 9223372036854775807) (hm : ∀ xs ∈ l, xs.length ≤ 9223372036854775807) (ms : List MoveZ) :
    Does Tryd.prog 11 [cv (.slc 0 0 l.length none false), cv (.slc 1 0 ms.length none false)] [.rows2 true 1 (l.map fun xs => xs.map rowZ), .rows true 2 (ms.map rowMove), rtH] fun v _ _ => v = bl true := by
  refine does Tryd.func11 rfl (by decide) ?_
  change Does Tryd.prog 44 _ _ _
  refine Does.alone 3 (shared ?_)
  refine brc_intro (fun _ => rfl) (fun h => ?_)
  have hms : ms.length ≤ 600 := by
    have := of_decide_eq_false h
    omega
  change Does Tryd.prog 45 _ _ _
  refine Does.on 3 [0] _ _ (lookers (l := l) rfl hl hm ?_)
  obtain ⟨hn, hfit, hl12, hr, hI⟩ := lookers_made l ms
  generalize lookersZ l = calls at hn hfit hl12 hr hI
  have hn8 : min l.length 8 ≤ 8 := by omega
  generalize min l.length 8 = n at hn hn8 hI
  generalize lsF (ownsL l) = ls at hI
  obtain ⟨z, hz⟩ : ∃ z, movesZ (mz0 (calls.map rwP) [0]) ms = z := ⟨_, rfl⟩
  rw [hz] at hI
  change Does Tryd.prog 24 _ _ _
  refine Does.on 5 [3, 4, 1] _ _ (made (ls := calls) (ps := calls.map rwP) (ws := [0]) (ms := ms) (f := 46) (n := n) (nc := 1) (ro := false) (ro2 := false) (ro3 := true) hn (by rw [List.length_map]; exact hn) rfl rfl (by omega) (by decide) (by omega) hr (by decide) (hz := hz) (fun i l p hl hp K' hK' => ?_) fun v hv hw => ?_)
  · obtain rfl : rwP l = p := by
      rw [List.getElem?_map, hl] at hp
      exact Option.some.inj hp
    exact rwCode' i i l hl (hl12 l (List.mem_of_getElem? hl)) (hfit l (List.mem_of_getElem? hl)) hK'
  change Does Tryd.prog 27 _ _ _
  refine Does.on 14 [5, 6, 7, 8, 9, 10, 11, 12, 13] _ _ (fairFinish (m := z) (v := v) hw hv fun v1 _ hv1 hw1 => ?_)
  obtain ⟨_, f1, f2, f3⟩ := rw_fin hI (by omega)
  generalize finish z = z1 at hw1 f1 f2 f3
  change Does Tryd.prog 31 _ _ _
  refine Does.on 14 [5, 6, 7, 8, 9, 10, 11, 12, 13] _ _ (coreEnds (m := z1) (v := v1) hw1 ?_)
  rw [f1, f2]
  change Does Tryd.prog 33 _ _ _
  refine Does.on 14 [5, 6, 7, 8, 9, 10, 11, 12, 13] _ _ (coreCellsL (m := z1) (v := v1) hw1 f3 ?_)
  change Does Tryd.prog 32 _ _ _
  refine Does.on 16 [14, 15] _ _ (equalU (xs := [0]) (ys := [0]) (by decide) (fun _ => ?_) fun h => absurd rfl h)
  exact rfl

end Go.Mac
