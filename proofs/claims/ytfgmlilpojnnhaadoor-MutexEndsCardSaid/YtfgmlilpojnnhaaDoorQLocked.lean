/- A mutex, locked twice. -/
import Derived.Test.YtfgmlilpojnnhaaDoorQLockers
import Derived.Test.YtfgmlilpojnnhaaDoorGBase
open Go Go.Proofs Go.Mac
set_option maxRecDepth 100000
namespace Go.Mac

abbrev lockedL : List (List CallZ) := [[⟨12, 0⟩, ⟨12, 0⟩], [⟨13, 0⟩]]
abbrev lockedP : List (List InsZ) := lockedL.map mutexP
abbrev lockedM : List MoveZ := [⟨0, false⟩, ⟨0, false⟩, ⟨0, false⟩, ⟨0, false⟩]
abbrev lockedZ : MZ := movesZ (mz0 lockedP [0]) lockedM

theorem locked_ok : ((lockedP.all fun p => rightZ p 1) && (lockedZ.ws == [1]) && finB 100 lockedZ fun m => allZ m && m.ws == [1]) = true := by decide +kernel

section
variable {K : AV → List Nat → List PO → Prop}

theorem locked (h : K (bl true) [] []) : Does Tryd.prog 15 [] [] K := by
  have hok := locked_ok
  simp only [Bool.and_eq_true, List.all_eq_true, beq_iff_eq] at hok
  obtain ⟨⟨hr, h1⟩, h2⟩ := hok
  obtain ⟨z, hz⟩ : ∃ z, lockedZ = z := ⟨_, rfl⟩
  rw [hz] at h1 h2
  refine does Tryd.func15 rfl (by decide) ?_
  refine And.intro rfl (And.intro rfl ?_)
  change Does Tryd.prog 17 _ _ _
  refine Does.on 5 [2, 3, 4] _ _ (made (ls := lockedL) (ps := lockedP) (ws := [0]) (ms := lockedM) (f := 19) (n := 2) (nc := 1) (k := 4) (ro := false) (ro2 := false) (ro3 := false) rfl rfl rfl rfl (by decide) (by decide) (by decide) hr (by decide) (hz := hz) (fun i l p hl hp K' hK' => ?_) fun v hv hw => ?_)
  · obtain rfl : mutexP l = p := by
      rw [List.getElem?_map, hl] at hp
      exact Option.some.inj hp
    have hm := List.mem_of_getElem? hl
    refine mutexCode' i i l hl ?_ ?_ hK'
    · simp only [List.mem_cons, List.not_mem_nil, or_false] at hm
      rcases hm with rfl | rfl <;> decide
    · simp only [List.mem_cons, List.not_mem_nil, or_false] at hm
      rcases hm with rfl | rfl <;> simp [mutexFit]
  · change Does Tryd.prog 23 _ _ _
    refine Does.on 14 [5, 6, 7, 8, 9, 10, 11, 12, 13] _ _ (coreCellsL (m := z) (v := v) hw h1 ?_)
    change Does Tryd.prog 22 _ _ _
    refine Does.on 16 [14, 15] _ _ (equalU (xs := [1]) (ys := [1]) (by decide) (fun _ => ?_) fun h => absurd rfl h)
    change Does Tryd.prog 20 _ _ _
    refine Does.on 16 [5, 6, 7, 8, 9, 10, 11, 12, 13] _ _ (fairFinish (m := z) (v := v) hw hv fun v1 _ hv1 hw1 => ?_)
    have hf := finB_ok hw h2
    simp only [Bool.and_eq_true, beq_iff_eq] at hf
    obtain ⟨f1, f2⟩ := hf
    generalize finish z = z1 at hw1 f1 f2
    change Does Tryd.prog 21 _ _ _
    refine Does.on 16 [5, 6, 7, 8, 9, 10, 11, 12, 13] _ _ (coreEnds (m := z1) (v := v1) hw1 ?_)
    rw [f1]
    change Does Tryd.prog 23 _ _ _
    refine Does.on 16 [5, 6, 7, 8, 9, 10, 11, 12, 13] _ _ (coreCellsL (m := z1) (v := v1) hw1 f2 ?_)
    change Does Tryd.prog 22 _ _ _
    refine Does.on 18 [16, 17] _ _ (equalU (xs := [1]) (ys := [1]) (by decide) (fun _ => ?_) fun h => absurd rfl h)
    exact h

end
end Go.Mac
