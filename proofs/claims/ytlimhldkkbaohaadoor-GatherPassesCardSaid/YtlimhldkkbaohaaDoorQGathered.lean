/- Two who pass; gather.Code as made asks for it. -/
import Derived.Test.YtlimhldkkbaohaaDoorQGather
import Derived.Test.YtlimhldkkbaohaaDoorGCutMade
import Derived.Test.YtlimhldkkbaohaaDoorGCount
import Derived.Test.YtlimhldkkbaohaaDoorGBase
import Derived.Test.YtlimhldkkbaohaaDoorQAnsEq
open Go Go.Proofs Go.Mac
set_option maxRecDepth 100000
namespace Go.Mac

abbrev gatheredL : List (List CallZ) := [[⟨9, 0⟩], [⟨9, 0⟩]]
abbrev gatheredZ : MZ := mz0 (gatheredL.map gathP) [131074]

theorem gathered_ok : (((gatheredL.map gathP).all fun p => rightZ p 1) && finB 200 gatheredZ fun m => allZ m && ansL 2 m.el == [[1], [1]]) = true := by decide +kernel

section
variable {K : AV → List Nat → List PO → Prop}

theorem gatherCode' {ls : List (List CallZ)} {ro : Bool} (x : Int) (i : Nat) (l : List CallZ) (hi : ls[i]? = some l) (hl : l.length ≤ 12) (hf : ∀ c ∈ l, gFit c) (h : K (.tup [.c (.slc 1 0 (gathP l).length none false), okP]) [] [callsH ro ls, .rows false 5 ((gathP l).map rowIns)]) :
    Does Tryd.prog 36 [i64 x, cv (.islc 0 i 0 l.length none false)] [callsH ro ls] K := by
  refine Does.row2 (l.map rowCallZ) (by simp [hi]) (by simp) ?_
  refine gatherCode x hl hf ?_
  exact ⟨by simp; exact .inr rfl, h⟩

theorem gathered (h : K (bl true) [] []) : Does Tryd.prog 16 [] [] K := by
  have hok := gathered_ok
  simp only [Bool.and_eq_true, List.all_eq_true] at hok
  obtain ⟨hr, h2⟩ := hok
  obtain ⟨z, hz⟩ : ∃ z, gatheredZ = z := ⟨_, rfl⟩
  rw [hz] at h2
  refine does Tryd.func16 rfl (by decide) ?_
  change Does Tryd.prog 45 _ _ _
  refine Does.alone 0 (pkWord false 0 2 2 ?_ fun _ => ?_)
  · intro h; cases h
  refine And.intro rfl (And.intro rfl ?_)
  change Does Tryd.prog 35 _ _ _
  refine Does.nilArg4 2 (by decide) ?_
  trace_state
  refine Does.on 5 [2, 3, 4] _ _ (made (ls := gatheredL) (ps := gatheredL.map gathP) (ws := [131074]) (ms := []) (f := 36) (n := 2) (nc := 1) (k := 0) (ro := false) (ro2 := false) (ro3 := false) rfl rfl rfl rfl (by decide) (by decide) (by decide) hr (by decide) (hz := hz) (fun i l p hl hp K' hK' => ?_) fun v hv hw => ?_)
  · obtain rfl : gathP l = p := by
      rw [List.getElem?_map, hl] at hp
      exact Option.some.inj hp
    have hm := List.mem_of_getElem? hl
    refine gatherCode' i i l hl ?_ ?_ hK'
    · simp only [List.mem_cons, List.not_mem_nil, or_false] at hm
      rcases hm with rfl | rfl <;> decide
    · simp only [List.mem_cons, List.not_mem_nil, or_false] at hm
      rcases hm with rfl | rfl <;> simp [gFit, gFitB]
  change Does Tryd.prog 37 _ _ _
  refine Does.on 14 [5, 6, 7, 8, 9, 10, 11, 12, 13] _ _ (fairFinish (m := z) (v := v) hw hv fun v1 _ hv1 hw1 => ?_)
  have hf := finB_ok hw h2
  simp only [Bool.and_eq_true, beq_iff_eq] at hf
  obtain ⟨f1, f3⟩ := hf
  generalize finish z = z1 at hw1 f1 f3
  change Does Tryd.prog 40 _ _ _
  refine Does.on 14 [5, 6, 7, 8, 9, 10, 11, 12, 13] _ _ (coreEnds (m := z1) (v := v1) hw1 ?_)
  rw [f1]
  change Does Tryd.prog 38 _ _ _
  refine Does.on 14 [5, 6, 7, 8, 9, 10, 11, 12, 13] _ _ (answers (m := z1) (v := v1) hw1 2 (by decide) ?_)
  rw [f3]
  refine at2 (by decide) (by decide) (Exists.intro ([1].map rowZ) (And.intro rfl ?_))
  change Does Tryd.prog 59 _ _ _
  refine Does.on 16 [14, 15] _ _ (equalRow (xs := [1]) rfl rfl (by decide) ?_)
  refine at2 (by decide) (by decide) (Exists.intro ([1].map rowZ) (And.intro rfl ?_))
  change Does Tryd.prog 59 _ _ _
  refine Does.on 17 [14, 16] _ _ (equalRow (xs := [1]) rfl rfl (by decide) ?_)
  exact h

end
end Go.Mac
