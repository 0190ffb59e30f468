/- The first look at the judge. -/
import Derived.Test.YtlimhldkkbaohaaDoorGJudgeR
import Derived.Test.YtlimhldkkbaohaaDoorQTell
open Go Go.Proofs Go.Mac
set_option maxRecDepth 100000
namespace Go.Mac

abbrev jL : List EvZ := [⟨0, 1, 0, 1⟩, ⟨0, 1, 1, 1⟩, ⟨0, 2, 0, 1⟩]

theorem judged {K : AV → List Nat → List PO → Prop} (hK : K (bl true) [] [rtH]) : Does Tryd.prog 44 [] [rtH] K := by
  refine does Tryd.func44 rfl (by decide) ?_
  change Does Tryd.prog 50 _ _ _
  refine Does.on 2 [1] _ _ (rounds (all := jL) (l := jL) (k := 3) (n := 2) (ro := false) rfl (fun i _ => rfl) (by decide) (by decide) (fun _ => ?_) fun e i h => absurd ((show checkZ 2 jL = none by decide).symm.trans h) (by simp))
  refine SS.drawR follows (by decide) ?_
  refine Or.inl (And.intro (by decide) (And.intro (by decide) ?_))
  change Does Tryd.prog 83 _ _ _
  refine Does.on 2 [1] _ _ (check (all := jL) (l := jL.take 2) (k := 2) (n := 3) (ro := false) rfl (fun i hi => (List.getElem?_take_of_lt hi).symm) (by decide) (by decide) (fun _ => ?_) fun e i h => absurd ((show checkZ 3 (jL.take 2) = none by decide).symm.trans h) (by simp))
  repeat' (first | refine And.intro rfl ?_ | fail)
  change Does Tryd.prog 82 _ _ _
  refine Does.alone 2 (tellNil ?_)
  repeat' (first | refine And.intro rfl ?_ | fail)
  refine at2 (by decide) (by decide) (rdA (rowEv ⟨0, 1, 0, 1⟩) rfl ?_)
  refine at2 (by decide) (by decide) (rdA (rowEv ⟨0, 2, 0, 1⟩) rfl ?_)
  change Does Tryd.prog 83 _ _ _
  have h2 : checkZ 2 [⟨0, 1, 0, 1⟩, ⟨0, 2, 0, 1⟩] = some (13, 1) := by decide
  refine Does.on 3 [2] _ _ (check (all := [⟨0, 1, 0, 1⟩, ⟨0, 2, 0, 1⟩]) (l := [⟨0, 1, 0, 1⟩, ⟨0, 2, 0, 1⟩]) (k := 2) (n := 2) (ro := false) rfl (fun i hi => rfl) (by decide) (by decide) (fun h => absurd (h2.symm.trans h) (by simp)) fun e i h => ?_)
  obtain ⟨rfl, rfl⟩ : e = 13 ∧ i = 1 := by
    have := h2.symm.trans h
    simp at this
    omega
  change Does Tryd.prog 82 _ _ _
  refine Does.on 4 [0, 3] _ _ (tellAt 13 1 ?_)
  repeat' (first | refine And.intro rfl ?_ | fail)
  exact hK

end Go.Mac
