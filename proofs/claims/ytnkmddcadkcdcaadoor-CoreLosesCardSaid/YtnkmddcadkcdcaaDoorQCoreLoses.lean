/- What is loaded, and stored, may be lost. -/
import Derived.Test.YtnkmddcadkcdcaaDoorQRaced
import Derived.Test.YtnkmddcadkcdcaaDoorQRaceL
open Go Go.Proofs Go.Mac
set_option maxRecDepth 100000
namespace Go.Mac

theorem losP_cat : catP losL = [⟨6, 1, 0, 0, 0⟩, ⟨3, 1, 1, 1, 0⟩, ⟨7, 0, 1, -1, 0⟩, ⟨0, 0, 0, 0, 0⟩] := rfl

theorem coreLoses (a : Int) (_ha : -9223372036854775808 ≤ a ∧ a ≤ 9223372036854775807) (ms : List MoveZ) :
    Does Tryd.prog 9 [i64 a, cv (.slc 0 0 ms.length none false)] [.rows true 2 (ms.map rowMove), rtH] fun v _ _ => v = bl true := by
  refine does Tryd.func9 rfl (by decide) ?_
  change Does Tryd.prog 42 _ _ _
  refine Does.alone 2 (gone ?_)
  refine brc_intro (fun _ => rfl) (fun h => ?_)
  have hms : ms.length ≤ 300 := by
    have := of_decide_eq_false h
    omega
  change Does Tryd.prog 23 _ _ _
  refine Does.alone 2 (pick a 16 (by decide) ?_)
  have hpa := pickZ_lt a (n := 16) (by decide)
  obtain ⟨n, hn⟩ := Int.eq_ofNat_of_zero_le (show 0 ≤ 1 + pickZ a 16 by omega)
  have hn16 : 1 ≤ n ∧ n ≤ 16 := by omega
  obtain ⟨z, v, hz, hws, hv1, hv2⟩ := los_fin hn16 (stepsL n ms)
  rw [losP_cat] at hz
  change Does Tryd.prog 43 _ _ _
  rw [wrap_i64 (1 + pickZ a 16) (by omega) (by omega), hn]
  refine Does.on 3 [2, 0] _ _ (raced (p := [⟨6, 1, 0, 0, 0⟩, ⟨3, 1, 1, 1, 0⟩, ⟨7, 0, 1, -1, 0⟩, ⟨0, 0, 0, 0, 0⟩]) (ms := ms) rfl rfl hn16 (by omega) los_right rfl fun u hu _ hw => ?_)
  rw [hz] at hw ⊢
  clear hz
  change Does Tryd.prog 33 _ _ _
  refine Does.on 12 [3, 4, 5, 6, 7, 8, 9, 10, 11] _ _ (coreCellsL (m := z) (v := u) hw hws ?_)
  refine at2 (by simp) (by simp) (rd1 (rowU v) (.int .u64 v) rfl rfl ?_)
  refine brc_intro (fun _ => ?_) (fun h => ?_)
  · refine at2 (by simp) (by simp) (rd1 (rowU v) (.int .u64 v) rfl rfl ?_)
    show bl _ = _
    rw [wrap_u64 (n : Int) (by omega) (by omega), decide_eq_true hv2]
  · exact absurd hv1 (of_decide_eq_false h)

end Go.Mac
