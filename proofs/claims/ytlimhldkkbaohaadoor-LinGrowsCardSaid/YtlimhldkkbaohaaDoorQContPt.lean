/- slices.Contains of points: one that is there. -/
import Derived.Test.YtlimhldkkbaohaaDoorQPoint
import Derived.Test.YtlimhldkkbaohaaDoorQJudge
open Go Go.Proofs Go.Mac
set_option maxRecDepth 100000
namespace Go.Mac

section
variable {K : AV → List Nat → List PO → Prop}

theorem plainPt : plainT Tryd.prog 96 = true := by decide +kernel

theorem indexPt {pts : List PtZ} {x : PtZ} {n : Nat} {ro nn : Bool} (hn : pts.length = n) (hb : n ≤ 1000000) (hx : x ∈ pts)
    (h1 : ∀ i : Nat, K (i64 i) [] [.rows ro 4 (pts.map rowPt)]) :
    Does Tryd.prog 93 [cv (.slc 0 0 n none nn), .p (.agg [.f (.int .i64 x.w), .f (.int .i64 x.t), .f (.int .i64 x.k), .f (.bool x.l)])] [.rows ro 4 (pts.map rowPt)] K := by
  refine does Tryd.func93 rfl (by decide) ?_
  refine SS.loop (fun i : Nat => i ≤ n ∧ ∀ j y, j < i → pts[j]? = some y → y ≠ x) (fun i => [(0, cv (.slc 0 0 n none nn)), (3, cv (.ptr 1 0)), (7, i64 n), (8, i64 i)]) (fun _ => [.rows ro 4 (pts.map rowPt), .one [.f (.int .i64 x.w), .f (.int .i64 x.t), .f (.int .i64 x.k), .f (.bool x.l)]]) (fun i => n - i) []
    (At.mk' [0, 3, 7, 8] 0 ⟨Nat.zero_le _, fun j x h => by omega⟩ ⟨rfl, rfl⟩ rfl rfl (by simp) (by simp) (by simp)) ?_
  rintro i ⟨hi, hj⟩
  change i ≤ n at hi
  refine S_r ?_
  refine brc_intro (fun hlt => ?_) (fun hlt => ?_)
  · have hlt : i < n := by
      have := of_decide_eq_true hlt
      have : (i : Int) < (n : Int) := this
      omega
    obtain ⟨y, hy⟩ : ∃ y, pts[i]? = some y := ⟨_, List.getElem?_eq_getElem (by omega)⟩
    have hya : (pts.map rowPt)[0 + Int.toNat (i : Int)]? = some (rowPt y) := by rw [Int.toNat_natCast, Nat.zero_add, List.getElem?_map, hy]; rfl
    have wr : IntKind.i64.wrap ((i : Int) + 1) = ((i + 1 : Nat) : Int) := wrap_i64 _ (by omega) (by omega)
    refine SS.inlR ?_
    refine SS.drawR follows (by decide) ?_
    refine at2 (a := (0 : Int) ≤ (i : Int)) (b := (i : Int) < (n : Int)) (by omega) (by omega) (rdA (rowPt y) hya ?_)
    refine And.intro plainPt ?_
    refine brc_intro (fun h => ?_) (fun h => ?_)
    · exact h1 i
    · refine At.mk' [0, 3, 7, 8] (i + 1) ⟨⟨hlt, fun j z hj' hz => ?_⟩, by omega⟩ ⟨?_, rfl⟩ rfl rfl (by simp) (by simp) (by simp)
      · rcases Nat.lt_succ_iff_lt_or_eq.1 hj' with h2 | rfl
        · exact hj j z h2 hz
        · rw [hy] at hz
          obtain rfl := Option.some.inj hz
          intro e
          subst e
          simp at h
      · rw [wr]
  · have hlt : ¬ (i : Int) < (n : Int) := of_decide_eq_false hlt
    obtain rfl : i = n := by omega
    exfalso
    obtain ⟨j, hj'⟩ := List.mem_iff_getElem?.1 hx
    have := (List.getElem?_eq_some_iff.1 hj').1
    exact hj j x (by omega) hj' rfl

theorem containsPt {pts : List PtZ} {x : PtZ} {n : Nat} {ro nn : Bool} (hn : pts.length = n) (hb : n ≤ 1000000) (hx : x ∈ pts) (h : K (bl true) [] [.rows ro 4 (pts.map rowPt)]) :
    Does Tryd.prog 55 [cv (.slc 0 0 n none nn), .p (.agg [.f (.int .i64 x.w), .f (.int .i64 x.t), .f (.int .i64 x.k), .f (.bool x.l)])] [.rows ro 4 (pts.map rowPt)] K := by
  refine does Tryd.func55 rfl (by decide) ?_
  change Does Tryd.prog 93 _ _ _
  refine Does.on 2 [0] _ _ (indexPt (x := x) hn hb hx fun i => ?_)
  have h2 : K (bl (decide ((i : Int) ≥ 0))) [] [.rows ro 4 (pts.map rowPt)] := by
    rw [decide_eq_true (show (i : Int) ≥ 0 by omega)]
    exact h
  exact h2

end
end Go.Mac
