/- One of the answers, and what it is. -/
import Derived.Test.YtlimhldkkbaohaaDoorQAnswers
import Derived.Test.YtlimhldkkbaohaaDoorGBase
open Go Go.Proofs Go.Mac
set_option maxRecDepth 100000
namespace Go.Mac

section
variable {K : AV → List Nat → List PO → Prop}

/-- slices.Equal of one of some slices, and what it is. -/
theorem equalRow {rss : List (List (List FC))} {i n : Nat} {xs : List Int} {nn : Bool} (hi : rss[i]? = some (xs.map rowZ)) (hn : xs.length = n) (hb : n < 1000000) (h : K (bl true) [] [.rows2 false 1 rss, .rows false 1 (xs.map rowZ)]) :
    Does Tryd.prog 59 [cv (.islc 0 i 0 n none false), cv (.slc 1 0 n none nn)] [.rows2 false 1 rss, .rows false 1 (xs.map rowZ)] K := by
  subst hn
  refine Does.row (args := [cv (.slc 1 0 xs.length none nn)]) (Hl := [.rows false 1 (xs.map rowZ)]) (ro := false) (sz := 1) (xs.map rowZ) hi (by simp) ?_
  refine equalInt (xs := xs) (ys := xs) (by omega) (fun _ => ?_) fun h => absurd rfl h
  exact ⟨rfl, h⟩

end
end Go.Mac
