/- What a row lists: the variable that errors.As reads. -/
import Derived.Test.YtlimhldkkbaohaaGreatDoorMacD
import Derived.Test.YtlimhldkkbaohaaGreatDoorGBase
import Derived.Test.YtlimhldkkbaohaaGreatDoorRows
import Derived.ChangeSame
import Derived.ChangeVars
import Derived.JoinedOf
import Derived.LaidLaws
import Derived.LaidHandle
import Derived.Stop.Joined
open Go Go.Proofs Go.Mac Go.ChangeShapes Go.WideShapes Go.ChangeAt Go.RowKit
set_option maxRecDepth 100000
namespace Go.Mac

abbrev laidE : List (String × DataW Unit) := [("errors.errorType", Go.Proofs.YtlimhldkkbaohaaGreatDoor.Rows.laid_errors_errorType)]

theorem laid_et : Tryz.prog.globalNamed "errors.errorType" = some 2 := by kernel_rfl
theorem laid_rt : (Tryz.prog.cutTypes.find? (·.1 == "internal/reflectlite.rtype")).map (·.2) = some 203 := by kernel_rfl
theorem laid_oneRow : ((List.range 259).filter fun t => Tryz.prog.rowNamed t [101, 114, 114, 111, 114]) = [26] := by kernel_rfl
theorem laid_size : Tryz.prog.types.size = 259 := by kernel_rfl

/-- What the condition gives: the variable's one cell. -/
theorem handle_of_laid {W : World} (h : laidMetH Tryz.prog laidE W) : W.cell? ⟨2, 0, none⟩ = some (.iface 203 (.agg #[.pointer (some ⟨10, 26, none⟩)])) := by
  have h' : laidMet Tryz.prog [] W ∧ handlesMet Tryz.prog laidE W := h
  obtain ⟨name, u, ty, e1, e2, e3, e4, e5⟩ := h'.2 _ (List.mem_singleton.2 rfl)
  have en : name = [101, 114, 114, 111, 114] := (Option.some.inj e1).symm
  subst en
  obtain rfl := Option.some.inj (laid_rt.symm.trans e2)
  have hm : ty ∈ (List.range 259).filter fun t => Tryz.prog.rowNamed t [101, 114, 114, 111, 114] := List.mem_filter.2 ⟨List.mem_range.2 (by rw [← laid_size]; exact e3), e4⟩
  rw [laid_oneRow] at hm
  obtain rfl := List.mem_singleton.1 hm
  have hh : typeHandle Tryz.prog 26 = .pointer (some ⟨10, 26, none⟩) := by kernel_rfl
  rw [hh] at e5
  simpa using World.var?_cell laid_et e5 0

/-- A world that meets the condition. -/
noncomputable def laidWorld (os : Os) : World :=
  let w0 := World.holding Tryz.prog os ⟨#[], #[], []⟩
  { w0 with heap := w0.heap.modify 2 fun
      | .cells _ t frozen => .cells #[.iface 203 (.agg #[.pointer (some ⟨10, 26, none⟩)])] t frozen
      | o => o }
theorem laidWorld_met (os : Os) (args : Array Value) : laidMetH Tryz.prog laidE ((laidWorld os).forCall (fun _ _ => 0) ⟨#[], args, []⟩).memory :=
  laidMetH_of_parts (laidMet_nil _ _) (by kernel_rfl)

/-- The variable, as an object. -/
theorem handle_obj {W : World} (h : laidMetH Tryz.prog laidE W) (N : Nat) (L : Nat → Loc) {l : Loc} : OR N L W (.hnd 2 203 10 26) l := handle_of_laid h
theorem handle_ro {W : World} (h : laidMetH Tryz.prog laidE W) (l : Loc) (b : Nat) (hb : Ro (.hnd 2 203 10 26) l b) : b < W.heap.size := by
  have hg := handle_of_laid h
  obtain rfl : b = 2 := hb
  rcases Nat.lt_or_ge 2 W.heap.size with h | h
  · exact h
  · simp [World.cell?, Array.getElem?_eq_none h] at hg

end Go.Mac
