/- What a row lists: the variable that errors.As reads; the powers of ten; tables that are not looked into. -/
import Derived.Test.YtlimhldkkbaohaaGreatDoorMacLift
import Derived.Test.YtlimhldkkbaohaaGreatDoorQSplit
import Derived.Test.YtlimhldkkbaohaaGreatDoorRows
import Derived.ChangeSame
import Derived.ChangeVars
import Derived.JoinedOf
import Derived.LaidLaws
import Derived.LaidHandle
import Derived.Lay
import Derived.Lib.LaidTab
import Derived.Stop.Joined
import Derived.Stop.LaidErr
open Go Go.Proofs Go.Mac Go.ChangeShapes Go.WideShapes Go.ChangeAt Go.RowKit
set_option maxRecDepth 100000
namespace Go.Mac

open Go.Proofs.YtlimhldkkbaohaaGreatDoor.Rows in
abbrev laidE : List (String × DataW Unit) := [("math/bits.deBruijn32tab", laid_math_bits_deBruijn32tab), ("math/bits.deBruijn64tab", laid_math_bits_deBruijn64tab), ("internal/strconv.uint64pow10", laid_internal_strconv_uint64pow10), ("unicode/utf8.acceptRanges", laid_unicode_utf8_acceptRanges), ("errors.errorType", laid_errors_errorType), ("strconv.ErrRange", laid_strconv_ErrRange), ("strconv.ErrSyntax", laid_strconv_ErrSyntax), ("unicode/utf8.first", laid_unicode_utf8_first)]

open Go.Proofs.YtlimhldkkbaohaaGreatDoor.Rows in
abbrev laidN : List (String × DataW Unit) := [("math/bits.deBruijn32tab", laid_math_bits_deBruijn32tab), ("math/bits.deBruijn64tab", laid_math_bits_deBruijn64tab), ("internal/strconv.uint64pow10", laid_internal_strconv_uint64pow10), ("unicode/utf8.acceptRanges", laid_unicode_utf8_acceptRanges), ("strconv.ErrRange", laid_strconv_ErrRange), ("strconv.ErrSyntax", laid_strconv_ErrSyntax), ("unicode/utf8.first", laid_unicode_utf8_first)]

abbrev laidH : List (String × DataW Unit) := [("errors.errorType", Go.Proofs.YtlimhldkkbaohaaGreatDoor.Rows.laid_errors_errorType)]

theorem laid_et : Tryz.prog.globalNamed "errors.errorType" = some 2 := by kernel_rfl
theorem laid_rt : (Tryz.prog.cutTypes.find? (·.1 == "internal/reflectlite.rtype")).map (·.2) = some 203 := by kernel_rfl
theorem laid_oneRow : ((List.range 259).filter fun t => Tryz.prog.rowNamed t [101, 114, 114, 111, 114]) = [26] := by kernel_rfl
theorem laid_size : Tryz.prog.types.size = 259 := by kernel_rfl

theorem laid_parts {W : World} (h : laidMetH Tryz.prog laidE W) : laidMet Tryz.prog laidN W ∧ handlesMet Tryz.prog laidH W := h

/-- What the condition gives: the variable's one cell. -/
theorem handle_of_laid {W : World} (h : laidMetH Tryz.prog laidE W) : W.cell? ⟨2, 0, none⟩ = some (.iface 203 (.agg #[.pointer (some ⟨10, 26, none⟩)])) := by
  obtain ⟨name, u, ty, e1, e2, e3, e4, e5⟩ := (laid_parts h).2 _ (List.mem_singleton.2 rfl)
  have en : name = [101, 114, 114, 111, 114] := (Option.some.inj e1).symm
  subst en
  obtain rfl := Option.some.inj (laid_rt.symm.trans e2)
  have hm : ty ∈ (List.range 259).filter fun t => Tryz.prog.rowNamed t [101, 114, 114, 111, 114] := List.mem_filter.2 ⟨List.mem_range.2 (by rw [← laid_size]; exact e3), e4⟩
  rw [laid_oneRow] at hm
  obtain rfl := List.mem_singleton.1 hm
  have hh : typeHandle Tryz.prog 26 = .pointer (some ⟨10, 26, none⟩) := by kernel_rfl
  rw [hh] at e5
  simpa using World.var?_cell laid_et e5 0

theorem pow_data : Go.Proofs.YtlimhldkkbaohaaGreatDoor.Rows.laid_internal_strconv_uint64pow10 (H := Unit) = Lib.tabData .u64 Lib.pow10Tab := by kernel_rfl

/-- What the condition gives: the powers of ten. -/
theorem pow_of_laid {W : World} (h : laidMetH Tryz.prog laidE W) : Lib.TabIs Tryz.prog W "internal/strconv.uint64pow10" .u64 Lib.pow10Tab := by
  have h' := (laid_parts h).1.tail.tail
  rw [pow_data] at h'
  exact Lib.tabIs_of_head pow_named (t := 193) (e := 101) (n := 20) (by kernel_rfl) Tryz.underlying193 Tryz.underlying101 (by kernel_rfl) (by kernel_rfl) h'

/-- A world that meets the condition. -/
noncomputable def laidWorld0 (os : Os) : World :=
  let w0 := World.holding Tryz.prog os ⟨#[], #[], []⟩
  { w0 with heap := w0.heap.modify 2 fun
      | .cells _ t frozen => .cells #[.iface 203 (.agg #[.pointer (some ⟨10, 26, none⟩)])] t frozen
      | o => o }
noncomputable def laidWorld (os : Os) : World := (laidWorld0 os).layVars Tryz.prog laidN
theorem laidWorld_os (os : Os) : (laidWorld os).os = os := World.layVars_os _ _ _
theorem laidN_filter : (laidN.filter fun x => (laidN.map (·.1)).contains x.1) = laidN := List.filter_eq_self.2 fun x hx => List.contains_iff_mem.2 (List.mem_map.2 ⟨x, hx, rfl⟩)
theorem laidN_rest : (laidN.filter fun x => !(laidN.map (·.1)).contains x.1) = [] := List.filter_eq_nil_iff.2 fun x hx => by rw [List.contains_iff_mem.2 (List.mem_map.2 ⟨x, hx, rfl⟩)]; simp
theorem laidWorld_plain (os : Os) : laidMet Tryz.prog laidN (laidWorld os) :=
  laidMet_layVars (w0 := laidWorld0 os) (laidN.map (·.1)) [] (by rw [laidN_filter]; rfl) (by rw [laidN_filter]; kernel_rfl) (by rw [laidN_filter]; kernel_rfl) (by rw [laidN_rest]; exact LaidIn.none)
theorem laidWorld_met (os : Os) (args : Array Value) : laidMetH Tryz.prog laidE ((laidWorld os).forCall (fun _ _ => 0) ⟨#[], args, []⟩).memory :=
  laidMetH_of_parts ((laidWorld_plain os).of_heap (by simp [World.memory, World.forCall, Input.heap])) (by kernel_rfl)

/-- The variable, as an object; and the table. -/
theorem handle_obj {W : World} (h : laidMetH Tryz.prog laidE W) (N : Nat) (L : Nat → Loc) {l : Loc} : OR N L W (.hnd 2 203 10 26) l := handle_of_laid h
theorem handle_ro {W : World} (h : laidMetH Tryz.prog laidE W) (l : Loc) (b : Nat) (hb : Ro (.hnd 2 203 10 26) l b) : b < W.heap.size := by
  have hg := handle_of_laid h
  obtain rfl : b = 2 := hb
  rcases Nat.lt_or_ge 2 W.heap.size with h | h
  · exact h
  · simp [World.cell?, Array.getElem?_eq_none h] at hg
theorem pow_cells {W : World} (h : laidMetH Tryz.prog laidE W) : ∃ t fr, W.heap[(3 : Nat)]? = some (.cells ((Lib.pow10Tab.map fun z => FC.int .u64 z).map FC.val).toArray t fr) := by
  have h' := pow_of_laid h
  unfold Lib.TabIs World.var? at h'
  rw [pow_named] at h'
  change (match W.heap[(3 : Nat)]? with | some (Obj.cells cs _ _) => some cs | _ => none) = _ at h'
  split at h'
  · rename_i cs t fr e
    refine ⟨t, fr, e.trans ?_⟩
    rw [Option.some.inj h', List.map_map]
    rfl
  · cases h'
theorem pow_obj {W : World} (h : laidMetH Tryz.prog laidE W) (N : Nat) (L : Nat → Loc) {l : Loc} : OR N L W powH l := pow_cells h
theorem pow_ro {W : World} (h : laidMetH Tryz.prog laidE W) (l : Loc) (b : Nat) (hb : Ro powH l b) : b < W.heap.size := by
  obtain ⟨t, fr, hg⟩ := pow_cells h
  obtain rfl : b = 3 := hb
  exact (Array.getElem?_eq_some_iff.1 hg).1

end Go.Mac
