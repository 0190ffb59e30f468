/- What a row of stories lists. -/
import Derived.Test.YtlimhldkkbaohaaDoorMacLift
import Derived.Test.YtlimhldkkbaohaaDoorQSplit
import Derived.Test.YtlimhldkkbaohaaDoorRows
import Derived.ChangeSame
import Derived.ChangeVars
import Derived.JoinedOf
import Derived.Stop.Joined
import Derived.LaidLaws
import Derived.Lay
import Derived.Lib.LaidTab
import Derived.Stop.LaidErr
import Derived.LaidMore
import Derived.LaidOnce
import Derived.SevenTiedAt
open Go Go.Proofs Go.Mac Go.ChangeShapes Go.WideShapes Go.ChangeAt Go.RowKit
set_option maxRecDepth 100000
namespace Go.Mac

open Go.Proofs.YtlimhldkkbaohaaDoor.Rows in
abbrev laidE : List (String × DataW Unit) := [("math/bits.deBruijn32tab", laid_math_bits_deBruijn32tab), ("math/bits.deBruijn64tab", laid_math_bits_deBruijn64tab), ("internal/strconv.uint64pow10", laid_internal_strconv_uint64pow10), ("unicode/utf8.acceptRanges", laid_unicode_utf8_acceptRanges), ("strconv.ErrRange", laid_strconv_ErrRange), ("strconv.ErrSyntax", laid_strconv_ErrSyntax), ("quadrille/story.names", laid_quadrille_story_names), ("unicode/utf8.first", laid_unicode_utf8_first)]

theorem pow_data : Go.Proofs.YtlimhldkkbaohaaDoor.Rows.laid_internal_strconv_uint64pow10 (H := Unit) = Lib.tabData .u64 Lib.pow10Tab := by kernel_rfl

/-- What the condition gives: the powers of ten. -/
theorem pow_of_laid {W : World} (h : laidMetH Tryd.prog laidE W) : Lib.TabIs Tryd.prog W "internal/strconv.uint64pow10" .u64 Lib.pow10Tab := by
  rw [MakeChecks.laidMetH_plain _ _ _ (by kernel_rfl)] at h
  have h' := h.tail.tail
  rw [pow_data] at h'
  exact Lib.tabIs_of_head pow_named (t := 260) (e := 61) (n := 20) (by kernel_rfl) Tryd.underlying260 Tryd.underlying61 (by kernel_rfl) (by kernel_rfl) h'

/-- A world that meets the condition. -/
noncomputable def laidWorld (os : Os) : World := World.laidAll Tryd.prog os laidE
theorem laidWorld_os (os : Os) : (laidWorld os).os = os := World.laidAll_os _ _ _
theorem laidWorld_met (os : Os) (args : Array Value) : laidMetH Tryd.prog laidE ((laidWorld os).forCall (fun _ _ => 0) ⟨#[], args, []⟩).memory := by
  rw [MakeChecks.laidMetH_plain _ _ _ (by kernel_rfl)]
  exact laidMet_laidAll _ (by kernel_rfl) (by kernel_rfl)

/-- The table, as an object. -/
theorem pow_cells {W : World} (h : laidMetH Tryd.prog laidE W) : ∃ t fr, W.heap[(3 : Nat)]? = some (.cells ((Lib.pow10Tab.map fun z => FC.int .u64 z).map FC.val).toArray t fr) := by
  have h' := pow_of_laid h
  unfold Lib.TabIs World.var? at h'
  rw [pow_named] at h'
  change (match W.heap[(3 : Nat)]? with | some (Obj.cells cs _ _) => some cs | _ => none) = _ at h'
  split at h'
  · rename_i cs t fr e
    refine ⟨t, fr, e.trans ?_⟩
    rw [Option.some.inj h', List.map_map]
    rfl
  · cases h'
theorem pow_obj {W : World} (h : laidMetH Tryd.prog laidE W) (N : Nat) (L : Nat → Loc) {l : Loc} : OR N L W powH l := pow_cells h
theorem pow_ro {W : World} (h : laidMetH Tryd.prog laidE W) (l : Loc) (b : Nat) (hb : Ro powH l b) : b < W.heap.size := by
  obtain ⟨t, fr, hg⟩ := pow_cells h
  obtain rfl : b = 3 := hb
  exact (Array.getElem?_eq_some_iff.1 hg).1

end Go.Mac
