/- Texts that belong together; the first of them: What a row lists: the variable that errors.As reads; the powers of ten; tables that are not looked into. -/
import Derived.Test.YtlimhldkkbaohaaGreatDoorMacLift
import Derived.Test.YtlimhldkkbaohaaGreatDoorQSplit
import Derived.Test.YtlimhldkkbaohaaGreatDoorRows
import Derived.ChangeSame
import Derived.ChangeVars
import Derived.JoinedOf
import Derived.LaidLaws
import Derived.LaidHandle
import Derived.Lay
import Derived.Lib.LaidTab
import Derived.Stop.Joined
import Derived.Stop.LaidErr
import Derived.Test.YtlimhldkkbaohaaGreatDoorQSplitG
import Derived.Test.YtlimhldkkbaohaaGreatDoorGStoryA

/- What a row lists: the variable that errors.As reads; the powers of ten; tables that are not looked into. -/
section
open Go Go.Proofs Go.Mac Go.ChangeShapes Go.WideShapes Go.ChangeAt Go.RowKit
set_option maxRecDepth 100000
namespace Go.Mac

open Go.Proofs.YtlimhldkkbaohaaGreatDoor.Rows in
abbrev laidE : List (String × DataW Unit) := [("math/bits.deBruijn32tab", laid_math_bits_deBruijn32tab), ("math/bits.deBruijn64tab", laid_math_bits_deBruijn64tab), ("internal/strconv.uint64pow10", laid_internal_strconv_uint64pow10), ("unicode/utf8.acceptRanges", laid_unicode_utf8_acceptRanges), ("errors.errorType", laid_errors_errorType), ("strconv.ErrRange", laid_strconv_ErrRange), ("strconv.ErrSyntax", laid_strconv_ErrSyntax), ("quadrille/story.names", laid_quadrille_story_names), ("unicode/utf8.first", laid_unicode_utf8_first)]

open Go.Proofs.YtlimhldkkbaohaaGreatDoor.Rows in
abbrev laidN : List (String × DataW Unit) := [("math/bits.deBruijn32tab", laid_math_bits_deBruijn32tab), ("math/bits.deBruijn64tab", laid_math_bits_deBruijn64tab), ("internal/strconv.uint64pow10", laid_internal_strconv_uint64pow10), ("unicode/utf8.acceptRanges", laid_unicode_utf8_acceptRanges), ("strconv.ErrRange", laid_strconv_ErrRange), ("strconv.ErrSyntax", laid_strconv_ErrSyntax), ("quadrille/story.names", laid_quadrille_story_names), ("unicode/utf8.first", laid_unicode_utf8_first)]

abbrev laidH : List (String × DataW Unit) := [("errors.errorType", Go.Proofs.YtlimhldkkbaohaaGreatDoor.Rows.laid_errors_errorType)]

theorem laid_et : Tryz.prog.globalNamed "errors.errorType" = some 2 := by kernel_rfl
theorem laid_rt : (Tryz.prog.cutTypes.find? (·.1 == "internal/reflectlite.rtype")).map (·.2) = some 203 := by kernel_rfl
theorem laid_oneRow : ((List.range 259).filter fun t => Tryz.prog.rowNamed t [101, 114, 114, 111, 114]) = [26] := by kernel_rfl
theorem laid_size : Tryz.prog.types.size = 259 := by kernel_rfl

theorem laid_parts {W : World} (h : laidMetH Tryz.prog laidE W) : laidMet Tryz.prog laidN W ∧ handlesMet Tryz.prog laidH W := h

/-- What the condition gives: the variable's one cell. -/
theorem handle_of_laid {W : World} (h : laidMetH Tryz.prog laidE W) : W.cell? ⟨2, 0, none⟩ = some (.iface 203 (.agg #[.pointer (some ⟨10, 26, none⟩)])) := by
  obtain ⟨name, u, ty, e1, e2, e3, e4, e5⟩ := (laid_parts h).2 _ (List.mem_singleton.2 rfl)
  have en : name = [101, 114, 114, 111, 114] := (Option.some.inj e1).symm
  subst en
  obtain rfl := Option.some.inj (laid_rt.symm.trans e2)
  have hm : ty ∈ (List.range 259).filter fun t => Tryz.prog.rowNamed t [101, 114, 114, 111, 114] := List.mem_filter.2 ⟨List.mem_range.2 (by rw [← laid_size]; exact e3), e4⟩
  rw [laid_oneRow] at hm
  obtain rfl := List.mem_singleton.1 hm
  have hh : typeHandle Tryz.prog 26 = .pointer (some ⟨10, 26, none⟩) := by kernel_rfl
  rw [hh] at e5
  simpa using World.var?_cell laid_et e5 0

theorem pow_data : Go.Proofs.YtlimhldkkbaohaaGreatDoor.Rows.laid_internal_strconv_uint64pow10 (H := Unit) = Lib.tabData .u64 Lib.pow10Tab := by kernel_rfl

/-- What the condition gives: the powers of ten. -/
theorem pow_of_laid {W : World} (h : laidMetH Tryz.prog laidE W) : Lib.TabIs Tryz.prog W "internal/strconv.uint64pow10" .u64 Lib.pow10Tab := by
  have h' := (laid_parts h).1.tail.tail
  rw [pow_data] at h'
  exact Lib.tabIs_of_head pow_named (t := 193) (e := 101) (n := 20) (by kernel_rfl) Tryz.underlying193 Tryz.underlying101 (by kernel_rfl) (by kernel_rfl) h'

/-- A world that meets the condition. -/
noncomputable def laidWorld0 (os : Os) : World :=
  let w0 := World.holding Tryz.prog os ⟨#[], #[], []⟩
  { w0 with heap := w0.heap.modify 2 fun
      | .cells _ t frozen => .cells #[.iface 203 (.agg #[.pointer (some ⟨10, 26, none⟩)])] t frozen
      | o => o }
noncomputable def laidWorld (os : Os) : World := (laidWorld0 os).layVars Tryz.prog laidN
theorem laidWorld_os (os : Os) : (laidWorld os).os = os := World.layVars_os _ _ _
theorem laidN_filter : (laidN.filter fun x => (laidN.map (·.1)).contains x.1) = laidN := List.filter_eq_self.2 fun x hx => List.contains_iff_mem.2 (List.mem_map.2 ⟨x, hx, rfl⟩)
theorem laidN_rest : (laidN.filter fun x => !(laidN.map (·.1)).contains x.1) = [] := List.filter_eq_nil_iff.2 fun x hx => by rw [List.contains_iff_mem.2 (List.mem_map.2 ⟨x, hx, rfl⟩)]; simp
theorem laidWorld_plain (os : Os) : laidMet Tryz.prog laidN (laidWorld os) :=
  laidMet_layVars (w0 := laidWorld0 os) (laidN.map (·.1)) [] (by rw [laidN_filter]; rfl) (by rw [laidN_filter]; kernel_rfl) (by rw [laidN_filter]; kernel_rfl) (by rw [laidN_rest]; exact LaidIn.none)
theorem laidWorld_met (os : Os) (args : Array Value) : laidMetH Tryz.prog laidE ((laidWorld os).forCall (fun _ _ => 0) ⟨#[], args, []⟩).memory :=
  laidMetH_of_parts ((laidWorld_plain os).of_heap (by simp [World.memory, World.forCall, Input.heap])) (by kernel_rfl)

/-- The variable, as an object; and the table. -/
theorem handle_obj {W : World} (h : laidMetH Tryz.prog laidE W) (N : Nat) (L : Nat → Loc) {l : Loc} : OR N L W (.hnd 2 203 10 26) l := handle_of_laid h
theorem handle_ro {W : World} (h : laidMetH Tryz.prog laidE W) (l : Loc) (b : Nat) (hb : Ro (.hnd 2 203 10 26) l b) : b < W.heap.size := by
  have hg := handle_of_laid h
  obtain rfl : b = 2 := hb
  rcases Nat.lt_or_ge 2 W.heap.size with h | h
  · exact h
  · simp [World.cell?, Array.getElem?_eq_none h] at hg
theorem pow_cells {W : World} (h : laidMetH Tryz.prog laidE W) : ∃ t fr, W.heap[(3 : Nat)]? = some (.cells ((Lib.pow10Tab.map fun z => FC.int .u64 z).map FC.val).toArray t fr) := by
  have h' := pow_of_laid h
  unfold Lib.TabIs World.var? at h'
  rw [pow_named] at h'
  change (match W.heap[(3 : Nat)]? with | some (Obj.cells cs _ _) => some cs | _ => none) = _ at h'
  split at h'
  · rename_i cs t fr e
    refine ⟨t, fr, e.trans ?_⟩
    rw [Option.some.inj h', List.map_map]
    rfl
  · cases h'
theorem pow_obj {W : World} (h : laidMetH Tryz.prog laidE W) (N : Nat) (L : Nat → Loc) {l : Loc} : OR N L W powH l := pow_cells h
theorem pow_ro {W : World} (h : laidMetH Tryz.prog laidE W) (l : Loc) (b : Nat) (hb : Ro powH l b) : b < W.heap.size := by
  obtain ⟨t, fr, hg⟩ := pow_cells h
  obtain rfl : b = 3 := hb
  exact (Array.getElem?_eq_some_iff.1 hg).1

end Go.Mac
end

/- What a row of stories lists: the variables that hold errors; the names. -/
section
open Go Go.Proofs Go.Mac Go.ChangeShapes Go.WideShapes Go.ChangeAt Go.RowKit
set_option maxRecDepth 100000
namespace Go.Mac

theorem errS_named : Tryz.prog.globalNamed "strconv.ErrSyntax" = some 4 := by kernel_rfl
theorem errR_named : Tryz.prog.globalNamed "strconv.ErrRange" = some 5 := by kernel_rfl
theorem errS_type : (Tryz.prog.globals[(4 : Nat)]?).map (·.type) = some 26 := by kernel_rfl
theorem errR_type : (Tryz.prog.globals[(5 : Nat)]?).map (·.type) = some 26 := by kernel_rfl
theorem errCells : Tryz.prog.cellsOf 226 = 1 := by kernel_rfl
theorem strCells1 : Tryz.prog.cellsOf 9 = 1 := by kernel_rfl

theorem errStar : "*errors.errorString" = "*" ++ "errors.errorString" := by decide
theorem errRow (u : TypeId) (h : Tryz.prog.typeName? 3 u = some "*errors.errorString") : u = 224 :=
  typeName_ptr_named (nm := "errors.errorString") (by rw [← errStar]; kernel_rfl) (by kernel_rfl) (by decide) u (by rw [← errStar]; exact h)

theorem errS_cell {W : World} (h : laidMetH Tryz.prog laidE W) : ∃ t p, W.cell? ⟨4, 0, none⟩ = some (.iface t p) := by
  have h := (laid_parts h).1
  have h' := h.tail.tail.tail.tail.tail
  obtain ⟨a, s, hv, _⟩ := laid_sentinel h' errS_named errS_type Tryz.underlying26 errRow Tryz.underlying224 Tryz.underlying226 rfl rfl Tryz.underlying9 errCells strCells1
  exact ⟨_, _, by simpa using World.var?_cell errS_named hv 0⟩

theorem errR_cell {W : World} (h : laidMetH Tryz.prog laidE W) : ∃ t p, W.cell? ⟨5, 0, none⟩ = some (.iface t p) := by
  have h := (laid_parts h).1
  have h' := h.tail.tail.tail.tail
  obtain ⟨a, s, hv, _⟩ := laid_sentinel h' errR_named errR_type Tryz.underlying26 errRow Tryz.underlying224 Tryz.underlying226 rfl rfl Tryz.underlying9 errCells strCells1
  exact ⟨_, _, by simpa using World.var?_cell errR_named hv 0⟩

theorem cell_lt {W : World} {g : Nat} {v : Value} (h : W.cell? ⟨g, 0, none⟩ = some v) : g < W.heap.size := by
  rcases Nat.lt_or_ge g W.heap.size with h' | h'
  · exact h'
  · simp [World.cell?, Array.getElem?_eq_none h'] at h

theorem errS_obj {W : World} (h : laidMetH Tryz.prog laidE W) (N : Nat) (L : Nat → Loc) {l : Loc} : OR N L W errS l := errS_cell h
theorem errR_obj {W : World} (h : laidMetH Tryz.prog laidE W) (N : Nat) (L : Nat → Loc) {l : Loc} : OR N L W errR l := errR_cell h
theorem errS_ro {W : World} (h : laidMetH Tryz.prog laidE W) (l : Loc) (b : Nat) (hb : Ro errS l b) : b < W.heap.size := by
  obtain ⟨_, _, hc⟩ := errS_cell h
  obtain rfl : b = 4 := hb
  exact cell_lt hc
theorem errR_ro {W : World} (h : laidMetH Tryz.prog laidE W) (l : Loc) (b : Nat) (hb : Ro errR l b) : b < W.heap.size := by
  obtain ⟨_, _, hc⟩ := errR_cell h
  obtain rfl : b = 5 := hb
  exact cell_lt hc

theorem names_named : Tryz.prog.globalNamed "quadrille/story.names" = some 0 := by kernel_rfl

/-- An array of strings that reads as such holds them. -/
theorem cells_of_strs {H : Type} {enc : TypeId × Value → H} {P : Program} {w : World} {base : Nat} {sp : Nat → Bool} {held : Bool} {fuel : Nat} {t e : TypeId} {n : Nat} {cs : List Value} {zs : List (List UInt8)} {p : List MemPlace}
    (ht : P.underlying t = some (.array n e)) (he : P.underlying e = some .string) (hce : P.cellsOf e = 1) (hct : P.cellsOf t = n)
    (h : DataW.trod enc P w base sp held fuel t cs = some (.agg (zs.map fun z => .lit (.string z)), p)) : cs = zs.map fun z => Value.string ⟨z.toArray⟩ := by
  cases fuel with
  | zero => simp [DataW.trod] at h
  | succ fuel =>
    simp only [DataW.trod, ht, hce, hct, Nat.mul_one] at h
    split at h
    · rename_i hl
      obtain ⟨xs, hm, hx⟩ := Option.map_eq_some_iff.1 h
      have hxs : xs.map (·.1) = zs.map fun z => (DataW.lit (.string z) : DataW H) := by
        have := congrArg Prod.fst hx
        simpa using this
      have hxl : xs.length = n := by simpa using Lib.mapM_length hm
      have hzl : zs.length = n := by
        have := congrArg List.length hxs
        simp at this
        omega
      apply List.ext_getElem?
      intro i
      by_cases hi : i < n
      · obtain ⟨b, hb, hf⟩ := Lib.mapM_at hm i i (by simp [hi])
        obtain ⟨z, hc, rfl, _⟩ := DataW.trod_string he hf
        have h1 : cs[i]? = some (.string z) := by
          have := congrArg (·[0]?) hc
          simpa [List.getElem?_take, List.getElem?_drop] using this
        have h2 : (xs.map (·.1))[i]? = some (DataW.lit (.string z.data.toList) : DataW H) := by simp [hb]
        rw [hxs] at h2
        simp only [List.getElem?_map, Option.map_eq_some_iff, DataW.lit.injEq, Lit.string.injEq] at h2
        obtain ⟨z', hz', hz2⟩ := h2
        rw [h1, List.getElem?_map, hz', Option.map_some, hz2]
      · rw [List.getElem?_eq_none (by omega), List.getElem?_eq_none (by simp; omega)]
    · cases h

theorem names_data : Go.Proofs.YtlimhldkkbaohaaGreatDoor.Rows.laid_quadrille_story_names (H := Unit) = .agg (namesE.map fun z => .lit (.string z)) := rfl

theorem names_cells {W : World} (h : laidMetH Tryz.prog laidE W) : ∃ t fr, W.heap[(0 : Nat)]? = some (.cells ((namesE.map FC.str).map FC.val).toArray t fr) := by
  have h := (laid_parts h).1
  have h' := h.tail.tail.tail.tail.tail.tail
  rw [names_data] at h'
  obtain ⟨ps, ⟨g', t', cs, fuel, p, q, hg', ht', hvar, hd, _, _⟩, _⟩ := h'
  obtain rfl := Option.some.inj (names_named.symm.trans hg')
  have hty : (Tryz.prog.globals[(0 : Nat)]?).map (·.type) = some 94 := by kernel_rfl
  obtain rfl := Option.some.inj (hty.symm.trans ht')
  have hcs := cells_of_strs (n := 4) (e := 9) Tryz.underlying94 Tryz.underlying9 (by kernel_rfl) (by kernel_rfl) hd
  unfold World.var? at hvar
  rw [names_named] at hvar
  change (match W.heap[(0 : Nat)]? with | some (Obj.cells cs _ _) => some cs | _ => none) = _ at hvar
  split at hvar
  · rename_i cs' t fr e
    refine ⟨t, fr, e.trans ?_⟩
    have hcs2 : cs = (namesE.map fun z => Value.string ⟨z.toArray⟩).toArray := by rw [← hcs]
    rw [Option.some.inj hvar, hcs2, List.map_map]
    rfl
  · cases hvar
theorem names_obj {W : World} (h : laidMetH Tryz.prog laidE W) (N : Nat) (L : Nat → Loc) {l : Loc} : OR N L W namesH l := names_cells h
theorem names_ro {W : World} (h : laidMetH Tryz.prog laidE W) (l : Loc) (b : Nat) (hb : Ro namesH l b) : b < W.heap.size := by
  obtain ⟨t, fr, hg⟩ := names_cells h
  obtain rfl : b = 0 := hb
  exact (Array.getElem?_eq_some_iff.1 hg).1

end Go.Mac
end
