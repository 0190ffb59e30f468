/- What a row of stories lists: the variables that hold errors; the names. -/
import Derived.Test.YtlimhldkkbaohaaDoorQOpenTale
import Derived.Test.YtlimhldkkbaohaaDoorQSplitG
import Derived.Test.YtlimhldkkbaohaaDoorQStoryL
import Derived.LaidLaws
open Go Go.Proofs Go.Mac Go.ChangeShapes Go.WideShapes Go.ChangeAt Go.RowKit
set_option maxRecDepth 100000
namespace Go.Mac

theorem errS_named : Tryd.prog.globalNamed "strconv.ErrSyntax" = some 4 := by kernel_rfl
theorem errR_named : Tryd.prog.globalNamed "strconv.ErrRange" = some 5 := by kernel_rfl
theorem errS_type : (Tryd.prog.globals[(4 : Nat)]?).map (·.type) = some 33 := by kernel_rfl
theorem errR_type : (Tryd.prog.globals[(5 : Nat)]?).map (·.type) = some 33 := by kernel_rfl
theorem errCells : Tryd.prog.cellsOf 274 = 1 := by kernel_rfl
theorem strCells1 : Tryd.prog.cellsOf 9 = 1 := by kernel_rfl

theorem errStar : "*errors.errorString" = "*" ++ "errors.errorString" := by decide
theorem errRow (u : TypeId) (h : Tryd.prog.typeName? 3 u = some "*errors.errorString") : u = 272 :=
  typeName_ptr_named (nm := "errors.errorString") (by rw [← errStar]; kernel_rfl) (by kernel_rfl) (by decide) u (by rw [← errStar]; exact h)

theorem errS_cell {W : World} (h : laidMetH Tryd.prog laidE W) : ∃ t p, W.cell? ⟨4, 0, none⟩ = some (.iface t p) := by
  rw [MakeChecks.laidMetH_plain _ _ _ (by kernel_rfl)] at h
  have h' := h.tail.tail.tail.tail.tail
  obtain ⟨a, s, hv, _⟩ := laid_sentinel h' errS_named errS_type Tryd.underlying33 errRow Tryd.underlying272 Tryd.underlying274 rfl rfl Tryd.underlying9 errCells strCells1
  exact ⟨_, _, by simpa using World.var?_cell errS_named hv 0⟩

theorem errR_cell {W : World} (h : laidMetH Tryd.prog laidE W) : ∃ t p, W.cell? ⟨5, 0, none⟩ = some (.iface t p) := by
  rw [MakeChecks.laidMetH_plain _ _ _ (by kernel_rfl)] at h
  have h' := h.tail.tail.tail.tail
  obtain ⟨a, s, hv, _⟩ := laid_sentinel h' errR_named errR_type Tryd.underlying33 errRow Tryd.underlying272 Tryd.underlying274 rfl rfl Tryd.underlying9 errCells strCells1
  exact ⟨_, _, by simpa using World.var?_cell errR_named hv 0⟩

theorem cell_lt {W : World} {g : Nat} {v : Value} (h : W.cell? ⟨g, 0, none⟩ = some v) : g < W.heap.size := by
  rcases Nat.lt_or_ge g W.heap.size with h' | h'
  · exact h'
  · simp [World.cell?, Array.getElem?_eq_none h'] at h

theorem errS_obj {W : World} (h : laidMetH Tryd.prog laidE W) (N : Nat) (L : Nat → Loc) {l : Loc} : OR N L W errS l := errS_cell h
theorem errR_obj {W : World} (h : laidMetH Tryd.prog laidE W) (N : Nat) (L : Nat → Loc) {l : Loc} : OR N L W errR l := errR_cell h
theorem errS_ro {W : World} (h : laidMetH Tryd.prog laidE W) (l : Loc) (b : Nat) (hb : Ro errS l b) : b < W.heap.size := by
  obtain ⟨_, _, hc⟩ := errS_cell h
  obtain rfl : b = 4 := hb
  exact cell_lt hc
theorem errR_ro {W : World} (h : laidMetH Tryd.prog laidE W) (l : Loc) (b : Nat) (hb : Ro errR l b) : b < W.heap.size := by
  obtain ⟨_, _, hc⟩ := errR_cell h
  obtain rfl : b = 5 := hb
  exact cell_lt hc

theorem names_named : Tryd.prog.globalNamed "quadrille/story.names" = some 0 := by kernel_rfl

/-- An array of strings that reads as such holds them. -/
theorem cells_of_strs {H : Type} {enc : TypeId × Value → H} {P : Program} {w : World} {base : Nat} {sp : Nat → Bool} {held : Bool} {fuel : Nat} {t e : TypeId} {n : Nat} {cs : List Value} {zs : List (List UInt8)} {p : List MemPlace}
    (ht : P.underlying t = some (.array n e)) (he : P.underlying e = some .string) (hce : P.cellsOf e = 1) (hct : P.cellsOf t = n)
    (h : DataW.trod enc P w base sp held fuel t cs = some (.agg (zs.map fun z => .lit (.string z)), p)) : cs = zs.map fun z => Value.string ⟨z.toArray⟩ := by
  cases fuel with
  | zero => simp [DataW.trod] at h
  | succ fuel =>
    simp only [DataW.trod, ht, hce, hct, Nat.mul_one] at h
    split at h
    · rename_i hl
      obtain ⟨xs, hm, hx⟩ := Option.map_eq_some_iff.1 h
      have hxs : xs.map (·.1) = zs.map fun z => (DataW.lit (.string z) : DataW H) := by
        have := congrArg Prod.fst hx
        simpa using this
      have hxl : xs.length = n := by simpa using Lib.mapM_length hm
      have hzl : zs.length = n := by
        have := congrArg List.length hxs
        simp at this
        omega
      apply List.ext_getElem?
      intro i
      by_cases hi : i < n
      · obtain ⟨b, hb, hf⟩ := Lib.mapM_at hm i i (by simp [hi])
        obtain ⟨z, hc, rfl, _⟩ := DataW.trod_string he hf
        have h1 : cs[i]? = some (.string z) := by
          have := congrArg (·[0]?) hc
          simpa [List.getElem?_take, List.getElem?_drop] using this
        have h2 : (xs.map (·.1))[i]? = some (DataW.lit (.string z.data.toList) : DataW H) := by simp [hb]
        rw [hxs] at h2
        simp only [List.getElem?_map, Option.map_eq_some_iff, DataW.lit.injEq, Lit.string.injEq] at h2
        obtain ⟨z', hz', hz2⟩ := h2
        rw [h1, List.getElem?_map, hz', Option.map_some, hz2]
      · rw [List.getElem?_eq_none (by omega), List.getElem?_eq_none (by simp; omega)]
    · cases h

theorem names_data : Go.Proofs.YtlimhldkkbaohaaDoor.Rows.laid_quadrille_story_names (H := Unit) = .agg (namesE.map fun z => .lit (.string z)) := rfl

theorem names_cells {W : World} (h : laidMetH Tryd.prog laidE W) : ∃ t fr, W.heap[(0 : Nat)]? = some (.cells ((namesE.map FC.str).map FC.val).toArray t fr) := by
  rw [MakeChecks.laidMetH_plain _ _ _ (by kernel_rfl)] at h
  have h' := h.tail.tail.tail.tail.tail.tail
  rw [names_data] at h'
  obtain ⟨ps, ⟨g', t', cs, fuel, p, q, hg', ht', hvar, hd, _, _⟩, _⟩ := h'
  obtain rfl := Option.some.inj (names_named.symm.trans hg')
  have hty : (Tryd.prog.globals[(0 : Nat)]?).map (·.type) = some 140 := by kernel_rfl
  obtain rfl := Option.some.inj (hty.symm.trans ht')
  have hcs := cells_of_strs (n := 4) (e := 9) Tryd.underlying140 Tryd.underlying9 (by kernel_rfl) (by kernel_rfl) hd
  unfold World.var? at hvar
  rw [names_named] at hvar
  change (match W.heap[(0 : Nat)]? with | some (Obj.cells cs _ _) => some cs | _ => none) = _ at hvar
  split at hvar
  · rename_i cs' t fr e
    refine ⟨t, fr, e.trans ?_⟩
    have hcs2 : cs = (namesE.map fun z => Value.string ⟨z.toArray⟩).toArray := by rw [← hcs]
    rw [Option.some.inj hvar, hcs2, List.map_map]
    rfl
  · cases hvar
theorem names_obj {W : World} (h : laidMetH Tryd.prog laidE W) (N : Nat) (L : Nat → Loc) {l : Loc} : OR N L W namesH l := names_cells h
theorem names_ro {W : World} (h : laidMetH Tryd.prog laidE W) (l : Loc) (b : Nat) (hb : Ro namesH l b) : b < W.heap.size := by
  obtain ⟨t, fr, hg⟩ := names_cells h
  obtain rfl : b = 0 := hb
  exact (Array.getElem?_eq_some_iff.1 hg).1

end Go.Mac
