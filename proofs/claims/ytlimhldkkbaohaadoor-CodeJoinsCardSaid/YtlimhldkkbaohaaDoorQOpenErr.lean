/- What a row lists: the variables that hold errors. -/
import Derived.Test.YtlimhldkkbaohaaDoorQOpenMore
import Derived.Test.YtlimhldkkbaohaaDoorQSplitG
import Derived.LaidLaws
open Go Go.Proofs Go.Mac Go.ChangeShapes Go.WideShapes Go.ChangeAt Go.RowKit
set_option maxRecDepth 100000
namespace Go.Mac

theorem errS_named : Tryd.prog.globalNamed "strconv.ErrSyntax" = some 4 := by kernel_rfl
theorem errR_named : Tryd.prog.globalNamed "strconv.ErrRange" = some 5 := by kernel_rfl
theorem errS_type : (Tryd.prog.globals[(4 : Nat)]?).map (·.type) = some 33 := by kernel_rfl
theorem errR_type : (Tryd.prog.globals[(5 : Nat)]?).map (·.type) = some 33 := by kernel_rfl
theorem errCells : Tryd.prog.cellsOf 274 = 1 := by kernel_rfl
theorem strCells1 : Tryd.prog.cellsOf 9 = 1 := by kernel_rfl

theorem errStar : "*errors.errorString" = "*" ++ "errors.errorString" := by decide
theorem errRow (u : TypeId) (h : Tryd.prog.typeName? 3 u = some "*errors.errorString") : u = 272 :=
  typeName_ptr_named (nm := "errors.errorString") (by rw [← errStar]; kernel_rfl) (by kernel_rfl) (by decide) u (by rw [← errStar]; exact h)

theorem errS_cell {W : World} (h : laidMetH Tryd.prog laidE W) : ∃ t p, W.cell? ⟨4, 0, none⟩ = some (.iface t p) := by
  rw [MakeChecks.laidMetH_plain _ _ _ (by kernel_rfl)] at h
  have h' := h.tail.tail.tail.tail.tail
  obtain ⟨a, s, hv, _⟩ := laid_sentinel h' errS_named errS_type Tryd.underlying33 errRow Tryd.underlying272 Tryd.underlying274 rfl rfl Tryd.underlying9 errCells strCells1
  exact ⟨_, _, by simpa using World.var?_cell errS_named hv 0⟩

theorem errR_cell {W : World} (h : laidMetH Tryd.prog laidE W) : ∃ t p, W.cell? ⟨5, 0, none⟩ = some (.iface t p) := by
  rw [MakeChecks.laidMetH_plain _ _ _ (by kernel_rfl)] at h
  have h' := h.tail.tail.tail.tail
  obtain ⟨a, s, hv, _⟩ := laid_sentinel h' errR_named errR_type Tryd.underlying33 errRow Tryd.underlying272 Tryd.underlying274 rfl rfl Tryd.underlying9 errCells strCells1
  exact ⟨_, _, by simpa using World.var?_cell errR_named hv 0⟩

theorem cell_lt {W : World} {g : Nat} {v : Value} (h : W.cell? ⟨g, 0, none⟩ = some v) : g < W.heap.size := by
  rcases Nat.lt_or_ge g W.heap.size with h' | h'
  · exact h'
  · simp [World.cell?, Array.getElem?_eq_none h'] at h

theorem errS_obj {W : World} (h : laidMetH Tryd.prog laidE W) (N : Nat) (L : Nat → Loc) {l : Loc} : OR N L W errS l := errS_cell h
theorem errR_obj {W : World} (h : laidMetH Tryd.prog laidE W) (N : Nat) (L : Nat → Loc) {l : Loc} : OR N L W errR l := errR_cell h
theorem errS_ro {W : World} (h : laidMetH Tryd.prog laidE W) (l : Loc) (b : Nat) (hb : Ro errS l b) : b < W.heap.size := by
  obtain ⟨_, _, hc⟩ := errS_cell h
  obtain rfl : b = 4 := hb
  exact cell_lt hc
theorem errR_ro {W : World} (h : laidMetH Tryd.prog laidE W) (l : Loc) (b : Nat) (hb : Ro errR l b) : b < W.heap.size := by
  obtain ⟨_, _, hc⟩ := errR_cell h
  obtain rfl : b = 5 := hb
  exact cell_lt hc

end Go.Mac
