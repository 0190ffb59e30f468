/- One instruction handed in, opened. -/
import Derived.Test.YtdcpdfgpdomolaaGreatDoorGOpens
open Go Go.Proofs Go.Mac Go.ChangeShapes Go.WideShapes Go.ChangeAt Go.RowKit
set_option maxRecDepth 100000
namespace Go.Mac

theorem trod_ins {H : Type} {enc : TypeId × Value → H} {W : World} {base : Nat} {hd : Bool} (n : Nat) (cs : List Value) (y : DataW H × List MemPlace) (hy : DataW.trod enc Tryz.prog W base (fun _ => true) hd n 39 cs = some y) (hl : cs.length = 5) : ∃ x : InsZ, cs = (rowIns x).map FC.val ∧ True := by
  obtain ⟨c0, c1, c2, c3, c4, rfl⟩ : ∃ c0 c1 c2 c3 c4, cs = [c0, c1, c2, c3, c4] := by
    match cs, hl with
    | [c0, c1, c2, c3, c4], _ => exact ⟨c0, c1, c2, c3, c4, rfl⟩
  obtain ⟨xs, m, _, _, _, hlen, hf⟩ := DataW.trod_struct Tryz.underlying39 hy
  have e : Tryz.prog.cellsOf 3 = 1 := by kernel_rfl
  have get : ∀ (i : Nat) (f : Field) (c : Value), (#[⟨"Op", 3, 0, false, "", "", 0⟩, ⟨"A", 3, 1, false, "", "", 8⟩, ⟨"B", 3, 2, false, "", "", 16⟩, ⟨"C", 3, 3, false, "", "", 24⟩, ⟨"D", 3, 4, false, "", "", 32⟩] : Array Field)[i]? = some f →
      f.type = 3 → (([c0, c1, c2, c3, c4] : List Value).drop f.offset).take 1 = [c] → i < 5 → ∃ a, c = .int .i64 a := fun i f c hi hft hc hlt => by
    have h := hf i f hi
    rw [hft, e, hc] at h
    have hx : ∃ x, xs[i]? = some x := ⟨_, List.getElem?_eq_getElem (by rw [hlen]; exact hlt)⟩
    obtain ⟨x, hx⟩ := hx
    obtain ⟨a, e0, _⟩ := DataW.trod_int Tryz.underlying3 (h.trans hx)
    simp only [List.cons.injEq, and_true] at e0
    exact ⟨a, e0⟩
  obtain ⟨a0, rfl⟩ := get 0 _ c0 rfl rfl rfl (by decide)
  obtain ⟨a1, rfl⟩ := get 1 _ c1 rfl rfl rfl (by decide)
  obtain ⟨a2, rfl⟩ := get 2 _ c2 rfl rfl rfl (by decide)
  obtain ⟨a3, rfl⟩ := get 3 _ c3 rfl rfl rfl (by decide)
  obtain ⟨a4, rfl⟩ := get 4 _ c4 rfl rfl rfl (by decide)
  exact ⟨⟨a0, a1, a2, a3, a4⟩, rfl, trivial⟩

end Go.Mac
