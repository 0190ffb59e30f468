/- Points handed in, opened. -/
import Derived.Test.YtlimhldkkbaohaaGOpens
import Derived.Test.YtlimhldkkbaohaaQPoint
open Go Go.Proofs Go.Mac Go.ChangeShapes Go.WideShapes Go.ChangeAt Go.RowKit
set_option maxRecDepth 100000
namespace Go.Mac

theorem open_points {H : Type} {enc : TypeId × Value → H} {W : World} {b0 base : Nat} {hd : Bool} {v : Value} {d : DataW H} {ps : List MemPlace}
    (hv : Value.okWide Try.prog W .any b0 25 v) (h : DataW.Trod enc Try.prog W base (fun _ => true) hd 25 v d ps) :
    ∃ (l : List PtZ) (loc : Loc), (∀ x ∈ l, True) ∧ l.length ≤ 9223372036854775807 ∧ (∀ (N : Nat) (L : Nat → Loc) (i : Nat), i < N → L i = loc → VA N L (cv (.slc i 0 l.length none false)) v) ∧
      (∀ (N : Nat) (L : Nat → Loc), OR N L W (.rows true 4 (l.map rowPt)) loc) ∧ (∀ b, Ro (.rows true 4 (l.map rowPt)) loc b → b < W.heap.size) ∧
      (l.length = 0 ∨ ∃ es sp : List (DataW H), d = .slice es sp ∧ es.length = l.length) :=
  open_rows rowPt (fun _ => True) 4 Try.underlying25 (by kernel_rfl) (by decide) (fun _ => rfl) (fun n cs y hy hl => by
    obtain ⟨c0, c1, c2, c3, rfl⟩ : ∃ c0 c1 c2 c3, cs = [c0, c1, c2, c3] := by
      match cs, hl with
      | [c0, c1, c2, c3], _ => exact ⟨c0, c1, c2, c3, rfl⟩
    obtain ⟨xs, m, _, _, _, hlen, hf⟩ := DataW.trod_struct Try.underlying30 hy
    have e : Try.prog.cellsOf 3 = 1 := by kernel_rfl
    have e2 : Try.prog.cellsOf 4 = 1 := by kernel_rfl
    have get : ∀ (i : Nat) (f : Field) (c : Value), (#[⟨"When", 3, 0, false, "", "", 0⟩, ⟨"Thread", 3, 1, false, "", "", 8⟩, ⟨"Call", 3, 2, false, "", "", 16⟩, ⟨"Late", 4, 3, false, "", "", 24⟩] : Array Field)[i]? = some f →
        f.type = 3 → (([c0, c1, c2, c3] : List Value).drop f.offset).take 1 = [c] → i < 4 → ∃ a, c = .int .i64 a := fun i f c hi hft hc hlt => by
      have h := hf i f hi
      rw [hft, e, hc] at h
      have hx : ∃ x, xs[i]? = some x := ⟨_, List.getElem?_eq_getElem (by rw [hlen]; exact hlt)⟩
      obtain ⟨x, hx⟩ := hx
      obtain ⟨a, e0, _⟩ := DataW.trod_int Try.underlying3 (h.trans hx)
      simp only [List.cons.injEq, and_true] at e0
      exact ⟨a, e0⟩
    have get3 : ∀ (f : Field), (#[⟨"When", 3, 0, false, "", "", 0⟩, ⟨"Thread", 3, 1, false, "", "", 8⟩, ⟨"Call", 3, 2, false, "", "", 16⟩, ⟨"Late", 4, 3, false, "", "", 24⟩] : Array Field)[3]? = some f →
        f.type = 4 → (([c0, c1, c2, c3] : List Value).drop f.offset).take 1 = [c3] → ∃ b, c3 = .bool b := fun f hi hft hc => by
      have h := hf 3 f hi
      rw [hft, e2, hc] at h
      have hx : ∃ x, xs[3]? = some x := ⟨_, List.getElem?_eq_getElem (by rw [hlen]; decide)⟩
      obtain ⟨x, hx⟩ := hx
      obtain ⟨a, e0, _⟩ := DataW.trod_bool Try.underlying4 (h.trans hx)
      simp only [List.cons.injEq, and_true] at e0
      exact ⟨a, e0⟩
    obtain ⟨a0, rfl⟩ := get 0 _ c0 rfl rfl rfl (by decide)
    obtain ⟨a1, rfl⟩ := get 1 _ c1 rfl rfl rfl (by decide)
    obtain ⟨a2, rfl⟩ := get 2 _ c2 rfl rfl rfl (by decide)
    obtain ⟨a3, rfl⟩ := get3 _ rfl rfl rfl
    exact ⟨⟨a0, a1, a2, a3⟩, rfl, trivial⟩) hv h

end Go.Mac
