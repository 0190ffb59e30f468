/- Events handed in, opened. -/
import Derived.Test.YtlimhldkkbaohaaDoorGOpens
import Derived.Test.YtlimhldkkbaohaaDoorQJudge
open Go Go.Proofs Go.Mac Go.ChangeShapes Go.WideShapes Go.ChangeAt Go.RowKit
set_option maxRecDepth 100000
namespace Go.Mac

theorem open_events {H : Type} {enc : TypeId × Value → H} {W : World} {b0 base : Nat} {hd : Bool} {v : Value} {d : DataW H} {ps : List MemPlace}
    (hv : Value.okWide Tryd.prog W .any b0 49 v) (h : DataW.Trod enc Tryd.prog W base (fun _ => true) hd 49 v d ps) :
    ∃ (l : List EvZ) (loc : Loc), (∀ x ∈ l, True) ∧ l.length ≤ 9223372036854775807 ∧ (∀ (N : Nat) (L : Nat → Loc) (i : Nat), i < N → L i = loc → VA N L (cv (.slc i 0 l.length none false)) v) ∧
      (∀ (N : Nat) (L : Nat → Loc), OR N L W (.rows true 4 (l.map rowEv)) loc) ∧ (∀ b, Ro (.rows true 4 (l.map rowEv)) loc b → b < W.heap.size) ∧
      (l.length = 0 ∨ ∃ es sp : List (DataW H), d = .slice es sp ∧ es.length = l.length) :=
  open_rows rowEv (fun _ => True) 4 Tryd.underlying49 (by kernel_rfl) (by decide) (fun _ => rfl) (fun n cs y hy hl => by
    obtain ⟨c0, c1, c2, c3, rfl⟩ : ∃ c0 c1 c2 c3, cs = [c0, c1, c2, c3] := by
      match cs, hl with
      | [c0, c1, c2, c3], _ => exact ⟨c0, c1, c2, c3, rfl⟩
    obtain ⟨xs, m, _, _, _, hlen, hf⟩ := DataW.trod_struct Tryd.underlying56 hy
    have e : Tryd.prog.cellsOf 3 = 1 := by kernel_rfl
    have get : ∀ (i : Nat) (f : Field) (c : Value), (#[⟨"When", 3, 0, false, "", "", 0⟩, ⟨"What", 3, 1, false, "", "", 8⟩, ⟨"Thread", 3, 2, false, "", "", 16⟩, ⟨"Value", 3, 3, false, "", "", 24⟩] : Array Field)[i]? = some f →
        f.type = 3 → (([c0, c1, c2, c3] : List Value).drop f.offset).take 1 = [c] → i < 4 → ∃ a, c = .int .i64 a := fun i f c hi hft hc hlt => by
      have h := hf i f hi
      rw [hft, e, hc] at h
      have hx : ∃ x, xs[i]? = some x := ⟨_, List.getElem?_eq_getElem (by rw [hlen]; exact hlt)⟩
      obtain ⟨x, hx⟩ := hx
      obtain ⟨a, e0, _⟩ := DataW.trod_int Tryd.underlying3 (h.trans hx)
      simp only [List.cons.injEq, and_true] at e0
      exact ⟨a, e0⟩
    obtain ⟨a0, rfl⟩ := get 0 _ c0 rfl rfl rfl (by decide)
    obtain ⟨a1, rfl⟩ := get 1 _ c1 rfl rfl rfl (by decide)
    obtain ⟨a2, rfl⟩ := get 2 _ c2 rfl rfl rfl (by decide)
    obtain ⟨a3, rfl⟩ := get 3 _ c3 rfl rfl rfl (by decide)
    exact ⟨⟨a0, a1, a2, a3⟩, rfl, trivial⟩) hv h

end Go.Mac
