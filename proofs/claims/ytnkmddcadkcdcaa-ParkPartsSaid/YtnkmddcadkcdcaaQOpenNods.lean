/- Nods handed in, opened. -/
import Derived.Test.YtnkmddcadkcdcaaGOpens
import Derived.Deep.Strs
import Derived.Test.YtnkmddcadkcdcaaQParkBed
open Go Go.Proofs Go.Mac Go.ChangeShapes Go.WideShapes Go.ChangeAt Go.RowKit
set_option maxRecDepth 100000
namespace Go.Mac

theorem open_nods {H : Type} {enc : TypeId × Value → H} {W : World} {b0 base : Nat} {hd : Bool} {v : Value} {d : DataW H} {ps : List MemPlace}
    (hv : Value.okWide Try.prog W .any b0 22 v) (h : DataW.Trod enc Try.prog W base (fun _ => true) hd 22 v d ps) :
    ∃ (l : List NodZ) (loc : Loc), (∀ x ∈ l, True) ∧ l.length ≤ 9223372036854775807 ∧ (∀ (N : Nat) (L : Nat → Loc) (i : Nat), i < N → L i = loc → VA N L (cv (.slc i 0 l.length none false)) v) ∧
      (∀ (N : Nat) (L : Nat → Loc), OR N L W (.rows true 3 (l.map rowNodZ)) loc) ∧ (∀ b, Ro (.rows true 3 (l.map rowNodZ)) loc b → b < W.heap.size) ∧
      (l.length = 0 ∨ ∃ es sp : List (DataW H), d = .slice es sp ∧ es.length = l.length) :=
  open_rows rowNodZ (fun _ => True) 3 Try.underlying22 (by kernel_rfl) (by decide) (fun _ => rfl) (fun n cs y hy hl => by
    obtain ⟨c0, c1, c2, rfl⟩ : ∃ c0 c1 c2, cs = [c0, c1, c2] := by
      match cs, hl with
      | [c0, c1, c2], _ => exact ⟨c0, c1, c2, rfl⟩
    obtain ⟨y0, y1, y2, m, _, _, h0, h1, h2⟩ := Go.Deep.trod_struct3 Try.underlying63 hy
    have e : Try.prog.cellsOf 3 = 1 := by kernel_rfl
    have e' : Try.prog.cellsOf 4 = 1 := by kernel_rfl
    simp only [e, e', List.drop_zero, List.take_succ_cons, List.take_zero, List.drop_succ_cons] at h0 h1 h2
    obtain ⟨a, e0, _⟩ := DataW.trod_int Try.underlying3 h0
    obtain ⟨b, e1, _⟩ := DataW.trod_int Try.underlying3 h1
    obtain ⟨p, e2, _⟩ := DataW.trod_bool Try.underlying4 h2
    simp only [List.cons.injEq, and_true] at e0 e1 e2
    subst e0; subst e1; subst e2
    exact ⟨⟨a, b, p⟩, rfl, trivial⟩) hv h

end Go.Mac
