/- Rows of rows of calls handed in, opened. -/
import Derived.Test.YtlimhldkkbaohaaDoorGOpens
import Derived.Test.YtlimhldkkbaohaaDoorGCutMade
open Go Go.Proofs Go.Mac Go.ChangeShapes Go.WideShapes Go.ChangeAt Go.RowKit
set_option maxRecDepth 100000
namespace Go.Mac

theorem open_calls2 {H : Type} {enc : TypeId × Value → H} {W : World} {b0 base : Nat} {hd : Bool} {v : Value} {d : DataW H} {ps : List MemPlace}
    (hv : Value.okWide Tryd.prog W .any b0 25 v) (h : DataW.Trod enc Tryd.prog W base (fun _ => true) hd 25 v d ps) :
    ∃ (l : List (List CallZ)) (loc : Loc), (∀ xs ∈ l, ∀ x ∈ xs, True) ∧ l.length ≤ 9223372036854775807 ∧ (∀ xs ∈ l, xs.length ≤ 9223372036854775807) ∧ (∀ (N : Nat) (L : Nat → Loc) (i : Nat), i < N → L i = loc → VA N L (cv (.slc i 0 l.length none false)) v) ∧
      (∀ (N : Nat) (L : Nat → Loc), OR N L W (.rows2 true 2 (l.map fun xs => xs.map rowCallZ)) loc) ∧ (∀ b, Ro (.rows2 true 2 (l.map fun xs => xs.map rowCallZ)) loc b → b < W.heap.size) ∧
      (l.length = 0 ∨ ∃ es sp : List (DataW H), d = .slice es sp ∧ es.length = l.length) :=
  open_rows2 rowCallZ (fun _ => True) 2 Tryd.underlying25 (by kernel_rfl) Tryd.underlying24 (by kernel_rfl) (by decide) (fun _ => rfl) (fun n cs y hy hl => by
    obtain ⟨c0, c1, rfl⟩ : ∃ c0 c1, cs = [c0, c1] := by
      match cs, hl with
      | [c0, c1], _ => exact ⟨c0, c1, rfl⟩
    obtain ⟨y0, y1, m, _, _, h0, h1⟩ := trod_struct2 Tryd.underlying30 hy
    have e : Tryd.prog.cellsOf 3 = 1 := by kernel_rfl
    simp only [e, List.drop_zero, List.take_succ_cons, List.take_zero, List.drop_succ_cons] at h0 h1
    obtain ⟨a, e0, _⟩ := DataW.trod_int Tryd.underlying3 h0
    obtain ⟨b, e1, _⟩ := DataW.trod_int Tryd.underlying3 h1
    simp only [List.cons.injEq, and_true] at e0 e1
    subst e0; subst e1
    exact ⟨⟨a, b⟩, rfl, trivial⟩) hv h

end Go.Mac
