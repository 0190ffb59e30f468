/- A program handed in, opened. -/
import Derived.Test.YtamgfmpkjakkdaaDoorQOpenIns
open Go Go.Proofs Go.Mac Go.ChangeShapes Go.WideShapes Go.ChangeAt Go.RowKit
set_option maxRecDepth 100000
namespace Go.Mac

theorem open_prog {H : Type} {enc : TypeId × Value → H} {W : World} {b0 base : Nat} {hd : Bool} {v : Value} {d : DataW H} {ps : List MemPlace}
    (hv : Value.okWide Tryd.prog W .any b0 22 v) (h : DataW.Trod enc Tryd.prog W base (fun _ => true) hd 22 v d ps) :
    ∃ (l : List InsZ) (loc : Loc), (∀ x ∈ l, True) ∧ l.length ≤ 9223372036854775807 ∧ (∀ (N : Nat) (L : Nat → Loc) (i : Nat), i < N → L i = loc → VA N L (cv (.slc i 0 l.length none false)) v) ∧
      (∀ (N : Nat) (L : Nat → Loc), OR N L W (.rows true 5 (l.map rowIns)) loc) ∧ (∀ b, Ro (.rows true 5 (l.map rowIns)) loc b → b < W.heap.size) ∧
      (l.length = 0 ∨ ∃ es sp : List (DataW H), d = .slice es sp ∧ es.length = l.length) :=
  open_rows rowIns (fun _ => True) 5 Tryd.underlying22 (by kernel_rfl) (by decide) (fun _ => rfl) (fun n cs y hy hl => trod_ins n cs y hy hl) hv h

end Go.Mac
