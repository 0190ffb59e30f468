/- Programs handed in, opened. -/
import Derived.Test.YtdcpdfgpdomolaaGreatDoorQOpenIns
open Go Go.Proofs Go.Mac Go.ChangeShapes Go.WideShapes Go.ChangeAt Go.RowKit
set_option maxRecDepth 100000
namespace Go.Mac

theorem open_progs {H : Type} {enc : TypeId × Value → H} {W : World} {b0 base : Nat} {hd : Bool} {v : Value} {d : DataW H} {ps : List MemPlace}
    (hv : Value.okWide Tryz.prog W .any b0 22 v) (h : DataW.Trod enc Tryz.prog W base (fun _ => true) hd 22 v d ps) :
    ∃ (l : List (List InsZ)) (loc : Loc), (∀ xs ∈ l, ∀ x ∈ xs, True) ∧ l.length ≤ 9223372036854775807 ∧ (∀ xs ∈ l, xs.length ≤ 9223372036854775807) ∧ (∀ (N : Nat) (L : Nat → Loc) (i : Nat), i < N → L i = loc → VA N L (cv (.slc i 0 l.length none false)) v) ∧
      (∀ (N : Nat) (L : Nat → Loc), OR N L W (.rows2 true 5 (l.map fun xs => xs.map rowIns)) loc) ∧ (∀ b, Ro (.rows2 true 5 (l.map fun xs => xs.map rowIns)) loc b → b < W.heap.size) ∧
      (l.length = 0 ∨ ∃ es sp : List (DataW H), d = .slice es sp ∧ es.length = l.length) :=
  open_rows2 rowIns (fun _ => True) 5 Tryz.underlying22 (by kernel_rfl) Tryz.underlying37 (by kernel_rfl) (by decide) (fun _ => rfl) (fun n cs y hy hl => trod_ins n cs y hy hl) hv h

end Go.Mac
