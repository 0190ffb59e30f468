/- A phase handed in: its four parts. -/
import Derived.Test.YtlimhldkkbaohaaQPack
import Derived.Test.YtlimhldkkbaohaaQOpen
open Go Go.Proofs Go.Mac Go.ChangeShapes Go.WideShapes Go.ChangeAt Go.RowKit
set_option maxRecDepth 100000
namespace Go.Mac

theorem open_phase {H : Type} {enc : TypeId × Value → H} {W : World} {b0 base : Nat} {sp : Nat → Bool} {hd : Bool} {v : Value} {d : DataW H} {ps : List MemPlace} (hv : Value.okWide Try.prog W .any b0 23 v)
    (h : DataW.Trod enc Try.prog W base sp hd 23 v d ps) :
    ∃ (o : Bool) (ph pa wa : Int), v = .agg #[.bool o, .int .i64 ph, .int .i64 pa, .int .i64 wa] := by
  obtain ⟨v0, v1, v2, v3, y0, y1, y2, y3, n, rfl, _, _, h0, h1, h2, h3⟩ := Go.Joins.open_agg4 Try.underlying23 (by kernel_rfl) (by kernel_rfl) hv h
  obtain ⟨o, e0, _⟩ := DataW.trod_bool Try.underlying4 h0
  obtain ⟨a, e1, _⟩ := DataW.trod_int Try.underlying3 h1
  obtain ⟨b, e2, _⟩ := DataW.trod_int Try.underlying3 h2
  obtain ⟨c, e3, _⟩ := DataW.trod_int Try.underlying3 h3
  simp only [List.cons.injEq, and_true] at e0 e1 e2 e3
  subst e0; subst e1; subst e2; subst e3
  exact ⟨o, a, b, c, rfl⟩

theorem VA_phase {N : Nat} {L : Nat → Loc} {o : Bool} {ph pa wa : Int} : VA N L (phase o ph pa wa) (.agg #[.bool o, .int .i64 ph, .int .i64 pa, .int .i64 wa]) :=
  ⟨[.bool o, .int .i64 ph, .int .i64 pa, .int .i64 wa], rfl, _, _, rfl, rfl, _, _, rfl, rfl, _, _, rfl, rfl, _, _, rfl, rfl, rfl⟩

end Go.Mac
