/- LinParts: for every input it returns true, and the input reads as it did. -/
import Derived.Test.YtlimhldkkbaohaaQLinPart
import Derived.Test.YtlimhldkkbaohaaQPackOpen
import Derived.Test.YtlimhldkkbaohaaQOpenCalls2
import Derived.Test.YtlimhldkkbaohaaQOpenPts
namespace Go.Proofs.Ytlimhldkkbaohaa
open Go.ChangeShapes Go.WideShapes Go.ChangeAt Go.RowKit Go.Mac

theorem Try.own : ownKnob Try.prog.godebug = none := by kernel_rfl

set_option maxRecDepth 100000 in
theorem linParts_lifted (os : Os) (started : os.Started) (H : Type) (enc : TypeId × Value → H) :
    ReturnsInHanded {} Try.checked os 3 .any (Rows.linPartsSpec.pre6 enc Try.prog Try.f3 Rows.linPartsRow.domain false) (Rows.linPartsSpec.post enc Try.prog Try.f3 false true false false) := by
  refine returnsInHanded_of_change (C := Try.checked) Try.own started (by kernel_rfl) Try.func3
    (ChangeSpec.witness6 (enc := enc) (C := Try.checked) false ⟨#[], #[.agg #[.bool false, .int .i64 0, .int .i64 0, .int .i64 0], .slice none 0 0, .slice none 0 0, .int .i64 0], []⟩ 8 (by kernel_rfl) (by kernel_rfl) (by kernel_rfl) (by kernel_rfl)) ?_
  intro W base args ds gs before hval0 hW hcnd _
  have hval : ∀ (j : Nat) t v, Try.f3.params[j]? = some t → args[j]? = some v → Value.okWide Try.prog W .any base t v := hval0
  have hW' := hW
  obtain ⟨p, q, hA0, hV, rfl, hfz, hnd⟩ := hW
  have hA : DataW.TrodAll enc Try.prog W 0 (fun _ => true) true Try.f3.params.toList args.toList ds p := hA0
  rw [Try.params3] at hA hval
  obtain ⟨v0, v1, v2, v3, d0, d1, d2, d3, p0, p1, p2, p3, rfl, rfl, rfl, h0, h1, h2, h3⟩ := trodAll_four hA
  obtain ⟨rfl, rfl⟩ := trodVars_none hV
  obtain ⟨o0, ph0, pa0, wa0, rfl⟩ := open_phase (hval 0 _ v0 rfl rfl) h0
  obtain ⟨l1, loc1, _, _, m1, hva1, hor1, hro1, hdl1⟩ := open_calls2 (hval 1 _ v1 rfl rfl) h1
  obtain ⟨l2, loc2, _, k2, hva2, hor2, hro2, hdl2⟩ := open_points (hval 2 _ v2 rfl rfl) h2
  obtain ⟨x3, rfl, _, _, w3⟩ := open_int Try.underlying3 (hval 3 _ v3 rfl rfl) h3
  refine ((linParts o0 ph0 pa0 wa0 l1 m1 l2 k2 x3 (wf_i64 w3)).top (Rel.begin (H := [.rows2 true 2 (l1.map fun xs => xs.map rowCallZ), .rows true 4 (l2.map rowPt)]) (L := locOf [loc1, loc2]) (by
    rintro i o hi
    rcases i with _ | i
    · simp only [List.getElem?_cons_zero, Option.some.injEq] at hi; subst hi; exact ⟨hor1 _ _, fun _ h => h, hro1⟩
    simp only [List.getElem?_cons_succ] at hi
    rcases i with _ | i
    · simp only [List.getElem?_cons_zero, Option.some.injEq] at hi; subst hi; exact ⟨hor2 _ _, fun _ h => h, hro2⟩
    simp only [List.getElem?_cons_succ] at hi
    simp at hi)) ⟨_, _, rfl, VA_phase, _, _, rfl, hva1 _ _ 0 (by simp) rfl, _, _, rfl, hva2 _ _ 1 (by simp) rfl, _, _, rfl, rfl, rfl⟩).mono fun e W' ⟨he, hb⟩ => ⟨_, he, ?_⟩
  exact post_true laidOut (by kernel_rfl) (by kernel_rfl) Try.underlying4 rfl hW' rfl hb.toBelow

/-- THE STATEMENT. -/
theorem linParts_holds : Rows.LinPartsSaid :=
  OpenClaim.holds_of_wide 3 Try.f3 rfl rfl rfl rfl rfl rfl rfl ⟨rfl, rfl, rfl, rfl, rfl⟩ rfl rfl rfl rfl rfl (by kernel_rfl) Try.func3 (by kernel_rfl)
    (of_decide_eq_true (by kernel_rfl)) (by unfold Func.isWrapper; first | (rw [if_pos (by decide +kernel)]; kernel_rfl) | (rw [if_neg (by decide +kernel)]; exact ⟨rfl, rfl⟩))
    (fun os started H enc _ => linParts_lifted os started H enc)

end Go.Proofs.Ytlimhldkkbaohaa
