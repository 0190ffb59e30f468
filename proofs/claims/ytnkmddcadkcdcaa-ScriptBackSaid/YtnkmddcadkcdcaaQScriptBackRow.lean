/- ScriptBack: for every input it returns true, and the input reads as it did. -/
import Derived.Test.YtnkmddcadkcdcaaQScrW
import Derived.Test.YtnkmddcadkcdcaaQOpenScr
import Derived.ChangeMaps5
import Derived.Test.YtnkmddcadkcdcaaQOpen
namespace Go.Proofs.Ytnkmddcadkcdcaa
open Go.ChangeShapes Go.WideShapes Go.ChangeAt Go.RowKit Go.Mac

theorem Try.own : ownKnob Try.prog.godebug = none := by kernel_rfl

set_option maxRecDepth 100000 in
theorem scriptBack_lifted (os : Os) (started : os.Started) (H : Type) (enc : TypeId × Value → H) :
    ReturnsInHanded {} Try.checked os 4 .any (Rows.scriptBackSpec.pre6 enc Try.prog Try.f4 Rows.scriptBackRow.domain false) (Rows.scriptBackSpec.post enc Try.prog Try.f4 false true false false) := by
  refine returnsInHanded_of_change_sized (C := Try.checked) Try.own started (by kernel_rfl) Try.func4
    (ChangeSpec.witness6 (enc := enc) (C := Try.checked) false ⟨#[], #[.agg #[.int .i64 0, .int .i64 0, .int .i64 0, .slice none 0 0], .string ⟨#[]⟩], []⟩ 8 (by kernel_rfl) (by kernel_rfl) (by kernel_rfl) (by kernel_rfl)) ?_
  intro W base args ds gs before hval0 hW hcnd hz _
  have hval : ∀ (j : Nat) t v, Try.f4.params[j]? = some t → args[j]? = some v → Value.okWide Try.prog W .any base t v := hval0
  have hW' := hW
  obtain ⟨p, q, hA0, hV, rfl, hfz, hnd⟩ := hW
  have hA : DataW.TrodAll enc Try.prog W 0 (fun _ => true) true Try.f4.params.toList args.toList ds p := hA0
  rw [Try.params4] at hA hval
  obtain ⟨v0, v1, d0, d1, p0, p1, rfl, rfl, rfl, h0, h1⟩ := trodAll_two hA
  obtain ⟨rfl, rfl⟩ := trodVars_none hV
  obtain ⟨k0, n0, r0, vm0, e00, e10, e20, e30, l0, loc0, rfl, hd0, wk0, wn0, wr0, hva0, hor0, hro0, hdl0⟩ := open_script (hval 0 _ v0 rfl rfl) h0
  have hs0 : l0.length ≤ 8796093022208 := by
    have := script_sized (j := 0) hz rfl (congrArg some hd0) hdl0
    rw [show Try.prog.bytesOf 38 = 16 by kernel_rfl] at this
    omega
  obtain ⟨s1, rfl, hd1, _, w1⟩ := Go.ChangeMaps.open_string Try.underlying9 (hval 1 _ v1 rfl rfl) h1
  have hs1 : s1.data.toList.length ≤ 140737488355328 := Nat.le_trans (sized_string (j := 1) hz rfl (congrArg some hd1)) (by decide)
  refine ((scriptBack k0 n0 r0 (wf_i64 wk0) (wf_i64 wn0) (wf_i64 wr0) l0 hs0 s1.data.toList hs1).top (Rel.begin (H := [.rows true 2 (l0.map rowMove)]) (L := locOf [loc0]) (by
    rintro i o hi
    rcases i with _ | i
    · simp only [List.getElem?_cons_zero, Option.some.injEq] at hi; subst hi; exact ⟨hor0 _ _, fun _ h => h, hro0⟩
    simp only [List.getElem?_cons_succ] at hi
    simp at hi)) ⟨_, _, rfl, VA_script (hva0 _ _ 0 (by simp) rfl), _, _, rfl, VA_str, rfl⟩).mono fun e W' ⟨he, hb⟩ => ⟨_, he, ?_⟩
  exact post_true laidOut (by kernel_rfl) (by kernel_rfl) Try.underlying4 rfl hW' rfl hb.toBelow

/-- THE STATEMENT. -/
theorem scriptBack_holds : Rows.ScriptBackSaid :=
  OpenClaim.holds_of_wide 4 Try.f4 rfl rfl rfl rfl rfl rfl rfl ⟨rfl, rfl, rfl, rfl, rfl⟩ rfl rfl rfl rfl rfl (by kernel_rfl) Try.func4 (by kernel_rfl)
    (of_decide_eq_true (by kernel_rfl)) (by unfold Func.isWrapper; first | (rw [if_pos (by decide +kernel)]; kernel_rfl) | (rw [if_neg (by decide +kernel)]; exact ⟨rfl, rfl⟩))
    (fun os started H enc _ => scriptBack_lifted os started H enc)

end Go.Proofs.Ytnkmddcadkcdcaa
