/- GatherMisses: for every input it returns true, and the input reads as it did; what the row lists is tied to the program's text. -/
import Derived.Test.YtnkmddcadkcdcaaDoorQGatherMis
import Derived.Test.YtnkmddcadkcdcaaDoorQOpen
import Derived.Test.YtnkmddcadkcdcaaDoorGOpens
import Derived.Test.YtnkmddcadkcdcaaDoorGHead
import Derived.Test.YtnkmddcadkcdcaaDoorQOpenDoor
import Derived.Test.YtnkmddcadkcdcaaDoorTie
import Derived.Test.YtnkmddcadkcdcaaDoorCards
import Derived.SevenTiedAt
namespace Go.Proofs.YtnkmddcadkcdcaaDoor
open Go.ChangeShapes Go.WideShapes Go.ChangeAt Go.RowKit Go.Mac

theorem Tryd.own : ownKnob Tryd.prog.godebug = none := by kernel_rfl

set_option maxRecDepth 100000 in
theorem gatherMisses_lifted (os : Os) (started : os.Started) (H : Type) (enc : TypeId × Value → H) :
    ReturnsInHanded {} Tryd.checked os 17 .any (fun w args => (Rows.gatherMissesSpec.pre enc Tryd.prog Tryd.f17 [] false w args ∧ laidMetH Tryd.prog laidE w) ∧ sizedMet enc Tryd.prog Tryd.f17 (OpenSpec.ofChange Rows.gatherMissesSpec) false w args) (Rows.gatherMissesSpec.post enc Tryd.prog Tryd.f17 false true false false) := by
  refine returnsInHanded_of_change_and (C := Tryd.checked) (X := fun w _ => laidMetH Tryd.prog laidE w) (fun _ _ _ hh h => h.of_heap hh) Tryd.own started (by kernel_rfl) Tryd.func17
    (ChangeSpec.witness_at (enc := enc) (C := Tryd.checked) (os := os) (X := fun w _ => laidMetH Tryd.prog laidE w) false (laidWorld os) #[.int .i64 0, .int .i64 0, .slice none 0 0] 8 rfl (by kernel_rfl) (by kernel_rfl) (by kernel_rfl) (by kernel_rfl) (by kernel_rfl) (laidWorld_met os _)) ?_
  intro W base args ds gs before hval0 hW _ _ hL _
  have hval : ∀ (j : Nat) t v, Tryd.f17.params[j]? = some t → args[j]? = some v → Value.okWide Tryd.prog W .any base t v := hval0
  have hW' := hW
  obtain ⟨p, q, hA0, hV, rfl, hfz, hnd⟩ := hW
  have hA : DataW.TrodAll enc Tryd.prog W 0 (fun _ => true) true Tryd.f17.params.toList args.toList ds p := hA0
  rw [Tryd.params17] at hA hval
  obtain ⟨v0, v1, v2, d0, d1, d2, p0, p1, p2, rfl, rfl, rfl, h0, h1, h2⟩ := trodAll_three hA
  obtain ⟨rfl, rfl⟩ := trodVars_none hV
  obtain ⟨x0, rfl, _, _, w0⟩ := open_int Tryd.underlying3 (hval 0 _ v0 rfl rfl) h0
  obtain ⟨x1, rfl, _, _, w1⟩ := open_int Tryd.underlying3 (hval 1 _ v1 rfl rfl) h1
  obtain ⟨l2, loc2, _, _, hva2, hor2, hro2, hdl2⟩ := open_moves (hval 2 _ v2 rfl rfl) h2
  refine ((gatherMisses x0 (wf_i64 w0) x1 (wf_i64 w1) l2).top (Rel.begin (H := [.rows true 2 (l2.map rowMove), rtH]) (L := locOf [loc2, ⟨⟨0, 0, 0, 0⟩, fun _ => ⟨0, 0, 0, 0⟩⟩]) (by
    rintro i o hi
    rcases i with _ | i
    · simp only [List.getElem?_cons_zero, Option.some.injEq] at hi; subst hi; exact ⟨hor2 _ _, fun _ h => h, hro2⟩
    simp only [List.getElem?_cons_succ] at hi
    rcases i with _ | i
    · simp only [List.getElem?_cons_zero, Option.some.injEq] at hi; subst hi; exact ⟨handle_obj hL _ _, fun _ h => h, (handle_ro hL _)⟩
    simp only [List.getElem?_cons_succ] at hi
    simp at hi)) ⟨_, _, rfl, rfl, _, _, rfl, rfl, _, _, rfl, hva2 _ _ 0 (by simp) rfl, rfl⟩).mono fun e W' ⟨he, hb⟩ => ⟨_, he, ?_⟩
  exact post_true laidOut (by kernel_rfl) (by kernel_rfl) Tryd.underlying4 rfl hW' rfl hb.toBelow

theorem gatherMisses_named : Tryd.prog.funcNamed "quadrille/quadrillekeep.GatherMisses" = some 17 := by kernel_rfl

/-- THE STATEMENT. -/
theorem gatherMisses_holds : Rows.GatherMissesSaid :=
  OpenClaim.holds_of_wide 17 Tryd.f17 rfl rfl rfl rfl rfl rfl rfl ⟨rfl, rfl, rfl, rfl, rfl⟩ rfl rfl rfl rfl rfl gatherMisses_named Tryd.func17 (joined_of (by kernel_rfl) heavy)
    (of_decide_eq_true (by kernel_rfl)) (by unfold Func.isWrapper; first | (rw [if_pos (by decide +kernel)]; kernel_rfl) | (rw [if_neg (by decide +kernel)]; exact ⟨rfl, rfl⟩))
    (fun os started H enc _ => gatherMisses_lifted os started H enc)

theorem gatherMisses_text : Rows.gatherMissesRow.wfByText (OpenSpec.ofChange Rows.gatherMissesSpec) = true := by kernel_rfl
theorem gatherMisses_goes : false = Rows.gatherMissesRow.goesBy Tryd.prog := by kernel_rfl

/-- THE CARD. -/
theorem gatherMisses_card : Rows.GatherMissesCardSaid :=
  Claim7.holds_tied_plain_at .later [] [.handle] true Rows.gatherMissesCard.stood.harness true
    gatherMisses_holds (fun _ h => by cases h) gatherMisses_text (fun _ h => by cases h) gatherMisses_row_tie rfl ⟨rfl, rfl⟩ mainAll rfl
    (fun f fn hf hfn => by
      obtain rfl : f = 17 := Option.some.inj (gatherMisses_named.symm.trans hf) |>.symm
      obtain rfl : fn = Tryd.f17 := (Option.some.inj (Tryd.func17.symm.trans hfn)).symm
      exact ⟨looksAll, fun j t ht => by
        have hall : (Tryd.f17.params.toList.all fun t => !Tryd.prog.wantsStandIn t) = true := by kernel_rfl
        have := List.all_eq_true.1 hall t (List.mem_of_getElem? (i := j) (by rw [Array.getElem?_toList]; exact ht))
        exact (show Tryd.prog.wantsStandIn t = false by simpa using this)⟩)
    gatherMisses_goes

end Go.Proofs.YtnkmddcadkcdcaaDoor
