/- ScriptJudged: for every input it returns true, and the input reads as it did; what the row lists is tied to the program's text. -/
import Derived.Test.YtnhldphlkklfiaaGreatDoorQScriptJd
import Derived.ChangeMaps5
import Derived.Test.YtnhldphlkklfiaaGreatDoorQOpen
import Derived.Test.YtnhldphlkklfiaaGreatDoorGHead
import Derived.Test.YtnhldphlkklfiaaGreatDoorQOpenDoor
import Derived.Test.YtnhldphlkklfiaaGreatDoorTie
import Derived.Test.YtnhldphlkklfiaaGreatDoorCards
import Derived.SevenTiedAt
namespace Go.Proofs.YtnhldphlkklfiaaGreatDoor
open Go.ChangeShapes Go.WideShapes Go.ChangeAt Go.RowKit Go.Mac

theorem Tryz.own : ownKnob Tryz.prog.godebug = none := by kernel_rfl

set_option maxRecDepth 100000 in
theorem scriptJudged_lifted (os : Os) (started : os.Started) (H : Type) (enc : TypeId × Value → H) :
    ReturnsInHanded {} Tryz.checked os 19 .any (fun w args => (Rows.scriptJudgedSpec.pre enc Tryz.prog Tryz.f19 [] false w args ∧ laidMetH Tryz.prog laidE w) ∧ sizedMet enc Tryz.prog Tryz.f19 (OpenSpec.ofChange Rows.scriptJudgedSpec) false w args) (Rows.scriptJudgedSpec.post enc Tryz.prog Tryz.f19 false true false false) := by
  refine returnsInHanded_of_change_and (C := Tryz.checked) (X := fun w _ => laidMetH Tryz.prog laidE w) (fun _ _ _ hh h => h.of_heap hh) Tryz.own started (by kernel_rfl) Tryz.func19
    (ChangeSpec.witness_at (enc := enc) (C := Tryz.checked) (os := os) (X := fun w _ => laidMetH Tryz.prog laidE w) false (laidWorld os) #[.string ⟨#[]⟩] 8 rfl (by kernel_rfl) (by kernel_rfl) (by kernel_rfl) (by kernel_rfl) (by kernel_rfl) (laidWorld_met os _)) ?_
  intro W base args ds gs before hval0 hW _ hz hL _
  have hval : ∀ (j : Nat) t v, Tryz.f19.params[j]? = some t → args[j]? = some v → Value.okWide Tryz.prog W .any base t v := hval0
  have hW' := hW
  obtain ⟨p, q, hA0, hV, rfl, hfz, hnd⟩ := hW
  have hA : DataW.TrodAll enc Tryz.prog W 0 (fun _ => true) true Tryz.f19.params.toList args.toList ds p := hA0
  rw [Tryz.params19] at hA hval
  obtain ⟨v0, d0, rfl, rfl, h0⟩ := trodAll_one hA
  obtain ⟨rfl, rfl⟩ := trodVars_none hV
  obtain ⟨s0, rfl, hd0, _, w0⟩ := Go.ChangeMaps.open_string Tryz.underlying9 (hval 0 _ v0 rfl rfl) h0
  have hs0 : s0.data.toList.length ≤ 140737488355328 := Nat.le_trans (sized_string (j := 0) hz rfl (congrArg some hd0)) (by decide)
  refine ((scriptJudged s0.data.toList hs0).top (Rel.begin (H := [rtH]) (L := locOf [⟨⟨0, 0, 0, 0⟩, fun _ => ⟨0, 0, 0, 0⟩⟩]) (by
    rintro i o hi
    rcases i with _ | i
    · simp only [List.getElem?_cons_zero, Option.some.injEq] at hi; subst hi; exact ⟨handle_obj hL _ _, fun _ h => h, (handle_ro hL _)⟩
    simp only [List.getElem?_cons_succ] at hi
    simp at hi)) ⟨_, _, rfl, VA_str, rfl⟩).mono fun e W' ⟨he, hb⟩ => ⟨_, he, ?_⟩
  exact post_true laidOut (by kernel_rfl) (by kernel_rfl) Tryz.underlying4 rfl hW' rfl hb.toBelow

theorem scriptJudged_named : Tryz.prog.funcNamed "quadrille/quadrillekeep.ScriptJudged" = some 19 := by kernel_rfl

/-- THE STATEMENT. -/
theorem scriptJudged_holds : Rows.ScriptJudgedSaid :=
  OpenClaim.holds_of_wide 19 Tryz.f19 rfl rfl rfl rfl rfl rfl rfl ⟨rfl, rfl, rfl, rfl, rfl⟩ rfl rfl rfl rfl rfl scriptJudged_named Tryz.func19 (joined_of (by kernel_rfl) heavy)
    (of_decide_eq_true (by kernel_rfl)) (by unfold Func.isWrapper; first | (rw [if_pos (by decide +kernel)]; kernel_rfl) | (rw [if_neg (by decide +kernel)]; exact ⟨rfl, rfl⟩))
    (fun os started H enc _ => scriptJudged_lifted os started H enc)

theorem scriptJudged_text : Rows.scriptJudgedRow.wfByText (OpenSpec.ofChange Rows.scriptJudgedSpec) = true := by kernel_rfl
theorem scriptJudged_goes : false = Rows.scriptJudgedRow.goesBy Tryz.prog := by kernel_rfl

/-- THE CARD. -/
theorem scriptJudged_card : Rows.ScriptJudgedCardSaid :=
  Claim7.holds_tied_plain_at .later [] [.handle] true Rows.scriptJudgedCard.stood.harness true
    scriptJudged_holds (fun _ h => by cases h) scriptJudged_text (fun _ h => by cases h) scriptJudged_row_tie rfl ⟨rfl, rfl⟩ mainAll rfl
    (fun f fn hf hfn => by
      obtain rfl : f = 19 := Option.some.inj (scriptJudged_named.symm.trans hf) |>.symm
      obtain rfl : fn = Tryz.f19 := (Option.some.inj (Tryz.func19.symm.trans hfn)).symm
      exact ⟨looksAll, fun j t ht => by
        have hall : (Tryz.f19.params.toList.all fun t => !Tryz.prog.wantsStandIn t) = true := by kernel_rfl
        have := List.all_eq_true.1 hall t (List.mem_of_getElem? (i := j) (by rw [Array.getElem?_toList]; exact ht))
        exact (show Tryz.prog.wantsStandIn t = false by simpa using this)⟩)
    scriptJudged_goes

end Go.Proofs.YtnhldphlkklfiaaGreatDoor
