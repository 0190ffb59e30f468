/- JudgeMissing: for every input it returns true, and the input reads as it did; what the row lists is tied to the program's text. -/
import Derived.Test.YtnhldphlkklfiaaGreatDoorQMissW
import Derived.Test.YtnhldphlkklfiaaGreatDoorGOpens
import Derived.Test.YtnhldphlkklfiaaGreatDoorQHeavy
import Derived.Test.YtnhldphlkklfiaaGreatDoorQLooks
import Derived.Test.YtnhldphlkklfiaaGreatDoorQMain
import Derived.Test.YtnhldphlkklfiaaGreatDoorQOpenDoor
import Derived.Test.YtnhldphlkklfiaaGreatDoorTie
import Derived.Test.YtnhldphlkklfiaaGreatDoorCards
import Derived.SevenTiedAt
namespace Go.Proofs.YtnhldphlkklfiaaGreatDoor
open Go.ChangeShapes Go.WideShapes Go.ChangeAt Go.RowKit Go.Mac

theorem Tryz.own : ownKnob Tryz.prog.godebug = none := by kernel_rfl

set_option maxRecDepth 100000 in
theorem judgeMissing_lifted (os : Os) (started : os.Started) (H : Type) (enc : TypeId × Value → H) :
    ReturnsInHanded {} Tryz.checked os 15 .any (fun w args => (Rows.judgeMissingSpec.pre enc Tryz.prog Tryz.f15 [] false w args ∧ laidMetH Tryz.prog laidE w) ∧ sizedMet enc Tryz.prog Tryz.f15 (OpenSpec.ofChange Rows.judgeMissingSpec) false w args) (Rows.judgeMissingSpec.post enc Tryz.prog Tryz.f15 false true false false) := by
  refine returnsInHanded_of_change_and (C := Tryz.checked) (X := fun w _ => laidMetH Tryz.prog laidE w) (fun _ _ _ hh h => h.of_heap hh) Tryz.own started (by kernel_rfl) Tryz.func15
    (ChangeSpec.witness_at (enc := enc) (C := Tryz.checked) (os := os) (X := fun w _ => laidMetH Tryz.prog laidE w) false (laidWorld os) #[.int .i64 0, .int .i64 0, .int .i64 0, .slice none 0 0, .int .i64 0] 8 rfl (by kernel_rfl) (by kernel_rfl) (by kernel_rfl) (by kernel_rfl) (by kernel_rfl) (laidWorld_met os _)) ?_
  intro W base args ds gs before hval0 hW _ _ hL _
  have hval : ∀ (j : Nat) t v, Tryz.f15.params[j]? = some t → args[j]? = some v → Value.okWide Tryz.prog W .any base t v := hval0
  have hW' := hW
  obtain ⟨p, q, hA0, hV, rfl, hfz, hnd⟩ := hW
  have hA : DataW.TrodAll enc Tryz.prog W 0 (fun _ => true) true Tryz.f15.params.toList args.toList ds p := hA0
  rw [Tryz.params15] at hA hval
  obtain ⟨v0, v1, v2, v3, v4, d0, d1, d2, d3, d4, p0, p1, p2, p3, p4, rfl, rfl, rfl, h0, h1, h2, h3, h4⟩ := trod5 hA
  obtain ⟨rfl, rfl⟩ := trodVars_none hV
  obtain ⟨x0, rfl, _, _, w0⟩ := open_int Tryz.underlying3 (hval 0 _ v0 rfl rfl) h0
  obtain ⟨x1, rfl, _, _, w1⟩ := open_int Tryz.underlying3 (hval 1 _ v1 rfl rfl) h1
  obtain ⟨x2, rfl, _, _, w2⟩ := open_int Tryz.underlying3 (hval 2 _ v2 rfl rfl) h2
  obtain ⟨l3, loc3, _, _, hva3, hor3, hro3, hdl3⟩ := open_moves (hval 3 _ v3 rfl rfl) h3
  obtain ⟨x4, rfl, _, _, w4⟩ := open_int Tryz.underlying3 (hval 4 _ v4 rfl rfl) h4
  refine ((judgeMissing x0 (wf_i64 w0) x1 (wf_i64 w1) x2 (wf_i64 w2) l3 x4 (wf_i64 w4)).top (Rel.begin (H := [.rows true 2 (l3.map rowMove), rtH]) (L := locOf [loc3, ⟨⟨0, 0, 0, 0⟩, fun _ => ⟨0, 0, 0, 0⟩⟩]) (by
    rintro i o hi
    rcases i with _ | i
    · simp only [List.getElem?_cons_zero, Option.some.injEq] at hi; subst hi; exact ⟨hor3 _ _, fun _ h => h, hro3⟩
    simp only [List.getElem?_cons_succ] at hi
    rcases i with _ | i
    · simp only [List.getElem?_cons_zero, Option.some.injEq] at hi; subst hi; exact ⟨handle_obj hL _ _, fun _ h => h, (handle_ro hL _)⟩
    simp only [List.getElem?_cons_succ] at hi
    simp at hi)) ⟨_, _, rfl, rfl, _, _, rfl, rfl, _, _, rfl, rfl, _, _, rfl, hva3 _ _ 0 (by simp) rfl, _, _, rfl, rfl, rfl⟩).mono fun e W' ⟨he, hb⟩ => ⟨_, he, ?_⟩
  exact post_true laidOut (by kernel_rfl) (by kernel_rfl) Tryz.underlying4 rfl hW' rfl hb.toBelow

theorem judgeMissing_named : Tryz.prog.funcNamed "quadrille/quadrillekeep.JudgeMissing" = some 15 := by kernel_rfl

/-- THE STATEMENT. -/
theorem judgeMissing_holds : Rows.JudgeMissingSaid :=
  OpenClaim.holds_of_wide 15 Tryz.f15 rfl rfl rfl rfl rfl rfl rfl ⟨rfl, rfl, rfl, rfl, rfl⟩ rfl rfl rfl rfl rfl judgeMissing_named Tryz.func15 (joined_of (by kernel_rfl) heavy)
    (of_decide_eq_true (by kernel_rfl)) (by unfold Func.isWrapper; first | (rw [if_pos (by decide +kernel)]; kernel_rfl) | (rw [if_neg (by decide +kernel)]; exact ⟨rfl, rfl⟩))
    (fun os started H enc _ => judgeMissing_lifted os started H enc)

theorem judgeMissing_text : Rows.judgeMissingRow.wfByText (OpenSpec.ofChange Rows.judgeMissingSpec) = true := by kernel_rfl
theorem judgeMissing_goes : false = Rows.judgeMissingRow.goesBy Tryz.prog := by kernel_rfl

/-- THE CARD. -/
theorem judgeMissing_card : Rows.JudgeMissingCardSaid :=
  Claim7.holds_tied_plain_at .later [] [.handle] true Rows.judgeMissingCard.stood.harness true
    judgeMissing_holds (fun _ h => by cases h) judgeMissing_text (fun _ h => by cases h) judgeMissing_row_tie rfl ⟨rfl, rfl⟩ mainAll rfl
    (fun f fn hf hfn => by
      obtain rfl : f = 15 := Option.some.inj (judgeMissing_named.symm.trans hf) |>.symm
      obtain rfl : fn = Tryz.f15 := (Option.some.inj (Tryz.func15.symm.trans hfn)).symm
      exact ⟨looksAll, fun j t ht => by
        have hall : (Tryz.f15.params.toList.all fun t => !Tryz.prog.wantsStandIn t) = true := by kernel_rfl
        have := List.all_eq_true.1 hall t (List.mem_of_getElem? (i := j) (by rw [Array.getElem?_toList]; exact ht))
        exact (show Tryz.prog.wantsStandIn t = false by simpa using this)⟩)
    judgeMissing_goes

end Go.Proofs.YtnhldphlkklfiaaGreatDoor
