/- GatherJoins: for every input it returns true, and the input reads as it did; what the row lists is tied to the program's text. -/
import Derived.Test.YtlimhldkkbaohaaDoorQGatherJns
import Derived.Test.YtlimhldkkbaohaaDoorQOpen
import Derived.Test.YtlimhldkkbaohaaDoorGHead
import Derived.Test.YtlimhldkkbaohaaDoorQOpenDoor
import Derived.Test.YtlimhldkkbaohaaDoorTie
import Derived.Test.YtlimhldkkbaohaaDoorCards
import Derived.SevenTiedAt
namespace Go.Proofs.YtlimhldkkbaohaaDoor
open Go.ChangeShapes Go.WideShapes Go.ChangeAt Go.RowKit Go.Mac

theorem Tryd.own : ownKnob Tryd.prog.godebug = none := by kernel_rfl

set_option maxRecDepth 100000 in
theorem gatherJoins_lifted (os : Os) (started : os.Started) (H : Type) (enc : TypeId × Value → H) :
    ReturnsInHanded {} Tryd.checked os 3 .any (fun w args => (Rows.gatherJoinsSpec.pre enc Tryd.prog Tryd.f3 [] false w args ∧ laidMetH Tryd.prog laidE w) ∧ sizedMet enc Tryd.prog Tryd.f3 (OpenSpec.ofChange Rows.gatherJoinsSpec) false w args) (Rows.gatherJoinsSpec.post enc Tryd.prog Tryd.f3 false true false false) := by
  refine returnsInHanded_of_change_and (C := Tryd.checked) (X := fun w _ => laidMetH Tryd.prog laidE w) (fun _ _ _ hh h => h.of_heap hh) Tryd.own started (by kernel_rfl) Tryd.func3
    (ChangeSpec.witness_at (enc := enc) (C := Tryd.checked) (os := os) (X := fun w _ => laidMetH Tryd.prog laidE w) false (laidWorld os) #[.slice none 0 0, .int .i64 0] 8 rfl (by kernel_rfl) (by kernel_rfl) (by kernel_rfl) (by kernel_rfl) (by kernel_rfl) (laidWorld_met os _)) ?_
  intro W base args ds gs before hval0 hW _ hz hL _
  have hval : ∀ (j : Nat) t v, Tryd.f3.params[j]? = some t → args[j]? = some v → Value.okWide Tryd.prog W .any base t v := hval0
  have hW' := hW
  obtain ⟨p, q, hA0, hV, rfl, hfz, hnd⟩ := hW
  have hA : DataW.TrodAll enc Tryd.prog W 0 (fun _ => true) true Tryd.f3.params.toList args.toList ds p := hA0
  rw [Tryd.params3] at hA hval
  obtain ⟨v0, v1, d0, d1, p0, p1, rfl, rfl, rfl, h0, h1⟩ := trodAll_two hA
  obtain ⟨rfl, rfl⟩ := trodVars_none hV
  obtain ⟨l0, loc0, w0, _, hva0, hor0, hro0, hdl0⟩ := open_row Tryd.underlying22 Tryd.underlying3 (by kernel_rfl) (hval 0 _ v0 rfl rfl) h0
  have hs0 : l0.length ≤ 17592186044416 := by
    have := row_sized (j := 0) hz rfl rfl Tryd.underlying22 hdl0
    rw [show Tryd.prog.bytesOf 3 = 8 by kernel_rfl] at this
    omega
  obtain ⟨x1, rfl, _, _, w1⟩ := open_int Tryd.underlying3 (hval 1 _ v1 rfl rfl) h1
  refine ((gatherJoins l0 (fun x hx => wf_i64 (w0 x hx)) hs0 x1 (wf_i64 w1)).top (Rel.begin (H := [.rows true 1 (l0.map fun x => [.int .i64 x]), rtH]) (L := locOf [loc0, ⟨⟨0, 0, 0, 0⟩, fun _ => ⟨0, 0, 0, 0⟩⟩]) (by
    rintro i o hi
    rcases i with _ | i
    · simp only [List.getElem?_cons_zero, Option.some.injEq] at hi; subst hi; exact ⟨hor0 _ _, fun _ h => h, hro0⟩
    simp only [List.getElem?_cons_succ] at hi
    rcases i with _ | i
    · simp only [List.getElem?_cons_zero, Option.some.injEq] at hi; subst hi; exact ⟨handle_obj hL _ _, fun _ h => h, (handle_ro hL _)⟩
    simp only [List.getElem?_cons_succ] at hi
    simp at hi)) ⟨_, _, rfl, hva0 _ _ 0 (by simp) rfl, _, _, rfl, rfl, rfl⟩).mono fun e W' ⟨he, hb⟩ => ⟨_, he, ?_⟩
  exact post_true laidOut (by kernel_rfl) (by kernel_rfl) Tryd.underlying4 rfl hW' rfl hb.toBelow

theorem gatherJoins_named : Tryd.prog.funcNamed "quadrille/quadrillekeep.GatherJoins" = some 3 := by kernel_rfl

/-- THE STATEMENT. -/
theorem gatherJoins_holds : Rows.GatherJoinsSaid :=
  OpenClaim.holds_of_wide 3 Tryd.f3 rfl rfl rfl rfl rfl rfl rfl ⟨rfl, rfl, rfl, rfl, rfl⟩ rfl rfl rfl rfl rfl gatherJoins_named Tryd.func3 (joined_of (by kernel_rfl) heavy)
    (of_decide_eq_true (by kernel_rfl)) (by unfold Func.isWrapper; first | (rw [if_pos (by decide +kernel)]; kernel_rfl) | (rw [if_neg (by decide +kernel)]; exact ⟨rfl, rfl⟩))
    (fun os started H enc _ => gatherJoins_lifted os started H enc)

theorem gatherJoins_text : Rows.gatherJoinsRow.wfByText (OpenSpec.ofChange Rows.gatherJoinsSpec) = true := by kernel_rfl
theorem gatherJoins_goes : false = Rows.gatherJoinsRow.goesBy Tryd.prog := by kernel_rfl

/-- THE CARD. -/
theorem gatherJoins_card : Rows.GatherJoinsCardSaid :=
  Claim7.holds_tied_plain_at .later [] [.handle] true Rows.gatherJoinsCard.stood.harness true
    gatherJoins_holds (fun _ h => by cases h) gatherJoins_text (fun _ h => by cases h) gatherJoins_row_tie rfl ⟨rfl, rfl⟩ mainAll rfl
    (fun f fn hf hfn => by
      obtain rfl : f = 3 := Option.some.inj (gatherJoins_named.symm.trans hf) |>.symm
      obtain rfl : fn = Tryd.f3 := (Option.some.inj (Tryd.func3.symm.trans hfn)).symm
      exact ⟨looksAll, fun j t ht => by
        have hall : (Tryd.f3.params.toList.all fun t => !Tryd.prog.wantsStandIn t) = true := by kernel_rfl
        have := List.all_eq_true.1 hall t (List.mem_of_getElem? (i := j) (by rw [Array.getElem?_toList]; exact ht))
        exact (show Tryd.prog.wantsStandIn t = false by simpa using this)⟩)
    gatherJoins_goes

end Go.Proofs.YtlimhldkkbaohaaDoor
