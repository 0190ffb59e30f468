/- TicketOrder: for every input it returns true, and the input reads as it did; what the row lists is tied to the program's text. -/
import Derived.Test.YtnkmddcadkcdcaaDoorQTicketOrd
import Derived.Test.YtnkmddcadkcdcaaDoorGOpens
import Derived.Test.YtnkmddcadkcdcaaDoorQOpen
import Derived.Test.YtnkmddcadkcdcaaDoorGHead
import Derived.Test.YtnkmddcadkcdcaaDoorQOpenDoor
import Derived.Test.YtnkmddcadkcdcaaDoorTie
import Derived.Test.YtnkmddcadkcdcaaDoorCards
import Derived.SevenTiedAt
namespace Go.Proofs.YtnkmddcadkcdcaaDoor
open Go.ChangeShapes Go.WideShapes Go.ChangeAt Go.RowKit Go.Mac

theorem Tryd.own : ownKnob Tryd.prog.godebug = none := by kernel_rfl

set_option maxRecDepth 100000 in
theorem ticketOrder_lifted (os : Os) (started : os.Started) (H : Type) (enc : TypeId × Value → H) :
    ReturnsInHanded {} Tryd.checked os 3 .any (fun w args => (Rows.ticketOrderSpec.pre enc Tryd.prog Tryd.f3 [] false w args ∧ laidMetH Tryd.prog laidE w) ∧ sizedMet enc Tryd.prog Tryd.f3 (OpenSpec.ofChange Rows.ticketOrderSpec) false w args) (Rows.ticketOrderSpec.post enc Tryd.prog Tryd.f3 false true false false) := by
  refine returnsInHanded_of_change_and (C := Tryd.checked) (X := fun w _ => laidMetH Tryd.prog laidE w) (fun _ _ _ hh h => h.of_heap hh) Tryd.own started (by kernel_rfl) Tryd.func3
    (ChangeSpec.witness_at (enc := enc) (C := Tryd.checked) (os := os) (X := fun w _ => laidMetH Tryd.prog laidE w) false (laidWorld os) #[.int .i64 0, .int .i64 0, .slice none 0 0, .bool false] 8 rfl (by kernel_rfl) (by kernel_rfl) (by kernel_rfl) (by kernel_rfl) (by kernel_rfl) (laidWorld_met os _)) ?_
  intro W base args ds gs before hval0 hW _ _ hL _
  have hval : ∀ (j : Nat) t v, Tryd.f3.params[j]? = some t → args[j]? = some v → Value.okWide Tryd.prog W .any base t v := hval0
  have hW' := hW
  obtain ⟨p, q, hA0, hV, rfl, hfz, hnd⟩ := hW
  have hA : DataW.TrodAll enc Tryd.prog W 0 (fun _ => true) true Tryd.f3.params.toList args.toList ds p := hA0
  rw [Tryd.params3] at hA hval
  obtain ⟨v0, v1, v2, v3, d0, d1, d2, d3, p0, p1, p2, p3, rfl, rfl, rfl, h0, h1, h2, h3⟩ := trodAll_four hA
  obtain ⟨rfl, rfl⟩ := trodVars_none hV
  obtain ⟨x0, rfl, _, _, w0⟩ := open_int Tryd.underlying3 (hval 0 _ v0 rfl rfl) h0
  obtain ⟨x1, rfl, _, _, w1⟩ := open_int Tryd.underlying3 (hval 1 _ v1 rfl rfl) h1
  obtain ⟨l2, loc2, _, _, hva2, hor2, hro2, hdl2⟩ := open_moves (hval 2 _ v2 rfl rfl) h2
  obtain ⟨x3, rfl, _, _⟩ := open_bool Tryd.underlying4 (hval 3 _ v3 rfl rfl) h3
  refine ((ticketOrder x0 (wf_i64 w0) x1 (wf_i64 w1) l2 x3).top (Rel.begin (H := [.rows true 2 (l2.map rowMove), rtH]) (L := locOf [loc2, ⟨⟨0, 0, 0, 0⟩, fun _ => ⟨0, 0, 0, 0⟩⟩]) (by
    rintro i o hi
    rcases i with _ | i
    · simp only [List.getElem?_cons_zero, Option.some.injEq] at hi; subst hi; exact ⟨hor2 _ _, fun _ h => h, hro2⟩
    simp only [List.getElem?_cons_succ] at hi
    rcases i with _ | i
    · simp only [List.getElem?_cons_zero, Option.some.injEq] at hi; subst hi; exact ⟨handle_obj hL _ _, fun _ h => h, (handle_ro hL _)⟩
    simp only [List.getElem?_cons_succ] at hi
    simp at hi)) ⟨_, _, rfl, rfl, _, _, rfl, rfl, _, _, rfl, hva2 _ _ 0 (by simp) rfl, _, _, rfl, rfl, rfl⟩).mono fun e W' ⟨he, hb⟩ => ⟨_, he, ?_⟩
  exact post_true laidOut (by kernel_rfl) (by kernel_rfl) Tryd.underlying4 rfl hW' rfl hb.toBelow

theorem ticketOrder_named : Tryd.prog.funcNamed "quadrille/quadrillekeep.TicketOrder" = some 3 := by kernel_rfl

/-- THE STATEMENT. -/
theorem ticketOrder_holds : Rows.TicketOrderSaid :=
  OpenClaim.holds_of_wide 3 Tryd.f3 rfl rfl rfl rfl rfl rfl rfl ⟨rfl, rfl, rfl, rfl, rfl⟩ rfl rfl rfl rfl rfl ticketOrder_named Tryd.func3 (joined_of (by kernel_rfl) heavy)
    (of_decide_eq_true (by kernel_rfl)) (by unfold Func.isWrapper; first | (rw [if_pos (by decide +kernel)]; kernel_rfl) | (rw [if_neg (by decide +kernel)]; exact ⟨rfl, rfl⟩))
    (fun os started H enc _ => ticketOrder_lifted os started H enc)

theorem ticketOrder_text : Rows.ticketOrderRow.wfByText (OpenSpec.ofChange Rows.ticketOrderSpec) = true := by kernel_rfl
theorem ticketOrder_goes : false = Rows.ticketOrderRow.goesBy Tryd.prog := by kernel_rfl

/-- THE CARD. -/
theorem ticketOrder_card : Rows.TicketOrderCardSaid :=
  Claim7.holds_tied_plain_at .later [] [.handle] true Rows.ticketOrderCard.stood.harness true
    ticketOrder_holds (fun _ h => by cases h) ticketOrder_text (fun _ h => by cases h) ticketOrder_row_tie rfl ⟨rfl, rfl⟩ mainAll rfl
    (fun f fn hf hfn => by
      obtain rfl : f = 3 := Option.some.inj (ticketOrder_named.symm.trans hf) |>.symm
      obtain rfl : fn = Tryd.f3 := (Option.some.inj (Tryd.func3.symm.trans hfn)).symm
      exact ⟨looksAll, fun j t ht => by
        have hall : (Tryd.f3.params.toList.all fun t => !Tryd.prog.wantsStandIn t) = true := by kernel_rfl
        have := List.all_eq_true.1 hall t (List.mem_of_getElem? (i := j) (by rw [Array.getElem?_toList]; exact ht))
        exact (show Tryd.prog.wantsStandIn t = false by simpa using this)⟩)
    ticketOrder_goes

end Go.Proofs.YtnkmddcadkcdcaaDoor
