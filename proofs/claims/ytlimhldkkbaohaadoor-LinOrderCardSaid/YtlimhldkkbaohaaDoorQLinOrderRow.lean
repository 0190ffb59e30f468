/- LinOrder: for every input it returns true, and the input reads as it did; what the row lists is tied to the program's text. -/
import Derived.Test.YtlimhldkkbaohaaDoorQLinOrd
import Derived.Test.YtlimhldkkbaohaaDoorQOpenCalls2
import Derived.Test.YtlimhldkkbaohaaDoorQOpenActs
import Derived.Test.YtlimhldkkbaohaaDoorQOpenEvents
import Derived.Test.YtlimhldkkbaohaaDoorGHead
import Derived.Test.YtlimhldkkbaohaaDoorQOpenDoor
import Derived.Test.YtlimhldkkbaohaaDoorTie
import Derived.Test.YtlimhldkkbaohaaDoorCards
import Derived.SevenTiedAt
namespace Go.Proofs.YtlimhldkkbaohaaDoor
open Go.ChangeShapes Go.WideShapes Go.ChangeAt Go.RowKit Go.Mac

theorem Tryd.own : ownKnob Tryd.prog.godebug = none := by kernel_rfl

set_option maxRecDepth 100000 in
theorem linOrder_lifted (os : Os) (started : os.Started) (H : Type) (enc : TypeId × Value → H) :
    ReturnsInHanded {} Tryd.checked os 12 .any (fun w args => (Rows.linOrderSpec.pre enc Tryd.prog Tryd.f12 [] false w args ∧ laidMetH Tryd.prog laidE w) ∧ sizedMet enc Tryd.prog Tryd.f12 (OpenSpec.ofChange Rows.linOrderSpec) false w args) (Rows.linOrderSpec.post enc Tryd.prog Tryd.f12 false true false false) := by
  refine returnsInHanded_of_change_and (C := Tryd.checked) (X := fun w _ => laidMetH Tryd.prog laidE w) (fun _ _ _ hh h => h.of_heap hh) Tryd.own started (by kernel_rfl) Tryd.func12
    (ChangeSpec.witness_at (enc := enc) (C := Tryd.checked) (os := os) (X := fun w _ => laidMetH Tryd.prog laidE w) false (laidWorld os) #[.slice none 0 0, .slice none 0 0, .slice none 0 0] 8 rfl (by kernel_rfl) (by kernel_rfl) (by kernel_rfl) (by kernel_rfl) (by kernel_rfl) (laidWorld_met os _)) ?_
  intro W base args ds gs before hval0 hW _ _ hL _
  have hval : ∀ (j : Nat) t v, Tryd.f12.params[j]? = some t → args[j]? = some v → Value.okWide Tryd.prog W .any base t v := hval0
  have hW' := hW
  obtain ⟨p, q, hA0, hV, rfl, hfz, hnd⟩ := hW
  have hA : DataW.TrodAll enc Tryd.prog W 0 (fun _ => true) true Tryd.f12.params.toList args.toList ds p := hA0
  rw [Tryd.params12] at hA hval
  obtain ⟨v0, v1, v2, d0, d1, d2, p0, p1, p2, rfl, rfl, rfl, h0, h1, h2⟩ := trodAll_three hA
  obtain ⟨rfl, rfl⟩ := trodVars_none hV
  obtain ⟨l0, loc0, _, _, m0, hva0, hor0, hro0, hdl0⟩ := open_calls2 (hval 0 _ v0 rfl rfl) h0
  obtain ⟨l1, loc1, _, _, hva1, hor1, hro1, hdl1⟩ := open_acts (hval 1 _ v1 rfl rfl) h1
  obtain ⟨l2, loc2, _, _, hva2, hor2, hro2, hdl2⟩ := open_events (hval 2 _ v2 rfl rfl) h2
  refine ((linOrder l0 m0 l1 l2).top (Rel.begin (H := [.rows2 true 2 (l0.map fun xs => xs.map rowCallZ), .rows true 6 (l1.map rowAct), .rows true 4 (l2.map rowEv), rtH]) (L := locOf [loc0, loc1, loc2, ⟨⟨0, 0, 0, 0⟩, fun _ => ⟨0, 0, 0, 0⟩⟩]) (by
    rintro i o hi
    rcases i with _ | i
    · simp only [List.getElem?_cons_zero, Option.some.injEq] at hi; subst hi; exact ⟨hor0 _ _, fun _ h => h, hro0⟩
    simp only [List.getElem?_cons_succ] at hi
    rcases i with _ | i
    · simp only [List.getElem?_cons_zero, Option.some.injEq] at hi; subst hi; exact ⟨hor1 _ _, fun _ h => h, hro1⟩
    simp only [List.getElem?_cons_succ] at hi
    rcases i with _ | i
    · simp only [List.getElem?_cons_zero, Option.some.injEq] at hi; subst hi; exact ⟨hor2 _ _, fun _ h => h, hro2⟩
    simp only [List.getElem?_cons_succ] at hi
    rcases i with _ | i
    · simp only [List.getElem?_cons_zero, Option.some.injEq] at hi; subst hi; exact ⟨handle_obj hL _ _, fun _ h => h, (handle_ro hL _)⟩
    simp only [List.getElem?_cons_succ] at hi
    simp at hi)) ⟨_, _, rfl, hva0 _ _ 0 (by simp) rfl, _, _, rfl, hva1 _ _ 1 (by simp) rfl, _, _, rfl, hva2 _ _ 2 (by simp) rfl, rfl⟩).mono fun e W' ⟨he, hb⟩ => ⟨_, he, ?_⟩
  exact post_true laidOut (by kernel_rfl) (by kernel_rfl) Tryd.underlying4 rfl hW' rfl hb.toBelow

theorem linOrder_named : Tryd.prog.funcNamed "quadrille/quadrillekeep.LinOrder" = some 12 := by kernel_rfl

/-- THE STATEMENT. -/
theorem linOrder_holds : Rows.LinOrderSaid :=
  OpenClaim.holds_of_wide 12 Tryd.f12 rfl rfl rfl rfl rfl rfl rfl ⟨rfl, rfl, rfl, rfl, rfl⟩ rfl rfl rfl rfl rfl linOrder_named Tryd.func12 (joined_of (by kernel_rfl) heavy)
    (of_decide_eq_true (by kernel_rfl)) (by unfold Func.isWrapper; first | (rw [if_pos (by decide +kernel)]; kernel_rfl) | (rw [if_neg (by decide +kernel)]; exact ⟨rfl, rfl⟩))
    (fun os started H enc _ => linOrder_lifted os started H enc)

theorem linOrder_text : Rows.linOrderRow.wfByText (OpenSpec.ofChange Rows.linOrderSpec) = true := by kernel_rfl
theorem linOrder_goes : false = Rows.linOrderRow.goesBy Tryd.prog := by kernel_rfl

/-- THE CARD. -/
theorem linOrder_card : Rows.LinOrderCardSaid :=
  Claim7.holds_tied_plain_at .later [] [.handle] true Rows.linOrderCard.stood.harness true
    linOrder_holds (fun _ h => by cases h) linOrder_text (fun _ h => by cases h) linOrder_row_tie rfl ⟨rfl, rfl⟩ mainAll rfl
    (fun f fn hf hfn => by
      obtain rfl : f = 12 := Option.some.inj (linOrder_named.symm.trans hf) |>.symm
      obtain rfl : fn = Tryd.f12 := (Option.some.inj (Tryd.func12.symm.trans hfn)).symm
      exact ⟨looksAll, fun j t ht => by
        have hall : (Tryd.f12.params.toList.all fun t => !Tryd.prog.wantsStandIn t) = true := by kernel_rfl
        have := List.all_eq_true.1 hall t (List.mem_of_getElem? (i := j) (by rw [Array.getElem?_toList]; exact ht))
        exact (show Tryd.prog.wantsStandIn t = false by simpa using this)⟩)
    linOrder_goes

end Go.Proofs.YtlimhldkkbaohaaDoor
