/- RwMany: for every input it returns true, and the input reads as it did; what the row lists is tied to the program's text. -/
import Derived.Test.YtnkmddcadkcdcaaDoorQRwMny
import Derived.Test.YtnkmddcadkcdcaaDoorQOpen
import Derived.Test.YtnkmddcadkcdcaaDoorGHead
import Derived.Test.YtnkmddcadkcdcaaDoorQOpenDoor
import Derived.Test.YtnkmddcadkcdcaaDoorTie
import Derived.Test.YtnkmddcadkcdcaaDoorCards
import Derived.SevenTiedAt
namespace Go.Proofs.YtnkmddcadkcdcaaDoor
open Go.ChangeShapes Go.WideShapes Go.ChangeAt Go.RowKit Go.Mac

theorem Tryd.own : ownKnob Tryd.prog.godebug = none := by kernel_rfl

set_option maxRecDepth 100000 in
theorem rwMany_lifted (os : Os) (started : os.Started) (H : Type) (enc : TypeId × Value → H) :
    ReturnsInHanded {} Tryd.checked os 13 .any (fun w args => (Rows.rwManySpec.pre enc Tryd.prog Tryd.f13 [] false w args ∧ laidMetH Tryd.prog laidE w) ∧ sizedMet enc Tryd.prog Tryd.f13 (OpenSpec.ofChange Rows.rwManySpec) false w args) (Rows.rwManySpec.post enc Tryd.prog Tryd.f13 false true false false) := by
  refine returnsInHanded_of_change_and (C := Tryd.checked) (X := fun w _ => laidMetH Tryd.prog laidE w) (fun _ _ _ hh h => h.of_heap hh) Tryd.own started (by kernel_rfl) Tryd.func13
    (ChangeSpec.witness_at (enc := enc) (C := Tryd.checked) (os := os) (X := fun w _ => laidMetH Tryd.prog laidE w) false (laidWorld os) #[.int .i64 0, .slice none 0 0] 8 rfl (by kernel_rfl) (by kernel_rfl) (by kernel_rfl) (by kernel_rfl) (by kernel_rfl) (laidWorld_met os _)) ?_
  intro W base args ds gs before hval0 hW _ _ hL _
  have hval : ∀ (j : Nat) t v, Tryd.f13.params[j]? = some t → args[j]? = some v → Value.okWide Tryd.prog W .any base t v := hval0
  have hW' := hW
  obtain ⟨p, q, hA0, hV, rfl, hfz, hnd⟩ := hW
  have hA : DataW.TrodAll enc Tryd.prog W 0 (fun _ => true) true Tryd.f13.params.toList args.toList ds p := hA0
  rw [Tryd.params13] at hA hval
  obtain ⟨v0, v1, d0, d1, p0, p1, rfl, rfl, rfl, h0, h1⟩ := trodAll_two hA
  obtain ⟨rfl, rfl⟩ := trodVars_none hV
  obtain ⟨x0, rfl, _, _, w0⟩ := open_int Tryd.underlying3 (hval 0 _ v0 rfl rfl) h0
  obtain ⟨l1, loc1, w1, _, hva1, hor1, hro1, hdl1⟩ := open_row Tryd.underlying33 Tryd.underlying3 (by kernel_rfl) (hval 1 _ v1 rfl rfl) h1
  refine ((rwMany x0 (wf_i64 w0) l1 (fun x hx => wf_i64 (w1 x hx))).top (Rel.begin (H := [.rows true 1 (l1.map fun x => [.int .i64 x]), rtH]) (L := locOf [loc1, ⟨⟨0, 0, 0, 0⟩, fun _ => ⟨0, 0, 0, 0⟩⟩]) (by
    rintro i o hi
    rcases i with _ | i
    · simp only [List.getElem?_cons_zero, Option.some.injEq] at hi; subst hi; exact ⟨hor1 _ _, fun _ h => h, hro1⟩
    simp only [List.getElem?_cons_succ] at hi
    rcases i with _ | i
    · simp only [List.getElem?_cons_zero, Option.some.injEq] at hi; subst hi; exact ⟨handle_obj hL _ _, fun _ h => h, (handle_ro hL _)⟩
    simp only [List.getElem?_cons_succ] at hi
    simp at hi)) ⟨_, _, rfl, rfl, _, _, rfl, hva1 _ _ 0 (by simp) rfl, rfl⟩).mono fun e W' ⟨he, hb⟩ => ⟨_, he, ?_⟩
  exact post_true laidOut (by kernel_rfl) (by kernel_rfl) Tryd.underlying4 rfl hW' rfl hb.toBelow

theorem rwMany_named : Tryd.prog.funcNamed "quadrille/quadrillekeep.RwMany" = some 13 := by kernel_rfl

/-- THE STATEMENT. -/
theorem rwMany_holds : Rows.RwManySaid :=
  OpenClaim.holds_of_wide 13 Tryd.f13 rfl rfl rfl rfl rfl rfl rfl ⟨rfl, rfl, rfl, rfl, rfl⟩ rfl rfl rfl rfl rfl rwMany_named Tryd.func13 (joined_of (by kernel_rfl) heavy)
    (of_decide_eq_true (by kernel_rfl)) (by unfold Func.isWrapper; first | (rw [if_pos (by decide +kernel)]; kernel_rfl) | (rw [if_neg (by decide +kernel)]; exact ⟨rfl, rfl⟩))
    (fun os started H enc _ => rwMany_lifted os started H enc)

theorem rwMany_text : Rows.rwManyRow.wfByText (OpenSpec.ofChange Rows.rwManySpec) = true := by kernel_rfl
theorem rwMany_goes : false = Rows.rwManyRow.goesBy Tryd.prog := by kernel_rfl

/-- THE CARD. -/
theorem rwMany_card : Rows.RwManyCardSaid :=
  Claim7.holds_tied_plain_at .later [] [.handle] true Rows.rwManyCard.stood.harness true
    rwMany_holds (fun _ h => by cases h) rwMany_text (fun _ h => by cases h) rwMany_row_tie rfl ⟨rfl, rfl⟩ mainAll rfl
    (fun f fn hf hfn => by
      obtain rfl : f = 13 := Option.some.inj (rwMany_named.symm.trans hf) |>.symm
      obtain rfl : fn = Tryd.f13 := (Option.some.inj (Tryd.func13.symm.trans hfn)).symm
      exact ⟨looksAll, fun j t ht => by
        have hall : (Tryd.f13.params.toList.all fun t => !Tryd.prog.wantsStandIn t) = true := by kernel_rfl
        have := List.all_eq_true.1 hall t (List.mem_of_getElem? (i := j) (by rw [Array.getElem?_toList]; exact ht))
        exact (show Tryd.prog.wantsStandIn t = false by simpa using this)⟩)
    rwMany_goes

end Go.Proofs.YtnkmddcadkcdcaaDoor
