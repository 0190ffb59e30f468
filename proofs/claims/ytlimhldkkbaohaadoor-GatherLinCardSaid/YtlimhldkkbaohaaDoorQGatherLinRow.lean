/- GatherLin: for every input it returns true, and the input reads as it did; what the row lists is tied to the program's text. -/
import Derived.Test.YtlimhldkkbaohaaDoorQGatherLn
import Derived.Test.YtlimhldkkbaohaaDoorQOpen
import Derived.Test.YtlimhldkkbaohaaDoorGOpens
import Derived.Test.YtlimhldkkbaohaaDoorGHead
import Derived.Test.YtlimhldkkbaohaaDoorQOpenDoor
import Derived.Test.YtlimhldkkbaohaaDoorTie
import Derived.Test.YtlimhldkkbaohaaDoorCards
import Derived.SevenTiedAt
namespace Go.Proofs.YtlimhldkkbaohaaDoor
open Go.ChangeShapes Go.WideShapes Go.ChangeAt Go.RowKit Go.Mac

theorem Tryd.own : ownKnob Tryd.prog.godebug = none := by kernel_rfl

set_option maxRecDepth 100000 in
theorem gatherLin_lifted (os : Os) (started : os.Started) (H : Type) (enc : TypeId × Value → H) :
    ReturnsInHanded {} Tryd.checked os 15 .any (fun w args => (Rows.gatherLinSpec.pre enc Tryd.prog Tryd.f15 [] false w args ∧ laidMetH Tryd.prog laidE w) ∧ sizedMet enc Tryd.prog Tryd.f15 (OpenSpec.ofChange Rows.gatherLinSpec) false w args) (Rows.gatherLinSpec.post enc Tryd.prog Tryd.f15 false true false false) := by
  refine returnsInHanded_of_change_and (C := Tryd.checked) (X := fun w _ => laidMetH Tryd.prog laidE w) (fun _ _ _ hh h => h.of_heap hh) Tryd.own started (by kernel_rfl) Tryd.func15
    (ChangeSpec.witness_at (enc := enc) (C := Tryd.checked) (os := os) (X := fun w _ => laidMetH Tryd.prog laidE w) false (laidWorld os) #[.slice none 0 0, .int .i64 0, .int .i64 0, .slice none 0 0, .bool false] 8 rfl (by kernel_rfl) (by kernel_rfl) (by kernel_rfl) (by kernel_rfl) (by kernel_rfl) (laidWorld_met os _)) ?_
  intro W base args ds gs before hval0 hW _ _ hL _
  have hval : ∀ (j : Nat) t v, Tryd.f15.params[j]? = some t → args[j]? = some v → Value.okWide Tryd.prog W .any base t v := hval0
  have hW' := hW
  obtain ⟨p, q, hA0, hV, rfl, hfz, hnd⟩ := hW
  have hA : DataW.TrodAll enc Tryd.prog W 0 (fun _ => true) true Tryd.f15.params.toList args.toList ds p := hA0
  rw [Tryd.params15] at hA hval
  obtain ⟨v0, v1, v2, v3, v4, d0, d1, d2, d3, d4, p0, p1, p2, p3, p4, rfl, rfl, rfl, h0, h1, h2, h3, h4⟩ := trod5 hA
  obtain ⟨rfl, rfl⟩ := trodVars_none hV
  obtain ⟨l0, loc0, w0, k0, m0, hva0, hor0, hro0, hdl0⟩ := open_ints2 (hval 0 _ v0 rfl rfl) h0
  obtain ⟨x1, rfl, _, _, w1⟩ := open_int Tryd.underlying3 (hval 1 _ v1 rfl rfl) h1
  obtain ⟨x2, rfl, _, _, w2⟩ := open_int Tryd.underlying3 (hval 2 _ v2 rfl rfl) h2
  obtain ⟨l3, loc3, _, _, hva3, hor3, hro3, hdl3⟩ := open_moves (hval 3 _ v3 rfl rfl) h3
  obtain ⟨x4, rfl, _, _⟩ := open_bool Tryd.underlying4 (hval 4 _ v4 rfl rfl) h4
  refine ((gatherLin l0 (fun xs hxs x hx => wf_i64 (w0 xs hxs x hx)) k0 m0 x1 (wf_i64 w1) x2 (wf_i64 w2) l3 x4).top (Rel.begin (H := [.rows2 true 1 (l0.map fun xs => xs.map rowZ), .rows true 2 (l3.map rowMove), rtH]) (L := locOf [loc0, loc3, ⟨⟨0, 0, 0, 0⟩, fun _ => ⟨0, 0, 0, 0⟩⟩]) (by
    rintro i o hi
    rcases i with _ | i
    · simp only [List.getElem?_cons_zero, Option.some.injEq] at hi; subst hi; exact ⟨hor0 _ _, fun _ h => h, hro0⟩
    simp only [List.getElem?_cons_succ] at hi
    rcases i with _ | i
    · simp only [List.getElem?_cons_zero, Option.some.injEq] at hi; subst hi; exact ⟨hor3 _ _, fun _ h => h, hro3⟩
    simp only [List.getElem?_cons_succ] at hi
    rcases i with _ | i
    · simp only [List.getElem?_cons_zero, Option.some.injEq] at hi; subst hi; exact ⟨handle_obj hL _ _, fun _ h => h, (handle_ro hL _)⟩
    simp only [List.getElem?_cons_succ] at hi
    simp at hi)) ⟨_, _, rfl, hva0 _ _ 0 (by simp) rfl, _, _, rfl, rfl, _, _, rfl, rfl, _, _, rfl, hva3 _ _ 1 (by simp) rfl, _, _, rfl, rfl, rfl⟩).mono fun e W' ⟨he, hb⟩ => ⟨_, he, ?_⟩
  exact post_true laidOut (by kernel_rfl) (by kernel_rfl) Tryd.underlying4 rfl hW' rfl hb.toBelow

theorem gatherLin_named : Tryd.prog.funcNamed "quadrille/quadrillekeep.GatherLin" = some 15 := by kernel_rfl

/-- THE STATEMENT. -/
theorem gatherLin_holds : Rows.GatherLinSaid :=
  OpenClaim.holds_of_wide 15 Tryd.f15 rfl rfl rfl rfl rfl rfl rfl ⟨rfl, rfl, rfl, rfl, rfl⟩ rfl rfl rfl rfl rfl gatherLin_named Tryd.func15 (joined_of (by kernel_rfl) heavy)
    (of_decide_eq_true (by kernel_rfl)) (by unfold Func.isWrapper; first | (rw [if_pos (by decide +kernel)]; kernel_rfl) | (rw [if_neg (by decide +kernel)]; exact ⟨rfl, rfl⟩))
    (fun os started H enc _ => gatherLin_lifted os started H enc)

theorem gatherLin_text : Rows.gatherLinRow.wfByText (OpenSpec.ofChange Rows.gatherLinSpec) = true := by kernel_rfl
theorem gatherLin_goes : false = Rows.gatherLinRow.goesBy Tryd.prog := by kernel_rfl

/-- THE CARD. -/
theorem gatherLin_card : Rows.GatherLinCardSaid :=
  Claim7.holds_tied_plain_at .later [] [.handle] true Rows.gatherLinCard.stood.harness true
    gatherLin_holds (fun _ h => by cases h) gatherLin_text (fun _ h => by cases h) gatherLin_row_tie rfl ⟨rfl, rfl⟩ mainAll rfl
    (fun f fn hf hfn => by
      obtain rfl : f = 15 := Option.some.inj (gatherLin_named.symm.trans hf) |>.symm
      obtain rfl : fn = Tryd.f15 := (Option.some.inj (Tryd.func15.symm.trans hfn)).symm
      exact ⟨looksAll, fun j t ht => by
        have hall : (Tryd.f15.params.toList.all fun t => !Tryd.prog.wantsStandIn t) = true := by kernel_rfl
        have := List.all_eq_true.1 hall t (List.mem_of_getElem? (i := j) (by rw [Array.getElem?_toList]; exact ht))
        exact (show Tryd.prog.wantsStandIn t = false by simpa using this)⟩)
    gatherLin_goes

end Go.Proofs.YtlimhldkkbaohaaDoor
