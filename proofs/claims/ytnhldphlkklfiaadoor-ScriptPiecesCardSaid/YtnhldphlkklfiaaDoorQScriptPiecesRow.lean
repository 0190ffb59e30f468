/- ScriptPieces: for every input it returns true, and the input reads as it did; what the row lists is tied to the program's text. -/
import Derived.Test.YtnhldphlkklfiaaDoorQPieces
import Derived.ChangeMaps5
import Derived.Test.YtnhldphlkklfiaaDoorQOpen
import Derived.Test.YtnhldphlkklfiaaDoorGHead
import Derived.Test.YtnhldphlkklfiaaDoorQOpenDoor
import Derived.Test.YtnhldphlkklfiaaDoorTie
import Derived.Test.YtnhldphlkklfiaaDoorCards
import Derived.SevenTiedAt
namespace Go.Proofs.YtnhldphlkklfiaaDoor
open Go.ChangeShapes Go.WideShapes Go.ChangeAt Go.RowKit Go.Mac

theorem Tryd.own : ownKnob Tryd.prog.godebug = none := by kernel_rfl

set_option maxRecDepth 100000 in
theorem scriptPieces_lifted (os : Os) (started : os.Started) (H : Type) (enc : TypeId × Value → H) :
    ReturnsInHanded {} Tryd.checked os 12 .any (fun w args => (Rows.scriptPiecesSpec.pre enc Tryd.prog Tryd.f12 [] false w args ∧ laidMetH Tryd.prog laidE w) ∧ sizedMet enc Tryd.prog Tryd.f12 (OpenSpec.ofChange Rows.scriptPiecesSpec) false w args) (Rows.scriptPiecesSpec.post enc Tryd.prog Tryd.f12 false true false false) := by
  refine returnsInHanded_of_change_and (C := Tryd.checked) (X := fun w _ => laidMetH Tryd.prog laidE w) (fun _ _ _ hh h => h.of_heap hh) Tryd.own started (by kernel_rfl) Tryd.func12
    (ChangeSpec.witness_at (enc := enc) (C := Tryd.checked) (os := os) (X := fun w _ => laidMetH Tryd.prog laidE w) false (laidWorld os) #[.string ⟨#[]⟩, .string ⟨#[]⟩] 8 rfl (by kernel_rfl) (by kernel_rfl) (by kernel_rfl) (by kernel_rfl) (by kernel_rfl) (laidWorld_met os _)) ?_
  intro W base args ds gs before hval0 hW _ hz hL _
  have hval : ∀ (j : Nat) t v, Tryd.f12.params[j]? = some t → args[j]? = some v → Value.okWide Tryd.prog W .any base t v := hval0
  have hW' := hW
  obtain ⟨p, q, hA0, hV, rfl, hfz, hnd⟩ := hW
  have hA : DataW.TrodAll enc Tryd.prog W 0 (fun _ => true) true Tryd.f12.params.toList args.toList ds p := hA0
  rw [Tryd.params12] at hA hval
  obtain ⟨v0, v1, d0, d1, p0, p1, rfl, rfl, rfl, h0, h1⟩ := trodAll_two hA
  obtain ⟨rfl, rfl⟩ := trodVars_none hV
  obtain ⟨s0, rfl, hd0, _, w0⟩ := Go.ChangeMaps.open_string Tryd.underlying9 (hval 0 _ v0 rfl rfl) h0
  have hs0 : s0.data.toList.length ≤ 140737488355328 := Nat.le_trans (sized_string (j := 0) hz rfl (congrArg some hd0)) (by decide)
  obtain ⟨s1, rfl, hd1, _, w1⟩ := Go.ChangeMaps.open_string Tryd.underlying9 (hval 1 _ v1 rfl rfl) h1
  have hs1 : s1.data.toList.length ≤ 140737488355328 := Nat.le_trans (sized_string (j := 1) hz rfl (congrArg some hd1)) (by decide)
  refine ((scriptPieces s0.data.toList hs0 s1.data.toList hs1).top (Rel.begin (H := [rtH]) (L := locOf [⟨⟨0, 0, 0, 0⟩, fun _ => ⟨0, 0, 0, 0⟩⟩]) (by
    rintro i o hi
    rcases i with _ | i
    · simp only [List.getElem?_cons_zero, Option.some.injEq] at hi; subst hi; exact ⟨handle_obj hL _ _, fun _ h => h, (handle_ro hL _)⟩
    simp only [List.getElem?_cons_succ] at hi
    simp at hi)) ⟨_, _, rfl, VA_str, _, _, rfl, VA_str, rfl⟩).mono fun e W' ⟨he, hb⟩ => ⟨_, he, ?_⟩
  exact post_true laidOut (by kernel_rfl) (by kernel_rfl) Tryd.underlying4 rfl hW' rfl hb.toBelow

theorem scriptPieces_named : Tryd.prog.funcNamed "quadrille/quadrillekeep.ScriptPieces" = some 12 := by kernel_rfl

/-- THE STATEMENT. -/
theorem scriptPieces_holds : Rows.ScriptPiecesSaid :=
  OpenClaim.holds_of_wide 12 Tryd.f12 rfl rfl rfl rfl rfl rfl rfl ⟨rfl, rfl, rfl, rfl, rfl⟩ rfl rfl rfl rfl rfl scriptPieces_named Tryd.func12 (joined_of (by kernel_rfl) heavy)
    (of_decide_eq_true (by kernel_rfl)) (by unfold Func.isWrapper; first | (rw [if_pos (by decide +kernel)]; kernel_rfl) | (rw [if_neg (by decide +kernel)]; exact ⟨rfl, rfl⟩))
    (fun os started H enc _ => scriptPieces_lifted os started H enc)

theorem scriptPieces_text : Rows.scriptPiecesRow.wfByText (OpenSpec.ofChange Rows.scriptPiecesSpec) = true := by kernel_rfl
theorem scriptPieces_goes : false = Rows.scriptPiecesRow.goesBy Tryd.prog := by kernel_rfl

/-- THE CARD. -/
theorem scriptPieces_card : Rows.ScriptPiecesCardSaid :=
  Claim7.holds_tied_plain_at .later [] [.handle] true Rows.scriptPiecesCard.stood.harness true
    scriptPieces_holds (fun _ h => by cases h) scriptPieces_text (fun _ h => by cases h) scriptPieces_row_tie rfl ⟨rfl, rfl⟩ mainAll rfl
    (fun f fn hf hfn => by
      obtain rfl : f = 12 := Option.some.inj (scriptPieces_named.symm.trans hf) |>.symm
      obtain rfl : fn = Tryd.f12 := (Option.some.inj (Tryd.func12.symm.trans hfn)).symm
      exact ⟨looksAll, fun j t ht => by
        have hall : (Tryd.f12.params.toList.all fun t => !Tryd.prog.wantsStandIn t) = true := by kernel_rfl
        have := List.all_eq_true.1 hall t (List.mem_of_getElem? (i := j) (by rw [Array.getElem?_toList]; exact ht))
        exact (show Tryd.prog.wantsStandIn t = false by simpa using this)⟩)
    scriptPieces_goes

end Go.Proofs.YtnhldphlkklfiaaDoor
