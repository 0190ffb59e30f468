/- CoreEnds: for every input it returns true, and the input reads as it did; what the row lists is tied to the program's text. -/
import Derived.Test.YtdcpdfgpdomolaaGreatDoorQEnds
import Derived.Test.YtdcpdfgpdomolaaGreatDoorQOpen
import Derived.Test.YtdcpdfgpdomolaaGreatDoorGOpens
import Derived.Test.YtdcpdfgpdomolaaGreatDoorQOpenProgs
import Derived.Test.YtdcpdfgpdomolaaGreatDoorQOpenGreat
import Derived.Test.YtdcpdfgpdomolaaGreatDoorTie
import Derived.Test.YtdcpdfgpdomolaaGreatDoorCards
import Derived.SevenTiedAt
namespace Go.Proofs.YtdcpdfgpdomolaaGreatDoor
open Go.ChangeShapes Go.WideShapes Go.ChangeAt Go.RowKit Go.Mac

theorem Tryz.own : ownKnob Tryz.prog.godebug = none := by kernel_rfl

set_option maxRecDepth 100000 in
theorem coreEnds_lifted (os : Os) (started : os.Started) (H : Type) (enc : TypeId × Value → H) :
    ReturnsInHanded {} Tryz.checked os 5 .any (fun w args => (Rows.coreEndsSpec.pre enc Tryz.prog Tryz.f5 [] false w args ∧ laidMetH Tryz.prog laidE w) ∧ sizedMet enc Tryz.prog Tryz.f5 (OpenSpec.ofChange Rows.coreEndsSpec) false w args) (Rows.coreEndsSpec.post enc Tryz.prog Tryz.f5 false true false false) := by
  refine returnsInHanded_of_change_and (C := Tryz.checked) (X := fun w _ => laidMetH Tryz.prog laidE w) (fun _ _ _ hh h => h.of_heap hh) Tryz.own started (by kernel_rfl) Tryz.func5
    (ChangeSpec.witness_at (enc := enc) (C := Tryz.checked) (os := os) (X := fun w _ => laidMetH Tryz.prog laidE w) false (laidWorld os) #[.slice none 0 0, .slice none 0 0, .slice none 0 0, .slice none 0 0] 8 (laidWorld_os os) (by kernel_rfl) (by kernel_rfl) (by kernel_rfl) (by kernel_rfl) (by kernel_rfl) (laidWorld_met os _)) ?_
  intro W base args ds gs before hval0 hW _ hz hL _
  have hval : ∀ (j : Nat) t v, Tryz.f5.params[j]? = some t → args[j]? = some v → Value.okWide Tryz.prog W .any base t v := hval0
  have hW' := hW
  obtain ⟨p, q, hA0, hV, rfl, hfz, hnd⟩ := hW
  have hA : DataW.TrodAll enc Tryz.prog W 0 (fun _ => true) true Tryz.f5.params.toList args.toList ds p := hA0
  rw [Tryz.params5] at hA hval
  obtain ⟨v0, v1, v2, v3, d0, d1, d2, d3, p0, p1, p2, p3, rfl, rfl, rfl, h0, h1, h2, h3⟩ := trodAll_four hA
  obtain ⟨rfl, rfl⟩ := trodVars_none hV
  obtain ⟨l0, loc0, _, k0, _, hva0, hor0, hro0, hdl0⟩ := open_progs (hval 0 _ v0 rfl rfl) h0
  obtain ⟨l1, loc1, w1, k1, hva1, hor1, hro1, hdl1⟩ := open_row Tryz.underlying23 Tryz.underlying43 (by kernel_rfl) (hval 1 _ v1 rfl rfl) h1
  obtain ⟨l2, loc2, _, _, hva2, hor2, hro2, hdl2⟩ := open_moves (hval 2 _ v2 rfl rfl) h2
  have hs2 : l2.length ≤ 8796093022208 := by
    have := row_sized (j := 2) hz rfl rfl Tryz.underlying24 hdl2
    rw [show Tryz.prog.bytesOf 54 = 16 by kernel_rfl] at this
    omega
  obtain ⟨l3, loc3, _, _, hva3, hor3, hro3, hdl3⟩ := open_moves (hval 3 _ v3 rfl rfl) h3
  have hs3 : l3.length ≤ 8796093022208 := by
    have := row_sized (j := 3) hz rfl rfl Tryz.underlying24 hdl3
    rw [show Tryz.prog.bytesOf 54 = 16 by kernel_rfl] at this
    omega
  refine ((coreEnds2 l0 k0 l1 (fun x hx => wf_u64 (w1 x hx)) k1 l2 hs2 l3 hs3).top (Rel.begin (H := [.rows2 true 5 (l0.map fun p => p.map rowIns), .rows true 1 (l1.map fun x => [.int .u64 x]), .rows true 2 (l2.map rowMove), .rows true 2 (l3.map rowMove), rtH, powH]) (L := locOf [loc0, loc1, loc2, loc3, ⟨⟨0, 0, 0, 0⟩, fun _ => ⟨0, 0, 0, 0⟩⟩, ⟨⟨0, 0, 0, 0⟩, fun _ => ⟨0, 0, 0, 0⟩⟩]) (by
    rintro i o hi
    rcases i with _ | i
    · simp only [List.getElem?_cons_zero, Option.some.injEq] at hi; subst hi; exact ⟨hor0 _ _, fun _ h => h, hro0⟩
    simp only [List.getElem?_cons_succ] at hi
    rcases i with _ | i
    · simp only [List.getElem?_cons_zero, Option.some.injEq] at hi; subst hi; exact ⟨hor1 _ _, fun _ h => h, hro1⟩
    simp only [List.getElem?_cons_succ] at hi
    rcases i with _ | i
    · simp only [List.getElem?_cons_zero, Option.some.injEq] at hi; subst hi; exact ⟨hor2 _ _, fun _ h => h, hro2⟩
    simp only [List.getElem?_cons_succ] at hi
    rcases i with _ | i
    · simp only [List.getElem?_cons_zero, Option.some.injEq] at hi; subst hi; exact ⟨hor3 _ _, fun _ h => h, hro3⟩
    simp only [List.getElem?_cons_succ] at hi
    rcases i with _ | i
    · simp only [List.getElem?_cons_zero, Option.some.injEq] at hi; subst hi; exact ⟨handle_obj hL _ _, fun _ h => h, (handle_ro hL _)⟩
    simp only [List.getElem?_cons_succ] at hi
    rcases i with _ | i
    · simp only [List.getElem?_cons_zero, Option.some.injEq] at hi; subst hi; exact ⟨pow_obj hL _ _, fun _ h => h, (pow_ro hL _)⟩
    simp only [List.getElem?_cons_succ] at hi
    simp at hi)) ⟨_, _, rfl, hva0 _ _ 0 (by simp) rfl, _, _, rfl, hva1 _ _ 1 (by simp) rfl, _, _, rfl, hva2 _ _ 2 (by simp) rfl, _, _, rfl, hva3 _ _ 3 (by simp) rfl, rfl⟩).mono fun e W' ⟨he, hb⟩ => ⟨_, he, ?_⟩
  exact post_true laidOut (by kernel_rfl) (by kernel_rfl) Tryz.underlying4 rfl hW' rfl hb.toBelow

/-- THE STATEMENT. -/
theorem coreEnds_holds : Rows.CoreEndsSaid :=
  OpenClaim.holds_of_wide 5 Tryz.f5 rfl rfl rfl rfl rfl rfl rfl ⟨rfl, rfl, rfl, rfl, rfl⟩ rfl rfl rfl rfl rfl (by kernel_rfl) Tryz.func5 (by kernel_rfl)
    (of_decide_eq_true (by kernel_rfl)) (by unfold Func.isWrapper; first | (rw [if_pos (by decide +kernel)]; kernel_rfl) | (rw [if_neg (by decide +kernel)]; exact ⟨rfl, rfl⟩))
    (fun os started H enc _ => coreEnds_lifted os started H enc)

/-- THE CARD. -/
theorem coreEnds_card : Rows.CoreEndsCardSaid :=
  Claim7.holds_tied_plain_at .later [] [.data, .data, .data, .data, .handle, .sentinel, .sentinel, .pinned] true Rows.coreEndsCard.stood.harness true
    coreEnds_holds (fun _ h => by cases h) (by kernel_rfl) (fun _ h => by cases h) coreEnds_row_tie rfl ⟨rfl, rfl⟩ (by kernel_rfl) rfl
    (fun f fn hf hfn => by
      obtain rfl : f = 5 := Option.some.inj ((show Tryz.prog.funcNamed "quadrille/quadrillekeep.CoreEnds" = some 5 by kernel_rfl).symm.trans hf) |>.symm
      obtain rfl : fn = Tryz.f5 := (Option.some.inj (Tryz.func5.symm.trans hfn)).symm
      exact ⟨by kernel_rfl, fun j t ht => by
        have hall : (Tryz.f5.params.toList.all fun t => !Tryz.prog.wantsStandIn t) = true := by kernel_rfl
        have := List.all_eq_true.1 hall t (List.mem_of_getElem? (i := j) (by rw [Array.getElem?_toList]; exact ht))
        exact (show Tryz.prog.wantsStandIn t = false by simpa using this)⟩)
    (by kernel_rfl)

end Go.Proofs.YtdcpdfgpdomolaaGreatDoor
