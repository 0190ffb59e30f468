/- LinGrows: for every input it returns true, and the input reads as it did; what the row lists is tied to the program's text. -/
import Derived.Test.YtlimhldkkbaohaaDoorQLinGrow
import Derived.Test.YtlimhldkkbaohaaDoorQOpen
import Derived.Test.YtlimhldkkbaohaaDoorGOpens
import Derived.Test.YtlimhldkkbaohaaDoorGHead
import Derived.Test.YtlimhldkkbaohaaDoorQOpenDoor
import Derived.Test.YtlimhldkkbaohaaDoorTie
import Derived.Test.YtlimhldkkbaohaaDoorCards
import Derived.SevenTiedAt
namespace Go.Proofs.YtlimhldkkbaohaaDoor
open Go.ChangeShapes Go.WideShapes Go.ChangeAt Go.RowKit Go.Mac

theorem Tryd.own : ownKnob Tryd.prog.godebug = none := by kernel_rfl

set_option maxRecDepth 100000 in
theorem linGrows_lifted (os : Os) (started : os.Started) (H : Type) (enc : TypeId × Value → H) :
    ReturnsInHanded {} Tryd.checked os 14 .any (fun w args => (Rows.linGrowsSpec.pre enc Tryd.prog Tryd.f14 [] false w args ∧ laidMetH Tryd.prog laidE w) ∧ sizedMet enc Tryd.prog Tryd.f14 (OpenSpec.ofChange Rows.linGrowsSpec) false w args) (Rows.linGrowsSpec.post enc Tryd.prog Tryd.f14 false true false false) := by
  refine returnsInHanded_of_change_and (C := Tryd.checked) (X := fun w _ => laidMetH Tryd.prog laidE w) (fun _ _ _ hh h => h.of_heap hh) Tryd.own started (by kernel_rfl) Tryd.func14
    (ChangeSpec.witness_at (enc := enc) (C := Tryd.checked) (os := os) (X := fun w _ => laidMetH Tryd.prog laidE w) false (laidWorld os) #[.slice none 0 0, .int .i64 0, .int .i64 0, .slice none 0 0, .slice none 0 0] 8 rfl (by kernel_rfl) (by kernel_rfl) (by kernel_rfl) (by kernel_rfl) (by kernel_rfl) (laidWorld_met os _)) ?_
  intro W base args ds gs before hval0 hW _ hz hL _
  have hval : ∀ (j : Nat) t v, Tryd.f14.params[j]? = some t → args[j]? = some v → Value.okWide Tryd.prog W .any base t v := hval0
  have hW' := hW
  obtain ⟨p, q, hA0, hV, rfl, hfz, hnd⟩ := hW
  have hA : DataW.TrodAll enc Tryd.prog W 0 (fun _ => true) true Tryd.f14.params.toList args.toList ds p := hA0
  rw [Tryd.params14] at hA hval
  obtain ⟨v0, v1, v2, v3, v4, d0, d1, d2, d3, d4, p0, p1, p2, p3, p4, rfl, rfl, rfl, h0, h1, h2, h3, h4⟩ := trod5 hA
  obtain ⟨rfl, rfl⟩ := trodVars_none hV
  obtain ⟨l0, loc0, w0, k0, m0, hva0, hor0, hro0, hdl0⟩ := open_ints2 (hval 0 _ v0 rfl rfl) h0
  obtain ⟨x1, rfl, _, _, w1⟩ := open_int Tryd.underlying3 (hval 1 _ v1 rfl rfl) h1
  obtain ⟨x2, rfl, _, _, w2⟩ := open_int Tryd.underlying3 (hval 2 _ v2 rfl rfl) h2
  obtain ⟨l3, loc3, _, _, hva3, hor3, hro3, hdl3⟩ := open_moves (hval 3 _ v3 rfl rfl) h3
  have hs3 : l3.length ≤ 8796093022208 := by
    have := row_sized (j := 3) hz rfl rfl Tryd.underlying75 hdl3
    rw [show Tryd.prog.bytesOf 103 = 16 by kernel_rfl] at this
    omega
  obtain ⟨l4, loc4, _, _, hva4, hor4, hro4, hdl4⟩ := open_moves (hval 4 _ v4 rfl rfl) h4
  have hs4 : l4.length ≤ 8796093022208 := by
    have := row_sized (j := 4) hz rfl rfl Tryd.underlying75 hdl4
    rw [show Tryd.prog.bytesOf 103 = 16 by kernel_rfl] at this
    omega
  refine ((linGrows l0 (fun xs hxs x hx => wf_i64 (w0 xs hxs x hx)) k0 m0 x1 (wf_i64 w1) x2 (wf_i64 w2) l3 hs3 l4 hs4).top (Rel.begin (H := [.rows2 true 1 (l0.map fun xs => xs.map rowZ), .rows true 2 (l3.map rowMove), .rows true 2 (l4.map rowMove), rtH]) (L := locOf [loc0, loc3, loc4, ⟨⟨0, 0, 0, 0⟩, fun _ => ⟨0, 0, 0, 0⟩⟩]) (by
    rintro i o hi
    rcases i with _ | i
    · simp only [List.getElem?_cons_zero, Option.some.injEq] at hi; subst hi; exact ⟨hor0 _ _, fun _ h => h, hro0⟩
    simp only [List.getElem?_cons_succ] at hi
    rcases i with _ | i
    · simp only [List.getElem?_cons_zero, Option.some.injEq] at hi; subst hi; exact ⟨hor3 _ _, fun _ h => h, hro3⟩
    simp only [List.getElem?_cons_succ] at hi
    rcases i with _ | i
    · simp only [List.getElem?_cons_zero, Option.some.injEq] at hi; subst hi; exact ⟨hor4 _ _, fun _ h => h, hro4⟩
    simp only [List.getElem?_cons_succ] at hi
    rcases i with _ | i
    · simp only [List.getElem?_cons_zero, Option.some.injEq] at hi; subst hi; exact ⟨handle_obj hL _ _, fun _ h => h, (handle_ro hL _)⟩
    simp only [List.getElem?_cons_succ] at hi
    simp at hi)) ⟨_, _, rfl, hva0 _ _ 0 (by simp) rfl, _, _, rfl, rfl, _, _, rfl, rfl, _, _, rfl, hva3 _ _ 1 (by simp) rfl, _, _, rfl, hva4 _ _ 2 (by simp) rfl, rfl⟩).mono fun e W' ⟨he, hb⟩ => ⟨_, he, ?_⟩
  exact post_true laidOut (by kernel_rfl) (by kernel_rfl) Tryd.underlying4 rfl hW' rfl hb.toBelow

theorem linGrows_named : Tryd.prog.funcNamed "quadrille/quadrillekeep.LinGrows" = some 14 := by kernel_rfl

/-- THE STATEMENT. -/
theorem linGrows_holds : Rows.LinGrowsSaid :=
  OpenClaim.holds_of_wide 14 Tryd.f14 rfl rfl rfl rfl rfl rfl rfl ⟨rfl, rfl, rfl, rfl, rfl⟩ rfl rfl rfl rfl rfl linGrows_named Tryd.func14 (joined_of (by kernel_rfl) heavy)
    (of_decide_eq_true (by kernel_rfl)) (by unfold Func.isWrapper; first | (rw [if_pos (by decide +kernel)]; kernel_rfl) | (rw [if_neg (by decide +kernel)]; exact ⟨rfl, rfl⟩))
    (fun os started H enc _ => linGrows_lifted os started H enc)

theorem linGrows_text : Rows.linGrowsRow.wfByText (OpenSpec.ofChange Rows.linGrowsSpec) = true := by kernel_rfl
theorem linGrows_goes : false = Rows.linGrowsRow.goesBy Tryd.prog := by kernel_rfl

/-- THE CARD. -/
theorem linGrows_card : Rows.LinGrowsCardSaid :=
  Claim7.holds_tied_plain_at .later [] [.handle] true Rows.linGrowsCard.stood.harness true
    linGrows_holds (fun _ h => by cases h) linGrows_text (fun _ h => by cases h) linGrows_row_tie rfl ⟨rfl, rfl⟩ mainAll rfl
    (fun f fn hf hfn => by
      obtain rfl : f = 14 := Option.some.inj (linGrows_named.symm.trans hf) |>.symm
      obtain rfl : fn = Tryd.f14 := (Option.some.inj (Tryd.func14.symm.trans hfn)).symm
      exact ⟨looksAll, fun j t ht => by
        have hall : (Tryd.f14.params.toList.all fun t => !Tryd.prog.wantsStandIn t) = true := by kernel_rfl
        have := List.all_eq_true.1 hall t (List.mem_of_getElem? (i := j) (by rw [Array.getElem?_toList]; exact ht))
        exact (show Tryd.prog.wantsStandIn t = false by simpa using this)⟩)
    linGrows_goes

end Go.Proofs.YtlimhldkkbaohaaDoor
