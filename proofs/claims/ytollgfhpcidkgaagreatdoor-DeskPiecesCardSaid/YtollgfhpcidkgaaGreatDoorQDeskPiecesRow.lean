import Derived.Test.YtollgfhpcidkgaaGreatDoorA29
import Derived.ChangeMaps5
import Derived.Test.YtollgfhpcidkgaaGreatDoorTie
import Derived.Test.YtollgfhpcidkgaaGreatDoorCards
import Derived.SevenTiedAt

namespace Go.Proofs.YtollgfhpcidkgaaGreatDoor
open Go.ChangeShapes Go.WideShapes Go.ChangeAt Go.RowKit Go.Mac

theorem Tryz.own:ownKnob Tryz.prog.godebug=none:=by kernel_rfl

set_option maxRecDepth 100000 in
theorem deskPieces_lifted (os:Os) (started:os.Started) (H:Type) (enc:TypeId×Value→H) :
  ReturnsInHanded {} Tryz.checked os 3 .any (fun w args=>(Rows.deskPiecesSpec.pre enc Tryz.prog Tryz.f3 [] false w args∧laidMetH Tryz.prog laidE w)∧sizedMet enc Tryz.prog Tryz.f3 (OpenSpec.ofChange Rows.deskPiecesSpec) false w args) (Rows.deskPiecesSpec.post enc Tryz.prog Tryz.f3 false true false false):=by
 refine returnsInHanded_of_change_and (C:=Tryz.checked) (X:=fun w _=>laidMetH Tryz.prog laidE w) (fun _ _ _ hh h=>h.of_heap hh) Tryz.own started (by kernel_rfl) Tryz.func3
  (ChangeSpec.witness_at (enc:=enc) (C:=Tryz.checked) (os:=os) (X:=fun w _=>laidMetH Tryz.prog laidE w) false (laidWorld os) #[.string ⟨#[]⟩,.string ⟨#[]⟩] 8 (laidWorld_os os) (by kernel_rfl) (by kernel_rfl) (by kernel_rfl) (by kernel_rfl) (by kernel_rfl) (laidWorld_met os _)) ?_
 intro W base args ds gs before hval0 hW _ _ hL _
 have hval:∀ (j:Nat) t v,Tryz.f3.params[j]? = some t→args[j]? = some v→Value.okWide Tryz.prog W .any base t v:=hval0
 have hW':=hW
 obtain ⟨p,q,hA0,hV,rfl,hfz,hnd⟩:=hW
 have hA:DataW.TrodAll enc Tryz.prog W 0 (fun _=>true) true Tryz.f3.params.toList args.toList ds p:=hA0
 rw [Tryz.params3] at hA hval
 obtain ⟨v0,v1,d0,d1,p0,p1,rfl,rfl,rfl,h0,h1⟩:=trodAll_two hA
 obtain ⟨rfl,rfl⟩:=trodVars_none hV
 obtain ⟨s0,rfl,_,_,w0⟩:=Go.ChangeMaps.open_string Tryz.underlying9 (hval 0 _ v0 rfl rfl) h0
 obtain ⟨s1,rfl,_,_,w1⟩:=Go.ChangeMaps.open_string Tryz.underlying9 (hval 1 _ v1 rfl rfl) h1
 refine ((deskPieces s0.data.toList w0 s1.data.toList w1).top (Rel.begin (H:=[rtH,powH,errS,errR,namH]) (L:=locOf [⟨⟨0,0,0,0⟩,fun _=>⟨0,0,0,0⟩⟩,⟨⟨0,0,0,0⟩,fun _=>⟨0,0,0,0⟩⟩,⟨⟨0,0,0,0⟩,fun _=>⟨0,0,0,0⟩⟩,⟨⟨0,0,0,0⟩,fun _=>⟨0,0,0,0⟩⟩,⟨⟨0,0,0,0⟩,fun _=>⟨0,0,0,0⟩⟩]) (by
  rintro i o hi
  rcases i with _ | i
  · simp only [List.getElem?_cons_zero,Option.some.injEq] at hi;subst hi;exact ⟨handle_obj hL _ _,fun _ h=>h,(handle_ro hL _)⟩
  simp only [List.getElem?_cons_succ] at hi
  rcases i with _ | i
  · simp only [List.getElem?_cons_zero,Option.some.injEq] at hi;subst hi;exact ⟨pow_obj hL _ _,fun _ h=>h,(pow_ro hL _)⟩
  simp only [List.getElem?_cons_succ] at hi
  rcases i with _ | i
  · simp only [List.getElem?_cons_zero,Option.some.injEq] at hi;subst hi;exact ⟨errS_obj hL _ _,fun _ h=>h,(errS_ro hL _)⟩
  simp only [List.getElem?_cons_succ] at hi
  rcases i with _ | i
  · simp only [List.getElem?_cons_zero,Option.some.injEq] at hi;subst hi;exact ⟨errR_obj hL _ _,fun _ h=>h,(errR_ro hL _)⟩
  simp only [List.getElem?_cons_succ] at hi
  rcases i with _ | i
  · simp only [List.getElem?_cons_zero,Option.some.injEq] at hi;subst hi;exact ⟨names_obj hL _ _,fun _ h=>h,(names_ro hL _)⟩
  simp only [List.getElem?_cons_succ] at hi
  simp at hi)) ⟨_,_,rfl,VA_str,_,_,rfl,VA_str,rfl⟩).mono fun e W' ⟨he,hb⟩=>⟨_,he,?_⟩
 exact post_true laidOut (by kernel_rfl) (by kernel_rfl) Tryz.underlying4 rfl hW' rfl hb.toBelow

theorem deskPieces_named:Tryz.prog.funcNamed "quadrille/quadrillekeep.DeskPieces" = some 3:=by kernel_rfl

theorem deskPieces_holds:Rows.DeskPiecesSaid :=
 OpenClaim.holds_of_wide_leaving 3 Tryz.f3 rfl rfl rfl rfl rfl rfl rfl ⟨rfl,rfl,rfl,rfl,rfl⟩ rfl rfl rfl rfl rfl deskPieces_named Tryz.func3 (joined_of (by kernel_rfl) heavy)
  (oTr (by kernel_rfl)) (by unfold Func.isWrapper;first | (rw [if_pos (by decide +kernel)];kernel_rfl) | (rw [if_neg (by decide +kernel)];exact ⟨rfl,rfl⟩))
  (fun os started H enc _=>leaving_of_handed (deskPieces_lifted os started H enc))

theorem deskPieces_text:Rows.deskPiecesRow.wfByText (OpenSpec.ofChange Rows.deskPiecesSpec)=true:=by kernel_rfl
theorem deskPieces_goes:true=Rows.deskPiecesRow.goesBy Tryz.prog:=by kernel_rfl

theorem deskPieces_card:Rows.DeskPiecesCardSaid :=
 holds_tied_goes .later [] [.data,.data,.data,.data,.handle,.sentinel,.sentinel,.data,.pinned] true Rows.deskPiecesCard.stood.harness true
  deskPieces_holds (fun _ h=>by cases h) deskPieces_text (fun _ h=>by cases h) deskPieces_row_tie rfl ⟨rfl,rfl⟩ mainAll rfl
  (fun f fn hf hfn=>by
    obtain rfl:f=3:=Option.some.inj (deskPieces_named.symm.trans hf) |>.symm
    obtain rfl:fn=Tryz.f3:=(Option.some.inj (Tryz.func3.symm.trans hfn)).symm
    exact ⟨looksAll,fun j t ht=>by
     have hall:(Tryz.f3.params.toList.all fun t=>!Tryz.prog.wantsStandIn t)=true:=by kernel_rfl
     have:=List.all_eq_true.1 hall t (List.mem_of_getElem? (i:=j) (by rw [Array.getElem?_toList];exact ht))
     exact (show Tryz.prog.wantsStandIn t=false by simpa using this)⟩)
  deskPieces_goes

end Go.Proofs.YtollgfhpcidkgaaGreatDoor
