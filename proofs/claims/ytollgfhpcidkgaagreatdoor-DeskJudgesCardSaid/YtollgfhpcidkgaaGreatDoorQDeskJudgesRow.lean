import Derived.Test.YtollgfhpcidkgaaGreatDoorA25
import Derived.Test.YtollgfhpcidkgaaGreatDoorTie
import Derived.Test.YtollgfhpcidkgaaGreatDoorCards
import Derived.SevenTiedAt

namespace Go.Proofs.YtollgfhpcidkgaaGreatDoor
open Go.ChangeShapes Go.WideShapes Go.ChangeAt Go.RowKit Go.Mac

theorem Tryz.own:ownKnob Tryz.prog.godebug=none:=by kernel_rfl

set_option maxRecDepth 100000 in
theorem deskJudges_lifted (os:Os) (started:os.Started) (H:Type) (enc:TypeId×Value→H) :
   ReturnsInHanded {} Tryz.checked os 5 .any (fun w args=>(Rows.deskJudgesSpec.pre enc Tryz.prog Tryz.f5 [] false w args∧laidMetH Tryz.prog laidE w)∧sizedMet enc Tryz.prog Tryz.f5 (OpenSpec.ofChange Rows.deskJudgesSpec) false w args) (Rows.deskJudgesSpec.post enc Tryz.prog Tryz.f5 false true false false):=by
 refine returnsInHanded_of_change_and (C:=Tryz.checked) (X:=fun w _=>laidMetH Tryz.prog laidE w) (fun _ _ _ hh h=>h.of_heap hh) Tryz.own started (by kernel_rfl) Tryz.func5
   (ChangeSpec.witness_at (enc:=enc) (C:=Tryz.checked) (os:=os) (X:=fun w _=>laidMetH Tryz.prog laidE w) false (laidWorld os) #[.int .i64 0,.int .i64 0,.int .i64 0,.slice none 0 0] 8 (laidWorld_os os) (by kernel_rfl) (by kernel_rfl) (by kernel_rfl) (by kernel_rfl) (by kernel_rfl) (laidWorld_met os _)) ?_
 intro W base args ds gs before hval0 hW _ _ hL _
 have hval:∀ (j:Nat) t v,Tryz.f5.params[j]? = some t→args[j]? = some v→Value.okWide Tryz.prog W .any base t v:=hval0
 have hW':=hW
 obtain ⟨p,q,hA0,hV,rfl,hfz,hnd⟩:=hW
 have hA:DataW.TrodAll enc Tryz.prog W 0 (fun _=>true) true Tryz.f5.params.toList args.toList ds p:=hA0
 rw [Tryz.params5] at hA hval
 obtain ⟨v0,v1,v2,v3,d0,d1,d2,d3,p0,p1,p2,p3,rfl,rfl,rfl,h0,h1,h2,h3⟩:=trodAll_four hA
 obtain ⟨rfl,rfl⟩:=trodVars_none hV
 obtain ⟨x0,rfl,_,_,w0⟩:=open_int Tryz.underlying3 (hval 0 _ v0 rfl rfl) h0
 obtain ⟨x1,rfl,_,_,w1⟩:=open_int Tryz.underlying3 (hval 1 _ v1 rfl rfl) h1
 obtain ⟨x2,rfl,_,_,w2⟩:=open_int Tryz.underlying3 (hval 2 _ v2 rfl rfl) h2
 obtain ⟨l3,loc3,w3,_,hva3,hor3,hro3,hdl3⟩:=open_row Tryz.underlying36 Tryz.underlying3 (by kernel_rfl) (hval 3 _ v3 rfl rfl) h3
 refine ((deskJudges x0 (wf_i64 w0) x1 (wf_i64 w1) x2 (wf_i64 w2) l3 (fun x hx=>wf_i64 (w3 x hx))).top (Rel.begin (H:=[.rows true 1 (l3.map fun x=>[.int .i64 x]),rtH,powH,errS,errR,namH]) (L:=locOf [loc3,⟨⟨0,0,0,0⟩,fun _=>⟨0,0,0,0⟩⟩,⟨⟨0,0,0,0⟩,fun _=>⟨0,0,0,0⟩⟩,⟨⟨0,0,0,0⟩,fun _=>⟨0,0,0,0⟩⟩,⟨⟨0,0,0,0⟩,fun _=>⟨0,0,0,0⟩⟩,⟨⟨0,0,0,0⟩,fun _=>⟨0,0,0,0⟩⟩]) (by
   rintro i o hi
   rcases i with _ | i
   · simp only [List.getElem?_cons_zero,Option.some.injEq] at hi;subst hi;exact ⟨hor3 _ _,fun _ h=>h,hro3⟩
   simp only [List.getElem?_cons_succ] at hi
   rcases i with _ | i
   · simp only [List.getElem?_cons_zero,Option.some.injEq] at hi;subst hi;exact ⟨handle_obj hL _ _,fun _ h=>h,(handle_ro hL _)⟩
   simp only [List.getElem?_cons_succ] at hi
   rcases i with _ | i
   · simp only [List.getElem?_cons_zero,Option.some.injEq] at hi;subst hi;exact ⟨pow_obj hL _ _,fun _ h=>h,(pow_ro hL _)⟩
   simp only [List.getElem?_cons_succ] at hi
   rcases i with _ | i
   · simp only [List.getElem?_cons_zero,Option.some.injEq] at hi;subst hi;exact ⟨errS_obj hL _ _,fun _ h=>h,(errS_ro hL _)⟩
   simp only [List.getElem?_cons_succ] at hi
   rcases i with _ | i
   · simp only [List.getElem?_cons_zero,Option.some.injEq] at hi;subst hi;exact ⟨errR_obj hL _ _,fun _ h=>h,(errR_ro hL _)⟩
   simp only [List.getElem?_cons_succ] at hi
   rcases i with _ | i
   · simp only [List.getElem?_cons_zero,Option.some.injEq] at hi;subst hi;exact ⟨names_obj hL _ _,fun _ h=>h,(names_ro hL _)⟩
   simp only [List.getElem?_cons_succ] at hi
   simp at hi)) ⟨_,_,rfl,rfl,_,_,rfl,rfl,_,_,rfl,rfl,_,_,rfl,hva3 _ _ 0 (by simp) rfl,rfl⟩).mono fun e W' ⟨he,hb⟩=>⟨_,he,?_⟩
 exact post_true laidOut (by kernel_rfl) (by kernel_rfl) Tryz.underlying4 rfl hW' rfl hb.toBelow

theorem deskJudges_named:Tryz.prog.funcNamed "quadrille/quadrillekeep.DeskJudges" = some 5:=by kernel_rfl

theorem deskJudges_holds:Rows.DeskJudgesSaid :=
 OpenClaim.holds_of_wide_leaving 5 Tryz.f5 rfl rfl rfl rfl rfl rfl rfl ⟨rfl,rfl,rfl,rfl,rfl⟩ rfl rfl rfl rfl rfl deskJudges_named Tryz.func5 (joined_of (by kernel_rfl) heavy)
   (of_decide_eq_true (by kernel_rfl)) (by unfold Func.isWrapper;first | (rw [if_pos (by decide +kernel)];kernel_rfl) | (rw [if_neg (by decide +kernel)];exact ⟨rfl,rfl⟩))
   (fun os started H enc _=>leaving_of_handed (deskJudges_lifted os started H enc))

theorem deskJudges_text:Rows.deskJudgesRow.wfByText (OpenSpec.ofChange Rows.deskJudgesSpec)=true:=by kernel_rfl
theorem deskJudges_goes:true=Rows.deskJudgesRow.goesBy Tryz.prog:=by kernel_rfl

theorem deskJudges_card:Rows.DeskJudgesCardSaid :=
 holds_tied_goes .later [] [.data,.data,.data,.data,.handle,.sentinel,.sentinel,.data,.pinned] true Rows.deskJudgesCard.stood.harness true
   deskJudges_holds (fun _ h=>by cases h) deskJudges_text (fun _ h=>by cases h) deskJudges_row_tie rfl ⟨rfl,rfl⟩ mainAll rfl
   (fun f fn hf hfn=>by
     obtain rfl:f=5:=Option.some.inj (deskJudges_named.symm.trans hf) |>.symm
     obtain rfl:fn=Tryz.f5:=(Option.some.inj (Tryz.func5.symm.trans hfn)).symm
     exact ⟨looksAll,fun j t ht=>by
       have hall:(Tryz.f5.params.toList.all fun t=>!Tryz.prog.wantsStandIn t)=true:=by kernel_rfl
       have:=List.all_eq_true.1 hall t (List.mem_of_getElem? (i:=j) (by rw [Array.getElem?_toList];exact ht))
       exact (show Tryz.prog.wantsStandIn t=false by simpa using this)⟩)
   deskJudges_goes

end Go.Proofs.YtollgfhpcidkgaaGreatDoor
