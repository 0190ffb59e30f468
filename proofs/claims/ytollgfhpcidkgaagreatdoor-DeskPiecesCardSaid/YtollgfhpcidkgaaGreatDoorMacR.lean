import Derived.Test.YtollgfhpcidkgaaGreatDoorA6
import Derived.RangeFuncLeaves

namespace Go.Mac
open Go

section

variable {B R X:Nat→Prop} {w0 w1:World} {L L':Nat→Loc} {H H':List PO} {w w':World}

theorem Rel.elsewhere (h:Rel B R w0 L H w) (hf:Free B X L H w) (hos:w'.os=w.os) (htape:w'.tape=w.tape) (hout:w'.output=w.output) (hsz:w.heap.size≤w'.heap.size)
 (hb:∀ k,k<w.heap.size→¬X k→w'.heap[k]? = w.heap[k]?):Rel B R w0 L H w'∧Free B X L H w':=by
 have hB:∀ k,B k→w'.heap[k]? = w.heap[k]?:=fun k hk=>hb k (h.size k hk) fun hx=>(hf k hx).2.1 hk
 refine ⟨⟨h.below.trans ⟨hos,htape,hout,hsz,hB⟩,h.start,fun i o hi=>?_,fun i o b hi ho=>?_,h.ro,h.sub⟩,fun b hX=>?_⟩
 · have:=(h.obj i o hi).mono (M:=[]) (w':=w') (Nat.le_refl _) (Agree.refl _ _ _) fun b hob=>by
    rcases hob with ho | hr
    · exact hb b (h.own i o b hi ho).2.1 fun hx=>(hf b hx).2.2 i o hi ho
    · exact hB b (h.sub b (h.ro i o b hi hr))
   rwa [killO_nil] at this
 · obtain ⟨h1,h2,h3⟩:=h.own i o b hi ho
   exact ⟨h1,Nat.lt_of_lt_of_le h2 hsz,h3⟩
 · obtain ⟨h1,h2,h3⟩:=hf b hX
   exact ⟨Nat.lt_of_lt_of_le h1 hsz,h2,h3⟩

end

section

variable {F:Fence} {n:Nat} {P:Program}

def roundEnd (P:Program) (l:Nat) (R:Ending→World→Prop):Exit→Act→World→Prop
 | .normal,_,w=>∃ v w',(Instr.endRound l none).run P w=.ok v w'∧R (.returned v) w'
 | .panic ch,a,w=>a.defers=[]∧R (.panicked ch) w
 | _,_,_=>False

theorem round_of {l:Nat} {f:FuncId} {fn:Func} {tmps:Array Value} {assign body:Code} {w:World} {R:Ending→World→Prop} (hF:F.fn f) (hfn:P.funcs[f]? = some fn)
 (h:assign.wpIn (F.inRound l) n P (Exit.then (fun a₁ w₁=>∃ w₂,(Instr.beginRound l).run P w₁ = .ok () w₂∧body.wpIn (F.inRound l) n P (roundEnd P l R) a₁ w₂) (fun _ _ _=>False)) { tmps:=tmps,defers:=[] } w) :
 RoundIn F n P l f tmps assign body w R:=by
 refine ⟨hF,fun c cs hr=>?_⟩
 obtain ⟨b,hb⟩ : ∃ b:Frame,b = { (default:Frame) with fn:=f,kind:=.normal,roundOf:=some l }:=⟨_,rfl⟩
 have hb0:Frame.round l f tmps assign body .normal=b.atR { tmps:=tmps,defers:=[] } [.code assign,.beginRound,.code body]:=by
  simp [Frame.round,Frame.atR,hb]
 have hbf:b.fn=f:=by rw [hb]
 have hbr:b.roundOf=some l:=by rw [hb]
 have hbk:b.kind=.normal:=by rw [hb]
 have hr':(F.inRound l).room ((c::cs).length+1+n):=hr
 have hF':(F.inRound l).fn b.fn:=by rw [hbf];exact hF
 obtain ⟨e,a₁,w₁,hq,harr⟩:=h b [.beginRound,.code body] (c::cs) hbr hF' hr'
 rw [←hb0] at harr
 cases e with
 | normal =>
   obtain ⟨w₂,hbeg,hbody⟩:=hq
   have s1:StepsIn (Machine.fenced P (F.inRound l)) P (lone (b.atR a₁ [.beginRound,.code body]) (c::cs) w₁) (lone (b.atR a₁ [.code body]) (c::cs) w₂) :=
    .one (fenced_calm (fr:=b.atR a₁ [.beginRound,.code body]) hF' hr' rfl) (stepR_beginRound hbr hbeg)
   obtain ⟨e₂,a₂,w₃,hq₂,harr₂⟩:=hbody b [] (c::cs) hbr hF' hr'
   cases e₂ with
   | normal =>
     obtain ⟨v,w₄,hend,hR⟩:=hq₂
     exact ⟨.returned v,w₄,hR,(StepsIn.trans harr s1).trans (StepsIn.trans harr₂ (.one (fenced_calm (fr:=b.atR a₂ []) hF' hr' rfl) (stepR_round_end hbr hbk hend)))⟩
   | panic ch =>
     obtain ⟨hd,hR⟩:=hq₂
     obtain ⟨todo,hs⟩:=harr₂
     have hl:({ b.atR a₂ todo with mode:=.panicking ch }:Frame).leaving P w₃ (.panicked ch):=⟨rfl,hd,fn,by rw [←hfn,←hbf];rfl⟩
     refine ⟨.panicked ch,w₃,hR,(StepsIn.trans harr s1).trans (StepsIn.trans hs (.one ?_ (step_leave_panicked hl)))⟩
     exact fenced_leaving (F:=F.inRound l) (n:=n) (fr:={ b.atR a₂ todo with mode:=.panicking ch }) hF' hr' hl
   | ret=>exact hq₂.elim
   | exit id=>exact hq₂.elim
   | goto t=>exact hq₂.elim
   | outgrown=>exact hq₂.elim
 | exit id=>exact hq.elim
 | goto t=>exact hq.elim
 | ret=>exact hq.elim
 | panic chain=>exact hq.elim
 | outgrown=>exact hq.elim

def wpE (F:Fence) (n:Nat) (P:Program) (c:Code) (Q:Exit→Act→World→Prop) (a:Act) (w:World):Prop :=
 ∀ (b:Frame) (k:List Item) (cs:List Frame),b.roundOf=F.round→F.fn b.fn→(∃ fn,P.funcs[b.fn]? = some fn)→F.room (cs.length+1+n) →
   ∃ e a' w',Q e a' w'∧ArrivesIn (Machine.fenced P F) P (lone (b.atR a (.code c::k)) cs w) b k cs e a' w'

variable {Q:Exit→Act→World→Prop} {a:Act} {w:World}

theorem wpE_of {c:Code} (h:c.wpIn F n P Q a w):wpE F n P c Q a w:=fun b k cs h1 h2 _ h4=>h b k cs h1 h2 h4

theorem wpE_seq {x y:Code} (h:wpE F n P x (Exit.then (wpE F n P y Q) Q) a w):wpE F n P (.seq x y) Q a w:=by
 intro b k cs hro hb hfn hr
 have h0:(lone (b.atR a (.code (.seq x y)::k)) cs w).fenced P F:=fenced_calm hb hr rfl
 obtain ⟨e,a₁,w₁,hq,harr⟩:=h b (.code y::k) cs hro hb hfn hr
 cases e with
 | normal =>
   obtain ⟨e₂,a₂,w₂,hq₂,harr₂⟩:=hq b k cs hro hb hfn hr
   exact ⟨e₂,a₂,w₂,hq₂,.of_steps (.head h0 stepR_seq harr) harr₂⟩
 | exit id=>exact ⟨_,a₁,w₁,hq,.of_steps (.one h0 stepR_seq) (.pass (x:=.code y) rfl (fun _ _=>.inl (by simp)) harr)⟩
 | goto l=>exact ⟨_,a₁,w₁,hq,.of_steps (.one h0 stepR_seq) (.pass (x:=.code y) rfl (fun _ _=>.inl (by simp)) harr)⟩
 | ret=>exact ⟨_,a₁,w₁,hq,.of_steps (.one h0 stepR_seq) (.pass (x:=.code y) rfl (fun _ _=>.inl (by simp)) harr)⟩
 | panic ch=>exact ⟨_,a₁,w₁,hq,.of_steps (.one h0 stepR_seq) (.pass (x:=.code y) rfl (fun _ _=>.inl (by simp)) harr)⟩
 | outgrown=>exact ⟨_,a₁,w₁,hq,.of_steps (.one h0 stepR_seq) (.pass (x:=.code y) rfl (fun _ _=>.inl (by simp)) harr)⟩

theorem wpE_block {id:Nat} {c:Code} (h:wpE F n P c (fun e a w=>match e with
 | .normal=>Q .normal a w
 | .panic ch=>Q (.panic ch) a w
 | _=>False) a w):wpE F n P (.block id c) Q a w:=by
 intro b k cs hro hb hfn hr
 have h0:(lone (b.atR a (.code (.block id c)::k)) cs w).fenced P F:=fenced_calm hb hr rfl
 obtain ⟨e,a₁,w₁,hq,harr⟩:=h b (.inBlock id::k) cs hro hb hfn hr
 cases e with
 | normal=>exact ⟨.normal,a₁,w₁,hq,.head h0 stepR_block (StepsIn.trans harr (.one (fenced_calm hb hr rfl) stepR_inBlock))⟩
 | panic ch =>
   obtain ⟨todo,hs⟩:=harr
   exact ⟨.panic ch,a₁,w₁,hq,todo,.head h0 stepR_block hs⟩
 | exit id'=>exact hq.elim
 | goto l=>exact hq.elim
 | ret=>exact hq.elim
 | outgrown=>exact hq.elim

theorem wpE_rangeFunc {g:Operand} {ps:Array Tmp} {assign body:Code}
 (h:∀ fn,F.fn fn→(∃ f,P.funcs[fn]? = some f)→∃ (l:Nat) (mark:List Deferred) (w₁:World) (d:Deferred) (w₁':World) (f:FuncId) (args:Array Value) (w₂:World),
   (Instr.enterLoop fn a.tmps ps assign body F.round).run P w=.ok (l,mark) w₁ ∧
   (resolve a.eval (rangeCall g l) 0).run P w₁ = .ok d w₁' ∧
   (∀ f',Target.leads P w₁' d.target d.args=some f'→F.fn f') ∧
   (invoke d.target d.args).run P w₁'=.ok (.enter f args) w₂ ∧
   (F.depth.isSome=true→1≤n) ∧
   CallsIn F (n-1) P f args w₂ (rangePost F n P l Q { a with defers:=mark++a.defers })) :
 wpE F n P (.rangeFunc g ps assign body) Q a w:=by
 intro b k cs hro hb hfn hr
 obtain ⟨l,mark,w₁,d,w₁',f,args,w₂,he,hres,hlead,hinv,hn,hF,hcall⟩:=h b.fn hb hfn
 rw [←hro] at he
 have h0:(lone (b.atR a (.code (.rangeFunc g ps assign body)::k)) cs w).fenced P F:=by
  refine fenced_lone (.inl hb) (fun f' hf'=>hlead f' ?_) (Fence.room_le hr (by omega))
  have hev:=Frame.eval_atR b a (.code (.rangeFunc g ps assign body)::k)
  simp only [Frame.atR] at hev
  simp only [Frame.about,Frame.atR,he,hev,hres] at hf'
  exact hf'
 have henter:=stepR_rangeFunc (P:=P) (b:=b) (a:=a) (k:=k) (cs:=cs) (w:=w) he hres hinv
 obtain ⟨a2,ha2⟩ : ∃ a2:Act,a2 = { a with defers:=mark++a.defers }:=⟨_,rfl⟩
 rw [←ha2] at henter hcall
 have hroom:F.room ((b.atR a2 (.inRangeFunc l::k)::cs).length+1+(n-1)):=Fence.room_enter hr hn
 obtain ⟨e,w₃,fr,hR,hsteps,hfn',hleave⟩:=hcall (b.atR a2 (.inRangeFunc l::k)::cs) hroom
 cases e with
 | outgrown =>
   obtain ⟨a₀,w₀,hq⟩:=hR
   exact ⟨.outgrown,a₀,w₀,hq,.inr (Outgrown.of_steps (.one henter) hsteps)⟩
 | returned v =>
   have hl:(lone fr (b.atR a2 (.inRangeFunc l::k)::cs) w₃).fenced P F:=fenced_leaving (hfn' ▸ hF) hroom hleave
   obtain ⟨jump,w₄,hend,hj⟩:=hR
   have sback:StepsIn (Machine.fenced P F) P (lone (b.atR a (.code (.rangeFunc g ps assign body)::k)) cs w) (lone (b.atR a2 ((jump.map Item.code).toList++k)) cs w₄):=by
    refine .head h0 henter (StepsIn.trans hsteps (.head hl ?_ (.one (fenced_calm (fr:=b.atR a2 (.endRangeFunc l::k)) hb hr rfl) (stepR_endRangeFunc hend))))
    rw [←finish_atR_inRangeFunc l v];exact step_leave_returned hleave
   cases jump with
   | none=>exact ⟨.normal,_,w₄,hj,sback⟩
   | some c =>
     obtain ⟨e',a'',w₅,hq,harr⟩:=hj b k cs hro hb hr
     exact ⟨e',a'',w₅,hq,.of_steps sback harr⟩
 | panicked chain =>
   have hl:(lone fr (b.atR a2 (.inRangeFunc l::k)::cs) w₃).fenced P F:=fenced_leaving (hfn' ▸ hF) hroom hleave
   refine ⟨.panic chain,_,w₃,hR,.inRangeFunc l::k,.head h0 henter (StepsIn.trans hsteps (.one hl ?_))⟩
   rw [←Frame.raise_atR];exact step_leave_panicked hleave

theorem callsIn_of_wpE {f:FuncId} {fn:Func} {c:Code} {args:Array Value} {R:Ending→World→Prop} (hf:P.funcs[f]? = some fn) (hb:fn.body=some c) (hF:F.fn f) (hro:F.round=none)
 (h:wpE F n P c (fun e a w=>match e with
   | .normal=>LeavesInM F n P fn a.tmps R a.defers .returning w
   | .ret=>LeavesInM F n P fn a.tmps R a.defers .returning w
   | .panic ch=>LeavesInM F n P fn a.tmps R a.defers (.panicking ch) w
   | _=>False) { tmps:=args++Array.replicate (fn.ntmps-args.size) undef,defers:=[] } w):CallsIn F n P f args w R:=by
 refine ⟨hF,fun cs hr=>?_⟩
 obtain ⟨b,hbe⟩ : ∃ b:Frame,b = { (default:Frame) with fn:=f,kind:=.normal,roundOf:=none }:=⟨_,rfl⟩
 have henter:Frame.enter P f args .normal=b.atR { tmps:=args++Array.replicate (fn.ntmps-args.size) undef,defers:=[] } [.code c]:=by
  simp [Frame.enter,Frame.atR,hf,hb,hbe]
 have hbf:b.fn=f:=by rw [hbe]
 have hbr:b.roundOf=none:=by rw [hbe]
 have hbk:b.kind=.normal:=by rw [hbe]
 obtain ⟨e,a',w',hq,harr⟩:=h b [] cs (by rw [hbr,hro]) (by rw [hbf];exact hF) ⟨fn,by rw [hbf];exact hf⟩ hr
 rw [←henter] at harr
 cases e with
 | normal =>
   obtain ⟨e',w'',fr',hR,hs,hfn,hl⟩:=leaves_stepsInM a'.defers .returning w' { b.atR a' [] with mode:=.returning } cs rfl rfl rfl (by rw [←hbf] at hf;exact hf) hbk (by rw [←hbf] at hF;exact hF) hr hq
   exact ⟨e',w'',fr',hR,ComesIn.of_steps (StepsIn.trans harr (.one (fenced_calm (fr:=b.atR a' []) (by rw [←hbf] at hF;exact hF) hr rfl) (stepR_end hbr))) hs,hfn.trans hbf,hl⟩
 | ret =>
   obtain ⟨todo,hs₀⟩:=harr.1 hbr
   obtain ⟨e',w'',fr',hR,hs,hfn,hl⟩:=leaves_stepsInM a'.defers .returning w' { b.atR a' todo with mode:=.returning } cs rfl rfl rfl (by rw [←hbf] at hf;exact hf) hbk (by rw [←hbf] at hF;exact hF) hr hq
   exact ⟨e',w'',fr',hR,ComesIn.of_steps hs₀ hs,hfn.trans hbf,hl⟩
 | panic chain =>
   obtain ⟨todo,hs₀⟩:=harr
   obtain ⟨e',w'',fr',hR,hs,hfn,hl⟩:=leaves_stepsInM a'.defers (.panicking chain) w' { b.atR a' todo with mode:=.panicking chain } cs rfl rfl rfl (by rw [←hbf] at hf;exact hf) hbk (by rw [←hbf] at hF;exact hF) hr hq
   exact ⟨e',w'',fr',hR,ComesIn.of_steps hs₀ hs,hfn.trans hbf,hl⟩
 | exit id=>exact hq.elim
 | goto l=>exact hq.elim
 | outgrown=>exact hq.elim

end

section

variable {P:Program} {nt N0:Nat} {D:List Deferred}

def seqs:List Code→Code→Code
 | [],z=>z
 | x::xs,z=>.seq x (seqs xs z)

abbrev CXN:=Tm→List Nat→List PO→QX→(Tm→List Nat→List PO→Prop)→Prop

noncomputable def XRs (P:Program) (nt N0:Nat) (D:List Deferred) (xs:List Code):CXN :=
 @List.rec Code (fun _=>CXN) (fun T M H _ next=>next T M H) (fun x _ ih=>fun T M H Q next=>XR P nt N0 D x T M H (andX (fun T' M' H'=>ih T' M' H' Q next) Q)) xs

theorem XRs_run {z:Code} {Q:QX} {next:Tm→List Nat→List PO→Prop} {B R:Nat→Prop} {w0:World} {L0:Nat→Loc} {R0:Exit→Act→World→Prop}
 (hn:∀ L' T' M' H' w' a',N0≤H'.length→Agree N0 M' L0 L'→Rel B R w0 L' H' w'→TX D H'.length L' nt T' a'→next T' M' H'→wpE (FW none) 0 P z R0 a' w')
 (hx:∀ e e' L' T' M' H' w' a',e≠.normal→N0≤H'.length→Agree N0 M' L0 L'→Rel B R w0 L' H' w'→TX D H'.length L' nt T' a'→e.fits H'.length L' e'→Q e T' M' H'→R0 e' a' w') :
 ∀ (xs:List Code) (T:Tm) (M:List Nat) (H:List PO) (L:Nat→Loc) (w:World) (a:Act),XRs P nt N0 D xs T M H Q next→N0≤H.length→Agree N0 M L0 L→Rel B R w0 L H w→TX D H.length L nt T a →
   wpE (FW none) 0 P (seqs xs z) R0 a w
 | [],T,M,H,L,w,a,h,h1,h2,h3,h4=>hn L T M H w a h1 h2 h3 h4 h
 | x::xs,T,M,H,L,w,a,h,h1,h2,h3,h4=>by
   change XR P nt N0 D x T M H (andX (fun T' M' H'=>XRs P nt N0 D xs T' M' H' Q next) Q) at h
   refine wpE_seq (wpE_of ((XR_ok _ _ _ _ _ h).run none B R w0 L0 L w a _ h1 h2 h3 h4 ?_))
   intro e e' L' T' M' H' w' a' k1 k2 k3 k4 kf k5
   cases e with
   | normal =>
     obtain rfl:=kf
     exact XRs_run hn hx xs T' M' H' L' w' a' k5 k1 k2 k3 k4
   | exit i=>have kf:=kf;obtain rfl:=kf;exact hx (.exit i) _ L' T' M' H' w' a' (by simp) k1 k2 k3 k4 rfl k5
   | ret=>have kf:=kf;obtain rfl:=kf;exact hx .ret _ L' T' M' H' w' a' (by simp) k1 k2 k3 k4 rfl k5
   | panic c =>
     obtain ⟨v,rfl,hv⟩:=kf
     exact hx (.panic c) _ L' T' M' H' w' a' (by simp) k1 k2 k3 k4 ⟨v,rfl,hv⟩ k5

def outX (P:Program) (fn:Func) (N0:Nat) (K:KP) (J:KJ):QX:=fun e T' M' H' =>
 match e with
 | .exit _=>False
 | .panic c=>endP N0 c M' H' J
 | _=>resK P T' H' fn.results.toList fun vs=>tupA vs fun v=>endK N0 v M' H' K

section

variable {fn:Func} {K:KP} {J:KJ} {B R:Nat→Prop} {w0 w':World} {L0 L':Nat→Loc} {T':Tm} {M':List Nat} {H':List PO} {a':Act}

theorem outX_ret (h1:N0≤H'.length) (h2:Agree N0 M' L0 L') (h3:Rel B R w0 L' H' w') (h4:TX D H'.length L' nt T' a')
 (hres:resK P T' H' fn.results.toList fun vs=>tupA vs fun v=>endK N0 v M' H' K):∃ v,(results fn a'.tmps).run P w'=.ok v w'∧EndX B R w0 N0 L0 K J (.returned v) w':=by
 obtain ⟨xs,us,k1,k2,k3⟩:=resK_sound (P:=P) h3 h4.tr fn.results.toList _ hres
 have hm:(results fn a'.tmps).run P w'=.ok (if h:us.toArray.size=1 then us.toArray[0] else .tuple us.toArray) w':=by
  rw [results_eq]
  have hma:fn.results=fn.results.toList.toArray:=by simp
  rw [hma]
  simp only [List.mapM_toArray,Sem.run_bind,Sem.run_map,k1,Result.andThen_ok,Sem.run_pure]
 refine ⟨_,hm,.inl ⟨_,rfl,?_⟩⟩
 unfold tupA at k3
 split at k3
 · rename_i v
   obtain ⟨y,ys,rfl,hxy,hys⟩:=k2
   simp only [VAs] at hys
   subst hys
   exact endK_spec k3 h1 h2 h3 (by simpa using hxy)
 · rename_i hne
   split at k3 <;> try exact k3.elim
   rename_i l hl
   have hl2:=k2.length
   have:¬us.toArray.size=1:=fun e=>by
    have:xs.length=1:=by simp at e;omega
    obtain ⟨x,hx⟩:=List.length_eq_one_iff.1 this
    exact hne x hx
   rw [dif_neg this]
   exact endK_spec k3 h1 h2 h3 ⟨us,rfl,pvs_spec hl k2⟩

theorem outX_panic {c:CV} {v:Value} (h1:N0≤H'.length) (h2:Agree N0 M' L0 L') (h3:Rel B R w0 L' H' w') (hv:VC H'.length L' c v) (h:endP N0 c M' H' J):EndX B R w0 N0 L0 K J (.panicked [{ v,recovered:=false }]) w':=by
 refine .inr ⟨v,rfl,?_⟩
 obtain ⟨L2,x,M2,H2,g1,g2,g3,g4,c',rfl,g5⟩:=endK_spec (u:=v) h h1 h2 h3 (show VA H'.length L' (cv c) v from hv)
 exact ⟨L2,c',M2,H2,g1,g2,g3,g4,g5⟩

theorem leave_mark {dB:Nat} {Rn:Ending→World→Prop} {u:FrameMode} {tmps:Array Value} {w:World} (hu:u≠.run) (hd:w.heap[dB]? = some (.deferred (some [])))
 (h:LeavesIn (FW none) 0 P fn tmps Rn [] u (w.putObj dB (.deferred none))):LeavesInM (FW none) 0 P fn tmps Rn [{ target:=.collected dB,args:=#[] }] u w :=
 ⟨hu,.inl ⟨dB,_,rfl,run_takeDeferred hd,h⟩⟩

end

def Splits (cuts:UInt8→List UInt8→List (List UInt8)) (P:Program) (g:FuncId):Prop:=∀ (l bs bp bz:Nat) (s:List UInt8) (c:UInt8) (J:Nat→World→Prop) (Jp:List PanicEntry→World→Prop) (W:World),
 s.length≤1000000000→bs≠bp→bs≠bz→W.cell? ⟨bs,0,none⟩ = some (.string ⟨s.toArray⟩)→W.frozen? ⟨bs,0,none⟩ = false→W.cell? ⟨bp,0,none⟩ = some (.string ⟨[c].toArray⟩)→W.cell? ⟨bz,0,none⟩ = some (.int .i64 0)→J 0 W →
 (∀ k W W',J k W→Bel (fun b=>b<W.heap.size) W W'→J k W') →
 (∀ k W v,J k W→J k (W.setCell ⟨bs,0,none⟩ v)) →
 (∀ k p W,J k W→(cuts c s)[k]? = some p→∃ fn tmps assign body,(Instr.yield l #[.string ⟨p.toArray⟩]).run P W=.ok (.round l fn tmps assign body) W∧RoundIn (FW none) 0 P l fn tmps assign body W fun e W' =>
   (e=.returned (.bool true)∧J (k+1) W'∧∀ b,b=bs∨b=bp∨b=bz→W'.heap[b]? = W.heap[b]?)∨∃ ch,e=.panicked ch∧Jp ch W') →
 Calls P g #[.func (.yield l) #[] #[],.pointer (some ⟨bp,0,none⟩),.pointer (some ⟨bs,0,none⟩),.pointer (some ⟨bz,0,none⟩)] W fun e W'=>(∃ v,e=.returned v∧J (cuts c s).length W')∨∃ ch,e=.panicked ch∧Jp ch W'

def freeT (M:List Nat) (T:Tm):Prop:=∀ i,killA M (lk T i)=lk T i

def roundX {α : Type} (n:Nat) (M0:List Nat) (hp : α→List PO) (next : α→Prop) (pan:KJ):QX:=fun e _ M' H' =>
 match e with
 | .normal=>(∀ i∈M',i<n→i∈M0)∧∃ y,H'.take n=hp y∧lowH n (hp y)=true∧n≤H'.length∧next y
 | .panic c=>pan c M' H'
 | _=>False

def Conv (H H':List PO):Prop:=∀ (B R X:Nat→Prop) (w0:World) (L:Nat→Loc) (w:World),Rel B R w0 L H w→Free B X L H w→∃ L2,Agree H.length [] L L2∧Rel B R w0 L2 H' w∧Free B X L2 H' w

theorem Conv.nil {H:List PO} (i f sz:Nat) (hsz:0<sz) {cs:List CV} (hi:H[i]? = some (.one cs)) (hf:cs[f]? = some .nilslc):Conv H ((H++[PO.rows false sz []]).set i (PO.one (cs.set f (CV.slc H.length 0 0 none false)))):=by
 intro B R X w0 L w h hfr
 obtain ⟨g1,g2⟩:=none_sound h sz hsz
 have hlt:=(List.getElem?_eq_some_iff.1 hi).1
 have hi2:(H++[PO.rows false sz []])[i]? = some (.one cs):=by rw [List.getElem?_append_left hlt];exact hi
 have g3:=g2.weaken (i:=i) (cs:=cs) (cs':=cs.set f (.slc H.length 0 0 none false)) hi2 (by simp) fun g x' hx'=>by
  by_cases hg:f=g
  · subst hg
    rw [List.getElem?_set_self (List.getElem?_eq_some_iff.1 hf).1] at hx'
    obtain rfl:=Option.some.inj hx'
    exact ⟨_,hf,fun v hv=>⟨by simp,.inl ⟨rfl,rfl,hv,fun c' hc'=>by cases hc'⟩⟩⟩
  · rw [List.getElem?_set_ne hg] at hx'
    exact ⟨x',hx',fun _ hv=>hv⟩
 refine ⟨_,g1,g3,fun b hb=>?_⟩
 obtain ⟨x1,x2,x3⟩:=hfr b hb
 refine ⟨x1,x2,fun j o hj ho=>?_⟩
 by_cases hji:i=j
 · subst hji
   rw [List.getElem?_set_self (by simp;omega)] at hj
   obtain rfl:=Option.some.inj hj
   rw [upd_ne (by omega)] at ho
   exact x3 i (.one cs) hi ho
 · rw [List.getElem?_set_ne hji] at hj
   rcases Nat.lt_or_ge j H.length with hlt2 | hge
   · rw [List.getElem?_append_left hlt2] at hj
     rw [upd_ne (by omega)] at ho
     exact x3 j o hj ho
   · rw [List.getElem?_append_right hge] at hj
     obtain ⟨hj2,hj3⟩:=List.getElem?_eq_some_iff.1 hj
     have hj4:j-H.length=0:=by simpa using hj2
     have hj5:j=H.length:=by omega
     subst hj5
     simp at hj3
     subst hj3
     rw [upd_self] at ho
     exact ho.1 rfl

structure RangeX (cuts:UInt8→List UInt8→List (List UInt8)) (P:Program) (nt N0:Nat) (g:Operand) (ps:Array Tmp) (az bd:Code) (it:FuncId) (T1:Tm) (M1:List Nat) (H1:List PO) (pan:KJ) (next:Tm→List Nat→List PO→Prop):Prop where
 ex:∃ (s:List UInt8) (c:UInt8) (par m n:Nat) (T0:Tm) (H0:List PO) (M0:List Nat) (α : Type) (I:Nat→α→Prop) (hp : α→List PO) (y0 : α),
  ev T1 g=cv (.func it [m+1,m,m+2])∧ps = #[par]∧par<nt∧s.length≤1000000000∧H1=H0++[.one [.f (.str s)],.one [.f (.str [c])],.one [.f (.int .i64 0)]]∧H0.length=m∧N0≤m∧m≤n∧lowH m H0=true∧lowT m T0=true ∧
  (∀ i,lk T0 i=.u∨lk T0 i=lk T1 i)∧freeT M0 T0∧Conv H0 (hp y0)∧I 0 y0∧(∀ y,(hp y).length=n) ∧
  (∀ k y p,I k y→(cuts c s)[k]? = some p→SX P nt n [] az ((par,st p)::T0) [] (hp y) (andX (fun T' M' H'=>SX P nt n [] bd T' M' H' (roundX n M0 hp (I (k+1)) fun c M H=>pan c (M++(M0++M1)) H)) fun _ _ _ _=>False)) ∧
  ∀ y,I (cuts c s).length y→next T0 (M0++M1) (hp y)

def FnG (cuts:UInt8→List UInt8→List (List UInt8)) (P:Program) (fn:Func) (xs:List Code) (x2:Code) (g:Operand) (ps:Array Tmp) (az bd rest:Code) (it:FuncId) (args:List AV) (H:List PO) (K:KP) (J:KJ):Prop :=
 lenK H numbers fun N0=>startK args numbers fun T=>XRs P fn.ntmps N0 [] xs T [] H (outX P fn N0 K J) fun T0 M0 H0=>XR P fn.ntmps N0 [] x2 T0 M0 H0 (andX (fun T1 M1 H1 =>
  RangeX cuts P fn.ntmps N0 g ps az bd it T1 M1 H1 (fun c M H=>endP N0 c M H J) fun T M H=>∀ D,XR P fn.ntmps N0 D rest T M H (outX P fn N0 K J)) (outX P fn N0 K J))

theorem one_at {N:Nat} {L:Nat→Loc} {w:World} {x:FC} {l:Loc} (h:OR N L w (.one [.f x]) l):l.h.at 0 0 = ⟨l.h.blk,0,none⟩∧w.cell? ⟨l.h.blk,0,none⟩ = some x.val∧w.frozen? ⟨l.h.blk,0,none⟩ = false:=by
 obtain ⟨hb,hs,hp,hc,hcell⟩:=h
 have e:l.h.at 0 0 = ⟨l.h.blk,0,none⟩:=by simp [ILoc.at,hb]
 refine ⟨e,?_,?_⟩
 · obtain ⟨v,hv,hvr⟩:=hcell 0 _ rfl
   rw [e] at hv
   rw [hv]
   exact congrArg some hvr
 · obtain ⟨c,t,fr,hblk,hsz,hfr⟩:=hc
   rcases fr with ⟨lo,hi⟩
   simp only [World.frozen?,hblk]
   have:=hfr 0 (by rw [hsz];simp)
   simp at this ⊢
   omega

end

end Go.Mac
