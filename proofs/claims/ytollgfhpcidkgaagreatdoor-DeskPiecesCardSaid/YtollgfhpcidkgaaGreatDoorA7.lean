/- Texts that belong together; the first of them:  -/
import Derived.Test.YtollgfhpcidkgaaGreatDoorMacR
import Derived.Test.YtollgfhpcidkgaaGreatDoorProg
import Derived.Test.YtollgfhpcidkgaaGreatDoorA3

section
namespace Go.Mac
open Go

section

variable {P:Program} {cuts:UInt8→List UInt8→List (List UInt8)}

set_option maxHeartbeats 1000000 in
theorem doesG {f:FuncId} {fn:Func} {xs:List Code} {x2:Code} {id:Nat} {g:Operand} {ps:Array Tmp} {az bd rest:Code} {it:FuncId} {args:List AV} {H:List PO} {K:KP} {J:KJ}
 (hf:P.funcs[f]? = some fn) (hc:fn.body=some (seqs xs (.seq (.seq x2 (.block id (.rangeFunc g ps az bd))) rest))) (hn:fn.name ≠ "runtime.NumGoroutine") (hsp:Splits cuts P it) (hit:∃ fi,P.funcs[it]? = some fi∧fi.name ≠ "runtime.NumGoroutine" ∧ fi.body.isSome=true)
 (h:FnG cuts P fn xs x2 g ps az bd rest it args H K J):DoesX P f args H K J:=by
 refine ⟨⟨fn,hf,hn,by simp [hc]⟩,fun B R w0 L w vs hrel hvs=>?_⟩
 have h:=lenK_spec h
 rw [numbers_eq] at h
 obtain ⟨T,h,hT⟩:=startK_spec' args 100 0 _ h
 refine (callsIn_wide (n:=0)).1 (callsIn_of_wpE (F:=FW none) hf hc trivial rfl ?_)
 have hlen:=hvs.length
 have hget:∀ {xs:List AV} {us:List Value},VAs H.length L xs us→∀ i:Nat,VA H.length L ((xs[i]?).getD .u) ((us[i]?).getD undef):=by
  intro xs
  induction xs with
  | nil=>intro us h i;simp [VAs] at h;subst h;simp;trivial
  | cons x xs ih =>
    rintro us ⟨y,ys,rfl,h2,h3⟩ i
    cases i with
    | zero=>exact h2
    | succ i=>simpa using ih h3 i
 have ht:TX [] H.length L fn.ntmps T { tmps:=vs.toArray++Array.replicate (fn.ntmps-vs.toArray.size) undef,defers:=[] }:=by
  refine ⟨⟨fun i=>?_,rfl,by simp;omega⟩,rfl⟩
  rw [hT i,if_pos (Nat.zero_le _),Nat.sub_zero]
  by_cases hi:i<vs.length
  · have:=hget hvs i
    simpa [Array.getD_eq_getD_getElem?,Array.getElem?_append,hi] using this
  · have:args[i]? = none:=List.getElem?_eq_none (by omega)
    rw [this]
    trivial
 have early:∀ (e:XE) (e':Exit) (L':Nat→Loc) (T':Tm) (M':List Nat) (H':List PO) (w':World) (a':Act),e≠.normal→H.length≤H'.length→Agree H.length M' L L'→Rel B R w0 L' H' w'→TX [] H'.length L' fn.ntmps T' a'→e.fits H'.length L' e'→outX P fn H.length K J e T' M' H' →
  e'≠.normal∧(fun e a w=>match e with
  | .normal=>LeavesInM (FW none) 0 P fn a.tmps (fun e w'=>EndX B R w0 H.length L K J e w') a.defers .returning w
  | .ret=>LeavesInM (FW none) 0 P fn a.tmps (fun e w'=>EndX B R w0 H.length L K J e w') a.defers .returning w
  | .panic ch=>LeavesInM (FW none) 0 P fn a.tmps (fun e w'=>EndX B R w0 H.length L K J e w') a.defers (.panicking ch) w
  | _=>False) e' a' w':=by
  intro e e' L' T' M' H' w' a' hne k1 k2 k3 k4 kf k5
  have hdf:a'.defers=[]:=k4.df
  cases e with
  | normal=>exact absurd rfl hne
  | ret =>
    obtain rfl:=kf
    refine ⟨by simp,?_⟩
    show LeavesInM (FW none) 0 P fn a'.tmps (fun e w'=>EndX B R w0 H.length L K J e w') a'.defers .returning w'
    rw [hdf]
    exact outX_ret k1 k2 k3 k4 k5
  | exit i=>exact k5.elim
  | panic cc =>
    obtain ⟨v,rfl,hv⟩:=kf
    refine ⟨by simp,?_⟩
    show LeavesInM (FW none) 0 P fn a'.tmps (fun e w'=>EndX B R w0 H.length L K J e w') a'.defers (.panicking _) w'
    rw [hdf]
    exact outX_panic k1 k2 k3 hv k5
 refine XRs_run (D:=[]) (B:=B) (R:=R) (w0:=w0) (L0:=L) ?_ ?_ xs T [] H L w _ h (Nat.le_refl _) (Agree.refl _ _ _) hrel ht
 · -- the range
   intro Lp Tp Mp Hp wp ap p1 p2 p3 p4 hx2
   refine wpE_seq (wpE_seq (wpE_of ((XR_ok _ _ _ _ _ hx2).run none B R w0 L Lp wp ap _ p1 p2 p3 p4 ?_)))
   intro e e' L1 T1 M1 H1 w1 a1 k1 k2 k3 k4 kf hR
   by_cases hen:e=.normal
   case neg =>
    have hR:outX P fn H.length K J e T1 M1 H1:=by
     cases e with
     | normal=>exact absurd rfl hen
     | exit i=>exact hR
     | ret=>exact hR
     | panic c=>exact hR
    obtain ⟨q1,q2⟩:=early e e' L1 T1 M1 H1 w1 a1 hen k1 k2 k3 k4 kf hR
    cases e' with
    | normal=>exact absurd rfl q1
    | exit i=>exact q2
    | goto i=>exact q2
    | ret=>exact q2
    | panic c=>exact q2
    | outgrown=>exact q2
   subst hen
   obtain rfl:=kf
   obtain ⟨s,c,par,m,n,T0,H0,M0,α,I,hp,y0,hg,hps,hpar,hs,rfl,hn0,hNm,hmn,hlow,hlT,hT0,hfree,hconv,hI0,hhp,hround,hnext⟩:=hR.ex
   subst hn0
   have hNn:H.length≤n:=Nat.le_trans hNm hmn
   have hl3:(H0++[PO.one [.f (.str s)],.one [.f (.str [c])],.one [.f (.int .i64 0)]]).length=H0.length+3:=by simp
   have o1:=k3.obj H0.length (.one [.f (.str s)]) (by simp)
   have o2:=k3.obj (H0.length+1) (.one [.f (.str [c])]) (by simp)
   have o3:=k3.obj (H0.length+2) (.one [.f (.int .i64 0)]) (by simp)
   obtain ⟨e1,c1,f1⟩:=one_at o1
   obtain ⟨e2,c2,f2⟩:=one_at o2
   obtain ⟨e3,c3,f3⟩:=one_at o3
   obtain ⟨n1,s1,u1⟩:=k3.own H0.length (.one [.f (.str s)]) _ (by simp) rfl
   obtain ⟨n2,s2,u2⟩:=k3.own (H0.length+1) (.one [.f (.str [c])]) _ (by simp) rfl
   obtain ⟨n3,s3,u3⟩:=k3.own (H0.length+2) (.one [.f (.int .i64 0)]) _ (by simp) rfl
   generalize hbs:(L1 H0.length).h.blk=bs at *
   generalize hbp:(L1 (H0.length+1)).h.blk=bp at *
   generalize hbz:(L1 (H0.length+2)).h.blk=bz at *
   have hne1:bs≠bp:=fun e=>by
    have:=u1 (H0.length+1) (.one [.f (.str [c])]) (by simp) (show bs=(L1 (H0.length+1)).h.blk by rw [hbp,e])
    omega
   have hne2:bs≠bz:=fun e=>by
    have:=u1 (H0.length+2) (.one [.f (.int .i64 0)]) (by simp) (show bs=(L1 (H0.length+2)).h.blk by rw [hbz,e])
    omega
   have hrel0:Rel B R w0 L1 H0 w1:=by
    have:=k3.take (n:=H0.length) (by simpa using hlow) (by simp)
    simpa using this
   have hf0:Free B (fun b=>b=bs∨b=bp∨b=bz) L1 H0 w1:=by
    have hno:∀ (i:Nat) (o:PO),H0[i]? = some o→i<H0.length:=fun i o hi=>(List.getElem?_eq_some_iff.1 hi).1
    rintro b (rfl | rfl | rfl)
    · refine ⟨s1,n1,fun i o hi ho=>?_⟩
      have:=u1 i o (by rw [List.getElem?_append_left (hno i o hi)];exact hi) ho
      have:=hno i o hi;omega
    · refine ⟨s2,n2,fun i o hi ho=>?_⟩
      have:=u2 i o (by rw [List.getElem?_append_left (hno i o hi)];exact hi) ho
      have:=hno i o hi;omega
    · refine ⟨s3,n3,fun i o hi ho=>?_⟩
      have:=u3 i o (by rw [List.getElem?_append_left (hno i o hi)];exact hi) ho
      have:=hno i o hi;omega
   have hgv:a1.eval g=.func (.func it) #[] #[.pointer (some ⟨bp,0,none⟩),.pointer (some ⟨bs,0,none⟩),.pointer (some ⟨bz,0,none⟩)]:=by
    have:=k4.tr.eval g
    rw [hg] at this
    obtain ⟨_,this⟩:=this
    have he:a1.eval g=(({ tmps:=a1.tmps,defers:=[] }:Act).eval g):=by cases g <;> rfl
    rw [he,this]
    simp [e1,e2,e3]
   have hD1:a1.defers=[]:=k4.df
   refine wpE_block (wpE_rangeFunc fun fno _ hfno=>?_)
   obtain ⟨fo,hfo⟩:=hfno
   obtain ⟨rec,hrec⟩ : ∃ rec:Loop,rec = { state:=.ready,pending:=none,fn:=fno,tmps:=a1.tmps,params:=ps,assign:=az,body:=bd,defers:=w1.heap.size }:=⟨_,rfl⟩
   obtain ⟨w2,hw2⟩ : ∃ w2,w2=(w1.alloc (.deferred (some []))).alloc (.loop rec):=⟨_,rfl⟩
   obtain ⟨l,hl⟩ : ∃ l,l=w1.heap.size+1:=⟨_,rfl⟩
   obtain ⟨dB,hdB⟩ : ∃ dB,dB=w1.heap.size:=⟨_,rfl⟩
   obtain ⟨fi,q1,q2,q3⟩:=hit
   refine ⟨l,[{ target:=.collected dB,args:=#[] }],w2,{ target:=.fn (.func it) #[.pointer (some ⟨bp,0,none⟩),.pointer (some ⟨bs,0,none⟩),.pointer (some ⟨bz,0,none⟩)],args:=#[.func (.yield l) #[] #[]] },w2,it,
    #[.func (.yield l) #[] #[],.pointer (some ⟨bp,0,none⟩),.pointer (some ⟨bs,0,none⟩),.pointer (some ⟨bz,0,none⟩)],w2,?_,?_,fun _ _=>trivial,?_,fun hd=>(by cases hd),?_⟩
   · rw [hl,hw2,hrec,hdB]
     exact run_enterLoop_outer _ _ _ _ _
   · have hcv:a1.eval (.const (.func (.yield l) #[] #[]))=.func (.yield l) #[] #[]:=rfl
     simp [resolve,hgv,hcv,Deferred.ofValue]
   · simp only [invoke]
     rw [run_callFunc q1 q2 q3]
     rfl
   have hsz2:w2.heap.size=w1.heap.size+2:=by rw [hw2];simp
   have hold2:∀ k,k<w1.heap.size→w2.heap[k]? = w1.heap[k]?:=fun k hk=>by
    rw [hw2,heap_alloc_lt _ _ _ (by simp;omega),heap_alloc_lt _ _ _ hk]
   have hl2:w2.heap[l]? = some (.loop rec):=by
    rw [hw2,hl]
    have:=heap_alloc_eq (w1.alloc (.deferred (some []))) (.loop rec)
    simpa using this
   have hd2:w2.heap[dB]? = some (.deferred (some [])):=by
    rw [hw2,hdB,heap_alloc_lt _ _ _ (by simp)]
    exact heap_alloc_eq _ _
   have hlt1:∀ (i:Nat) (o:PO) (b:Nat),H0[i]? = some o→Own o (L1 i) b→b<w1.heap.size:=fun i o b hi ho=>(hrel0.own i o b hi ho).2.1
   obtain ⟨hrel2,hf2'⟩:=hrel0.elsewhere hf0 (w':=w2) (by rw [hw2];rfl) (by rw [hw2];rfl) (by rw [hw2];rfl) (by omega) fun k hk _=>hold2 k hk
   obtain ⟨X,hX⟩ : ∃ X:Nat→Prop,X=fun b=>b=bs∨b=bp∨b=bz∨b=l∨b=dB:=⟨_,rfl⟩
   have hf2:Free B X L1 H0 w2:=by
    rw [hX]
    rintro b (h | h | h | h | h)
    · exact hf2' b (.inl h)
    · exact hf2' b (.inr (.inl h))
    · exact hf2' b (.inr (.inr h))
    · subst h
      exact ⟨by omega,fun hb=>by have:=hrel0.size _ hb;omega,fun i o hi ho=>by have:=hlt1 i o _ hi ho;omega⟩
    · subst h
      exact ⟨by omega,fun hb=>by have:=hrel0.size _ hb;omega,fun i o hi ho=>by have:=hlt1 i o _ hi ho;omega⟩
   obtain ⟨Lc,hagc,hrelc,hfc⟩:=hconv B R X w0 L1 w2 hrel2 hf2
   have hXs:X bs∧X bp∧X bz∧X l∧X dB:=by rw [hX];simp
   obtain ⟨xs1,xp1,xz1,xl1,xd1⟩:=hXs
   have hlne:l≠bs∧l≠bp∧l≠bz∧l≠dB:=by omega
   have hdne:dB≠bs∧dB≠bp∧dB≠bz∧dB≠l:=by omega
   obtain ⟨JW,hJW⟩ : ∃ JW:Nat→World→Prop,JW=fun k W=>∃ L' y,I k y∧Agree n M0 Lc L'∧Rel B R w0 L' (hp y) W∧Free B X L' (hp y) W∧W.heap[l]? = some (.loop rec)∧W.heap[dB]? = some (.deferred (some [])):=⟨_,rfl⟩
   obtain ⟨JP,hJP⟩ : ∃ JP:List PanicEntry→World→Prop,JP=fun ch W=>∃ v cc L3 M3 H3,ch=[{ v,recovered:=false }]∧H.length≤H3.length∧Agree H.length M3 L L3∧VC H3.length L3 cc v∧Rel B R w0 L3 H3 W∧Free B X L3 H3 W∧W.heap[dB]? = some (.deferred (some []))∧endP H.length cc M3 H3 J:=⟨_,rfl⟩
   have htc:∀ i,VA H0.length Lc (lk T0 i) (a1.tmps.getD i undef):=fun i=>by
    have h0:VA H0.length L1 (lk T0 i) (a1.tmps.getD i undef):=by
     have hlo:=lowT_spec hlT i
     rcases hT0 i with e | e
     · rw [e];trivial
     · exact VA.low hlo (by rw [e];exact k4.tr.get i)
    have:=h0.mono (M:=[]) (Nat.le_refl _) hagc
    rwa [killA_nil] at this
   have htm0:∀ L',Agree n M0 Lc L'→∀ i,VA n L' (lk T0 i) (a1.tmps.getD i undef):=fun L' hag i=>by
    have h1:=(htc i).mono (N':=n) hmn (fun j hj hjm=>hag j (by omega) hjm)
    rwa [hfree i] at h1
   have hagm:∀ L',Agree n M0 Lc L'→Agree H.length (M0++M1) L L':=fun L' hag=>by
    have h1:Agree H.length (M0++[]) L1 L':=Agree.trans (fun i hi hm=>hagc i (by omega) hm) (Nat.le_refl _) fun i hi hm=>hag i (by omega) hm
    rw [List.append_nil] at h1
    exact k2.trans (Nat.le_refl _) h1
   have hcall:=hsp l bs bp bz s c JW JP w2 hs hne1 hne2 (by rw [cell?_of_heap (w:=w1) (hold2 _ s1)];exact c1) (by simp only [World.frozen?,hold2 bs s1];exact f1) (by rw [cell?_of_heap (w:=w1) (hold2 _ s2)];exact c2) (by rw [cell?_of_heap (w:=w1) (hold2 _ s3)];exact c3)
    (by rw [hJW];exact ⟨Lc,y0,hI0,Agree.refl _ _ _,hrelc,hfc,hl2,hd2⟩) ?grow ?set ?round
   case grow =>
    rw [hJW]
    rintro k W W' ⟨L',y,g1,g2,g3,g4,g5,g6⟩ hb
    obtain ⟨i1,i2⟩:=g3.elsewhere g4 hb.os hb.tape hb.output hb.size fun k hk _=>hb.block k hk
    exact ⟨L',y,g1,g2,i1,i2,(hb.block l (g4 l xl1).1).trans g5,(hb.block dB (g4 dB xd1).1).trans g6⟩
   case set =>
    rw [hJW]
    rintro k W v ⟨L',y,g1,g2,g3,g4,g5,g6⟩
    have hh:∀ q,q≠bs→(W.setCell ⟨bs,0,none⟩ v).heap[q]? = W.heap[q]?:=fun q hq=>heap_setCell_ne _ _ _ _ hq
    obtain ⟨i1,i2⟩:=g3.elsewhere g4 (w':=W.setCell ⟨bs,0,none⟩ v) rfl rfl rfl (by simp [World.setCell]) fun q _ hq=>hh q fun e=>hq (by rw [e];exact xs1)
    exact ⟨L',y,g1,g2,i1,i2,(hh l hlne.1).trans g5,(hh dB hdne.1).trans g6⟩
   case round =>
    intro k p W hJk hp0
    rw [hJW] at hJk
    obtain ⟨L',y,g1,g2,g3,g4,g5,g6⟩:=hJk
    have hrl:rec.params = #[par]:=by rw [hrec];exact hps
    have hrt:rec.tmps=a1.tmps:=by rw [hrec]
    have hra:rec.assign=az:=by rw [hrec]
    have hrb:rec.body=bd:=by rw [hrec]
    have hrf:rec.fn=fno:=by rw [hrec]
    have hrs:rec.state=.ready:=by rw [hrec]
    have hrp:rec.pending=none:=by rw [hrec]
    refine ⟨rec.fn,a1.tmps.setIfInBounds par (.string ⟨p.toArray⟩),az,bd,?_,?_⟩
    · have:=run_yield (P:=P) (args:=#[.string ⟨p.toArray⟩]) g5 (by rw [hrl];rfl)
      rw [this,hrl,hrt,hra,hrb]
      simp
    refine round_of (fn:=fo) trivial (by rw [hrf];exact hfo) ?_
    have hlenp:(hp y).length=n:=hhp y
    have htm:=htm0 L' g2
    have hroom:fn.ntmps≤a1.tmps.size:=k4.tr.room
    have htx:TX [] (hp y).length L' fn.ntmps ((par,st p)::T0) { tmps:=a1.tmps.setIfInBounds par (.string ⟨p.toArray⟩),defers:=[] }:=by
     refine ⟨⟨fun i=>?_,rfl,by simpa using hroom⟩,rfl⟩
     rw [hlenp,lk_cons]
     split
     · rename_i e
       subst e
       have:(a1.tmps.setIfInBounds par (.string ⟨p.toArray⟩)).getD par undef=.string ⟨p.toArray⟩:=by
        rw [Array.getD_eq_getD_getElem?,Array.getElem?_setIfInBounds_self_of_lt (by omega)];rfl
       rw [this]
       rfl
     · rename_i e
       have:(a1.tmps.setIfInBounds par (.string ⟨p.toArray⟩)).getD i undef=a1.tmps.getD i undef:=by
        rw [Array.getD_eq_getD_getElem?,Array.getD_eq_getD_getElem?,Array.getElem?_setIfInBounds_ne e]
       rw [this]
       exact htm i
    have hg0:=g3.guard g4
    refine (hround k y p g1 hp0).run (some l) _ R W L' L' W _ _ (by omega) (Agree.refl _ _ _) hg0 htx ?_
    intro e e' L2 T2 M2 H2 w3 a2 j1 j2 j3 j4 jf j5
    cases e with
    | exit i=>exact j5.elim
    | ret=>exact j5.elim
    | panic cc=>exact j5.elim
    | normal =>
      obtain rfl:=jf
      obtain ⟨r1,r2,r3⟩:=Rel.unguard g3.below hrel.start j3 g3.sub
      have r3:=r3 fun b hb=>(g4 b hb).2.1
      have hlw3:w3.heap[l]? = some (.loop rec):=(r2 l xl1).trans g5
      refine ⟨_,run_beginRound hlw3 hrs,?_⟩
      obtain ⟨t1,t2⟩:=r1.turn r3 xl1 (.loop { rec with state:=.busy })
      obtain ⟨w4,hw4⟩ : ∃ w4,w4=w3.putObj l (.loop { rec with state:=.busy }):=⟨_,rfl⟩
      rw [←hw4] at t1 t2 ⊢
      have hput:∀ q,q≠l→w4.heap[q]? = w3.heap[q]?:=fun q hq=>by rw [hw4];exact World.putObj_heap_other hq
      have hlw4:w4.heap[l]? = some (.loop { rec with state:=.busy }):=by rw [hw4];exact World.putObj_heap_same (r3 l xl1).1
      have hg1:=t1.guard t2
      refine j5.run (some l) _ R w4 L' L2 w4 a2 _ j1 j2 hg1 j4 ?_
      intro e e' L3 T3 M3 H3 w5 a3 m1 m2 m3 m4 mf m5
      obtain ⟨v1,v2,v3⟩:=Rel.unguard t1.below hrel.start m3 g3.sub
      have v3:=v3 fun b hb=>(g4 b hb).2.1
      have hdw5:w5.heap[dB]? = some (.deferred (some [])):=by rw [v2 dB xd1,hput dB hdne.2.2.2,r2 dB xd1,g6]
      cases e with
      | exit i=>exact m5.elim
      | ret=>exact m5.elim
      | normal =>
        obtain rfl:=mf
        have hlw5:w5.heap[l]? = some (.loop { rec with state:=.busy }):=(v2 l xl1).trans hlw4
        refine ⟨_,_,run_endRound none hlw5,.inl ⟨rfl,?_,?_⟩⟩
        · obtain ⟨hM3,y',hy',hlow',hle',hI'⟩:=m5
          obtain ⟨z1,z2⟩:=v1.turn v3 xl1 (.loop rec)
          have e0:({ rec with state:=.busy,pending:=none }:Loop) = { rec with state:=.busy }:=by rw [←hrp]
          have hsame:({ ({ rec with state:=.busy }:Loop) with state:=if (none:Option Code).isNone=true then .ready else .done,pending:=none }:Loop)=rec:=by
           cases rec
           simp only [Option.isNone_none,if_true] at hrs hrp ⊢
           subst hrs hrp
           rfl
          rw [hsame]
          have hrl:Rel B R w0 L3 (hp y') (w5.putObj l (.loop rec)):=by
           have:=z1.take (n:=n) (by rw [hy'];exact hlow') hle'
           rwa [hy'] at this
          have hfr:Free B X L3 (hp y') (w5.putObj l (.loop rec)):=fun b hb=>by
           obtain ⟨x1,x2,x3⟩:=z2 b hb
           refine ⟨x1,x2,fun i o hi ho=>x3 i o ?_ ho⟩
           rw [←hy',List.getElem?_take] at hi
           split at hi
           · exact hi
           · cases hi
          rw [hJW]
          refine ⟨L3,y',hI',?_,hrl,hfr,World.putObj_heap_same (v3 l xl1).1,by rw [World.putObj_heap_other hdne.2.2.2];exact hdw5⟩
          exact (g2.trans (Nat.le_refl _) m2).sup fun i hi hlt=>by
           rcases List.mem_append.1 hi with hi | hi
           · exact hM3 i hi hlt
           · exact hi
        · have hall:∀ b,X b→b≠l→∀ o,(w5.putObj l o).heap[b]? = W.heap[b]?:=fun b hb hbl o=>by
           rw [World.putObj_heap_other hbl,v2 b hb,hput b hbl,r2 b hb]
          rintro b (rfl | rfl | rfl)
          · exact hall _ xs1 (Ne.symm hlne.1) _
          · exact hall _ xp1 (Ne.symm hlne.2.1) _
          · exact hall _ xz1 (Ne.symm hlne.2.2.1) _
      | panic cc =>
        obtain ⟨v,rfl,hv⟩:=mf
        refine ⟨m4.df,.inr ⟨_,rfl,?_⟩⟩
        rw [hJP]
        have hall:Agree H.length (M0++M1) L L':=hagm L' g2
        exact ⟨v,cc,L3,M3++(M0++M1),H3,rfl,by omega,hall.trans hNn m2,hv,v1,v3,hdw5,m5⟩
   refine (callsIn_wide (n:=0-1)).2 (hcall.mono ?_)
   rintro e W' (⟨v,rfl,hJend⟩ | ⟨ch,rfl,hJpan⟩)
   · -- the loop has ended
     rw [hJW] at hJend
     obtain ⟨L',y,g1,g2,g3,g4,g5,g6⟩:=hJend
     have hrs:rec.state≠.busy:=by rw [hrec];simp
     have hrp:rec.pending=none:=by rw [hrec]
     obtain ⟨w3,hw3⟩ : ∃ w3,w3=W'.putObj l (.loop { rec with state:=.exhausted }):=⟨_,rfl⟩
     refine ⟨none,w3,by rw [run_endLoop g5 hrs,hw3,←hrp],?_⟩
     obtain ⟨z1,z2⟩:=g3.turn g4 xl1 (.loop { rec with state:=.exhausted })
     rw [←hw3] at z1 z2
     have hd3:w3.heap[dB]? = some (.deferred (some [])):=by rw [hw3,World.putObj_heap_other hdne.2.2.2];exact g6
     have hlenp:(hp y).length=n:=hhp y
     have htm:=htm0 L' g2
     obtain ⟨a2,ha2⟩ : ∃ a2:Act,a2 = { a1 with defers:=[{ target:=.collected dB,args:=#[] }]++a1.defers }:=⟨_,rfl⟩
     rw [←ha2]
     have htx:TX [{ target:=.collected dB,args:=#[] }] (hp y).length L' fn.ntmps T0 a2:=by
      refine ⟨⟨fun i=>?_,rfl,by rw [ha2];exact k4.tr.room⟩,by rw [ha2,hD1];rfl⟩
      rw [hlenp,ha2]
      exact htm i
     have hagf:Agree H.length (M0++M1) L L':=hagm L' g2
     show wpE (FW none) 0 P rest _ a2 w3
     have hg1:=z1.guard z2
     refine wpE_of ((XR_ok _ _ _ _ _ (hnext y g1 [{ target:=.collected dB,args:=#[] }])).run none _ R w3 L L' w3 a2 _ (by omega) hagf hg1 htx ?_)
     intro e e' L3 T3 M3 H3 w5 a3 m1 m2 m3 m4 mf m5
     obtain ⟨v1,v2,v3⟩:=Rel.unguard z1.below hrel.start m3 g3.sub
     have v3:=v3 fun b hb=>(z2 b hb).2.1
     have hdw5:w5.heap[dB]? = some (.deferred (some [])):=(v2 dB xd1).trans hd3
     obtain ⟨y1,y2⟩:=v1.turn v3 xd1 (.deferred none)
     have hdf:a3.defers=[{ target:=.collected dB,args:=#[] }]:=m4.df
     have fin:(resK P T3 H3 fn.results.toList fun vs=>tupA vs fun v=>endK H.length v M3 H3 K)→LeavesInM (FW none) 0 P fn a3.tmps (fun e w'=>EndX B R w0 H.length L K J e w') a3.defers .returning w5:=fun hres=>by
      rw [hdf]
      exact leave_mark (by simp) hdw5 (outX_ret m1 m2 y1 m4 hres)
     cases e with
     | normal=>obtain rfl:=mf;exact fin m5
     | ret=>obtain rfl:=mf;exact fin m5
     | exit i=>exact m5.elim
     | panic cc =>
       obtain ⟨v,rfl,hv⟩:=mf
       show LeavesInM (FW none) 0 P fn a3.tmps (fun e w'=>EndX B R w0 H.length L K J e w') a3.defers (.panicking _) w5
       rw [hdf]
       exact leave_mark (by simp) hdw5 (outX_panic m1 m2 y1 hv m5)
   · -- a round has panicked
     rw [hJP] at hJpan
     obtain ⟨v,cc,L3,M3,H3,rfl,g1,g2,g3,g4,g5,g6,g7⟩:=hJpan
     show LeavesInM (FW none) 0 P fn a1.tmps (fun e w'=>EndX B R w0 H.length L K J e w') ([{ target:=.collected dB,args:=#[] }]++a1.defers) (.panicking _) W'
     rw [hD1]
     obtain ⟨y1,y2⟩:=g4.turn g5 xd1 (.deferred none)
     exact leave_mark (by simp) g6 (outX_panic g1 g2 y1 g3 g7)
 · exact fun e e' L' T' M' H' w' a' hne k1 k2 k3 k4 kf k5=>(early e e' L' T' M' H' w' a' hne k1 k2 k3 k4 kf k5).2

end

end Go.Mac
end

section
namespace Go.Mac
open Go

section

variable {P:Program} {H:List PO} {f:FuncId} {args:List AV} {K:KP} {J:KJ}

theorem DoesX.moved (M0:List Nat) (h:DoesX P f args H (fun x M H'=>(∀ i∈M,i∈M0)∧K x M0 H') fun c M H'=>(∀ i∈M,i∈M0)∧J c M0 H'):DoesX P f args H K J :=
 ⟨h.fn,fun B R w0 L w vs hrel hvs=>(h.run B R w0 L w vs hrel hvs).mono fun _ _ h=>by
  rcases h with ⟨v,he,L',x,_M,H',h1,h2,h3,h4,h5,h6⟩ | ⟨v,he,L',x,_M,H',h1,h2,h3,h4,h5,h6⟩
  · exact .inl ⟨v,he,L',x,M0,H',h1.sup fun i hi _=>h5 i hi,h2,h3,h4,h6⟩
  · exact .inr ⟨v,he,L',x,M0,H',h1.sup fun i hi _=>h5 i hi,h2,h3,h4,h6⟩⟩

def keepK (N:Nat) (M0:List Nat) (K:KP):KP:=fun x M H' =>
 ∃ (m:Nat) (ids:List Nat) (Hl:List PO) (xl:AV),H'.length=m∧(∀ i∈M,i<N→i∈M0)∧N≤ids.length∧(∀ i,i<N→i∉M0→ids[i]? = some i)∧ids.Nodup∧(∀ i∈ids,i<m)∧Hl.length=ids.length∧lowH ids.length Hl=true∧lowA ids.length xl=true ∧
   (ids.map fun i=>H'[i]?)=(Hl.map fun o=>some (renO (gmap ids m) o))∧x=renA (gmap ids m) xl∧K xl M0 Hl

theorem keepK_sound {B R:Nat→Prop} {w0 w':World} {L L':Nat→Loc} {N:Nat} {M0 M:List Nat} {x:AV} {v:Value} {H':List PO} (h1:Agree N M L L') (h3:VA H'.length L' x v) (h4:Rel B R w0 L' H' w') (h:keepK N M0 K x M H') :
 Left B R w0 N L K v w':=by
 obtain ⟨m,ids,Hl,xl,hm,hM,hlen,hid,hnd,hlt,hl,hlo,hla,hH,rfl,hk⟩:=h
 subst hm
 refine ⟨fun i=>L' (gmap ids H'.length i),xl,M0,Hl,fun i hi hm=>?_,by omega,?_,h4.keep ids hnd hlt Hl hl hlo fun k j o hk ho=>?_,hk⟩
 · show L' (gmap ids H'.length i)=_
   rw [gmap_some (hid i hi hm),h1 i hi fun hh=>hm (hM i hh hi)]
 · rw [hl]
   refine VA.unren (fun i hi=>?_) hla h3
   rw [gmap_some (j:=ids[i]) (by simp [hi])]
   exact hlt _ (List.getElem_mem hi)
 · have:=congrArg (·[k]?) hH
   simp only [List.getElem?_map,hk,ho,Option.map_some,Option.some.injEq] at this
   exact this

def keepJ (N:Nat) (M0:List Nat) (J:KJ) (c:CV) (M:List Nat) (H':List PO):Prop:=keepK N M0 (fun x M H=>∃ c',x=cv c'∧J c' M H) (cv c) M H'

theorem DoesX.keepB (N:Nat) (M0:List Nat) (hN:H.length=N) (h:DoesX P f args H (keepK N M0 K) (keepJ N M0 J)):DoesX P f args H K J:=by
 refine ⟨h.fn,fun B R w0 L w vs hrel hvs=>(h.run B R w0 L w vs hrel hvs).mono ?_⟩
 rw [hN]
 rintro e w' (⟨v,he,L',x,M,H',h1,_,h3,h4,h5⟩ | ⟨v,he,L',c,M,H',h1,h2,h3,h4,h5⟩)
 · exact .inl ⟨v,he,keepK_sound h1 h3 h4 h5⟩
 · obtain ⟨L2,x,M2,H2,k1,k2,k3,k4,c',rfl,k5⟩:=keepK_sound (v:=v) h1 (show VA H'.length L' (cv c) v from h3) h4 h5
   exact .inr ⟨v,he,L2,c',M2,H2,k1,k2,k3,k4,k5⟩

theorem DoesX.nilOut2 (i g sz:Nat) (h:DoesX P f args H (fun x M H'=>∃ cs,H'[i]? = some (PO.one cs)∧cs[g]? = some CV.nilslc∧K x M ((H'++[PO.rows2 false sz []]).set i (PO.one (cs.set g (CV.slc H'.length 0 0 none false))))) J):DoesX P f args H K J:=by
 refine ⟨h.fn,fun B R w0 L w vs hrel hvs=>(h.run B R w0 L w vs hrel hvs).mono ?_⟩
 rintro e w' (⟨u,he,L',x,M,H',k1,k2,k3,k4,cs,hi,hg,hk⟩ | hp)
 · obtain ⟨g1,g2⟩:=none2_sound k4 sz
   have hlt:=(List.getElem?_eq_some_iff.1 hi).1
   have g3:=g2.weaken (i:=i) (cs:=cs) (cs':=cs.set g (.slc H'.length 0 0 none false)) (by rw [List.getElem?_append_left hlt];exact hi) (by simp) fun j x' hx'=>by
    by_cases hj:g=j
    · subst hj
      rw [List.getElem?_set_self (List.getElem?_eq_some_iff.1 hg).1] at hx'
      obtain rfl:=Option.some.inj hx'
      exact ⟨_,hg,fun v hv=>⟨by simp,.inl ⟨rfl,rfl,hv,fun c' hc'=>by cases hc'⟩⟩⟩
    · rw [List.getElem?_set_ne hj] at hx'
      exact ⟨x',hx',fun _ hv=>hv⟩
   refine .inl ⟨u,he,_,x,M,_,fun j hj hm=>?_,by simp;omega,?_,g3,hk⟩
   · rw [upd_ne (by omega),k1 j hj hm]
   · have:=k3.mono (M:=[]) (N':=(H'++[PO.rows2 false sz []]).length) (by simp) g1
     rw [killA_nil] at this
     simpa using this
 · exact .inr hp

theorem DoesX.does (h:DoesX P f args H K fun _ _ _=>False):Does P f args H K :=
 ⟨h.fn,fun B R w0 L w vs hrel hvs=>(h.run B R w0 L w vs hrel hvs).mono fun _ _ h=>by
  rcases h with h | ⟨v,he,L',x,M,H',h1,h2,h3,h4,h5⟩
  · exact h
  · exact h5.elim⟩

end

section

variable {P:Program} {nt N0:Nat} {D:List Deferred} {T:Tm} {M:List Nat} {H:List PO} {Q:QX} {c x y:Code}

theorem S_rX (h:XR P nt N0 D c T M H Q):SX P nt N0 D c T M H Q:=XR_ok _ _ _ _ _ h

theorem SX.inlR (h:XR P nt N0 D x T M H (andX (fun T' M' H'=>XR P nt N0 D y T' M' H' Q) Q)):SX P nt N0 D (.seq x y) T M H Q :=
 SX.seq ((XR_ok _ _ _ _ _ h).mono fun e T' M' H' hq=>by
  cases e with
  | normal=>exact XR_ok _ _ _ _ _ hq
  | exit i=>exact hq
  | ret=>exact hq
  | panic c=>exact hq)

end

end Go.Mac
end

section
open Go Go.Proofs Go.Mac
set_option maxRecDepth 100000
namespace Go.Mac
section
section

variable {K:KP}

end
end
section
def pickZ (a n:Int):Int:=a % 18446744073709551616 % n

theorem pickZ_lt (a:Int) {n:Int} (hn:0<n):0≤pickZ a n∧pickZ a n<n:=⟨Int.emod_nonneg _ (by omega),Int.emod_lt_of_pos _ hn⟩

theorem wrap_u64_mod (a:Int):IntKind.u64.wrap a=a % 18446744073709551616:=by
 simp only [IntKind.wrap,IntKind.bits,IntKind.signed]
 simp

theorem pick {K:KP} (a n:Int) (hn:0<n∧n≤4611686018427387904) (hK:K (i64 (pickZ a n)) [] []):Does Tryz.prog 14 [i64 a,i64 n] [] K:=by
 refine does Tryz.func14 rfl (by decide) ?_
 refine nonzero_intro (by rw [wrap_u64 n (by omega) (by omega)];omega) ?_
 refine eqz (K:=fun z=>K (i64 z) [] []) hK ?_
 have h:=pickZ_lt a hn.1
 unfold pickZ at h ⊢
 rw [wrap_u64 n (by omega) (by omega),wrap_u64_mod,Int.tmod_eq_emod_of_nonneg (by omega)]
 exact (wrap_i64 _ (by omega) (by omega)).symm
end
section
structure Slp where
 t:Int
 c:Int

abbrev rowS (x:Slp):List FC:=[.int .i64 x.t,.int .i64 x.c]
abbrev errP (n:Int):PV:=.c (.iface 68 (.f (.int .i64 n)))
abbrev okP:PV:=.c .niliface

abbrev lotH (n:Int) (k:Nat) (nn:Bool) (ss ex:List Slp):List PO:=[.one [.f (.int .i64 n),.slc 1 0 k none nn],.rows false 2 ((ss++ex).map rowS)]

def hasT (ss:List Slp) (t:Int) (i:Nat) (x:Slp):Prop:=ss[i]? = some x∧x.t=t∧∀ (j:Nat) (y:Slp),j<i→ss[j]? = some y→y.t≠t
def noT (ss:List Slp) (t:Int):Prop:=∀ x∈ss,x.t≠t

theorem gm {α β : Type} {f : α→β} {l:List α} {i:Nat} {x : α} (h:l[i]? = some x):(l.map f)[0+Int.toNat (i:Int)]? = some (f x):=by simp [h]

theorem noM {M0:List Nat}:∀ i∈([]:List Nat),i∈M0:=fun _ h=>by simp at h

section

variable {K:KP}

theorem find1 (x:Slp) (t:Int) (h:K (bl (x.t == t)) [] [.one [.f (.int .i64 t)]]):Does Tryz.prog 246 [.p (.agg [.f (.int .i64 x.t),.f (.int .i64 x.c)]),cv (.ptr 0 0)] [.one [.f (.int .i64 t)]] K:=by
 refine does Tryz.func246 rfl (by decide) ?_
 exact h

theorem indexSlp {ss all:List Slp} {c:Option Nat} {nn ro:Bool} (t:Int) (k:Nat) (hk:ss.length=k) (hn:k<4611686018427387904) (hall:∀ i,i<k→all[i]? = ss[i]?)
 (h1:∀ (i:Nat) (x:Slp),hasT ss t i x→K (i64 i) [] [.rows ro 2 (all.map rowS),.one [.f (.int .i64 t)]]) (h0:noT ss t→K (i64 (-1)) [] [.rows ro 2 (all.map rowS),.one [.f (.int .i64 t)]]) :
 Does Tryz.prog 245 [cv (.slc 0 0 k c nn),cv (.func 246 [1])] [.rows ro 2 (all.map rowS),.one [.f (.int .i64 t)]] K:=by
 refine does Tryz.func245 rfl (by decide) ?_
 refine SS.loop (fun i:Nat=>i≤k∧∀ (j:Nat) (y:Slp),j<i→ss[j]? = some y→y.t≠t) (fun i=>[(0,cv (.slc 0 0 k c nn)),(1,cv (.func 246 [1])),(7,i64 k),(8,i64 i)]) (fun _=>[.rows ro 2 (all.map rowS),.one [.f (.int .i64 t)]]) (fun i=>k-i) []
  (At.mk' [0,1,7,8] 0 (by simp) ⟨rfl,rfl⟩ rfl rfl (by simp) (by simp) (by simp)) ?_
 rintro i ⟨hi,hj⟩
 refine S_r ?_
 refine bZ (fun h=>?_) (fun h=>?_)
 · have hlt:i<k:=by have:=oTr h;omega
   obtain ⟨x,hx⟩ : ∃ x,ss[i]? = some x:=⟨_,List.getElem?_eq_getElem (by omega)⟩
   have hax:=(hall i hlt).trans hx
   refine SS.inlR ?_
   refine at2 (by omega) (by omega) (rdA (rowS x) (by simp [hax]) ?_)
   change Does Tryz.prog 246 _ _ _
   refine Does.on 2 [1] _ _ (find1 x t ?_)
   refine bZ (fun h'=>?_) (fun h'=>?_)
   · exact h1 i x ⟨hx,by simpa using h',hj⟩
   · have e:x.t≠t:=by simpa using h'
     refine At.mk' [0,1,7,8] (i+1) ⟨⟨hlt,fun j y hj' hy=>?_⟩,by omega⟩ ⟨?_,rfl⟩ rfl rfl (by simp) (by simp) (by simp)
     · rcases Nat.lt_succ_iff_lt_or_eq.1 hj' with h | rfl
       · exact hj j y h hy
       · rw [hx] at hy;cases hy;exact e
     · rw [wrap_i64 _ (by omega) (by omega)]
       rfl
 · have h:=oFa h
   refine h0 fun x hx=>?_
   obtain ⟨j,hj'⟩:=List.mem_iff_getElem?.1 hx
   have:=(List.getElem?_eq_some_iff.1 hj').1
   exact hj j x (by omega) hj'

variable {n:Int} {k:Nat} {nn:Bool} {ss ex:List Slp}

theorem lotFind (t:Int) (hk:ss.length=k) (hn:k<4611686018427387904) (h1:∀ (i:Nat) (x:Slp),hasT ss t i x→K (i64 i) [] (lotH n k nn ss ex)) (h0:noT ss t→K (i64 (-1)) [] (lotH n k nn ss ex)) :
 Does Tryz.prog 205 [cv (.ptr 0 0),i64 t] (lotH n k nn ss ex) K:=by
 refine does Tryz.func205 rfl (by decide) ?_
 change Does Tryz.prog 245 _ _ _
 refine Does.on 3 [1,2] _ _ (indexSlp (ss:=ss) (all:=ss++ex) t k hk hn (fun i hi=>List.getElem?_append_left (by omega)) (fun i x h=>?_) fun h=>?_)
 · exact h1 i x h
 · exact h0 h

theorem lotCell (t:Int) (hk:ss.length=k) (hn:k<4611686018427387904) (h1:∀ (i:Nat) (x:Slp),hasT ss t i x→K (i64 x.c) [] (lotH n k nn ss ex)) (h0:noT ss t→K (i64 (-1)) [] (lotH n k nn ss ex)) :
 Does Tryz.prog 164 [cv (.ptr 0 0),i64 t] (lotH n k nn ss ex) K:=by
 refine does Tryz.func164 rfl (by decide) ?_
 change Does Tryz.prog 205 _ _ _
 refine lotFind t hk hn (fun i x h=>?_) fun h=>?_
 · have hlt:=(List.getElem?_eq_some_iff.1 h.1).1
   have hx:(ss++ex)[i]? = some x:=(List.getElem?_append_left hlt).trans h.1
   refine at2 (by omega) (by omega) (rd1 (rowS x) (.int .i64 x.c) (gm hx) rfl ?_)
   exact h1 i x h
 · exact h0 h

theorem lotNew (n:Nat) (hn:n≤16) (h:K (.tup [.c (.ptr 0 0),okP]) [] [.one [.f (.int .i64 n),.nilslc]]):Does Tryz.prog 47 [i64 n] [] K:=by
 refine does Tryz.func47 rfl (by decide) ?_
 refine bZ (fun h=>?_) (fun _=>?_)
 · have:=oTr h;omega
 · exact h

theorem lotSleep (t c:Int) (ht:0≤t∧t<n) (hc:0≤c∧c<300) (hk:ss.length=k) (hn:k<1000000) (hex:ex≠[]→nn=true)
 (h1:noT ss t→∀ (nn':Bool) (ex':List Slp),(ex'≠[]→nn'=true)→K (cv .niliface) [1] (lotH n (k+1) nn' (ss++[⟨t,c⟩]) ex')) (h0:∀ (i:Nat) (x:Slp),hasT ss t i x→K (.p (errP 6)) [1] (lotH n k nn ss ex)) :
 Does Tryz.prog 236 [cv (.ptr 0 0),i64 t,i64 c] (lotH n k nn ss ex) K:=by
 refine Does.moved [1] ?_
 refine does Tryz.func236 rfl (by decide) ?_
 refine bZ (fun h=>?_) (fun _=>?_)
 · have:=oTr h;omega
 refine bZ (fun h=>?_) (fun _=>?_)
 · have:=oTr h;omega
 refine bZ (fun h=>?_) (fun _=>?_)
 · have:=oTr h;omega
 refine bZ (fun h=>?_) (fun _=>?_)
 · have:=oTr h;omega
 change Does Tryz.prog 205 _ _ _
 refine lotFind t hk (by omega) (fun i x h=>?_) fun h=>?_
 · exact ⟨noM,h0 i x h⟩
 · have hk1:=h1 h
   clear h1 h0
   refine And.intro (by simp) ?_
   cases ex with
   | nil =>
     refine Or.inl (And.intro rfl (And.intro (by simp;omega) (And.intro ?_ (And.intro ?_ ?_))))
     · show (k+1)*16≤_
       omega
     · show k+1≤_
       omega
     · refine And.intro (fun i hi=>hi) ?_
       refine eqx (K:=fun r=>K (cv .niliface) [1] [.one [.f (.int .i64 n),.slc 1 0 (k+1) none nn],.rows false 2 r]) (hk1 nn [] (by simp)) ?_
       simp
   | cons y ex =>
     obtain rfl:=hex (by simp)
     refine Or.inr (And.intro rfl (And.intro rfl (And.intro ?_ ?_)))
     · show 0+k+1≤_
       simp;omega
     · refine And.intro noM ?_
       refine eqx (K:=fun r=>K (cv .niliface) [1] [.one [.f (.int .i64 n),.slc 1 0 (k+1) none true],.rows false 2 r]) (hk1 true ex (fun _=>rfl)) ?_
       show ((ss++[(⟨t,c⟩ : Slp)])++ex).map rowS=(((ss++y::ex).map rowS).take (0+k)++[rowS ⟨t,c⟩])++((ss++y::ex).map rowS).drop (0+k+1)
       subst hk
       simp [List.drop_append]

end
end
end Go.Mac
end
