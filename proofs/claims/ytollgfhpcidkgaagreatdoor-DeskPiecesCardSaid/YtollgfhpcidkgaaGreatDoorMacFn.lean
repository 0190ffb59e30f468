import Derived.Test.YtollgfhpcidkgaaGreatDoorMacCode

namespace Go.Mac
open Go

section

variable {B R:Nat→Prop} {w0:World} {N:Nat} {L:Nat→Loc} {H:List PO} {P:Program} {w:World} {a:Act} {nt N0:Nat} {T:Tm} {M:List Nat}
 {Q:Ex→Tm→List Nat→List PO→Prop}

theorem blt_lt {r n:Nat} (h:Nat.blt r n=true):r<n:=by simpa [Nat.blt_eq] using h

theorem lows_spec {n:Nat}:∀ {cs:List Nat},lowC.lows n cs=true→∀ r∈cs,r<n
 | [],_,r,hr=>by simp at hr
 | c::cs,h,r,hr=>by
   simp only [lowC.lows,cond_eq_ite] at h
   split at h
   · rename_i hc
     rcases List.mem_cons.1 hr with rfl | hr
     · exact blt_lt hc
     · exact lows_spec h r hr
   · cases h

theorem VC.low {n:Nat}:∀ {x:CV} {v:Value},lowC n x=true→VC N L x v→VC n L x v
 | .junk,_,_,h | .f _,_,_,h | .nilptr,_,_,h | .nilslc,_,_,h | .dslc _,_,_,h | .hslc _ _ _ _,_,_,h | .hptr _,_,_,h | .yld _,_,_,h | .gpt _ _,_,_,h | .nilmap,_,_,h | .nilfunc,_,_,h | .niliface,_,_,h=>by simpa [VC] using h
 | .ptr r _,_,hl,h | .rptr r _ _,_,hl,h | .iptr r _ _ _,_,hl,h | .slc r _ _ _ _,_,hl,h | .islc r _ _ _ _ _,_,hl,h | .map r,_,hl,h | .bfn _ r,_,hl,h=>by
   simp only [lowC] at hl
   simp only [VC] at h ⊢
   exact ⟨blt_lt hl,h.2⟩
 | .func f cs,_,hl,h=>by
   simp only [lowC] at hl
   simp only [VC] at h ⊢
   exact ⟨lows_spec hl,h.2⟩
 | .iface t x,_,hl,h | .ifs t x,_,hl,h=>by
   simp only [lowC] at hl
   simp only [VC] at h ⊢
   obtain ⟨y,h1,h2⟩:=h
   exact ⟨y,h1,h2.low hl⟩

theorem VCs.low {n:Nat}:∀ {xs:List CV} {vs:List Value},lowCs n xs=true→VCs N L xs vs→VCs n L xs vs
 | [],_,_,h=>h
 | x::xs,_,hl,⟨y,ys,h1,h2,h3⟩=>by
   simp only [lowCs,cond_eq_ite] at hl
   split at hl
   · rename_i hx;exact ⟨y,ys,h1,h2.low hx,VCs.low hl h3⟩
   · cases hl

theorem VP.low {n:Nat}:∀ {x:PV} {v:Value},lowP n x=true→VP N L x v→VP n L x v
 | .c _,_,hl,h=>VC.low hl h
 | .agg _,_,hl,⟨vs,h1,h2⟩=>⟨vs,h1,VCs.low hl h2⟩

theorem VPs.low {n:Nat}:∀ {xs:List PV} {vs:List Value},lowPs n xs=true→VPs N L xs vs→VPs n L xs vs
 | [],_,_,h=>h
 | x::xs,_,hl,⟨y,ys,h1,h2,h3⟩=>by
   simp only [lowPs,cond_eq_ite] at hl
   split at hl
   · rename_i hx;exact ⟨y,ys,h1,h2.low hx,VPs.low hl h3⟩
   · cases hl

theorem VA.low {n:Nat}:∀ {x:AV} {v:Value},lowA n x=true→VA N L x v→VA n L x v
 | .u,_,_,_=>trivial
 | .p _,_,hl,h=>VP.low hl h
 | .tup _,_,hl,⟨vs,h1,h2⟩=>⟨vs,h1,VPs.low hl h2⟩

theorem lowH_spec {n:Nat}:∀ {H:List PO},lowH n H=true→∀ o∈H,lowO n o=true
 | [],_,o,ho=>by simp at ho
 | x::H,h,o,ho=>by
   simp only [lowH,cond_eq_ite] at h
   split at h
   · rename_i hx
     rcases List.mem_cons.1 ho with rfl | ho
     · exact hx
     · exact lowH_spec h o ho
   · cases h

theorem lowT_spec {n:Nat}:∀ {T:Tm},lowT n T=true→∀ i,lowA n (lk T i)=true
 | [],_,_=>rfl
 | (j,x)::T,h,i=>by
   simp only [lowT,cond_eq_ite] at h
   split at h
   · rename_i hx
     rw [lk_cons]
     split
     · exact hx
     · exact lowT_spec h i
   · cases h

theorem Rel.take (h:Rel B R w0 L H w) {n:Nat} (hl:lowH n (H.take n)=true) (hn:n≤H.length):Rel B R w0 L (H.take n) w:=by
 have hget:∀ {i:Nat} {o:PO},(H.take n)[i]? = some o→H[i]? = some o:=fun {i o} hi=>by
  rw [List.getElem?_take] at hi
  split at hi
  · exact hi
  · cases hi
 have hlen:(H.take n).length=n:=by simp;omega
 refine ⟨h.below,h.start,fun i o hi=>?_,fun i o b hi hb=>?_,fun i o b hi hb=>h.ro i o b (hget hi) hb,h.sub⟩
 · have:=h.obj i o (hget hi)
   rw [hlen]
   have hlo:=lowH_spec hl o (List.mem_of_getElem? hi)
   cases o with
   | one cs =>
     obtain ⟨h1,h2,h3,h4,h5⟩:=this
     refine ⟨h1,h2,h3,h4,fun f x hx=>?_⟩
     obtain ⟨v,hv,hvr⟩:=h5 f x hx
     refine ⟨v,hv,hvr.low ?_⟩
     have:∀ {cs:List CV} {f:Nat},lowCs n cs=true→cs[f]? = some x→lowC n x=true:=by
      intro cs
      induction cs with
      | nil=>intro f _ hf;simp at hf
      | cons c cs ih =>
        intro f hc hf
        simp only [lowCs,cond_eq_ite] at hc
        split at hc
        · rename_i hc0
          cases f with
          | zero=>simp at hf;subst hf;exact hc0
          | succ f=>exact ih hc (by simpa using hf)
        · cases hc
     exact this hlo hx
   | rows _ _ _=>exact this
   | rows2 _ _ _=>exact this
   | rows2m _ _=>exact this
   | hnd _ _ _ _=>exact this
   | tab _ _=>exact this
   | errv _=>exact this
   | bld _ _ _ _=>exact this
   | mp _ _ _ _=>exact this
   | smap ks cs =>
     obtain ⟨vs,h1,h2,h3⟩:=this
     exact ⟨vs,h1,h2,h3.low hlo⟩
   | it d m since seen last =>
     obtain ⟨h0,h1,h2⟩:=this
     refine ⟨h0,h1,fun hd=>⟨?_,(h2 hd).2⟩⟩
     subst hd
     simpa [lowO,Nat.blt_eq] using hlo
   | rows3 _ _ _=>exact this
   | gone=>exact this
 · obtain ⟨h1,h2,h3⟩:=h.own i o b (hget hi) hb
   exact ⟨h1,h2,fun j o' hj hb'=>h3 j o' (hget hj) hb'⟩

def pickK (T:Tm):List Nat→(Tm→Prop)→Prop
 | [],k=>k []
 | i::is,k=>fA (lk T i) fun v=>pickK T is fun l=>k ((i,v)::l)

theorem pickK_spec {T:Tm}:∀ {is:List Nat} {k:Tm→Prop},pickK T is k→∃ T',k T'∧∀ i,lk T' i=.u∨lk T' i=lk T i
 | [],k,h=>⟨[],h,fun _=>.inl rfl⟩
 | i::is,k,h=>by
   simp only [pickK,fA_eq] at h
   obtain ⟨T',hk,hT⟩:=pickK_spec (is:=is) h
   refine ⟨_,hk,fun j=>?_⟩
   rw [lk_cons]
   split
   · rename_i hj;subst hj;exact .inr rfl
   · exact hT j

structure At {α : Type} (N0:Nat) (tm : α→Tm) (hp : α→List PO) (M0:List Nat) (T:Tm) (M:List Nat) (H:List PO) (I : α→Prop):Prop where
 get:∃ x T0,I x∧T0=tm x∧(∀ i,lk T0 i=.u∨lk T0 i=lk T i)∧H.take (hp x).length=hp x∧lowT (hp x).length T0=true∧lowH (hp x).length (hp x)=true∧(hp x).length≤H.length∧N0≤(hp x).length∧(∀ i∈M,i∈M0)

theorem At.use {α : Type} {tm : α→Tm} {hp : α→List PO} {M0:List Nat} {I : α→Prop} (h:At N0 tm hp M0 T M H I) {L0:Nat→Loc} (hag:Agree N0 M L0 L) (hrel:Rel B R w0 L H w) (ht:TR H.length L nt T a) :
 ∃ x,I x∧N0≤(hp x).length∧Agree N0 M0 L0 L∧Rel B R w0 L (hp x) w∧TR (hp x).length L nt (tm x) a:=by
 obtain ⟨x,T0,hI,rfl,hT,hH,h1,h2,h3,h4,h5⟩:=h.get
 refine ⟨x,hI,h4,hag.sup fun i hi _=>h5 i hi,?_,?_,ht.defers,ht.room⟩
 · have:=hrel.take (n:=(hp x).length) (by rw [hH];exact h2) h3
   rwa [hH] at this
 · intro i
   have hlo:=lowT_spec h1 i
   rcases hT i with e | e
   · rw [e];trivial
   · exact VA.low hlo (by rw [e];exact ht.get i)

theorem At.mk' {α : Type} {tm : α→Tm} {hp : α→List PO} {M0:List Nat} {I : α→Prop} (live:List Nat) (x : α) (hI:I x)
 (h:pickK T live fun T0=>T0=tm x∧lowT (hp x).length T0=true) (hH:H.take (hp x).length=hp x) (hl:lowH (hp x).length (hp x)=true) (hle:(hp x).length≤H.length) (hN:N0≤(hp x).length)
 (hM:∀ i∈M,i∈M0):At N0 tm hp M0 T M H I:=by
 obtain ⟨T0,⟨h1,h2⟩,h3⟩:=pickK_spec h
 exact ⟨x,T0,hI,h1,h3,hH,h2,hl,hle,hN,hM⟩

theorem SS.loop {c:Code} {α : Type} (I : α→Prop) (tm : α→Tm) (hp : α→List PO) (μ : α→Nat) (M0:List Nat) (h0:At N0 tm hp M0 T M H I)
 (hr:∀ x,I x→SS P nt N0 c (tm x) M0 (hp x) fun e T' M' H'=>match e with
   | .normal=>At N0 tm hp M0 T' M' H' fun y=>I y∧μ y < μ x
   | e=>Q e T' M' H'):SS P nt N0 (.loop c) T M H Q:=by
 refine ⟨fun B R w0 L0 L w a R0 h1 h2 h3 h4 h5=>?_⟩
 let J:Nat→Act→World→Prop:=fun n a' w'=>∃ L' x,N0≤(hp x).length∧Agree N0 M0 L0 L'∧Rel B R w0 L' (hp x) w'∧TR (hp x).length L' nt (tm x) a'∧I x∧μ x=n
 let m:Act→World→Nat:=fun a' w'=>Classical.epsilon fun n=>J n a' w'∧∀ m,J m a' w'→n≤m
 have hm:∀ n a' w',J n a' w'→J (m a' w') a' w'∧m a' w'≤n:=by
  intro n a' w' hj
  have hex:∃ n,J n a' w'∧∀ m,J m a' w'→n≤m:=by
   clear hr h0 h5
   induction n using Nat.strongRecOn with
   | _ n ih =>
     by_cases hm:∃ m,m<n∧J m a' w'
     · obtain ⟨m,hlt,hpm⟩:=hm
       exact ih m hlt hpm
     · exact ⟨n,hj,fun m hpm=>Nat.le_of_not_lt fun hlt=>hm ⟨m,hlt,hpm⟩⟩
  have hs:J (m a' w') a' w'∧∀ k,J k a' w'→m a' w'≤k:=Classical.epsilon_spec hex
  exact ⟨hs.1,hs.2 n hj⟩
 obtain ⟨x0,hI0,g1,g2,g3,g4⟩:=h0.use h2 h3 h4
 refine wp_loop (fun a' w'=>∃ n,J n a' w') m ⟨_,L,x0,g1,g2,g3,g4,hI0,rfl⟩ ?_
 rintro a1 w1 ⟨n1,hj1⟩
 obtain ⟨⟨L1,x1,k1,k2,k3,k4,k5,k6⟩,_⟩:=hm n1 a1 w1 hj1
 refine (hr x1 k5).run B R w0 L0 L1 w1 a1 _ k1 k2 k3 k4 ?_
 intro e L' T' M' H' w' a' j1 j2 j3 j4 j5
 cases e with
 | normal =>
   obtain ⟨x2,⟨hI2,hlt⟩,i1,i2,i3,i4⟩:=At.use j5 j2 j3 j4
   have hj2:J (μ x2) a' w':=⟨L',x2,i1,i2,i3,i4,hI2,rfl⟩
   have:=(hm _ a' w' hj2).2
   exact ⟨⟨_,hj2⟩,by omega⟩
 | exit i=>exact h5 (.exit i) L' T' M' H' w' a' j1 j2 j3 j4 j5
 | ret=>exact h5 .ret L' T' M' H' w' a' j1 j2 j3 j4 j5

theorem SS.inl {x y:Code} (h:S P nt N0 x T M H fun e T' M' H'=>match e with
 | .normal=>S P nt N0 y T' M' H' Q
 | e=>Q e T' M' H'):SS P nt N0 (.seq x y) T M H Q :=
 SS.seq ((S_ok _ _ _ _ _ h).mono fun e T' M' H' hq=>by
  cases e with
  | normal=>exact S_ok _ _ _ _ _ hq
  | exit i=>exact hq
  | ret=>exact hq)

def resF (tmps:Array Value):ResultVar→Sem Value
 | .tmp t=>pure (tmps.getD t undef)
 | .cell c t=>do loadVar t (←asAddr (tmps.getD c undef))

theorem results_eq (fn:Func) (tmps:Array Value):results fn tmps=(do let vs ←fn.results.mapM (resF tmps);pure (if h:vs.size=1 then vs[0] else .tuple vs)):=by
 unfold results
 congr 1

theorem resK_sound (hrel:Rel B R w0 L H w) (ht:TR H.length L nt T a):∀ (rs:List ResultVar) (K:List AV→Prop),resK P T H rs K →
 ∃ (xs:List AV) (vs:List Value),(rs.mapM (resF a.tmps):Sem (List Value)).run P w=.ok vs w∧VAs H.length L xs vs∧K xs
 | [],K,h=>⟨[],[],by simp,rfl,h⟩
 | .tmp t::rs,K,h=>by
   simp only [resK,fA_eq] at h
   obtain ⟨xs,vs,h1,h2,h3⟩:=resK_sound hrel ht rs _ h
   refine ⟨lk T t::xs,a.tmps.getD t undef::vs,?_,⟨_,_,rfl,ht.get t,h2⟩,h3⟩
   simp only [List.mapM_cons,Sem.run_bind,Sem.run_pure,Result.andThen_ok,h1,resF]
 | .cell c t::rs,K,h=>by
   obtain ⟨y,u,h1,h2,h3⟩:=load_sound (P:=P) hrel (ht.get c) h
   obtain ⟨xs,vs,k1,k2,k3⟩:=resK_sound hrel ht rs _ h3
   refine ⟨.p y::xs,u::vs,?_,⟨_,_,rfl,h2,k2⟩,k3⟩
   have hsure:(resF a.tmps (.cell c t)).run P w=.ok u w:=by
    have hp:=ht.get c
    unfold resK loadA at h
    split at h <;> try exact h.elim
    all_goals
     rename_i hx
     rw [hx] at hp
     have hae:∃ ad,a.tmps.getD c undef=.pointer (some ad):=by
      first | exact ⟨_,hp.2⟩ | exact ⟨_,hp⟩
     obtain ⟨_,hae⟩:=hae
     rw [hae] at h1
     simp only [resF]
     rw [hae]
     exact h1
   simp only [List.mapM_cons,Sem.run_bind,hsure,Sem.run_pure,Result.andThen_ok,k1]

theorem pvs_spec:∀ {xs:List AV} {l:List PV} {vs:List Value},pvs xs=some l→VAs N L xs vs→VPs N L l vs
 | [],l,vs,h,hv=>by simp [pvs] at h;subst h;exact hv
 | x::xs,l,vs,h,⟨y,ys,h1,h2,h3⟩=>by
   cases x <;> simp only [pvs] at h <;> try cases h
   split at h <;> simp at h
   rename_i l' hl'
   subst h
   exact ⟨y,ys,h1,h2,pvs_spec hl' h3⟩

theorem startK_spec':∀ (xs:List AV) (m s:Nat) (k:Tm→Prop),startK xs (List.range' s m) k→∃ T,k T∧∀ i,lk T i=if s≤i then (xs[i-s]?).getD .u else .u
 | [],m,s,k,h=>by
   cases m <;> exact ⟨[],h,fun i=>by simp [lk]⟩
 | x::xs,0,s,k,h=>h.elim
 | x::xs,m+1,s,k,h=>by
   simp only [List.range'_succ,startK] at h
   obtain ⟨T,hk,hT⟩:=startK_spec' xs m (s+1) _ h
   refine ⟨_,hk,fun i=>?_⟩
   rw [lk_cons]
   by_cases hi:s=i
   · subst hi;simp
   · rw [if_neg hi,hT i]
     by_cases hs:s≤i
     · rw [if_pos hs,if_pos (by omega),show i-s=(i-(s+1))+1 by omega]
       simp
     · rw [if_neg hs,if_neg (by omega)]

theorem ltM_spec {n:Nat}:∀ {M:List Nat} {i:Nat},i∈M→i<n→i∈ltM n M
 | [],i,h,_=>by simp at h
 | m::M,i,h,hi=>by
   simp only [ltM,cond_eq_ite]
   rcases List.mem_cons.1 h with rfl | h
   · rw [if_pos (by simpa [Nat.blt_eq] using hi)];simp
   · split
     · exact List.mem_cons_of_mem _ (ltM_spec h hi)
     · exact ltM_spec h hi

theorem endK_spec {K:KP} {v:AV} {u:Value} (h:endK N0 v M H K) (hN:N0≤H.length) {L0:Nat→Loc} (hag:Agree N0 M L0 L) (hrel:Rel B R w0 L H w) (hv:VA H.length L v u) :
 Left B R w0 N0 L0 K u w:=by
 obtain ⟨_,h⟩:=takeK_spec _ _ _ _ h
 simp only [List.drop_zero] at h
 have hag':Agree N0 (ltM N0 M) L0 L:=hag.sup fun i hi hlt=>ltM_spec hi hlt
 have hlen:(H.take N0).length=N0:=by simp;omega
 split at h
 · rename_i h1 h2
   exact ⟨L,v,_,_,hag',by omega,by rw [hlen];exact VA.low h1 hv,hrel.take h2 hN,h⟩
 · exact ⟨L,v,_,_,hag',hN,hv,hrel,h⟩

theorem does_of {f:FuncId} {fn:Func} {c:Code} {args:List AV} {K:KP} (hf:P.funcs[f]? = some fn) (hc:fn.body=some c) (hn:fn.name ≠ "runtime.NumGoroutine")
 (h:FnB P fn c args H K):Does P f args H K:=by
 refine ⟨⟨fn,hf,hn,by simp [hc]⟩,fun B R w0 L w vs hrel hvs=>?_⟩
 have h:=lenK_spec h
 rw [numbers_eq] at h
 obtain ⟨T,h,hT⟩:=startK_spec' args 100 0 _ h
 refine calls_of_wp hf hc ?_
 have hlen:=hvs.length
 have hget:∀ {xs:List AV} {us:List Value},VAs H.length L xs us→∀ i:Nat,VA H.length L ((xs[i]?).getD .u) ((us[i]?).getD undef):=by
  intro xs
  induction xs with
  | nil=>intro us h i;simp [VAs] at h;subst h;simp;trivial
  | cons x xs ih =>
    rintro us ⟨y,ys,rfl,h2,h3⟩ i
    cases i with
    | zero=>exact h2
    | succ i=>simpa using ih h3 i
 have ht:TR H.length L fn.ntmps T { tmps:=vs.toArray++Array.replicate (fn.ntmps-vs.toArray.size) undef,defers:=[] }:=by
  refine ⟨fun i=>?_,rfl,by simp;omega⟩
  rw [hT i,if_pos (Nat.zero_le _),Nat.sub_zero]
  by_cases hi:i<vs.length
  · have:=hget hvs i
    simpa [Array.getD_eq_getD_getElem?,Array.getElem?_append,hi] using this
  · have:args[i]? = none:=List.getElem?_eq_none (by omega)
    rw [this]
    trivial
 refine (S_ok _ _ _ _ _ h).run B R w0 L L w _ _ (Nat.le_refl _) (Agree.refl _ _ _) hrel ht ?_
 intro e L' T' M' H' w' a' h1 h2 h3 h4 h5
 have fin:(resK P T' H' fn.results.toList fun vs=>tupA vs fun v=>endK H.length v M' H' K) →
  a'.defers=[]∧∃ v,(results fn a'.tmps).run P w'=.ok v w'∧∃ u,Ending.returned v=.returned u∧Left B R w0 H.length L K u w':=by
  intro hres
  obtain ⟨xs,us,k1,k2,k3⟩:=resK_sound (P:=P) h3 h4 fn.results.toList _ hres
  have hm:(results fn a'.tmps).run P w'=.ok (if h:us.toArray.size=1 then us.toArray[0] else .tuple us.toArray) w':=by
   rw [results_eq]
   have hma:fn.results=fn.results.toList.toArray:=by simp
   rw [hma]
   simp only [List.mapM_toArray,Sem.run_bind,Sem.run_map,k1,Result.andThen_ok,Sem.run_pure]
  refine ⟨h4.defers,_,hm,_,rfl,?_⟩
  unfold tupA at k3
  split at k3
  · rename_i v
    obtain ⟨y,ys,rfl,hxy,hys⟩:=k2
    simp only [VAs] at hys
    subst hys
    exact endK_spec k3 h1 h2 h3 (by simpa using hxy)
  · rename_i hne
    split at k3 <;> try exact k3.elim
    rename_i l hl
    have hl2:=k2.length
    have:¬us.toArray.size=1:=fun e=>by
     have:xs.length=1:=by simp at e;omega
     obtain ⟨x,hx⟩:=List.length_eq_one_iff.1 this
     exact hne x hx
    rw [dif_neg this]
    exact endK_spec k3 h1 h2 h3 ⟨us,rfl,pvs_spec hl k2⟩
 cases e with
 | normal=>exact fin h5
 | ret=>exact fin h5
 | exit i=>exact h5.elim

theorem Does.top {f:FuncId} {args:List AV} {vs:List Value} {x:FC} {w:World} (h:Does P f args H fun v _ _=>v=fcv x) {L:Nat→Loc} {R:Nat→Prop} (hrel:Rel (· < w.heap.size) R w L H w) (hvs:VAs H.length L args vs) :
 Calls P f vs.toArray w fun e w'=>e=.returned x.val∧Bel (· < w.heap.size) w w':=by
 refine (h.run (· < w.heap.size) R w L w vs hrel hvs).mono ?_
 rintro e w' ⟨v,rfl,L',y,M',H',h1,h2,h3,h4,rfl⟩
 obtain rfl:=h3
 exact ⟨rfl,h4.below⟩

end

end Go.Mac
