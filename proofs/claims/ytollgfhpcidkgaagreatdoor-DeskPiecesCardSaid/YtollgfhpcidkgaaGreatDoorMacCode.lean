import Derived.Test.YtollgfhpcidkgaaGreatDoorA0

namespace Go.Mac
open Go

section

variable {B R:Nat→Prop} {w0:World} {N:Nat} {L:Nat→Loc} {H:List PO} {P:Program} {w:World} {a:Act} {nt:Nat} {T:Tm}

theorem VAs.map_ev (h:TR N L nt T a):∀ (xs:List Operand),VAs N L (xs.map (ev T)) (xs.map a.eval)
 | []=>rfl
 | x::xs=>⟨_,_,rfl,h.eval x,VAs.map_ev h xs⟩

theorem VAs.append:∀ {xs ys:List AV} {vs us:List Value},VAs N L xs vs→VAs N L ys us→VAs N L (xs++ys) (vs++us)
 | [],_,_,_,h,h'=>by simp [VAs] at h;subst h;exact h'
 | x::xs,_,_,_,⟨y,zs,h1,h2,h3⟩,h'=>by subst h1;exact ⟨y,_,rfl,h2,VAs.append h3 h'⟩

theorem run_places {fs:Array Field} (h:fs.all (fun f=>(P.info? f.type).isSome)=true) :
 (fs.mapM (fun (f:Field)=>do pure (f.offset,←sizeOf f.type)):Sem (Array (Nat×Nat))).run P w=.ok (fs.map fun f=>(f.offset,szOf P f.type)) w:=by
 obtain ⟨l⟩:=fs
 simp only [List.mapM_toArray,Sem.run_map,List.map_toArray]
 have:∀ l:List Field,(∀ f∈l,(P.info? f.type).isSome=true) →
  (l.mapM (fun (f:Field)=>do pure (f.offset,←sizeOf f.type)):Sem (List (Nat×Nat))).run P w=.ok (l.map fun f=>(f.offset,szOf P f.type)) w:=by
  intro l
  induction l with
  | nil=>intro _;simp
  | cons f l ih =>
    intro hl
    simp only [List.mapM_cons,Sem.run_bind,run_sizeOf_some (hl f (by simp)),Result.andThen_ok,Sem.run_pure,ih fun g hg=>hl g (by simp [hg]),List.map_cons]
 rw [this l (by simpa using h)]
 rfl

theorem build_sound {t:TypeId} {parts:Array (Nat×Operand)} (ht:TR N L nt T a) {K:AV→Prop} (h:buildA P t (parts.toList.map fun p=>(p.1,ev T p.2)) K) :
 ∃ r s,(Instr.build t (parts.map fun (i,x)=>(i,a.eval x))).run P w=.ok s w∧VA N L r s∧K r:=by
 unfold buildA at h
 split at h <;> try exact h.elim
 rename_i zc place hz hpl
 obtain ⟨zv,hzr,hzv⟩:=zval_sound (N:=N) (L:=L) (w:=w) hz
 obtain ⟨zvs,rfl,hzvs⟩:=hzv
 have hv2:VAs N L ((parts.toList.map fun p=>(p.1,ev T p.2)).map (·.2)) (((parts.map fun (i,x)=>(i,a.eval x)).toList).map (·.2)):=by
  have:=VAs.map_ev ht (parts.toList.map (·.2))
  simpa [Function.comp_def] using this
 obtain ⟨cs,vcs,hf,hr,hK⟩:=fill_sound (N:=N) (L:=L) place _ (parts.map fun (i,x)=>(i,a.eval x)).toList zc zvs.toArray (by simp [Function.comp_def]) hv2 (by simpa using hzvs) h
 unfold placeT at hpl
 split at hpl <;> try cases hpl
 · rename_i fs hu
   simp only [cond_eq_ite] at hpl
   split at hpl <;> simp only [Option.some.injEq,reduceCtorEq] at hpl
   rename_i hall
   subst hpl
   have hall:fs.all (fun f=>(P.info? f.type).isSome)=true:=by rw [←Array.all_toList];exact hall
   simp only [nth_eq,Array.getElem?_toList] at hf
   refine ⟨.p (.agg cs),.agg vcs,?_,⟨vcs.toList,by simp,hr⟩,hK⟩
   simp only [Instr.build,Sem.run_bind,hzr,Result.andThen_ok,run_underlying_some hu,run_places hall]
   have hpl':(fun (i:Nat)=>(fs.map fun (f:Field)=>(f.offset,szOf P f.type))[i]?)=fun (i:Nat)=>(fs[i]?).map fun (f:Field)=>(f.offset,szOf P f.type):=by
    funext i;simp
   simp only [Value.cells,hpl',hf,Sem.run_pure]
 · rename_i n e hu
   simp only [cond_eq_ite] at hpl
   split at hpl <;> simp only [Option.some.injEq,reduceCtorEq] at hpl
   rename_i hinfo
   subst hpl
   refine ⟨.p (.agg cs),.agg vcs,?_,⟨vcs.toList,by simp,hr⟩,hK⟩
   simp only [Instr.build,Sem.run_bind,hzr,Result.andThen_ok,run_underlying_some hu,run_sizeOf_some hinfo,Value.cells,hf,Sem.run_pure]

theorem extract_sound {p:AV} {v:Value} {i:Nat} {K:AV→Prop} (hx:VA N L p v) (h:extractA p i K):∃ r s,(Instr.extract v i).run P w=.ok s w∧VA N L r s∧K r:=by
 unfold extractA at h
 split at h <;> try exact h.elim
 rw [nth_eq] at h
 split at h <;> try exact h.elim
 rename_i vs y hy
 obtain ⟨us,rfl,hus⟩:=hx
 obtain ⟨u,hu,hyu⟩:=hus.get hy
 exact ⟨.p y,u,by simp [Instr.extract,hu],hyu,h⟩

theorem fieldAddr_sound {t:TypeId} {p:AV} {v:Value} {i:Nat} {K:AV→Prop} (hx:VA N L p v) (h:fieldAddrA P t p i K):∃ r s,(Instr.fieldAt t v i).run P w=.ok s w∧VA N L r s∧K r:=by
 unfold fieldAddrA at h
 split at h <;> try exact h.elim
 rename_i off ft hft
 simp only [cond_eq_ite] at h
 split at h <;> try exact h.elim
 rename_i hsz
 have hsz:szOf P ft≠0:=by intro e;rw [e] at hsz;simp at hsz
 unfold fieldT at hft
 split at hft <;> try cases hft
 rename_i fs hu
 simp only [Option.map_eq_some_iff,Prod.mk.injEq] at hft
 obtain ⟨fd,hfd,rfl,rfl⟩:=hft
 rw [nth_eq,Array.getElem?_toList] at hfd
 have hinfo:(P.info? fd.type).isSome=true:=by
  cases hi:P.info? fd.type with
  | none=>simp [szOf,hi] at hsz
  | some x=>rfl
 have hrun:∀ ad:Addr,(Instr.fieldAt t (.pointer (some ad)) i).run P w=.ok (.pointer (some (ad.add fd.offset))) w:=fun ad=>by
  simp only [Instr.fieldAt,Sem.run_bind,run_underlying_some hu,Result.andThen_ok,hfd,Instr.sureAddr,Sem.run_pure,fieldPlace,run_sizeOf_some hinfo,if_neg hsz]
 split at h <;> try exact h.elim
 all_goals
  obtain ⟨hr,rfl⟩:=hx
  refine ⟨_,_,hrun _,?_,h⟩
  refine ⟨hr,?_⟩
  rw [Addr.add_none _ _ rfl]
  simp [ILoc.at,Nat.add_assoc]

theorem field_sound {t:TypeId} {p:AV} {v:Value} {i:Nat} {K:AV→Prop} (hx:VA N L p v) (h:fieldA P t p i K):∃ r s,(Instr.field t v i).run P w=.ok s w∧VA N L r s∧K r:=by
 unfold fieldA at h
 split at h <;> try exact h.elim
 rename_i off ft hft
 split at h <;> try exact h.elim
 rename_i hagg
 split at h <;> try exact h.elim
 rename_i cs
 rw [nth_eq] at h
 split at h <;> try exact h.elim
 rename_i y hy
 unfold fieldT at hft
 split at hft <;> try cases hft
 rename_i fs hu
 simp only [Option.map_eq_some_iff,Prod.mk.injEq] at hft
 obtain ⟨fd,hfd,rfl,rfl⟩:=hft
 rw [nth_eq,Array.getElem?_toList] at hfd
 obtain ⟨vs,rfl,hvs⟩:=hx
 obtain ⟨u,hu2,hyu⟩:=hvs.get hy
 refine ⟨.p (.c y),u,?_,hyu,h⟩
 simp only [Instr.field,Sem.run_bind,run_underlying_some hu,Result.andThen_ok,hfd,asAgg,Sem.run_pure,part,run_isAgg_some hagg,Bool.false_eq_true,if_false]
 simp [hu2]

theorem mkIface_sound {t:TypeId} {p:AV} {v:Value} {K:AV→Prop} (hx:VA N L p v) (h:mkIfaceA P t p K):∃ r s,(Instr.makeInterface t v).run P w=.ok s w∧VA N L r s∧K r:=by
 unfold mkIfaceA at h
 split at h <;> try exact h.elim
 rename_i h1 h2
 split at h <;> try exact h.elim
 · rename_i y
   cases hu:P.underlying t with
   | none=>exact absurd hu h2
   | some d =>
     refine ⟨cv (.iface t y),.iface t v,?_,⟨v,rfl,hx⟩,h⟩
     simp only [Instr.makeInterface,Sem.run_bind,run_underlying_some hu,Result.andThen_ok]
     cases d <;> first | rfl | exact absurd hu (h1 _)
 · rename_i y
   obtain ⟨vs,rfl,u,us,rfl,hu1,hu2⟩:=hx
   simp only [VCs] at hu2
   subst hu2
   cases hu:P.underlying t with
   | none=>exact absurd hu h2
   | some d =>
     refine ⟨cv (.ifs t y),.iface t (.agg #[u]),?_,⟨u,rfl,hu1⟩,h⟩
     simp only [Instr.makeInterface,Sem.run_bind,run_underlying_some hu,Result.andThen_ok]
     cases d <;> first | rfl | exact absurd hu (h1 _)

theorem run_callFunc {f:FuncId} {fn:Func} {args:Array Value} (hf:P.funcs[f]? = some fn) (hn:fn.name ≠ "runtime.NumGoroutine") (hb:fn.body.isSome=true) :
 (callFunc f args).run P w=.ok (.enter f args) w:=by
 have hb':fn.body.isNone=false:=by cases h:fn.body <;> simp [h] at hb ⊢
 simp only [callFunc,Sem.run_bind,run_program,Result.andThen_ok,hf]
 have hn':(fn.name == "runtime.NumGoroutine")=false:=by simpa using hn
 simp [hn',hb']

def Out (P:Program) (B R:Nat→Prop) (w0:World) (N:Nat) (L:Nat→Loc) (K:KP) (w:World) (r:Result Next):Prop :=
 (∃ v w',(r=.ok (.value v) w'∨r=.ok .skip w'∧v=undef)∧Left B R w0 N L K v w') ∨
 (∃ f args,r=.ok (.enter f args) w∧Calls P f args w fun e w'=>∃ v,e=.returned v∧Left B R w0 N L K v w')

variable {K:KP}

theorem Out.value {x:AV} {v:Value} (hrel:Rel B R w0 L H w) (hx:VA H.length L x v) (hK:K x [] H):Out P B R w0 H.length L K w (.ok (.value v) w) :=
 .inl ⟨v,w,.inl rfl,L,x,[],H,Agree.refl _ _ _,Nat.le_refl _,hx,hrel,hK⟩

theorem Out.of_pure {s:Sem Value} (hrel:Rel B R w0 L H w) (h:∃ y u,s.run P w=.ok u w∧VA H.length L y u∧K y [] H) :
 Out P B R w0 H.length L K w ((do pure (Next.value (←s)):Sem Next).run P w):=by
 obtain ⟨y,u,hr,hy,hK⟩:=h
 simp only [Sem.run_bind,hr,Result.andThen_ok,Sem.run_pure]
 exact Out.value hrel hy hK

theorem Out.box {x:AV} {v:Value} {s:Sem Value} {t:TypeId} (hrel:Rel B R w0 L H w) (hx:VA H.length L x v) (hb:boxA H x fun v H'=>K v [] H')
 (hs:∀ u w',(newVar t v).run P w=.ok u w'→s.run P w=.ok (.pointer (some u)) w'):Out P B R w0 H.length L K w ((do pure (Next.value (←s)):Sem Next).run P w):=by
 obtain ⟨u,w',L',y,H',hr,hag,hle,hrel',hy,hK⟩:=box_sound (P:=P) hrel hx t hb
 simp only [Sem.run_bind,hs u w' hr,Result.andThen_ok,Sem.run_pure]
 exact .inl ⟨_,w',.inl rfl,L',y,[],H',hag,hle,hy,hrel',hK⟩

theorem evs_spec {T:Tm}:∀ {xs:List Operand} {k:List AV→Prop},evs T xs k→k (xs.map (ev T))
 | [],_,h=>h
 | x::xs,k,h=>by
   simp only [evs,fA_eq] at h
   exact evs_spec (xs:=xs) h

theorem capsK_spec:∀ {rs:List Nat} {k:List AV→Prop},capsK rs k→k (rs.map fun r=>cv (.ptr r 0))
 | [],_,h=>h
 | _::rs,_,h=>capsK_spec (rs:=rs) h

theorem addK_spec:∀ {xs ys:List AV} {k:List AV→Prop},addK xs ys k→k (xs++ys)
 | [],_,_,h=>h
 | _::xs,_,_,h=>addK_spec (xs:=xs) h

theorem VAs.caps:∀ (cap:List Nat),(∀ r∈cap,r<N)→VAs N L (cap.map fun r=>cv (.ptr r 0)) (cap.map fun r=>Value.pointer (some ((L r).h.at 0 0)))
 | [],_=>rfl
 | r::cap,h=>⟨_,_,rfl,⟨h r (by simp),rfl⟩,VAs.caps cap fun r hr=>h r (by simp [hr])⟩

theorem Out.left {s:Sem Value} (h:∃ r w',s.run P w=.ok r w'∧Left B R w0 H.length L K r w'):Out P B R w0 H.length L K w ((do pure (Next.value (←s)):Sem Next).run P w):=by
 obtain ⟨r,w',h1,h2⟩:=h
 exact .inl ⟨r,w',.inl (by simp [h1]),h2⟩

theorem opt_map (ht:TR N L nt T a) (x:Option Operand):(x.map (ev T)=none∧x.map a.eval=none)∨∃ y v,x.map (ev T)=some y∧x.map a.eval=some v∧VA N L y v:=by
 cases x with
 | none=>exact .inl ⟨rfl,rfl⟩
 | some x=>exact .inr ⟨_,_,rfl,rfl,ht.eval x⟩

theorem aop_sound (hrel:Rel B R w0 L H w) (ht:TR H.length L nt T a) (o:Oper) (h:aop P T H K o.op):Out P B R w0 H.length L K w ((execOp a.eval o).run P w):=by
 unfold execOp
 generalize o.op=op at h
 cases op <;> simp only [aop,fA_eq] at h <;> try exact h.elim
 case move x=>exact Out.value hrel (ht.eval x) h
 case assign x=>exact Out.value hrel (ht.eval x) h
 case pick c x y =>
  have hc:=ht.eval c
  split at h <;> try exact h.elim
  rename_i t hct
  rw [hct] at hc
  obtain hc:a.eval c=.bool t:=hc
  simp only [hc]
  replace h:=brc_elim h
  cases t
  · exact Out.of_pure (s:=(do pure (if ←asBool (.bool false) then a.eval x else a.eval y):Sem Value)) hrel ⟨_,a.eval y,rfl,ht.eval y,by simpa using h⟩
  · exact Out.of_pure (s:=(do pure (if ←asBool (.bool true) then a.eval x else a.eval y):Sem Value)) hrel ⟨_,a.eval x,rfl,ht.eval x,by simpa using h⟩
 case alloc t =>
  split at h
  · rename_i e hb
    have hz:zval P t=.p (.agg [.nilptr,.nilslc]):=by
     unfold bldT at hb
     split at hb <;> try (cases hb;done)
     split at hb <;> try (cases hb;done)
     split at hb <;> try (cases hb;done)
     assumption
    obtain ⟨z,hzr,hzv⟩:=zval_sound (N:=H.length) (L:=L) (w:=w) hz
    have hcs:z.cells = #[.pointer none,.slice none 0 0]:=by
     obtain ⟨vs,rfl,v1,vs1,rfl,hv1,v2,vs2,rfl,hv2,hv3⟩:=hzv
     obtain rfl:v1=_:=hv1
     obtain rfl:v2=_:=hv2
     obtain rfl:vs2=[]:=hv3
     rfl
    have hK:=snocK_spec (h w.heap.size)
    have hag:=upd_agree L ⟨⟨w.heap.size,0,1,2⟩,fun _=>⟨0,0,0,0⟩⟩ H.length []
    have hrel2:Rel B R w0 (upd L H.length ⟨⟨w.heap.size,0,1,2⟩,fun _=>⟨0,0,0,0⟩⟩) (H++[.bld t e w.heap.size []]) (w.alloc (.cells z.cells t)):=by
     refine hrel.put (M:=[]) H.length (.bld t e w.heap.size []) (by simp) (by simp) (fun j hj o1 ho1=>?_) hag (fun j hj=>upd_ne hj) ((Bel.refl B w).alloc hrel.size _)
      (fun b hb=>.inl (heap_alloc_lt _ _ _ hb)) (fun b hb=>?_) (fun b (hb:False)=>hb.elim) ?_
     · rcases Nat.lt_or_gt_of_ne hj with hl | hg
       · rw [List.getElem?_append_left hl] at ho1
         exact ⟨o1,ho1,(killO_nil o1).symm⟩
       · rw [List.getElem?_eq_none (by simp;omega)] at ho1
         cases ho1
     · rw [upd_self] at hb
       rcases hb with rfl | hb
       · exact ⟨fun hb=>Nat.lt_irrefl _ (hrel.size _ hb),by simp,.inl (Nat.le_refl _)⟩
       · exact absurd rfl hb.1
     · rw [upd_self]
       exact ⟨rfl,_,_,by rw [hcs];exact heap_alloc_eq _ _,.inl rfl,World.ownsRow_nil _ _ _ _,rfl,(fun hh=>by cases hh),fun _=>rfl⟩
    refine .inl ⟨.pointer (some ⟨w.heap.size,0,none⟩),w.alloc (.cells z.cells t),.inl ?_,_,_,[],_,hag,by simp,?_,hrel2,hK⟩
    · simp only [Instr.alloc,Sem.run_bind,hzr,Result.andThen_ok,Sem.run_pure]
      rfl
    · rfl
  have h0:=h
  unfold boxA at h0
  split at h0 <;> try exact h0.elim
  rename_i y hz
  obtain ⟨z,hzr,hzv⟩:=zval_sound (N:=H.length) (L:=L) (w:=w) hz
  refine Out.box (t:=t) (x:=zval P t) (v:=z) hrel (by rw [hz];exact hzv) h fun u w' hr=>?_
  simp only [Instr.alloc,Sem.run_bind,hzr,Result.andThen_ok,hr,Sem.run_pure]
 case box t x =>
  refine Out.box (t:=t) hrel (ht.eval x) h fun u w' hr=>?_
  simp only [Instr.box,Sem.run_bind,hr,Result.andThen_ok,Sem.run_pure]
 case build t parts=>exact Out.of_pure hrel (build_sound ht h)
 case load t x =>
  obtain ⟨y,u,h1,h2,h3⟩:=load_sound (P:=P) hrel (ht.eval x) h
  exact Out.of_pure hrel ⟨.p y,u,h1,h2,h3⟩
 case store t x y =>
  obtain ⟨w',H',h1,h2,h3,h4⟩:=store_sound (P:=P) hrel (ht.eval x) (ht.eval y) h
  refine .inl ⟨undef,w',.inr ⟨?_,rfl⟩,L,undefA,[],H',Agree.refl _ _ _,by omega,⟨[],rfl,rfl⟩,h3,h4⟩
  simp only [Sem.run_bind,h1,Result.andThen_ok,Sem.run_pure]
 case nilCheck x =>
  have hx:=ht.eval x
  split at h <;> try exact h.elim
  all_goals
   rename_i hxe
   rw [hxe] at hx
   have hx':=hx
   obtain ⟨hv,hae⟩:=hx
   simp only [hae]
   rw [hae] at hx'
   exact Out.value hrel hx' h
 case binOp op t x y ty=>exact Out.of_pure hrel (bin_sound (ht.eval x) (ht.eval y) h)
 case unOp op t x=>exact Out.of_pure hrel (un_sound (ht.eval x) h)
 case convert s d x=>exact Out.of_pure hrel (conv_sound (ht.eval x) h)
 case makeInterface t x=>exact Out.of_pure hrel (mkIface_sound (ht.eval x) h)
 case fieldAddr t x i=>exact Out.of_pure hrel (fieldAddr_sound (ht.eval x) h)
 case extract x i=>exact Out.of_pure hrel (extract_sound (ht.eval x) h)
 case field t x i=>exact Out.of_pure hrel (field_sound (ht.eval x) h)
 case indexAddr t x i=>exact Out.of_pure hrel (indexAddr_sound hrel (ht.eval x) (ht.eval i) h)
 case index t x i=>exact Out.of_pure hrel (index_sound (ht.eval x) (ht.eval i) h)
 case slice t x lo hi mx=>exact Out.of_pure hrel (slice_sound hrel (ht.eval x) (opt_map ht lo) (opt_map ht hi) (opt_map ht mx) h)
 case makeSlice t l c =>
  exact Out.left (makeSlice_sound hrel (ht.eval l) (ht.eval c) h)
 case buildSlice t n parts =>
  have hv2:VAs H.length L ((parts.toList.map fun p=>(p.1,ev T p.2)).map (·.2)) (((parts.map fun (i,x)=>(i,a.eval x)).toList).map (·.2)):=by
   have:=VAs.map_ev ht (parts.toList.map (·.2))
   simpa [Function.comp_def] using this
  split at h
  · rename_i sz hsz
    exact Out.left (build2_sound hrel hsz (by simp [Function.comp_def]) hv2 h)
  · exact Out.left (buildSlice_sound hrel (by simp [Function.comp_def]) hv2 h)
 case lookup t x i ok=>exact Out.of_pure hrel (lookup_sound hrel (ht.eval x) (ht.eval i) h)
 case next x s =>
  cases s with
  | true=>exact h.elim
  | false =>
    obtain ⟨u,w',y,H',h1,h2,h3,h4,h5⟩:=next_sound (P:=P) (ty:=o.type) hrel (ht.eval x) h
    exact Out.left ⟨u,w',h1,L,y,[],H',Agree.refl _ _ _,by omega,by rw [h2];exact h4,h3,h5⟩
 case makeFunc f first caps =>
  split at h <;> try exact h.elim
  · rename_i g hfirst
    have h:=evs_spec h
    split at h <;> try exact h.elim
    rename_i l hl
    obtain ⟨h1,h2⟩:=capsOf_sound hl (VAs.map_ev ht caps.toList)
    have hf:first = #[]:=by apply Array.ext';simpa using hfirst
    refine Out.of_pure hrel ⟨cv (.func g l),_,rfl,?_,h⟩
    refine ⟨h1,?_⟩
    subst hf
    simp only [Array.map_empty]
    congr 1
    apply Array.ext'
    simpa using h2
  · rename_i g x hfirst
    split at h <;> try exact h.elim
    rename_i r hcaps hx
    have hf:first = #[x]:=by apply Array.ext';simpa using hfirst
    have hc:caps = #[]:=by apply Array.ext';simpa using hcaps
    have hv:=ht.eval x
    rw [hx] at hv
    obtain ⟨hr,hv⟩:=hv
    subst hf hc
    refine Out.of_pure hrel ⟨cv (.bfn g r),_,rfl,⟨hr,?_⟩,h⟩
    simp [hv]
 case call c =>
  obtain ⟨callee,args,tys⟩:=c
  dsimp only at h
  split at h <;> try exact h.elim
  rotate_left
  · rename_i b
    have h2:=evs_spec h
    clear h
    have h:=h2
    clear h2
    have hv:=VAs.map_ev ht args.toList
    simp only [resolve,Sem.run_bind,Sem.run_pure,Result.andThen_ok,invoke]
    unfold builtinA at h
    split at h <;> try exact h.elim
    · rename_i x hx
      split at h <;> try exact h.elim
      rename_i t htys
      rw [hx] at hv
      obtain ⟨y,ys,h1,h2,h3⟩:=hv
      simp only [VAs] at h3
      subst h3
      have ha:args.map a.eval = #[y]:=by apply Array.ext';simpa using h1
      have htt:tys = #[t]:=by apply Array.ext';simpa using htys
      rw [ha,htt]
      exact Out.of_pure hrel (lenH_sound hrel h2 h)
    · rename_i s x hx
      rw [hx] at hv
      obtain ⟨y,ys,h1,h2,z,zs,h3,h4,h5⟩:=hv
      simp only [VAs] at h5
      subst h5;subst h3
      have ha:args.map a.eval = #[y,z]:=by apply Array.ext';simpa using h1
      rw [ha]
      split at h
      · have:=append2_sound (P:=P) (ty:=o.type) hrel h2 h4 h
        rw [show tys.toList.toArray=tys from by simp] at this
        exact Out.left this
      · split at h
        · have:=append3_sound (P:=P) (ty:=o.type) hrel h2 h4 h
          rw [show tys.toList.toArray=tys from by simp] at this
          exact Out.left this
        · obtain rfl:=h2
          obtain rfl:=h4
          rename_i k m
          have:=grow_sound (P:=P) (ty:=o.type) (k:=k) hrel h
          rw [show tys.toList.toArray=tys from by simp] at this
          exact Out.left this
        · have:=append_sound (P:=P) (ty:=o.type) hrel h2 h4 h
          rw [show tys.toList.toArray=tys from by simp] at this
          exact Out.left this
    · rename_i x hx
      rw [hx] at hv
      obtain ⟨y,ys,h1,h2,h3⟩:=hv
      simp only [VAs] at h3
      subst h3
      have ha:args.map a.eval = #[y]:=by apply Array.ext';simpa using h1
      rw [ha]
      split at h <;> try exact h.elim
      rename_i t htys
      simp only [cond_eq_ite] at h
      split at h <;> try exact h.elim
      rename_i he
      obtain ⟨e,he⟩:=Option.isSome_iff_exists.1 he
      have htt:tys = #[t]:=by apply Array.ext';simpa using htys
      rw [htt]
      obtain rfl:=h2
      refine Out.of_pure hrel ⟨_,_,?_,VA.intv,h⟩
      simp [Builtin.cap_,run_underlying_some (elemT_spec he),goInt]
    · rename_i x hx
      rw [hx] at hv
      obtain ⟨y,ys,h1,h2,h3⟩:=hv
      simp only [VAs] at h3
      subst h3
      have ha:args.map a.eval = #[y]:=by apply Array.ext';simpa using h1
      rw [ha]
      obtain ⟨w',H',k1,k2,k3,k4⟩:=clear_sound (P:=P) (ty:=o.type) hrel h2 h
      rw [show tys.toList.toArray=tys from by simp] at k1
      exact Out.left ⟨_,w',k1,L,undefA,[],H',Agree.refl _ _ _,k2,⟨[],rfl,rfl⟩,k3,k4⟩
    · rename_i x y hx
      rw [hx] at hv
      obtain ⟨v,us,h1,h2,u,zs,h3,h4,h5⟩:=hv
      simp only [VAs] at h5
      subst h5;subst h3
      have ha:args.map a.eval = #[v,u]:=by apply Array.ext';simpa using h1
      rw [ha]
      split at h <;> try exact h.elim
      obtain rfl:=h2
      obtain rfl:=h4
      exact Out.of_pure hrel ⟨_,_,rfl,VA.intv,h⟩
    · rename_i x y hx
      rw [hx] at hv
      obtain ⟨v,us,h1,h2,u,zs,h3,h4,h5⟩:=hv
      simp only [VAs] at h5
      subst h5;subst h3
      have ha:args.map a.eval = #[v,u]:=by apply Array.ext';simpa using h1
      rw [ha]
      split at h <;> try exact h.elim
      obtain rfl:=h2
      obtain rfl:=h4
      exact Out.of_pure hrel ⟨_,_,rfl,VA.intv,h⟩
  rename_i f
  have hf:=ht.eval f
  split at h <;> try exact h.elim
  rename_i g cap hfe
  rw [hfe] at hf
  obtain ⟨hcs,hfv⟩:=hf
  have h:=addK_spec (capsK_spec (evs_spec h))
  obtain ⟨fn,h1,h2,h3⟩:=h.fn
  right
  have hcap:VAs H.length L (cap.map fun r=>cv (.ptr r 0)) (cap.map fun r=>Value.pointer (some ((L r).h.at 0 0))):=by
   exact VAs.caps cap hcs
  refine ⟨g,(args.toList.map a.eval++cap.map fun r=>Value.pointer (some ((L r).h.at 0 0))).toArray,?_,h.run B R w0 L w _ hrel (VAs.append (VAs.map_ev ht _) hcap)⟩
  simp only [resolve,Sem.run_bind,hfv,Deferred.ofValue,Sem.run_pure,Result.andThen_ok,invoke]
  rw [run_callFunc h1 h2 h3]
  congr 2
  apply Array.ext'
  simp

theorem aopX_sound (hrel:Rel B R w0 L H w) (ht:TR H.length L nt T a) (o:Oper) (h:aopX P T H K o.op):Out P B R w0 H.length L K w ((execOp a.eval o).run P w):=by
 by_cases hop:∃ s d x,o.op=.convert s d x
 · obtain ⟨s,d,x,hop⟩:=hop
   rw [hop] at h
   unfold execOp
   rw [hop]
   simp only [aopX] at h
   have hx:=ht.eval x
   unfold convX at h
   split at h
   · rename_i e t he hxe
     rw [hxe] at hx
     simp only [cond_eq_ite,Bool.and_eq_true] at h
     split at h <;> try exact h.elim
     rename_i hc
     obtain ⟨ds,hds⟩:=Option.isSome_iff_exists.1 hc.1
     obtain hx:a.eval x=.string ⟨t.toArray⟩:=hx
     simp only [hx]
     exact Out.left (strBytes_sound hrel hds (elemT_spec he) (isU8_spec hc.2) (snocK_spec h))
   · rename_i r o' n c nn he hxe
     rw [hxe] at hx
     split at h <;> try exact h.elim
     rename_i e hd hs
     simp only [cond_eq_ite,Bool.and_eq_true] at h
     split at h <;> try exact h.elim
     rename_i hc
     obtain ⟨t,h1,h2⟩:=bytesStr_sound (k:=fun t=>K (st t) [] H) hrel hd (elemT_spec hs) (isU8_spec hc.1.1) (Nat.eq_of_beq_eq_true hc.1.2) hc.2 hx h
     exact Out.of_pure hrel ⟨st t,_,h1,rfl,h2⟩
   · rename_i he hxe
     rw [hxe] at hx
     split at h <;> try exact h.elim
     rename_i e hd hs
     simp only [cond_eq_ite] at h
     split at h <;> try exact h.elim
     rename_i hc
     obtain hx:a.eval x=.slice none 0 0:=hx
     simp only [hx]
     refine Out.of_pure hrel ⟨st [],.string .empty,?_,rfl,h⟩
     simp [convert,run_underlying_some hd,run_underlying_some (elemT_spec hs),run_underlying_some (isU8_spec hc),Conv.bytesToString]
   · exact Out.of_pure hrel (conv_sound hx h)
 · refine aop_sound hrel ht o ?_
   have:aopX P T H K o.op=aop P T H K o.op:=by
    cases ho:o.op <;> first | rfl | exact absurd ⟨_,_,_,ho⟩ hop
   rwa [this] at h

theorem addM_eq (M' M:List Nat) (k:List Nat→Prop):addM M' M k=k (M'++M):=by cases M' <;> rfl

theorem wanted_sound (ht:TR N L nt T a) {ops:Array Oper} {o:Oper} {j:Nat} {want:Bool} (hg:o.guard=some (j,want)) {d:Nat}
 (hd:(nth ops.toList j).bind (·.dst)=some d) :
 (∀ b,lk T d=bl b→Region.wanted o (yielded ops a.tmps)=decide (b=want))∧(lk T d=.tup []→Region.wanted o (yielded ops a.tmps)=false):=by
 have hd':(ops[j]?).bind (·.dst)=some d:=by rw [←hd,nth_eq];simp
 have hv:=ht.get d
 constructor
 · intro b hb
   rw [hb] at hv
   obtain hv:a.tmps.getD d undef=.bool b:=hv
   have:a.tmps[d]? = some (.bool b):=by
    rw [Array.getD_eq_getD_getElem?] at hv
    cases hx:a.tmps[d]? with
    | none=>rw [hx] at hv;simp [undef] at hv
    | some x=>rw [hx] at hv;simpa using hv
   simp only [Region.wanted,hg,yielded,hd',Option.bind_some,this]
   cases b <;> cases want <;> rfl
 · intro hb
   rw [hb] at hv
   obtain ⟨vs,hv,hvs⟩:=hv
   simp only [VPs] at hvs
   subst hvs
   have:∀ b,a.tmps[d]?≠some (.bool b):=by
    intro b hx
    rw [Array.getD_eq_getD_getElem?,hx] at hv
    cases hv
   have hy:yielded ops a.tmps j=none:=by
    unfold yielded
    rw [hd']
    simp only [Option.bind_some]
    try (split
         · rename_i b hx;exact absurd hx (this b)
         · rfl)
   simp [Region.wanted,hg,hy]

theorem TR.known (ht:TR N L nt T a) {d:Nat} {b:Bool} (h:lk T d=bl b):TR N L nt ((d,bl b)::T) a :=
 ⟨fun i=>by
  rw [lk_cons]
  split
  · rename_i hd;subst hd;rw [←h];exact ht.get d
  · exact ht.get i,ht.defers,ht.room⟩

theorem TR.setC (ht:TR N L nt T a) {c:Operand} {b:Bool} (h:ev T c=bl b):TR N L nt (setC c b T) a:=by
 cases c with
 | tmp d=>exact ht.known h
 | const _=>exact ht
 | global _=>exact ht
 | func _=>exact ht

theorem runOps_sound {N0:Nat} {L0:Nat→Loc} {ops:Array Oper} {Q:Exit→Act→World→Prop}:∀ (rest:List Oper) (k:Nat) (T:Tm) (M:List Nat) (H:List PO) (K:Tm→List Nat→List PO→Prop) (L:Nat→Loc) (w:World) (a:Act),
 (∀ j,rest[j]? = ops[k+j]?)→N0≤H.length→Agree N0 M L0 L→Rel B R w0 L H w→TR H.length L nt T a→runOps P nt ops.toList rest T M H K →
 (∀ L' T' M' H' w' a',N0≤H'.length→Agree N0 M' L0 L'→Rel B R w0 L' H' w'→TR H'.length L' nt T' a'→K T' M' H'→Q .normal a' w') →
 wpOps P ops Q (List.range' k rest.length) a w
 | [],k,T,M,H,K,L,w,a,_,hN,hag,hrel,ht,h,hQ=>by
   simp only [List.length_nil,List.range'_zero,wpOps]
   exact hQ L T M H w a hN hag hrel ht h
 | o::rest,k,T,M,H,K,L,w,a,hops,hN,hag,hrel,ht,h,hQ=>by
   have h0:ops[k]? = some o:=by simpa using (hops 0).symm
   have hrest:∀ j,rest[j]? = ops[k+1+j]?:=fun j=>by
    have:=hops (j+1)
    simpa [Nat.add_assoc,Nat.add_comm 1 j] using this
   simp only [List.length_cons,List.range'_succ,wpOps,h0]
   have doit:∀ T,TR H.length L nt T a→aopX P T H (fun v M' H'=>killT M' T fun T'=>putT nt T' o.dst v fun T''=>addM M' M fun M''=>runOps P nt ops.toList rest T'' M'' H' K) o.op →
    o.wp P a w (wpOps P ops Q (List.range' (k+1) rest.length)) Q:=by
    intro T ht h
    have hout:=aopX_sound hrel ht o h
    have next:∀ v w',Left B R w0 H.length L (fun v M' H'=>killT M' T fun T'=>putT nt T' o.dst v fun T''=>addM M' M fun M''=>runOps P nt ops.toList rest T'' M'' H' K) v w' →
     wpOps P ops Q (List.range' (k+1) rest.length) (a.put o.dst v) w':=by
     rintro v w' ⟨L',x,M',H',hag',hle,hx,hrel',hK⟩
     obtain ⟨T',hK,ht'⟩:=TR.kill hK ht hle hag'
     obtain ⟨T'',hK,ht''⟩:=putT_spec hK ht' hx
     rw [addM_eq] at hK
     refine runOps_sound rest (k+1) T'' _ H' K L' w' _ hrest (by omega) ?_ hrel' ht'' hK hQ
     exact hag.trans hN hag'
    unfold Oper.wp
    rcases hout with ⟨v,w',hr,hleft⟩ | ⟨f,args,hr,hcall⟩
    · rcases hr with hr | ⟨hr,rfl⟩
      · rw [hr];exact next v w' hleft
      · rw [hr];exact next undef w' hleft
    · rw [hr]
      simp only [Oper.upon]
      refine hcall.mono ?_
      rintro e w' ⟨v,rfl,hleft⟩
      exact next v w' hleft
   have skip:∀ T,TR H.length L nt T a→(putT nt T o.dst undefA fun T''=>runOps P nt ops.toList rest T'' M H K)→wpOps P ops Q (List.range' (k+1) rest.length) (a.put o.dst undef) w:=by
    intro T ht h
    obtain ⟨T'',hK,ht''⟩:=putT_spec (x:=undefA) h ht (v:=undef) ⟨[],rfl,rfl⟩
    exact runOps_sound rest (k+1) T'' M H K L w _ hrest hN hag hrel ht'' hK hQ
   unfold runOps at h
   split at h
   · rename_i hg
     rw [if_pos (by simp [Region.wanted,hg])]
     exact .inl (doit T ht h)
   · rename_i j want hg
     split at h <;> try exact h.elim
     rename_i d hd
     obtain ⟨hw1,hw2⟩:=wanted_sound ht hg hd
     split at h <;> try exact h.elim
     · rename_i b hb
       have hw:=hw1 b hb
       replace h:=brc_elim h
       have htk:=ht.known hb
       cases b <;> cases want <;> simp at h hw
       · rw [if_pos hw];exact .inl (doit _ htk h)
       · rw [if_neg (by simp [hw])];exact skip _ htk h
       · rw [if_neg (by simp [hw])];exact skip _ htk h
       · rw [if_pos hw];exact .inl (doit _ htk h)
     · rename_i hb
       rw [if_neg (by simp [hw2 hb])]
       exact skip T ht h

variable {N0:Nat} {M:List Nat} {Q:Ex→Tm→List Nat→List PO→Prop}

theorem SS.mono {c:Code} {Q':Ex→Tm→List Nat→List PO→Prop} (h:SS P nt N0 c T M H Q) (hq:∀ e T M H,Q e T M H→Q' e T M H):SS P nt N0 c T M H Q' :=
 ⟨fun B R w0 L0 L w a R0 h1 h2 h3 h4 h5=>h.run B R w0 L0 L w a R0 h1 h2 h3 h4 fun e L' T' M' H' w' a' k1 k2 k3 k4 k5=>h5 e L' T' M' H' w' a' k1 k2 k3 k4 (hq _ _ _ _ k5)⟩

theorem SS.seq {x y:Code} (h:SS P nt N0 x T M H fun e T' M' H'=>match e with
 | .normal=>SS P nt N0 y T' M' H' Q
 | e=>Q e T' M' H'):SS P nt N0 (.seq x y) T M H Q :=
 ⟨fun B R w0 L0 L w a R0 h1 h2 h3 h4 h5=>wp_seq (h.run B R w0 L0 L w a _ h1 h2 h3 h4 fun e L' T' M' H' w' a' k1 k2 k3 k4 k5=>by
  cases e with
  | normal=>exact k5.run B R w0 L0 L' w' a' R0 k1 k2 k3 k4 h5
  | exit i=>exact h5 (.exit i) L' T' M' H' w' a' k1 k2 k3 k4 k5
  | ret=>exact h5 .ret L' T' M' H' w' a' k1 k2 k3 k4 k5)⟩

theorem S_ok:∀ (c:Code) (T:Tm) (M:List Nat) (H:List PO) (Q:Ex→Tm→List Nat→List PO→Prop),S P nt N0 c T M H Q→SS P nt N0 c T M H Q:=by
 intro c
 induction c with
 | skip=>exact fun T M H Q h=>⟨fun B R w0 L0 L w a R0 h1 h2 h3 h4 h5=>wp_skip (h5 .normal L T M H w a h1 h2 h3 h4 h)⟩
 | label l=>exact fun T M H Q h=>⟨fun B R w0 L0 L w a R0 h1 h2 h3 h4 h5=>wp_label (h5 .normal L T M H w a h1 h2 h3 h4 h)⟩
 | exit id=>exact fun T M H Q h=>⟨fun B R w0 L0 L w a R0 h1 h2 h3 h4 h5=>wp_exit (h5 (.exit id) L T M H w a h1 h2 h3 h4 h)⟩
 | ret=>exact fun T M H Q h=>⟨fun B R w0 L0 L w a R0 h1 h2 h3 h4 h5=>wp_ret (h5 .ret L T M H w a h1 h2 h3 h4 h)⟩
 | goto l=>intro T M H Q h;exact h.elim
 | scope b ih=>intro T M H Q h;exact h.elim
 | rangeFunc f ps x y ih1 ih2=>intro T M H Q h;exact h.elim
 | refuse s=>intro T M H Q h;exact h.elim
 | loop c ih=>exact fun T M H Q h=>h
 | region id ops draw =>
   intro T M H Q h
   cases draw with
   | true=>exact h
   | false =>
     refine ⟨fun B R w0 L0 L w a R0 h1 h2 h3 h4 h5=>wp_region ?_⟩
     have:=runOps_sound (Q:=R0) ops.toList 0 T M H _ L w a (by simp) h1 h2 h3 h4 h fun L' T' M' H' w' a' k1 k2 k3 k4 k5=>h5 .normal L' T' M' H' w' a' k1 k2 k3 k4 k5
     rwa [Array.length_toList,←List.range_eq_range'] at this
 | seq x y ih1 ih2 =>
   intro T M H Q h
   simp only [S] at h
   split at h
   · refine SS.seq ((ih1 T M H _ h).mono fun e T' M' H' hq=>?_)
     cases e with
     | normal=>exact ih2 _ _ _ _ hq
     | exit i=>exact hq
     | ret=>exact hq
   · exact h
 | cond c x y ih1 ih2 =>
   intro T M H Q h
   refine ⟨fun B R w0 L0 L w a R0 h1 h2 h3 h4 h5=>?_⟩
   unfold S at h
   have hc:=h4.eval c
   split at h <;> try exact h.elim
   rename_i t hct
   rw [hct] at hc
   refine wp_cond hc ?_
   replace h:=brc_elim h
   cases t
   · exact (ih2 _ M H Q (by simpa using h)).run B R w0 L0 L w a R0 h1 h2 h3 (h4.setC hct) h5
   · exact (ih1 _ M H Q (by simpa using h)).run B R w0 L0 L w a R0 h1 h2 h3 (h4.setC hct) h5
 | block id c ih =>
   intro T M H Q h
   refine ⟨fun B R w0 L0 L w a R0 h1 h2 h3 h4 h5=>wp_block ((ih T M H _ h).run B R w0 L0 L w a _ h1 h2 h3 h4 ?_)⟩
   intro e L' T' M' H' w' a' k1 k2 k3 k4 k5
   cases e with
   | normal=>exact h5 .normal L' T' M' H' w' a' k1 k2 k3 k4 k5
   | exit j =>
     simp only [Ex.real,Exit.inBlock]
     dsimp only at k5
     split at k5
     · rename_i hj;rw [if_pos (Nat.eq_of_beq_eq_true hj)];exact h5 .normal L' T' M' H' w' a' k1 k2 k3 k4 k5
     · rename_i hj;rw [if_neg (Nat.ne_of_beq_eq_false hj)];exact h5 (.exit j) L' T' M' H' w' a' k1 k2 k3 k4 k5
   | ret=>exact h5 .ret L' T' M' H' w' a' k1 k2 k3 k4 k5

end

end Go.Mac
