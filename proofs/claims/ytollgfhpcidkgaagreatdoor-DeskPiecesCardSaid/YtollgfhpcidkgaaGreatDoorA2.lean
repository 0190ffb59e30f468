/- Texts that belong together; the first of them:  -/
import Derived.Test.YtollgfhpcidkgaaGreatDoorA1
import Derived.CallsIn
import Derived.ControlIn
import Derived.OrdersIn
import Derived.RangeFuncCalls

section
namespace Go.Mac
open Go

def FW (r:Option Nat):Fence:={ Fence.wide with round:=r }

theorem calls_FW {P:Program} {f:FuncId} {args:Array Value} {w:World} {R:Ending→World→Prop} (r:Option Nat) (n:Nat) (h:Calls P f args w R):CallsIn (FW r) n P f args w R:=by
 have h1:CallsIn Fence.wide n P f args w R:=callsIn_wide.2 h
 cases r with
 | none=>exact h1
 | some l=>exact h1.inRound l

inductive XE where
 | normal
 | exit (id:Nat)
 | ret
 | panic (c:CV)

def XE.fits (N:Nat) (L:Nat→Loc):XE→Exit→Prop
 | .normal,e=>e=.normal
 | .exit i,e=>e=.exit i
 | .ret,e=>e=.ret
 | .panic c,e=>∃ v,e=.panic [{ v,recovered:=false }]∧VC N L c v

structure TX (D:List Deferred) (N:Nat) (L:Nat→Loc) (nt:Nat) (T:Tm) (a:Act):Prop where
 tr:TR N L nt T { tmps:=a.tmps,defers:=[] }
 df:a.defers=D

abbrev QX:=XE→Tm→List Nat→List PO→Prop

structure SX (P:Program) (nt N0:Nat) (D:List Deferred) (c:Code) (T:Tm) (M:List Nat) (H:List PO) (Q:QX):Prop where
 run:∀ r B R w0 L0 L w a R0,N0≤H.length→Agree N0 M L0 L→Rel B R w0 L H w→TX D H.length L nt T a →
  (∀ e e' L' T' M' H' w' a',N0≤H'.length→Agree N0 M' L0 L'→Rel B R w0 L' H' w'→TX D H'.length L' nt T' a'→e.fits H'.length L' e'→Q e T' M' H'→R0 e' a' w')→c.wpIn (FW r) 0 P R0 a w

def LeftP (B R:Nat→Prop) (w0:World) (N:Nat) (L:Nat→Loc) (J:KJ) (v:Value) (w':World):Prop :=
 ∃ L' c M H',Agree N M L L'∧N≤H'.length∧VC H'.length L' c v∧Rel B R w0 L' H' w'∧J c M H'

def EndX (B R:Nat→Prop) (w0:World) (N:Nat) (L:Nat→Loc) (K:KP) (J:KJ) (e:Ending) (w':World):Prop :=
 (∃ v,e=.returned v∧Left B R w0 N L K v w')∨∃ v,e=.panicked [{ v,recovered:=false }]∧LeftP B R w0 N L J v w'

structure DoesX (P:Program) (f:FuncId) (args:List AV) (H:List PO) (K:KP) (J:KJ):Prop where
 fn:∃ fn,P.funcs[f]? = some fn∧fn.name ≠ "runtime.NumGoroutine" ∧ fn.body.isSome=true
 run:∀ B R w0 L w vs,Rel B R w0 L H w→VAs H.length L args vs→Calls P f vs.toArray w fun e w'=>EndX B R w0 H.length L K J e w'

theorem DoesX.of {P:Program} {f:FuncId} {args:List AV} {H:List PO} {K:KP} {J:KJ} (h:Does P f args H K):DoesX P f args H K J :=
 ⟨h.fn,fun B R w0 L w vs hrel hvs=>(h.run B R w0 L w vs hrel hvs).mono fun _ _ h=>.inl h⟩

def aopP (P:Program) (T:Tm) (H:List PO) (K:KP) (J:KJ) (op:Op):Prop :=
 match op with
 | .call c =>
   match c.callee with
   | .value f =>
     match ev T f with
     | .p (.c (.func g caps))=>evs T c.args.toList fun az=>capsK caps fun cs=>addK az cs fun l=>DoesX P g l H K J
     | .p (.c (.bfn g r))=>evs T c.args.toList fun az=>DoesX P g (cv (.ptr r 0)::az) H K J
     | _=>False
   | .builtin b=>evs T c.args.toList fun az=>builtinA P H b c.argTypes.toList az K
   | _=>False
 | .panic x =>
   match ev T x with
   | .p (.c (.iface t y))=>J (.iface t y) [] H
   | .p (.c (.ifs t y))=>J (.ifs t y) [] H
   | _=>False
 | .makeMap t r =>
   match smT P t,r with
   | some _,none=>smMakeA H fun v H'=>K v [] H'
   | _,r=>aopX P T H K (.makeMap t r)
 | .insert t x i y =>
   match smT P t,ev T x with
   | some _,.p (.c (.map r)) =>
     match nth H r with
     | some (.smap ks cs)=>smPutA H r ks cs (ev T i) (ev T y) fun H'=>K undefA [] H'
     | _=>False
   | _,_=>False
 | .typeAssert x _ t ok =>
   match ev T x,P.underlying t with
   | .p (.c (.ifs u y)),some (.struct _)=>bif Nat.beq u t && ok then K (.tup [.agg [y],.c (.f (.bool true))]) [] H else False
   | _,_=>False
 | .binOp o t x y ty =>
   match o,ev T x,ev T y,P.underlying t with
   | .neq,.p (.c (.ifs _ _)),.p (.c .niliface),some (.interface _)=>K (bl true) [] H
   | o,_,_,_=>aopX P T H K (.binOp o t x y ty)
 | op=>aopX P T H K op

section

variable {B R:Nat→Prop} {w0:World} {N:Nat} {L:Nat→Loc} {H:List PO} {P:Program} {w:World} {a:Act} {nt:Nat} {T:Tm} {K:KP} {J:KJ}

def OutP (P:Program) (B R:Nat→Prop) (w0:World) (N:Nat) (L:Nat→Loc) (K:KP) (J:KJ) (w:World) (r:Result Next):Prop :=
 (∃ v w',(r=.ok (.value v) w'∨r=.ok .skip w'∧v=undef)∧Left B R w0 N L K v w') ∨
 (∃ f args,r=.ok (.enter f args) w∧Calls P f args w fun e w'=>EndX B R w0 N L K J e w') ∨
 ∃ v w',r=.halt (.panic v) w'∧LeftP B R w0 N L J v w'

theorem OutP.of {r:Result Next} (h:Out P B R w0 N L K w r):OutP P B R w0 N L K J w r:=by
 rcases h with h | ⟨f,args,h1,h2⟩
 · exact .inl h
 · exact .inr (.inl ⟨f,args,h1,h2.mono fun _ _ h=>.inl h⟩)

theorem aopP_sound (hrel:Rel B R w0 L H w) (ht:TR H.length L nt T a) (o:Oper) (h:aopP P T H K J o.op):OutP P B R w0 H.length L K J w ((execOp a.eval o).run P w):=by
 have plain:aopX P T H K o.op→OutP P B R w0 H.length L K J w ((execOp a.eval o).run P w):=fun h=>OutP.of (aopX_sound hrel ht o h)
 cases hop:o.op with
 | call c =>
   rw [hop] at h
   obtain ⟨callee,args,tys⟩:=c
   cases callee with
   | invoke r m=>exact h.elim
   | builtin b=>exact plain (by rw [hop];exact h)
   | value f =>
     unfold execOp
     rw [hop]
     simp only [aopP] at h
     have hf:=ht.eval f
     split at h <;> try exact h.elim
     · rename_i g cap hfe
       rw [hfe] at hf
       obtain ⟨hcs,hfv⟩:=hf
       have h:=addK_spec (capsK_spec (evs_spec h))
       obtain ⟨fn,h1,h2,h3⟩:=h.fn
       right
       left
       have hcap:VAs H.length L (cap.map fun r=>cv (.ptr r 0)) (cap.map fun r=>Value.pointer (some ((L r).h.at 0 0))):=VAs.caps cap hcs
       refine ⟨g,(args.toList.map a.eval++cap.map fun r=>Value.pointer (some ((L r).h.at 0 0))).toArray,?_,h.run B R w0 L w _ hrel (VAs.append (VAs.map_ev ht _) hcap)⟩
       simp only [resolve,Sem.run_bind,hfv,Deferred.ofValue,Sem.run_pure,Result.andThen_ok,invoke]
       rw [run_callFunc h1 h2 h3]
       congr 2
       apply Array.ext'
       simp
     · rename_i g r hfe
       rw [hfe] at hf
       obtain ⟨hr,hfv⟩:=hf
       have h:=evs_spec h
       obtain ⟨fn,h1,h2,h3⟩:=h.fn
       right
       left
       refine ⟨g,(Value.pointer (some ((L r).h.at 0 0))::args.toList.map a.eval).toArray,?_,h.run B R w0 L w _ hrel ⟨_,_,rfl,⟨hr,rfl⟩,VAs.map_ev ht _⟩⟩
       simp only [resolve,Sem.run_bind,hfv,Deferred.ofValue,Sem.run_pure,Result.andThen_ok,invoke]
       rw [run_callFunc h1 h2 h3]
       congr 2
       apply Array.ext'
       simp
 | panic x =>
   rw [hop] at h
   unfold execOp
   rw [hop]
   simp only [aopP] at h
   have hx:=ht.eval x
   split at h <;> try exact h.elim
   · rename_i t y hxe
     rw [hxe] at hx
     obtain ⟨u,hu,hy⟩:=hx
     right
     right
     refine ⟨a.eval x,w,?_,L,.iface t y,[],H,Agree.refl _ _ _,Nat.le_refl _,⟨u,hu,hy⟩,hrel,h⟩
     have hpn:(Instr.panic (.iface t u)).run P w=.halt (.panic (.iface t u)) w:=rfl
     simp only [hu,Sem.run_bind,hpn,Result.andThen_halt]
   · rename_i t y hxe
     rw [hxe] at hx
     obtain ⟨u,hu,hy⟩:=hx
     right
     right
     refine ⟨a.eval x,w,?_,L,.ifs t y,[],H,Agree.refl _ _ _,Nat.le_refl _,⟨u,hu,hy⟩,hrel,h⟩
     have hpn:(Instr.panic (.iface t (.agg #[u]))).run P w=.halt (.panic (.iface t (.agg #[u]))) w:=rfl
     simp only [hu,Sem.run_bind,hpn,Result.andThen_halt]
 | makeMap t r =>
   rw [hop] at h
   simp only [aopP] at h
   split at h
   · unfold execOp
     rw [hop]
     obtain ⟨u,w',L',y,H',k1,k2,k3,k4,k5,k6⟩:=smMake_sound (P:=P) (t:=t) hrel h
     refine .inl ⟨u,w',.inl ?_,L',y,[],H',k2,k3,k5,k4,k6⟩
     simp [k1]
   · exact plain (by rw [hop];exact h)
 | insert t x i y =>
   rw [hop] at h
   simp only [aopP] at h
   split at h <;> try exact h.elim
   rename_i e r he hxe
   have hx:=ht.eval x
   rw [hxe] at hx
   obtain ⟨hr,hxv⟩:=hx
   rw [nth_eq] at h
   split at h <;> try exact h.elim
   rename_i ks cs hks
   unfold execOp
   rw [hop]
   obtain ⟨w',H',k1,k2,k3,k4⟩:=smPut_sound (P:=P) hrel he hks (ht.eval i) (ht.eval y) h
   refine .inl ⟨undef,w',.inr ⟨?_,rfl⟩,L,undefA,[],H',Agree.refl _ _ _,by omega,⟨[],rfl,rfl⟩,k3,k4⟩
   simp [hxv,k1]
 | typeAssert x xT t ok =>
   rw [hop] at h
   simp only [aopP] at h
   have hx:=ht.eval x
   split at h <;> try exact h.elim
   rename_i u y st hxe hu
   rw [hxe] at hx
   obtain ⟨z,hz,hy⟩:=hx
   cases hc:(Nat.beq u t && ok) with
   | false=>rw [hc] at h;exact h.elim
   | true =>
     rw [hc] at h
     rw [Bool.and_eq_true] at hc
     obtain ⟨hc1,rfl⟩:=hc
     obtain rfl:=Nat.eq_of_beq_eq_true hc1
     unfold execOp
     rw [hop]
     have hr:(Instr.typeAssert (.iface u (.agg #[z])) xT u true).run P w=.ok (.tuple #[.agg #[z],.bool true]) w:=by
      simp [Instr.typeAssert,run_underlying hu,Result.andThen]
     refine .inl ⟨.tuple #[.agg #[z],.bool true],w,.inl ?_,L,.tup [.agg [y],.c (.f (.bool true))],[],H,Agree.refl _ _ _,Nat.le_refl _,⟨[.agg #[z],.bool true],rfl,_,_,rfl,⟨[z],rfl,_,_,rfl,hy,rfl⟩,_,_,rfl,rfl,rfl⟩,hrel,h⟩
     simp only [hz,Sem.run_bind,hr,Result.andThen_ok]
     rfl
 | binOp bo t x y ty =>
   rw [hop] at h
   simp only [aopP] at h
   split at h
   · rename_i u z ms hxe hye hu
     have hx:=ht.eval x
     have hy:=ht.eval y
     rw [hxe] at hx
     rw [hye] at hy
     obtain ⟨q,hq,_⟩:=hx
     have hy:a.eval y=.nilIface:=hy
     unfold execOp
     rw [hop]
     refine .inl ⟨.bool true,w,.inl ?_,L,bl true,[],H,Agree.refl _ _ _,Nat.le_refl _,rfl,hrel,h⟩
     have h1:(eqGuard .neq t x y (.iface u (.agg #[q])) .nilIface).run P w=.ok () w:=run_eqGuard_ne (by simp) (by simp)
     have h2:(Op.equal t (.iface u (.agg #[q])) .nilIface).run P w=.ok false w:=by
      show (Op.equalIn (9999+1) t _ _).run P w=_
      rw [Op.equalIn]
      simp only [Sem.run_bind,run_underlying_some hu,Result.andThen_ok]
      rfl
     simp [hq,hy,h1,h2,binOp]
   · exact plain (by rw [hop];exact h)
 | _=>exact plain (by rw [hop] at h ⊢;exact h)

variable {N0:Nat} {M:List Nat} {D:List Deferred}

def opP (P:Program) (nt:Nat) (all:List Oper) (J:Tm→List Nat→KJ) (o:Oper) (ih:Tm→List Nat→List PO→KT→Prop) (T:Tm) (M:List Nat) (H:List PO) (K:KT):Prop :=
 match o.guard with
 | none=>aopP P T H (fun v M' H'=>killT M' T fun T'=>putT nt T' o.dst v fun T''=>addM M' M fun M''=>ih T'' M'' H' K) (J T M) o.op
 | some (j,want) =>
   match (nth all j).bind (·.dst) with
   | some d =>
     match lk T d with
     | .p (.c (.f (.bool b))) =>
       brc b
        (match want with
          | true=>aopP P ((d,bl true)::T) H (fun v M' H'=>killT M' ((d,bl true)::T) fun T'=>putT nt T' o.dst v fun T''=>addM M' M fun M''=>ih T'' M'' H' K) (J ((d,bl true)::T) M) o.op
          | false=>putT nt ((d,bl true)::T) o.dst undefA fun T''=>ih T'' M H K)
        (match want with
          | false=>aopP P ((d,bl false)::T) H (fun v M' H'=>killT M' ((d,bl false)::T) fun T'=>putT nt T' o.dst v fun T''=>addM M' M fun M''=>ih T'' M'' H' K) (J ((d,bl false)::T) M) o.op
          | true=>putT nt ((d,bl false)::T) o.dst undefA fun T''=>ih T'' M H K)
     | .tup []=>putT nt T o.dst undefA fun T''=>ih T'' M H K
     | _=>False
   | none=>False

noncomputable def opsP (P:Program) (nt:Nat) (all:List Oper) (J:Tm→List Nat→KJ) (ops:List Oper):Tm→List Nat→List PO→KT→Prop :=
 @List.rec Oper (fun _=>Tm→List Nat→List PO→KT→Prop) (fun T M H K=>K T M H) (fun o _ ih=>opP P nt all J o ih) ops

def panJ (Q:QX) (T:Tm) (M:List Nat) (c:CV) (M':List Nat) (H':List PO):Prop:=killT M' T fun T'=>addM M' M fun M''=>Q (.panic c) T' M'' H'

theorem TX.put (ht:TX D N L nt T a) {N':Nat} {L':Nat→Loc} {T':Tm} {o:Oper} {v:Value} (h:TR N' L' nt T' (({ tmps:=a.tmps,defers:=[] }:Act).put o.dst v)):TX D N' L' nt T' (a.put o.dst v):=by
 obtain ⟨tm,df⟩:=a
 have e:({ tmps:=tm,defers:=[] }:Act).put o.dst v = { tmps:=((⟨tm,df⟩ : Act).put o.dst v).tmps,defers:=[] }:=by
  unfold Act.put
  cases o.dst <;> rfl
 refine ⟨?_,?_⟩
 · rw [←e];exact h
 · have:=ht.df
   unfold Act.put
   cases o.dst <;> exact this

theorem op_no_defer {o:Oper} (h:aopP P T H K J o.op):∀ c,o.op≠.defer c:=fun c e=>by
 rw [e] at h
 exact h

theorem opsP_sound {r:Option Nat} {L0:Nat→Loc} {ops:Array Oper} {Q:QX} {R0:Exit→Act→World→Prop}:∀ (rest:List Oper) (k:Nat) (T:Tm) (M:List Nat) (H:List PO) (K:KT) (L:Nat→Loc) (w:World) (a:Act),
 (∀ j,rest[j]? = ops[k+j]?)→N0≤H.length→Agree N0 M L0 L→Rel B R w0 L H w→TX D H.length L nt T a→opsP P nt ops.toList (panJ Q) rest T M H K →
 (∀ L' T' M' H' w' a',N0≤H'.length→Agree N0 M' L0 L'→Rel B R w0 L' H' w'→TX D H'.length L' nt T' a'→K T' M' H'→R0 .normal a' w') →
 (∀ c v L' T' M' H' w' a',N0≤H'.length→Agree N0 M' L0 L'→Rel B R w0 L' H' w'→TX D H'.length L' nt T' a'→VC H'.length L' c v→Q (.panic c) T' M' H'→R0 (.panic [{ v,recovered:=false }]) a' w') →
 wpOpsIn (FW r) 0 P ops R0 (List.range' k rest.length) a w
 | [],k,T,M,H,K,L,w,a,_,hN,hag,hrel,ht,h,hQ,hP=>by
   simp only [List.length_nil,List.range'_zero,wpOpsIn]
   exact hQ L T M H w a hN hag hrel ht h
 | o::rest,k,T,M,H,K,L,w,a,hops,hN,hag,hrel,ht,h,hQ,hP=>by
   have h0:ops[k]? = some o:=by simpa using (hops 0).symm
   have hrest:∀ j,rest[j]? = ops[k+1+j]?:=fun j=>by
    have:=hops (j+1)
    simpa [Nat.add_assoc,Nat.add_comm 1 j] using this
   simp only [List.length_cons,List.range'_succ,wpOpsIn,h0]
   have doit:∀ T,TR H.length L nt T { tmps:=a.tmps,defers:=[] }→aopP P T H (fun v M' H'=>killT M' T fun T'=>putT nt T' o.dst v fun T''=>addM M' M fun M''=>opsP P nt ops.toList (panJ Q) rest T'' M'' H' K) (panJ Q T M) o.op →
    o.wpIn (FW r) 0 P a w (wpOpsIn (FW r) 0 P ops R0 (List.range' (k+1) rest.length)) R0:=by
    intro T htr h
    have hout:=aopP_sound hrel htr o h
    have next:∀ v w',Left B R w0 H.length L (fun v M' H'=>killT M' T fun T'=>putT nt T' o.dst v fun T''=>addM M' M fun M''=>opsP P nt ops.toList (panJ Q) rest T'' M'' H' K) v w' →
     wpOpsIn (FW r) 0 P ops R0 (List.range' (k+1) rest.length) (a.put o.dst v) w':=by
     rintro v w' ⟨L',x,M',H',hag',hle,hx,hrel',hK⟩
     obtain ⟨T',hK,ht'⟩:=TR.kill hK htr hle hag'
     obtain ⟨T'',hK,ht''⟩:=putT_spec hK ht' hx
     rw [addM_eq] at hK
     exact opsP_sound rest (k+1) T'' _ H' K L' w' _ hrest (by omega) (hag.trans hN hag') hrel' (ht.put ht'') hK hQ hP
    have pan:∀ v w',LeftP B R w0 H.length L (panJ Q T M) v w'→R0 (.panic [{ v,recovered:=false }]) a w':=by
     rintro v w' ⟨L',c,M',H',hag',hle,hx,hrel',hK⟩
     obtain ⟨T',hK,ht'⟩:=TR.kill hK htr hle hag'
     rw [addM_eq] at hK
     exact hP c v L' T' _ H' w' a (by omega) (hag.trans hN hag') hrel' ⟨ht',ht.df⟩ hx hK
    refine ⟨fun _ _=>trivial,?_⟩
    rw [Oper.semAt_eq _ _ _ (op_no_defer h)]
    rcases hout with ⟨v,w',hr,hleft⟩ | ⟨f,args,hr,hcall⟩ | ⟨v,w',hr,hp⟩
    · rcases hr with hr | ⟨hr,rfl⟩
      · rw [show (execOp a.eval o).run P w=_ from hr];exact next v w' hleft
      · rw [show (execOp a.eval o).run P w=_ from hr];exact next undef w' hleft
    · rw [show (execOp a.eval o).run P w=_ from hr]
      refine ⟨fun hd=>(by cases r <;> cases hd),calls_FW r _ (hcall.mono ?_)⟩
      rintro e w' (⟨v,rfl,hleft⟩ | ⟨v,rfl,hp⟩)
      · exact next v w' hleft
      · exact pan v w' hp
    · rw [show (execOp a.eval o).run P w=_ from hr]
      exact pan v w' hp
   have skip:∀ T,TR H.length L nt T { tmps:=a.tmps,defers:=[] }→(putT nt T o.dst undefA fun T''=>opsP P nt ops.toList (panJ Q) rest T'' M H K)→wpOpsIn (FW r) 0 P ops R0 (List.range' (k+1) rest.length) (a.put o.dst undef) w:=by
    intro T htr h
    obtain ⟨T'',hK,ht''⟩:=putT_spec (x:=undefA) h htr (v:=undef) ⟨[],rfl,rfl⟩
    exact opsP_sound rest (k+1) T'' M H K L w _ hrest hN hag hrel (ht.put ht'') hK hQ hP
   have hab:∀ f,o.about P w a.eval=some f→(FW r).fn f:=fun _ _=>trivial
   change opP P nt ops.toList (panJ Q) o (opsP P nt ops.toList (panJ Q) rest) T M H K at h
   unfold opP at h
   split at h
   · rename_i hg
     rw [if_pos (by simp [Region.wanted,hg])]
     exact doit T ht.tr h
   · rename_i j want hg
     split at h <;> try exact h.elim
     rename_i d hd
     obtain ⟨hw1,hw2⟩:=wanted_sound ht.tr hg hd
     split at h <;> try exact h.elim
     · rename_i b hb
       have hw:=hw1 b hb
       replace h:=brc_elim h
       have htk:=ht.tr.known hb
       cases b <;> cases want <;> simp at h hw
       · rw [if_pos hw];exact doit _ htk h
       · rw [if_neg (by simp [hw])];exact ⟨hab,skip _ htk h⟩
       · rw [if_neg (by simp [hw])];exact ⟨hab,skip _ htk h⟩
       · rw [if_pos hw];exact doit _ htk h
     · rename_i hb
       rw [if_neg (by simp [hw2 hb])]
       exact ⟨hab,skip T ht.tr h⟩

variable {Q:QX}

theorem SX.mono {c:Code} {Q':QX} (h:SX P nt N0 D c T M H Q) (hq:∀ e T M H,Q e T M H→Q' e T M H):SX P nt N0 D c T M H Q' :=
 ⟨fun r B R w0 L0 L w a R0 h1 h2 h3 h4 h5=>h.run r B R w0 L0 L w a R0 h1 h2 h3 h4 fun e e' L' T' M' H' w' a' k1 k2 k3 k4 kf k5=>h5 e e' L' T' M' H' w' a' k1 k2 k3 k4 kf (hq _ _ _ _ k5)⟩

def andX (next:Tm→List Nat→List PO→Prop) (Q:QX):QX:=fun e T M H =>
 match e with
 | .normal=>next T M H
 | e=>Q e T M H

theorem SX.seq {x y:Code} (h:SX P nt N0 D x T M H (andX (fun T' M' H'=>SX P nt N0 D y T' M' H' Q) Q)):SX P nt N0 D (.seq x y) T M H Q :=
 ⟨fun r B R w0 L0 L w a R0 h1 h2 h3 h4 h5=>wpIn_seq (h.run r B R w0 L0 L w a _ h1 h2 h3 h4 fun e e' L' T' M' H' w' a' k1 k2 k3 k4 kf k5=>by
  cases e with
  | normal =>
    obtain rfl:=kf
    exact k5.run r B R w0 L0 L' w' a' R0 k1 k2 k3 k4 h5
  | exit i =>
    obtain rfl:=kf
    exact h5 (.exit i) _ L' T' M' H' w' a' k1 k2 k3 k4 rfl k5
  | ret =>
    obtain rfl:=kf
    exact h5 .ret _ L' T' M' H' w' a' k1 k2 k3 k4 rfl k5
  | panic c =>
    obtain ⟨v,rfl,hv⟩:=kf
    exact h5 (.panic c) _ L' T' M' H' w' a' k1 k2 k3 k4 ⟨v,rfl,hv⟩ k5)⟩

theorem SX.skip (h:Q .normal T M H):SX P nt N0 D .skip T M H Q:=⟨fun _ _ _ _ _ L w a _ h1 h2 h3 h4 h5=>wpIn_skip (h5 .normal _ L T M H w a h1 h2 h3 h4 rfl h)⟩
theorem SX.label {l:Nat} (h:Q .normal T M H):SX P nt N0 D (.label l) T M H Q:=⟨fun _ _ _ _ _ L w a _ h1 h2 h3 h4 h5=>wpIn_label (h5 .normal _ L T M H w a h1 h2 h3 h4 rfl h)⟩
theorem SX.exit {id:Nat} (h:Q (.exit id) T M H):SX P nt N0 D (.exit id) T M H Q:=⟨fun _ _ _ _ _ L w a _ h1 h2 h3 h4 h5=>wpIn_exit (h5 (.exit id) _ L T M H w a h1 h2 h3 h4 rfl h)⟩
theorem SX.ret (h:Q .ret T M H):SX P nt N0 D .ret T M H Q:=⟨fun _ _ _ _ _ L w a _ h1 h2 h3 h4 h5=>wpIn_ret (h5 .ret _ L T M H w a h1 h2 h3 h4 rfl h)⟩

theorem TX.eval (ht:TX D N L nt T a) (c:Operand):VA N L (ev T c) (a.eval c):=ht.tr.eval c
theorem TX.setC (ht:TX D N L nt T a) {c:Operand} {b:Bool} (h:ev T c=bl b):TX D N L nt (setC c b T) a:=⟨ht.tr.setC h,ht.df⟩

theorem SX.cond {c:Operand} {x y:Code} {t:Bool} (hc:ev T c=bl t) (h1:t=true→SX P nt N0 D x (setC c true T) M H Q) (h2:t=false→SX P nt N0 D y (setC c false T) M H Q):SX P nt N0 D (.cond c x y) T M H Q:=by
 refine ⟨fun r B R w0 L0 L w a R0 g1 g2 g3 g4 g5=>?_⟩
 have hv:=g4.eval c
 rw [hc] at hv
 refine wpIn_cond (t:=t) hv ?_
 cases t
 · exact (h2 rfl).run r B R w0 L0 L w a R0 g1 g2 g3 (g4.setC hc) g5
 · exact (h1 rfl).run r B R w0 L0 L w a R0 g1 g2 g3 (g4.setC hc) g5

def blkX (id:Nat) (Q:QX):QX:=fun e T M H =>
 match e with
 | .exit j=>match Nat.beq j id with
   | true=>Q .normal T M H
   | false=>Q (.exit j) T M H
 | e=>Q e T M H

theorem SX.block {id:Nat} {c:Code} (h:SX P nt N0 D c T M H (blkX id Q)):SX P nt N0 D (.block id c) T M H Q:=by
 refine ⟨fun r B R w0 L0 L w a R0 h1 h2 h3 h4 h5=>wpIn_block (h.run r B R w0 L0 L w a _ h1 h2 h3 h4 ?_)⟩
 intro e e' L' T' M' H' w' a' k1 k2 k3 k4 kf k5
 cases e with
 | normal=>obtain rfl:=kf;exact h5 .normal _ L' T' M' H' w' a' k1 k2 k3 k4 rfl k5
 | exit j =>
   obtain rfl:=kf
   simp only [Exit.inBlock]
   dsimp only [blkX] at k5
   split at k5
   · rename_i hj;rw [if_pos (Nat.eq_of_beq_eq_true hj)];exact h5 .normal _ L' T' M' H' w' a' k1 k2 k3 k4 rfl k5
   · rename_i hj;rw [if_neg (Nat.ne_of_beq_eq_false hj)];exact h5 (.exit j) _ L' T' M' H' w' a' k1 k2 k3 k4 rfl k5
 | ret=>obtain rfl:=kf;exact h5 .ret _ L' T' M' H' w' a' k1 k2 k3 k4 rfl k5
 | panic c =>
   obtain ⟨v,rfl,hv⟩:=kf
   exact h5 (.panic c) _ L' T' M' H' w' a' k1 k2 k3 k4 ⟨v,rfl,hv⟩ k5

theorem SX.region {id:Nat} {ops:Array Oper} (h:opsP P nt ops.toList (panJ Q) ops.toList T M H fun T' M' H'=>Q .normal T' M' H'):SX P nt N0 D (.region id ops false) T M H Q:=by
 refine ⟨fun r B R w0 L0 L w a R0 h1 h2 h3 h4 h5=>wpIn_region ?_⟩
 have:=opsP_sound (r:=r) (R0:=R0) ops.toList 0 T M H _ L w a (by simp) h1 h2 h3 h4 h (fun L' T' M' H' w' a' k1 k2 k3 k4 k5=>h5 .normal _ L' T' M' H' w' a' k1 k2 k3 k4 rfl k5)
  fun c v L' T' M' H' w' a' k1 k2 k3 k4 kv k5=>h5 (.panic c) _ L' T' M' H' w' a' k1 k2 k3 k4 ⟨v,rfl,kv⟩ k5
 rwa [Array.length_toList,←List.range_eq_range'] at this

theorem At.useX {α : Type} {tm : α→Tm} {hp : α→List PO} {M0:List Nat} {I : α→Prop} (h:At N0 tm hp M0 T M H I) {L0:Nat→Loc} (hag:Agree N0 M L0 L) (hrel:Rel B R w0 L H w) (ht:TX D H.length L nt T a) :
 ∃ x,I x∧N0≤(hp x).length∧Agree N0 M0 L0 L∧Rel B R w0 L (hp x) w∧TX D (hp x).length L nt (tm x) a:=by
 obtain ⟨x,h1,h2,h3,h4,h5⟩:=h.use hag hrel ht.tr
 exact ⟨x,h1,h2,h3,h4,h5,ht.df⟩

theorem SX.loop {c:Code} {α : Type} (I : α→Prop) (tm : α→Tm) (hp : α→List PO) (μ : α→Nat) (M0:List Nat) (h0:At N0 tm hp M0 T M H I)
 (hr:∀ x,I x→SX P nt N0 D c (tm x) M0 (hp x) (andX (fun T' M' H'=>At N0 tm hp M0 T' M' H' fun y=>I y∧μ y < μ x) Q)):SX P nt N0 D (.loop c) T M H Q:=by
 refine ⟨fun r B R w0 L0 L w a R0 h1 h2 h3 h4 h5=>?_⟩
 let J:Nat→Act→World→Prop:=fun n a' w'=>∃ L' x,N0≤(hp x).length∧Agree N0 M0 L0 L'∧Rel B R w0 L' (hp x) w'∧TX D (hp x).length L' nt (tm x) a'∧I x∧μ x=n
 let m:Act→World→Nat:=fun a' w'=>Classical.epsilon fun n=>J n a' w'∧∀ m,J m a' w'→n≤m
 have hm:∀ n a' w',J n a' w'→J (m a' w') a' w'∧m a' w'≤n:=by
  intro n a' w' hj
  have hex:∃ n,J n a' w'∧∀ m,J m a' w'→n≤m:=by
   clear hr h0 h5
   induction n using Nat.strongRecOn with
   | _ n ih =>
     by_cases hm:∃ m,m<n∧J m a' w'
     · obtain ⟨m,hlt,hpm⟩:=hm
       exact ih m hlt hpm
     · exact ⟨n,hj,fun m hpm=>Nat.le_of_not_lt fun hlt=>hm ⟨m,hlt,hpm⟩⟩
  have hs:J (m a' w') a' w'∧∀ k,J k a' w'→m a' w'≤k:=Classical.epsilon_spec hex
  exact ⟨hs.1,hs.2 n hj⟩
 obtain ⟨x0,hI0,g1,g2,g3,g4⟩:=h0.useX h2 h3 h4
 refine wpIn_loop (fun a' w'=>∃ n,J n a' w') m ⟨_,L,x0,g1,g2,g3,g4,hI0,rfl⟩ ?_
 rintro a1 w1 ⟨n1,hj1⟩
 obtain ⟨⟨L1,x1,k1,k2,k3,k4,k5,k6⟩,_⟩:=hm n1 a1 w1 hj1
 refine (hr x1 k5).run r B R w0 L0 L1 w1 a1 _ k1 k2 k3 k4 ?_
 intro e e' L' T' M' H' w' a' j1 j2 j3 j4 jf j5
 cases e with
 | normal =>
   obtain rfl:=jf
   obtain ⟨x2,⟨hI2,hlt⟩,i1,i2,i3,i4⟩:=At.useX j5 j2 j3 j4
   have hj2:J (μ x2) a' w':=⟨L',x2,i1,i2,i3,i4,hI2,rfl⟩
   have:=(hm _ a' w' hj2).2
   exact ⟨⟨_,hj2⟩,by omega⟩
 | exit i=>obtain rfl:=jf;exact h5 (.exit i) _ L' T' M' H' w' a' j1 j2 j3 j4 rfl j5
 | ret=>obtain rfl:=jf;exact h5 .ret _ L' T' M' H' w' a' j1 j2 j3 j4 rfl j5
 | panic c =>
   obtain ⟨v,rfl,hv⟩:=jf
   exact h5 (.panic c) _ L' T' M' H' w' a' j1 j2 j3 j4 ⟨v,rfl,hv⟩ j5

abbrev CX:=Tm→List Nat→List PO→QX→Prop

def regX (P:Program) (nt N0:Nat) (D:List Deferred) (id:Nat) (ops:Array Oper) (draw:Bool):CX:=fun T M H Q =>
 match draw with
 | false=>opsP P nt ops.toList (panJ Q) ops.toList T M H fun T' M' H'=>Q .normal T' M' H'
 | true=>SX P nt N0 D (.region id ops true) T M H Q

def seqX (P:Program) (nt N0:Nat) (D:List Deferred) (a b:Code) (ia ib:CX):CX:=fun T M H Q =>
 match joins a with
 | false=>ia T M H (andX (fun T' M' H'=>ib T' M' H' Q) Q)
 | true=>SX P nt N0 D (.seq a b) T M H Q

def condX (c:Operand) (ia ib:CX):CX:=fun T M H Q =>
 match ev T c with
 | .p (.c (.f (.bool t)))=>brc t (ia (setC c true T) M H Q) (ib (setC c false T) M H Q)
 | _=>False

noncomputable def XR (P:Program) (nt N0:Nat) (D:List Deferred) (c:Code):CX :=
 @Code.rec (fun _=>CX) (fun T M H Q=>Q .normal T M H) (fun id ops draw=>regX P nt N0 D id ops draw) (fun a b ia ib=>seqX P nt N0 D a b ia ib) (fun c _ _ ia ib=>condX c ia ib) (fun id _ ic=>fun T M H Q=>ic T M H (blkX id Q))
  (fun c _=>fun T M H Q=>SX P nt N0 D (.loop c) T M H Q) (fun g ps x y _ _=>fun T M H Q=>SX P nt N0 D (.rangeFunc g ps x y) T M H Q) (fun id=>fun T M H Q=>Q (.exit id) T M H) (fun _ _=>fun _ _ _ _=>False) (fun _=>fun T M H Q=>Q .normal T M H)
  (fun _=>fun _ _ _ _=>False) (fun T M H Q=>Q .ret T M H) (fun _=>fun _ _ _ _=>False) c

theorem XR_ok:∀ (c:Code) (T:Tm) (M:List Nat) (H:List PO) (Q:QX),XR P nt N0 D c T M H Q→SX P nt N0 D c T M H Q:=by
 intro c
 induction c with
 | skip=>exact fun T M H Q h=>SX.skip h
 | label l=>exact fun T M H Q h=>SX.label h
 | exit id=>exact fun T M H Q h=>SX.exit h
 | ret=>exact fun T M H Q h=>SX.ret h
 | goto l=>intro T M H Q h;exact h.elim
 | scope b ih=>intro T M H Q h;exact h.elim
 | rangeFunc f ps x y ih1 ih2=>exact fun T M H Q h=>h
 | refuse s=>intro T M H Q h;exact h.elim
 | loop c ih=>exact fun T M H Q h=>h
 | region id ops draw =>
   intro T M H Q h
   cases draw with
   | true=>exact h
   | false=>exact SX.region h
 | seq x y ih1 ih2 =>
   intro T M H Q h
   change seqX P nt N0 D x y (XR P nt N0 D x) (XR P nt N0 D y) T M H Q at h
   unfold seqX at h
   split at h
   · refine SX.seq ((ih1 T M H _ h).mono fun e T' M' H' hq=>?_)
     cases e with
     | normal=>exact ih2 _ _ _ _ hq
     | exit i=>exact hq
     | ret=>exact hq
     | panic c=>exact hq
   · exact h
 | cond c x y ih1 ih2 =>
   intro T M H Q h
   change condX c (XR P nt N0 D x) (XR P nt N0 D y) T M H Q at h
   unfold condX at h
   split at h <;> try exact h.elim
   rename_i t hct
   replace h:=brc_elim h
   refine SX.cond hct (fun e=>?_) (fun e=>?_)
   · subst e;exact ih1 _ M H Q (by simpa using h)
   · subst e;exact ih2 _ M H Q (by simpa using h)
 | block id c ih=>exact fun T M H Q h=>SX.block (ih T M H _ h)

def endP (N0:Nat) (c:CV) (M:List Nat) (H:List PO) (J:KJ):Prop:=endK N0 (cv c) M H fun x M' H'=>∃ c',x=cv c'∧J c' M' H'

def FnX (P:Program) (fn:Func) (c:Code) (args:List AV) (H:List PO) (K:KP) (J:KJ):Prop :=
 lenK H numbers fun N0=>startK args numbers fun T=>XR P fn.ntmps N0 [] c T [] H fun e T' M' H' =>
  match e with
  | .exit _=>False
  | .panic c=>endP N0 c M' H' J
  | _=>resK P T' H' fn.results.toList fun vs=>tupA vs fun v=>endK N0 v M' H' K

theorem doesX {f:FuncId} {fn:Func} {c:Code} {args:List AV} {H:List PO} {K:KP} {J:KJ} (hf:P.funcs[f]? = some fn) (hc:fn.body=some c) (hn:fn.name ≠ "runtime.NumGoroutine")
 (h:FnX P fn c args H K J):DoesX P f args H K J:=by
 refine ⟨⟨fn,hf,hn,by simp [hc]⟩,fun B R w0 L w vs hrel hvs=>?_⟩
 have h:=lenK_spec h
 rw [numbers_eq] at h
 obtain ⟨T,h,hT⟩:=startK_spec' args 100 0 _ h
 refine (callsIn_wide (n:=0)).1 (callsIn_of_wp hf hc trivial ?_ rfl)
 have hlen:=hvs.length
 have hget:∀ {xs:List AV} {us:List Value},VAs H.length L xs us→∀ i:Nat,VA H.length L ((xs[i]?).getD .u) ((us[i]?).getD undef):=by
  intro xs
  induction xs with
  | nil=>intro us h i;simp [VAs] at h;subst h;simp;trivial
  | cons x xs ih =>
    rintro us ⟨y,ys,rfl,h2,h3⟩ i
    cases i with
    | zero=>exact h2
    | succ i=>simpa using ih h3 i
 have ht:TX [] H.length L fn.ntmps T { tmps:=vs.toArray++Array.replicate (fn.ntmps-vs.toArray.size) undef,defers:=[] }:=by
  refine ⟨⟨fun i=>?_,rfl,by simp;omega⟩,rfl⟩
  rw [hT i,if_pos (Nat.zero_le _),Nat.sub_zero]
  by_cases hi:i<vs.length
  · have:=hget hvs i
    simpa [Array.getD_eq_getD_getElem?,Array.getElem?_append,hi] using this
  · have:args[i]? = none:=List.getElem?_eq_none (by omega)
    rw [this]
    trivial
 refine (XR_ok _ _ _ _ _ h).run none B R w0 L L w _ _ (Nat.le_refl _) (Agree.refl _ _ _) hrel ht ?_
 intro e e' L' T' M' H' w' a' h1 h2 h3 h4 hfit h5
 have fin:(resK P T' H' fn.results.toList fun vs=>tupA vs fun v=>endK H.length v M' H' K) →
  a'.defers=[]∧∃ v,(results fn a'.tmps).run P w'=.ok v w'∧EndX B R w0 H.length L K J (.returned v) w':=by
  intro hres
  obtain ⟨xs,us,k1,k2,k3⟩:=resK_sound (P:=P) h3 h4.tr fn.results.toList _ hres
  have hm:(results fn a'.tmps).run P w'=.ok (if h:us.toArray.size=1 then us.toArray[0] else .tuple us.toArray) w':=by
   rw [results_eq]
   have hma:fn.results=fn.results.toList.toArray:=by simp
   rw [hma]
   simp only [List.mapM_toArray,Sem.run_bind,Sem.run_map,k1,Result.andThen_ok,Sem.run_pure]
  refine ⟨h4.df,_,hm,.inl ⟨_,rfl,?_⟩⟩
  unfold tupA at k3
  split at k3
  · rename_i v
    obtain ⟨y,ys,rfl,hxy,hys⟩:=k2
    simp only [VAs] at hys
    subst hys
    exact endK_spec k3 h1 h2 h3 (by simpa using hxy)
  · rename_i hne
    split at k3 <;> try exact k3.elim
    rename_i l hl
    have hl2:=k2.length
    have:¬us.toArray.size=1:=fun e=>by
     have:xs.length=1:=by simp at e;omega
     obtain ⟨x,hx⟩:=List.length_eq_one_iff.1 this
     exact hne x hx
    rw [dif_neg this]
    exact endK_spec k3 h1 h2 h3 ⟨us,rfl,pvs_spec hl k2⟩
 cases e with
 | normal=>obtain rfl:=hfit;exact fin h5
 | ret=>obtain rfl:=hfit;exact fin h5
 | exit i=>exact h5.elim
 | panic c =>
   obtain ⟨v,rfl,hv⟩:=hfit
   refine ⟨h4.df,.inr ⟨v,rfl,?_⟩⟩
   obtain ⟨L2,x,M2,H2,g1,g2,g3,g4,c',rfl,g5⟩:=endK_spec (u:=v) h5 h1 h2 h3 (show VA H'.length L' (cv c) v from hv)
   exact ⟨L2,c',M2,H2,g1,g2,g3,g4,g5⟩

end

end Go.Mac
end

section
namespace Go.Mac
open Go

section

variable {P:Program} {H:List PO} {f:FuncId} {args:List AV} {K:KP} {J:KJ}

theorem DoesX.frame (m:Nat) (ids:List Nat) (Hl:List PO) (argsl:List AV)
 (h:DoesX P f argsl Hl (fun x M Hl'=>mapM (gmap ids m) M fun Mg=>killHK Mg H fun H0=>setAllK (gmap ids m) H0 ids Hl' fun H'=>renAK (gmap ids m) x fun y=>K y Mg H')
   fun c M Hl'=>mapM (gmap ids m) M fun Mg=>killHK Mg H fun H0=>setAllK (gmap ids m) H0 ids Hl' fun H'=>renCK (gmap ids m) c fun y=>J y Mg H')
 (hm:H.length=m) (hn:ids.Nodup) (hlt:∀ i∈ids,i<m) (hl:Hl.length=ids.length) (hlo:lowH ids.length Hl=true) (hla:lowAs ids.length argsl=true)
 (hH:(ids.map fun i=>H[i]?)=Hl.map fun o=>some (renO (gmap ids m) o)) (ha:args=argsl.map (renA (gmap ids m))):DoesX P f args H K J:=by
 subst hm
 refine ⟨h.fn,fun B R w0 L w vs hrel hvs=>?_⟩
 obtain ⟨B',hrel',hback⟩:=hrel.frame ids hn hlt Hl hl hlo fun k j o hk ho=>by
  have:=congrArg (·[k]?) hH
  simp only [List.getElem?_map,hk,ho,Option.map_some,Option.some.injEq] at this
  exact this
 have hgN:∀ i,i<ids.length→gmap ids H.length i<H.length:=fun i hi=>by
  rw [gmap_some (j:=ids[i]) (by simp [hi])]
  exact hlt _ (List.getElem_mem hi)
 have hvsl:VAs Hl.length (fun i=>L (gmap ids H.length i)) argsl vs:=by
  subst ha
  rw [hl]
  clear h hH
  induction argsl generalizing vs with
  | nil=>exact hvs
  | cons x xs ih =>
    obtain ⟨y,ys,h1,h2,h3⟩:=hvs
    simp only [lowAs,cond_eq_ite] at hla
    split at hla
    · rename_i hx
      exact ⟨y,ys,h1,VA.unren hgN hx h2,ih hla _ h3⟩
    · cases hla
 have up:∀ (H':List PO) (i:Nat),ids.length≤H'.length→i<H'.length→gmap ids H.length i<H.length+(H'.length-ids.length):=fun H' i hle hi=>by
  rcases Nat.lt_or_ge i ids.length with hi' | hi'
  · have:=hgN i hi';omega
  · rw [gmap_ge hi'];omega
 refine (h.run B' R w _ w vs hrel' hvsl).mono ?_
 rintro e w' (⟨v,rfl,Ll,x,M,Hl',h1,h2,h3,h4,h5⟩ | ⟨v,rfl,Ll,x,M,Hl',h1,h2,h3,h4,h5⟩)
 · rw [hl] at h1 h2
   obtain ⟨L',k1,k2,k3⟩:=hback M Ll Hl' w' h1 h4 h2
   simp only [mapM_eq,killHK_eq,setAllK_eq,renAK_eq] at h5
   obtain ⟨s1,s2,s3,s4⟩:=setAll_get (gmap ids H.length) ids Hl' (H.map (killO (M.map (gmap ids H.length)))) h2 hn (by simpa using hlt)
   simp only [List.length_map] at s1
   refine .inl ⟨v,rfl,L',_,_,_,k1,by rw [s1];omega,?_,k3,h5⟩
   have hLl:Ll=fun i=>L' (gmap ids H.length i):=funext k2
   rw [hLl] at h3
   refine VA.ren (fun i hi=>?_) h3
   rw [s1]
   exact up Hl' i h2 hi
 · rw [hl] at h1 h2
   obtain ⟨L',k1,k2,k3⟩:=hback M Ll Hl' w' h1 h4 h2
   simp only [mapM_eq,killHK_eq,setAllK_eq,renCK_eq] at h5
   obtain ⟨s1,s2,s3,s4⟩:=setAll_get (gmap ids H.length) ids Hl' (H.map (killO (M.map (gmap ids H.length)))) h2 hn (by simpa using hlt)
   simp only [List.length_map] at s1
   refine .inr ⟨v,rfl,L',_,_,_,k1,by rw [s1];omega,?_,k3,h5⟩
   have hLl:Ll=fun i=>L' (gmap ids H.length i):=funext k2
   rw [hLl] at h3
   refine (VC.ren (fun i hi=>?_) h3.bound).2 h3
   rw [s1]
   exact up Hl' i h2 hi

theorem DoesX.alone (m:Nat)
 (h:DoesX P f args [] (fun x M Hl'=>mapM (gmap [] m) M fun Mg=>killHK Mg H fun H0=>setAllK (gmap [] m) H0 [] Hl' fun H'=>renAK (gmap [] m) x fun y=>K y Mg H')
   fun c M Hl'=>mapM (gmap [] m) M fun Mg=>killHK Mg H fun H0=>setAllK (gmap [] m) H0 [] Hl' fun H'=>renCK (gmap [] m) c fun y=>J y Mg H')
 (hm:H.length=m:=by rfl) (hla:lowAs 0 args=true:=by rfl) (ha:args=args.map (renA (gmap [] m)):=by rfl):DoesX P f args H K J :=
 DoesX.frame m [] [] args h hm (by simp) (by simp) rfl rfl hla rfl ha

theorem DoesX.on (m:Nat) (ids:List Nat) (Hl:List PO) (argsl:List AV)
 (h:DoesX P f argsl Hl (fun x M Hl'=>mapM (gmap ids m) M fun Mg=>killHK Mg H fun H0=>setAllK (gmap ids m) H0 ids Hl' fun H'=>renAK (gmap ids m) x fun y=>K y Mg H')
   fun c M Hl'=>mapM (gmap ids m) M fun Mg=>killHK Mg H fun H0=>setAllK (gmap ids m) H0 ids Hl' fun H'=>renCK (gmap ids m) c fun y=>J y Mg H')
 (hm:H.length=m:=by rfl) (hn:ids.Nodup:=by decide) (hlt:∀ i∈ids,i<m:=by decide) (hl:Hl.length=ids.length:=by rfl) (hlo:lowH ids.length Hl=true:=by rfl) (hla:lowAs ids.length argsl=true:=by rfl)
 (hH:(ids.map fun i=>H[i]?)=Hl.map fun o=>some (renO (gmap ids m) o):=by rfl) (ha:args=argsl.map (renA (gmap ids m)):=by rfl):DoesX P f args H K J :=
 DoesX.frame m ids Hl argsl h hm hn hlt hl hlo hla hH ha

end

end Go.Mac
end
