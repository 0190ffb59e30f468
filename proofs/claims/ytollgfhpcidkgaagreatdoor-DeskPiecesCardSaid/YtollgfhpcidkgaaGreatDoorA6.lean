/- Texts that belong together; the first of them:  -/
import Derived.Test.YtollgfhpcidkgaaGreatDoorA5
import Derived.Test.YtollgfhpcidkgaaGreatDoorA3
import Derived.Test.YtollgfhpcidkgaaGreatDoorA4
import Derived.Defers
import Derived.Recover
import Derived.RangeFuncRecord

section
open Go Go.Proofs Go.Mac
set_option maxRecDepth 100000
namespace Go.Mac
section
abbrev rtH:PO:=.hnd 0 216 10 30
abbrev eno (n:Int):CV:=.iface 68 (.f (.int .i64 n))

theorem Rel.grow {B R:Nat→Prop} {w0:World} {L:Nat→Loc} {H:List PO} {w w':World} (h:Rel B R w0 L H w) (hb:Bel (fun k=>k<w.heap.size) w w'):Rel B R w0 L H w':=by
 have hB:∀ b,B b→w'.heap[b]? = w.heap[b]?:=fun b hb'=>hb.block b (h.size b hb')
 refine ⟨h.below.trans ⟨hb.os,hb.tape,hb.output,hb.size,hB⟩,h.start,fun i o hi=>?_,fun i o b hi ho=>?_,h.ro,h.sub⟩
 · have:=(h.obj i o hi).mono (M:=[]) (w':=w') (Nat.le_refl _) (Agree.refl _ _ _) fun b hob=>by
    rcases hob with ho | hr
    · exact hb.block b (h.own i o b hi ho).2.1
    · exact hB b (h.sub b (h.ro i o b hi hr))
   rwa [killO_nil] at this
 · obtain ⟨h1,h2,h3⟩:=h.own i o b hi ho
   exact ⟨h1,Nat.lt_of_lt_of_le h2 hb.size,h3⟩

theorem Bel.more {w w':World} {N:Nat} (h:Bel (· < N) w w') (hN:N≤w'.heap.size) (o:Obj):Bel (fun k=>k<N) w (w'.alloc o) :=
 h.alloc (fun _k hk=>Nat.lt_of_lt_of_le hk hN) o

theorem grown (t:Addr) (n:Int) (w:World):Bel (fun k=>k<w.heap.size) w ((AsKit.asW t w).alloc (.cells #[.int .i64 n] 68)):=by
 refine Bel.more (Bel.more (Bel.more (Bel.more (Bel.refl _ _) (Nat.le_refl _) _) ?_ _) ?_ _) ?_ _ <;> simp <;> omega

section

variable {K:KP}

theorem frozen_no {w:World} {b n:Nat} {a:Addr} (h:Cells w b n) (hn:0<n) (ha:a = ⟨b,0,none⟩):w.frozen? a=false:=by
 obtain ⟨c,t,fr,hblk,hsz,hfr⟩:=h
 subst ha
 rcases fr with ⟨lo,hi⟩
 simp only [World.frozen?,hblk]
 have:=hfr 0 (by omega)
 simp at this ⊢
 omega

theorem set_errno {B R:Nat→Prop} {w0:World} {L:Nat→Loc} {H:List PO} {w:World} (h:Rel B R w0 L H w) {r:Nat} {old:Int} (n:Int) (hr:H[r]? = some (.one [.f (.int .i64 old)])) :
 Rel B R w0 L (H.set r (.one [.f (.int .i64 n)])) (AsKit.asW2 ((L r).h.at 0 0) n w):=by
 have hg:=h.grow (grown ((L r).h.at 0 0) n w)
 obtain ⟨hb,hs,hp,hc,hcell⟩:=h.obj r _ hr
 obtain ⟨_,_,_,hc',hcell'⟩:=hg.obj r _ hr
 have hlt:=(List.getElem?_eq_some_iff.1 hr).1
 obtain ⟨w',H',hrun,_,hrel,hH⟩:=store_sound (P:=Tryz.prog) hg (t:=68) (x:=cv (.ptr r 0)) (y:=cv (.f (.int .i64 n))) (v:=.pointer (some ((L r).h.at 0 0))) (u:=.int .i64 n) ⟨hlt,rfl⟩ rfl (K:=fun H'=>H'=H.set r (.one [.f (.int .i64 n)])) (by
  have:storeA Tryz.prog H 68 (cv (.ptr r 0)) (cv (.f (.int .i64 n))) (fun H'=>H'=H.set r (.one [.f (.int .i64 n)]))=(match nth H r with
   | some (.one cs)=>setsK cs 0 [.f (.int .i64 n)] fun cs'=>setK H r (.one cs') fun H'=>H'=H.set r (.one [.f (.int .i64 n)])
   | _=>False):=rfl
  rw [this,nth_eq,hr]
  show setK H r (.one [.f (.int .i64 n)]) _
  rw [setK_eq])
 subst hH
 have hold:(((AsKit.asW ((L r).h.at 0 0) w).alloc (.cells #[.int .i64 n] 68))).cell? ((L r).h.at 0 0)=some (.int .i64 old):=by
  obtain ⟨v,hv,hvr⟩:=hcell' 0 _ rfl
  rw [hv]
  exact congrArg some hvr
 have hfr:(((AsKit.asW ((L r).h.at 0 0) w).alloc (.cells #[.int .i64 n] 68))).frozen? ((L r).h.at 0 0)=false:=frozen_no hc' (by simp) (by simp [ILoc.at,hb])
 have hrun':(Instr.storeAt 68 (.pointer (some ((L r).h.at 0 0))) (.int .i64 n)).run Tryz.prog (((AsKit.asW ((L r).h.at 0 0) w).alloc (.cells #[.int .i64 n] 68)))=.ok () (AsKit.asW2 ((L r).h.at 0 0) n w):=by
  have hsz:∀ w:World,(sizeOf 68).run Tryz.prog w=.ok 1 w:=fun w=>by kernel_rfl
  simp only [Instr.storeAt,Instr.sureAddr,storeVar,Sem.run_bind,Sem.run_pure,Result.andThen_ok,hsz]
  simp [Value.cells,storeCells,Addr.add]
  have e:(L r).h.at 0 0 = ⟨(L r).h.blk,0,none⟩:=by simp [ILoc.at,hb]
  rw [e] at hold hfr ⊢
  rw [run_store Tryz.prog _ _ _ _ (by rfl)]
  simp [hold,hfr]
 rw [hrun'] at hrun
 cases hrun
 exact hrel

theorem cell_of {N:Nat} {L:Nat→Loc} {w:World} {n:Int} {cs:List CV} {l:Loc} (h:OR N L w (.one (.f (.int .i64 n)::cs)) l):w.cell? (l.h.at 0 0)=some (.int .i64 n):=by
 obtain ⟨_,_,_,_,h5⟩:=h
 obtain ⟨v,hv,hvr⟩:=h5 0 _ rfl
 rw [hv]
 exact congrArg some hvr

theorem asErrno (n old:Int) (h:K (bl true) [] [rtH,.one [.f (.int .i64 n)]]):Does Tryz.prog 52 [cv (eno n),cv (.iface 145 (.ptr 1 0))] [rtH,.one [.f (.int .i64 old)]] K:=by
 refine ⟨⟨_,Tryz.func52,by decide,rfl⟩,fun B R w0 L w vs hrel hvs=>?_⟩
 obtain ⟨_,_,rfl,⟨_,rfl,rfl⟩,_,_,rfl,⟨_,rfl,_,rfl⟩,rfl⟩:=hvs
 have hg:=hrel.obj 0 _ rfl
 have ht:=hrel.obj 1 _ rfl
 refine (AsKit.as_errno n ((L 1).h.at 0 0) (.int .i64 old) w hg (cell_of ht) (frozen_no ht.2.2.2.1 (by simp) (by simp [ILoc.at,ht.1]))).mono ?_
 rintro e w' ⟨rfl,rfl⟩
 have:=set_errno hrel (r:=1) n rfl
 exact ⟨_,rfl,L,bl true,[],[rtH,.one [.f (.int .i64 n)]],Agree.refl _ _ _,Nat.le_refl 2,rfl,this,h⟩

theorem asAt (n old pl:Int) (h:K (bl true) [] [rtH,.one [.f (.int .i64 n)],.one [.f (.int .i64 n),.f (.int .i64 pl)]]) :
 Does Tryz.prog 52 [cv (.iface 108 (.ptr 2 0)),cv (.iface 145 (.ptr 1 0))] [rtH,.one [.f (.int .i64 old)],.one [.f (.int .i64 n),.f (.int .i64 pl)]] K:=by
 refine ⟨⟨_,Tryz.func52,by decide,rfl⟩,fun B R w0 L w vs hrel hvs=>?_⟩
 obtain ⟨_,_,rfl,⟨_,rfl,_,rfl⟩,_,_,rfl,⟨_,rfl,_,rfl⟩,rfl⟩:=hvs
 have hg:=hrel.obj 0 _ rfl
 have ht:=hrel.obj 1 _ rfl
 have he:=hrel.obj 2 _ rfl
 refine (AsKit.as_at n ((L 2).h.at 0 0) ((L 1).h.at 0 0) (.int .i64 old) w (cell_of he) hg (cell_of ht) (frozen_no ht.2.2.2.1 (by simp) (by simp [ILoc.at,ht.1]))).mono ?_
 rintro e w' ⟨rfl,rfl⟩
 have:=set_errno hrel (r:=1) n rfl
 exact ⟨_,rfl,L,bl true,[],[rtH,.one [.f (.int .i64 n)],.one [.f (.int .i64 n),.f (.int .i64 pl)]],Agree.refl _ _ _,Nat.le_refl 3,rfl,this,h⟩

theorem tellErrno (n:Int) (h:K (i64 n) [] [rtH]):Does Tryz.prog 46 [cv (eno n)] [rtH] K:=by
 refine Does.cut 1 ?_
 refine does Tryz.func46 rfl (by decide) ?_
 change Does Tryz.prog 52 _ _ _
 refine asErrno n 0 ?_
 exact ⟨by simp,by simp,rfl,rfl,h⟩

theorem tellAt (n pl:Int) (h:K (i64 n) [] [rtH,.one [.f (.int .i64 n),.f (.int .i64 pl)]]):Does Tryz.prog 46 [cv (.iface 108 (.ptr 1 0))] [rtH,.one [.f (.int .i64 n),.f (.int .i64 pl)]] K:=by
 refine Does.cut 2 ?_
 refine does Tryz.func46 rfl (by decide) ?_
 change Does Tryz.prog 52 _ _ _
 refine Does.on 3 [0,2,1] _ _ (asAt n 0 pl ?_)
 exact ⟨by simp,by simp,rfl,rfl,h⟩

end
end
section
abbrev wrongE (n:Int):CV:=.ifs 89 (eno n)

section

variable {K:KP} {J:KJ}

theorem number {s:List UInt8} (hl:s.length≤1000000000) (h1:∀ n,tokV s=some n→K (i64 n) [] [powH,errS,errR]) (h0:tokV s=none→J (wrongE 3) [] [powH,errS,errR]):DoesX Tryz.prog 109 [st s] [powH,errS,errR] K J:=by
 refine doesX Tryz.func109 rfl (by decide) ?_
 change DoesX Tryz.prog 165 _ _ _ _
 refine DoesX.on 3 [1,2] _ _ (DoesX.of (atoiText s hl (fun v hv=>?_) fun hv n=>?_))
 · have hr:=atoi_range hv
   change DoesX Tryz.prog 51 _ _ _ _
   refine DoesX.on 3 [0] _ _ (DoesX.of (strItoa v hr.1 hr.2 ?_))
   refine bZ (fun hne=>?_) (fun heq=>?_)
   · have hne:(Lib.itoa v == s)=false:=by simpa using hne
     refine ⟨_,rfl,h0 ?_⟩
     rw [tokV,hv]
     exact if_neg (by simpa using hne)
   · have heq:(Lib.itoa v == s)=true:=by simpa using heq
     refine h1 v ?_
     rw [tokV,hv]
     exact if_pos (by simpa using heq)
 · refine ⟨_,rfl,h0 ?_⟩
   rw [tokV]
   split
   · rename_i v hv'
     exact absurd hv' (hv v)
   · rfl

def numsZ (l:List Int):List UInt8:=(l.map fun n=>32::Lib.itoa n).flatten

theorem numsZ_len (l:List Int) (hr:∀ x∈l,-9223372036854775808≤x∧x≤9223372036854775807):(numsZ l).length≤21*l.length:=by
 induction l with
 | nil=>simp [numsZ]
 | cons x l ih =>
   have h1:=ih fun y hy=>hr y (by simp [hy])
   have h2:=hr x (by simp)
   have h3:=itoa_len h2.1 h2.2
   rw [numsZ] at h1 ⊢
   simp
   simp at h1
   omega

theorem nums {l:List Int} {n:Nat} {ro nn:Bool} {c:Option Nat} (hl:l.length=n) (hn:n≤1000000) (hr:∀ x∈l,-9223372036854775808≤x∧x≤9223372036854775807) (h:K (st (numsZ l)) [] [powH,.rows ro 1 (l.map rowZ)]) :
 Does Tryz.prog 110 [cv (.slc 1 0 n c nn)] [powH,.rows ro 1 (l.map rowZ)] K:=by
 refine does Tryz.func110 rfl (by decide) ?_
 refine SS.loop (fun i:Nat=>i≤n) (fun i=>[(3,st (numsZ (l.take i))),(6,cv (.slc 1 0 n c nn)),(7,i64 n),(8,i64 i)]) (fun _=>[powH,.rows ro 1 (l.map rowZ)]) (fun i=>n-i) []
  (At.mk' [3,6,7,8] 0 (by simp) ⟨rfl,rfl⟩ rfl rfl (by simp) (by simp) (by simp)) ?_
 intro i hi
 change i≤n at hi
 refine S_r ?_
 refine bZ (fun hlt=>?_) (fun hlt=>?_)
 · have hlt:i<n:=by
    have:=oTr hlt
    have:(i:Int)<(n:Int):=this
    omega
   obtain ⟨x,hx⟩ : ∃ x,l[i]? = some x:=⟨_,List.getElem?_eq_getElem (by omega)⟩
   have hxr:=hr x (List.mem_of_getElem? hx)
   refine at2 (a:=(0:Int)≤(i:Int)) (b:=(i:Int)<(n:Int)) (by omega) (by omega) (rd1 (rowZ x) (.int .i64 x) (by simp [hx]) rfl ?_)
   change Does Tryz.prog 51 _ _ _
   refine Does.on 2 [0] _ _ (strItoa x hxr.1 hxr.2 ?_)
   have hln:=numsZ_len (l.take i) fun x hx=>hr x (List.mem_of_mem_take hx)
   have hli:=itoa_len hxr.1 hxr.2
   have hle:(l.take i).length≤i:=by simp;omega
   refine And.intro (by simp;omega) (And.intro (by simp;omega) ?_)
   refine At.mk' [3,6,7,8] (i+1) ⟨hlt,by omega⟩ ⟨?_,rfl⟩ rfl rfl (by simp) (by simp) (by simp)
   rw [wrap_i64 (i+1) (by omega) (by omega)]
   have:numsZ (l.take (i+1))=numsZ (l.take i)++([32]++Lib.itoa x):=by
    rw [List.take_add_one,hx,numsZ,numsZ]
    simp
   rw [this]
   rfl
 · have hlt:¬(i:Int)<(n:Int):=oFa hlt
   obtain rfl:i=n:=by omega
   rw [List.take_of_length_le (by omega)]
   exact h

def yesZ (b:Bool):List UInt8:=32::(if b then [116,114,117,101] else [102,97,108,115,101])

theorem yes (b:Bool) (h:K (st (yesZ b)) [] []):Does Tryz.prog 119 [bl b] [] K:=by
 refine does Tryz.func119 rfl (by decide) ?_
 change Does Tryz.prog 172 _ _ _
 refine does Tryz.func172 rfl (by decide) ?_
 change Does Tryz.prog 221 _ _ _
 refine does Tryz.func221 rfl (by decide) ?_
 refine bZ (fun hb=>?_) (fun hb=>?_)
 · refine And.intro (by simp) ?_
   have hb:b=true:=hb
   subst hb
   exact h
 · refine And.intro (by simp) ?_
   have hb:b=false:=hb
   subst hb
   exact h

end
end
end Go.Mac
end
section
namespace Go.Mac
open Go

def DefK (P:Program) (g:FuncId) (r:Nat) (H:List PO) (c:Option CV) (K:List Nat→List PO→Prop):Prop :=
 ∀ (B R:Nat→Prop) (w0:World) (L:Nat→Loc) (w:World),Rel B R w0 L H w→∀ (u:FrameMode),
   (match c with
     | none=>u=.returning
     | some c=>∃ v,VC H.length L c v∧u=.panicking [{ v,recovered:=false }]) →
   CallsD P g #[.pointer (some ((L r).h.at 0 0))] u w fun e u' w'=>(∃ x,e=.returned x)∧settle u'=.returning∧∃ L' M H',Agree H.length M L L'∧H.length≤H'.length∧Rel B R w0 L' H' w'∧K M H'

section

variable {P:Program} {f:FuncId} {fn:Func} {args:List AV} {H:List PO} {K:KP} {x rest:Code} {id:Nat} {o1 o2:Oper} {g r tc t1:Nat} {tys:Array TypeId}

def finD (P:Program) (fn:Func) (N0:Nat) (M1 M2:List Nat) (T2:Tm) (K:KP) (M3:List Nat) (H3:List PO):Prop :=
 killT M3 T2 fun T3=>resK P T3 H3 fn.results.toList fun vs=>tupA vs fun v=>endK N0 v (M3++(M2++M1)) H3 K

def FnD (P:Program) (fn:Func) (x rest:Code) (g r tc t1:Nat) (args:List AV) (H:List PO) (K:KP):Prop :=
 lenK H numbers fun N0=>startK args numbers fun T=>XR P fn.ntmps N0 [] x T [] H fun e T1 M1 H1 =>
  match e with
  | .normal=>lk T1 tc=cv (.ptr r 0)∧Nat.blt t1 fn.ntmps=true∧lenK H1 numbers fun N1=>∀ D,XR P fn.ntmps N1 D rest ((t1,cv (.func g [r]))::T1) [] H1 fun e T2 M2 H2 =>
    match e with
    | .exit _=>False
    | .panic c=>has M2 r=false∧DefK P g r H2 (some c) (finD P fn N0 M1 M2 T2 K)
    | _=>has M2 r=false∧DefK P g r H2 none (finD P fn N0 M1 M2 T2 K)
  | _=>False

theorem doesD (hf:P.funcs[f]? = some fn) (hc:fn.body=some (.seq x (.seq (.region id #[o1,o2] false) rest))) (hn:fn.name ≠ "runtime.NumGoroutine") (ho1:o1.op=.makeFunc (.func g) #[] #[.tmp tc]) (hd1:o1.dst=some t1) (hg1:o1.guard=none)
 (ho2:o2.op=.defer { callee:=.value (.tmp t1),args:=#[],argTypes:=tys }) (hd2:o2.dst=none) (hg2:o2.guard=none) (hgf:∃ fg,P.funcs[g]? = some fg∧fg.name ≠ "runtime.NumGoroutine" ∧ fg.body.isSome=true)
 (h:FnD P fn x rest g r tc t1 args H K):Does P f args H K:=by
 refine ⟨⟨fn,hf,hn,by simp [hc]⟩,fun B R w0 L w vs hrel hvs=>?_⟩
 have h:=lenK_spec h
 rw [numbers_eq] at h
 obtain ⟨T,h,hT⟩:=startK_spec' args 100 0 _ h
 refine calls_of_wp_defers hf hc ((wpIn_wide (n:=0)).1 ?_)
 have hlen:=hvs.length
 have hget:∀ {xs:List AV} {us:List Value},VAs H.length L xs us→∀ i:Nat,VA H.length L ((xs[i]?).getD .u) ((us[i]?).getD undef):=by
  intro xs
  induction xs with
  | nil=>intro us h i;simp [VAs] at h;subst h;simp;trivial
  | cons x xs ih =>
    rintro us ⟨y,ys,rfl,h2,h3⟩ i
    cases i with
    | zero=>exact h2
    | succ i=>simpa using ih h3 i
 have ht:TX [] H.length L fn.ntmps T { tmps:=vs.toArray++Array.replicate (fn.ntmps-vs.toArray.size) undef,defers:=[] }:=by
  refine ⟨⟨fun i=>?_,rfl,by simp;omega⟩,rfl⟩
  rw [hT i,if_pos (Nat.zero_le _),Nat.sub_zero]
  by_cases hi:i<vs.length
  · have:=hget hvs i
    simpa [Array.getD_eq_getD_getElem?,Array.getElem?_append,hi] using this
  · have:args[i]? = none:=List.getElem?_eq_none (by omega)
    rw [this]
    trivial
 refine wpIn_seq ((XR_ok _ _ _ _ _ h).run none B R w0 L L w _ _ (Nat.le_refl _) (Agree.refl _ _ _) hrel ht ?_)
 intro e e' L1 T1 M1 H1 w1 a1 k1 k2 k3 k4 hfit k5
 cases e with
 | exit i=>exact k5.elim
 | ret=>exact k5.elim
 | panic c=>exact k5.elim
 | normal =>
   obtain rfl:=hfit
   obtain ⟨htc,ht1,k5⟩:=k5
   have k5:=lenK_spec k5
   have ht1:t1<fn.ntmps:=by simpa [Nat.blt_eq] using ht1
   have hptr:=k4.tr.get tc
   rw [htc] at hptr
   obtain ⟨hr,hptr⟩:=hptr
   have hptr:a1.tmps.getD tc undef=.pointer (some ((L1 r).h.at 0 0)):=hptr
   obtain ⟨d,hd⟩ : ∃ d:Deferred,d = { target:=.fn (.func g) #[.pointer (some ((L1 r).h.at 0 0))],args:=#[] }:=⟨_,rfl⟩
   have hrun1:(execOp a1.eval o1).run P w1=.ok (.value (.func (.func g) #[] #[.pointer (some ((L1 r).h.at 0 0))])) w1:=by
    unfold execOp
    rw [ho1]
    have he:a1.eval (.tmp tc)=.pointer (some ((L1 r).h.at 0 0)):=hptr
    simp [Instr.makeFunc,he]
   obtain ⟨a2,ha2⟩ : ∃ a2,a2=a1.put o1.dst (.func (.func g) #[] #[.pointer (some ((L1 r).h.at 0 0))]):=⟨_,rfl⟩
   have htx2:TX [] H1.length L1 fn.ntmps ((t1,cv (.func g [r]))::T1) a2:=by
    obtain ⟨T',hT',htr⟩:=putT_spec (x:=cv (.func g [r])) (d:=some t1) (nt:=fn.ntmps) (k:=fun T'=>T'=(t1,cv (.func g [r]))::T1) (by simp [putT,ht1,Nat.blt_eq]) k4.tr (v:=.func (.func g) #[] #[.pointer (some ((L1 r).h.at 0 0))]) ⟨fun q hq=>by rw [List.mem_singleton.1 hq];exact hr,rfl⟩
    subst hT'
    rw [ha2]
    refine k4.put ?_
    rw [hd1]
    exact htr
   have hrun2:(execOp a2.eval o2).run P w1=.ok (.defer d) w1:=by
    unfold execOp
    rw [ho2,hd]
    have he:a2.eval (.tmp t1)=.func (.func g) #[] #[.pointer (some ((L1 r).h.at 0 0))]:=by
     have h3:=htx2.tr.get t1
     rw [lk_cons,if_pos rfl] at h3
     obtain ⟨_,h3⟩:=h3
     exact h3
    simp [resolve,he,Deferred.ofValue]
   have hw1:Region.wanted o1 (yielded #[o1,o2] a1.tmps)=true:=by simp [Region.wanted,hg1]
   have hw2:Region.wanted o2 (yielded #[o1,o2] a2.tmps)=true:=by simp [Region.wanted,hg2]
   obtain ⟨a3,ha3⟩ : ∃ a3:Act,a3 = { tmps:=a2.tmps,defers:=[d] }:=⟨_,rfl⟩
   have hpd:({ a2 with defers:=d::a2.defers }:Act).put o2.dst undef=a3:=by
    rw [hd2,htx2.df,ha3]
    rfl
   have hgo:∀ Q0,rest.wpIn (FW none) 0 P Q0 a3 w1→(Code.seq (.region id #[o1,o2] false) rest).wpIn (FW none) 0 P Q0 a1 w1:=fun Q0 hq=>by
    refine wpIn_seq (wpIn_region ?_)
    rw [show List.range (#[o1,o2]:Array Oper).size=[0,1] from rfl]
    simp only [wpOpsIn,show (#[o1,o2]:Array Oper)[0]? = some o1 from rfl,show (#[o1,o2]:Array Oper)[1]? = some o2 from rfl]
    rw [if_pos hw1]
    refine ⟨fun _ _=>trivial,?_⟩
    rw [Oper.semAt_eq _ _ _ (by rw [ho1];intro c hc;cases hc),hrun1]
    show if _ then _ else _
    rw [←ha2,if_pos hw2]
    refine ⟨fun _ _=>trivial,?_⟩
    rw [show Oper.semAt (FW none).round a2.eval o2=execOp a2.eval o2 from rfl,hrun2]
    show rest.wpIn (FW none) 0 P Q0 (({ a2 with defers:=d::a2.defers }:Act).put o2.dst undef) w1
    rw [hpd]
    exact hq
   change (Code.seq (.region id #[o1,o2] false) rest).wpIn (FW none) 0 P (bodyPostD P fn fun e w'=>∃ v,e=.returned v∧Left B R w0 H.length L K v w') a1 w1
   refine hgo _ ?_
   have htx3:TX [d] H1.length L1 fn.ntmps ((t1,cv (.func g [r]))::T1) a3:=⟨by rw [ha3];exact htx2.tr,by rw [ha3]⟩
   refine (XR_ok _ _ _ _ _ (k5 [d])).run none B R w0 L1 L1 w1 a3 _ (Nat.le_refl _) (Agree.refl _ _ _) k3 htx3 ?_
   intro e e' L2 T2 M2 H2 w2 a4 g1 g2 g3 g4 gf g5
   have close:∀ (u:FrameMode) (c:Option CV),has M2 r=false→DefK P g r H2 c (finD P fn H.length M1 M2 T2 K)→(match c with
    | none=>u=.returning
    | some c=>∃ v,VC H2.length L2 c v∧u=.panicking [{ v,recovered:=false }])→u≠.run→Leaves P fn a4.tmps (fun e w'=>∃ v,e=.returned v∧Left B R w0 H.length L K v w') a4.defers u w2:=by
    intro u c hM hD hu hne
    have hL:L2 r=L1 r:=g2 r hr (has_false hM)
    have hcall:=hD B R w0 L2 w2 g3 u hu
    rw [hL] at hcall
    rw [g4.df,hd]
    obtain ⟨fg,q1,q2,q3⟩:=hgf
    refine leaves_cons (f:=g) (args:=#[.pointer (some ((L1 r).h.at 0 0))]) hne ?_ (hcall.mono ?_)
    · simp only [invoke]
      rw [run_callFunc q1 q2 q3]
      rfl
    · rintro e u' w3 ⟨⟨y,rfl⟩,hset,L3,M3,H3,p1,p2,p3,p4⟩
      show Leaves _ _ _ _ [] (settle u') w3
      rw [hset]
      obtain ⟨T3,p4,ht3⟩:=TR.kill p4 g4.tr p2 p1
      obtain ⟨xs,us,s1,s2,s3⟩:=resK_sound (P:=P) p3 ht3 fn.results.toList _ p4
      have hm:(results fn a4.tmps).run P w3=.ok (if h:us.toArray.size=1 then us.toArray[0] else .tuple us.toArray) w3:=by
       rw [results_eq]
       have hma:fn.results=fn.results.toList.toArray:=by simp
       rw [hma]
       simp only [List.mapM_toArray,Sem.run_bind,Sem.run_map,s1,Result.andThen_ok,Sem.run_pure]
      refine ⟨_,hm,_,rfl,?_⟩
      have hagA:Agree H.length (M2++M1) L L2:=k2.trans k1 g2
      have hag:Agree H.length (M3++(M2++M1)) L L3:=hagA.trans (by omega) p1
      unfold tupA at s3
      split at s3
      · rename_i v
        obtain ⟨z,zs,rfl,hxy,hys⟩:=s2
        simp only [VAs] at hys
        subst hys
        exact endK_spec s3 (by omega) hag p3 (by simpa using hxy)
      · rename_i hnx
        split at s3 <;> try exact s3.elim
        rename_i l hl
        have hl2:=s2.length
        have:¬us.toArray.size=1:=fun e=>by
         have:xs.length=1:=by simp at e;omega
         obtain ⟨q,hq⟩:=List.length_eq_one_iff.1 this
         exact hnx q hq
        rw [dif_neg this]
        exact endK_spec s3 (by omega) hag p3 ⟨us,rfl,pvs_spec hl s2⟩
   cases e with
   | exit i=>exact g5.elim
   | normal =>
     obtain rfl:=gf
     exact close .returning none g5.1 g5.2 rfl (by simp)
   | ret =>
     obtain rfl:=gf
     exact close .returning none g5.1 g5.2 rfl (by simp)
   | panic c =>
     obtain ⟨v,rfl,hv⟩:=gf
     exact close _ (some c) g5.1 g5.2 ⟨v,hv,rfl⟩ (by simp)

end

end Go.Mac
end

section
namespace Go.Mac
open Go

section

variable {B R X:Nat→Prop} {w0 w1:World} {L L':Nat→Loc} {H H':List PO} {w w':World}

def Free (B X:Nat→Prop) (L:Nat→Loc) (H:List PO) (w:World):Prop :=
 ∀ b,X b→b<w.heap.size∧¬B b∧∀ (i:Nat) (o:PO),H[i]? = some o→¬Own o (L i) b

theorem Rel.guard (h:Rel B R w0 L H w) (hf:Free B X L H w):Rel (fun b=>B b∨X b) R w L H w:=by
 refine ⟨Bel.refl _ _,fun k hk=>?_,h.obj,fun i o b hi hb=>?_,h.ro,fun b hb=>.inl (h.sub b hb)⟩
 · rcases hk with hk | hk
   · exact h.size k hk
   · exact (hf k hk).1
 · obtain ⟨h1,h2,h3⟩:=h.own i o b hi hb
   exact ⟨fun hc=>by
    rcases hc with hc | hc
    · exact h1 hc
    · exact (hf b hc).2.2 i o hi hb,h2,h3⟩

theorem Rel.unguard (hb:Bel B w0 w1) (h0:∀ k,B k→k<w0.heap.size) (h:Rel (fun b=>B b∨X b) R w1 L H w) (hsub:∀ b,R b→B b):Rel B R w0 L H w∧(∀ b,X b→w.heap[b]? = w1.heap[b]?)∧((∀ b,X b→¬B b)→Free B X L H w):=by
 refine ⟨⟨hb.trans ⟨h.below.os,h.below.tape,h.below.output,h.below.size,fun k hk=>h.below.block k (.inl hk)⟩,h0,h.obj,fun i o b hi ho=>?_,h.ro,hsub⟩,fun b hX=>h.below.block b (.inr hX),fun hn b hX=>⟨h.size b (.inr hX),hn b hX,fun i o hi ho=>(h.own i o b hi ho).1 (.inr hX)⟩⟩
 obtain ⟨h1,h2,h3⟩:=h.own i o b hi ho
 exact ⟨fun hc=>h1 (.inl hc),h2,h3⟩

theorem Rel.turn (h:Rel B R w0 L H w) (hf:Free B X L H w) {b:Nat} (hX:X b) (o:Obj):Rel B R w0 L H (w.putObj b o)∧Free B X L H (w.putObj b o):=by
 obtain ⟨g1,g2,g3⟩:=hf b hX
 have hother:∀ k,k≠b→(w.putObj b o).heap[k]? = w.heap[k]?:=fun k hk=>World.putObj_heap_other hk
 have hsz:(w.putObj b o).heap.size=w.heap.size:=by simp [World.putObj]
 refine ⟨⟨h.below.trans ⟨rfl,rfl,rfl,by omega,fun k hk=>hother k fun e=>g2 (by rw [←e];exact hk)⟩,h.start,fun i o1 hi=>?_,fun i o1 q hi hq=>?_,h.ro,h.sub⟩,fun q hq=>?_⟩
 · have:=(h.obj i o1 hi).mono (M:=[]) (w':=w.putObj b o) (Nat.le_refl _) (Agree.refl _ _ _) fun q hq=>hother q fun e=>by
    subst e
    rcases hq with hq | hq
    · exact g3 i o1 hi hq
    · exact g2 (h.sub q (h.ro i o1 q hi hq))
   rwa [killO_nil] at this
 · obtain ⟨h1,h2,h3⟩:=h.own i o1 q hi hq
   exact ⟨h1,by omega,h3⟩
 · obtain ⟨f1,f2,f3⟩:=hf q hq
   exact ⟨by omega,f2,f3⟩

end

end Go.Mac
end
