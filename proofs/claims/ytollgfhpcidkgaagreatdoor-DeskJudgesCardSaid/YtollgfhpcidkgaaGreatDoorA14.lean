/- Texts that belong together; the first of them:  -/
import Derived.Test.YtollgfhpcidkgaaGreatDoorA13
import Derived.Test.YtollgfhpcidkgaaGreatDoorA6
import Derived.Test.YtollgfhpcidkgaaGreatDoorA4
import Derived.Test.YtollgfhpcidkgaaGreatDoorProg
import Derived.Test.YtollgfhpcidkgaaGreatDoorA3
import Derived.Test.YtollgfhpcidkgaaGreatDoorA12
import Derived.Test.YtollgfhpcidkgaaGreatDoorA7
import Derived.Test.YtollgfhpcidkgaaGreatDoorA11
import Derived.Test.YtollgfhpcidkgaaGreatDoorA9

section
open Go Go.Proofs Go.Mac
set_option maxRecDepth 100000

namespace Go.Mac

theorem grownQ (t:Addr) (w:World):Bel (fun k=>k<w.heap.size) w (AsKit.asQ t w):=by
 refine Bel.more (Bel.more (Bel.more (Bel.refl _ _) (Nat.le_refl _) _) ?_ _) ?_ _ <;> simp <;> omega

theorem grownQ2 (t e:Addr) (w:World):Bel (fun k=>k<w.heap.size) w ((AsKit.asQ t w).alloc (.cells #[.pointer (some e)] 108)):=by
 refine Bel.more (Bel.more (Bel.more (Bel.more (Bel.refl _ _) (Nat.le_refl _) _) ?_ _) ?_ _) ?_ _ <;> simp <;> omega

section

variable {K:AV→List Nat→List PO→Prop}

theorem set_at {B R:Nat→Prop} {w0:World} {L:Nat→Loc} {H:List PO} {w:World} (h:Rel B R w0 L H w) {r q:Nat} (hq:q<H.length) (hr:H[r]? = some (.one [.nilptr])) :
   Rel B R w0 L (H.set r (.one [.ptr q 0])) (AsKit.asQ2 ((L r).h.at 0 0) ((L q).h.at 0 0) w):=by
 have hg:=h.grow (grownQ2 ((L r).h.at 0 0) ((L q).h.at 0 0) w)
 obtain ⟨hb,hs,hp,hc,hcell⟩:=h.obj r _ hr
 obtain ⟨_,_,_,hc',hcell'⟩:=hg.obj r _ hr
 have hlt:=(List.getElem?_eq_some_iff.1 hr).1
 obtain ⟨w',H',hrun,_,hrel,hH⟩:=store_sound (P:=Tryz.prog) hg (t:=108) (x:=cv (.ptr r 0)) (y:=cv (.ptr q 0)) (v:=.pointer (some ((L r).h.at 0 0))) (u:=.pointer (some ((L q).h.at 0 0))) ⟨hlt,rfl⟩ ⟨hq,rfl⟩ (K:=fun H'=>H'=H.set r (.one [.ptr q 0])) (by
   have:storeA Tryz.prog H 108 (cv (.ptr r 0)) (cv (.ptr q 0)) (fun H'=>H'=H.set r (.one [.ptr q 0]))=(match nth H r with
         | some (.one cs)=>setsK cs 0 [.ptr q 0] fun cs'=>setK H r (.one cs') fun H'=>H'=H.set r (.one [.ptr q 0])
         | _=>False):=rfl
   rw [this,nth_eq,hr]
   show setK H r (.one [.ptr q 0]) _
   rw [setK_eq])
 subst hH
 have hold:((AsKit.asQ ((L r).h.at 0 0) w).alloc (.cells #[.pointer (some ((L q).h.at 0 0))] 108)).cell? ((L r).h.at 0 0)=some (.pointer none):=by
   obtain ⟨v,hv,hvr⟩:=hcell' 0 _ rfl
   rw [hv]
   exact congrArg some hvr
 have hfr:((AsKit.asQ ((L r).h.at 0 0) w).alloc (.cells #[.pointer (some ((L q).h.at 0 0))] 108)).frozen? ((L r).h.at 0 0)=false:=frozen_no hc' (by simp) (by simp [ILoc.at,hb])
 have hrun':(Instr.storeAt 108 (.pointer (some ((L r).h.at 0 0))) (.pointer (some ((L q).h.at 0 0)))).run Tryz.prog ((AsKit.asQ ((L r).h.at 0 0) w).alloc (.cells #[.pointer (some ((L q).h.at 0 0))] 108))=.ok () (AsKit.asQ2 ((L r).h.at 0 0) ((L q).h.at 0 0) w):=by
   have hsz:∀ w:World,(sizeOf 108).run Tryz.prog w=.ok 1 w:=fun w=>by kernel_rfl
   simp only [Instr.storeAt,Instr.sureAddr,storeVar,Sem.run_bind,Sem.run_pure,Result.andThen_ok,hsz]
   simp [Value.cells,storeCells,Addr.add]
   have e:(L r).h.at 0 0 = ⟨(L r).h.blk,0,none⟩:=by simp [ILoc.at,hb]
   rw [e] at hold hfr ⊢
   rw [run_store Tryz.prog _ _ _ _ (by rfl)]
   simp [hold,hfr]
 rw [hrun'] at hrun
 cases hrun
 exact hrel

theorem nil_of {N:Nat} {L:Nat→Loc} {w:World} {cs:List CV} {l:Loc} (h:OR N L w (.one (.nilptr::cs)) l):w.cell? (l.h.at 0 0)=some (.pointer none):=by
 obtain ⟨_,_,_,_,h5⟩:=h
 obtain ⟨v,hv,hvr⟩:=h5 0 _ rfl
 rw [hv]
 exact congrArg some hvr

theorem placeNo (n:Int) (h:K (bl false) [] [rtH,.one [.nilptr]]):Does Tryz.prog 52 [cv (eno n),cv (.iface 110 (.ptr 1 0))] [rtH,.one [.nilptr]] K:=by
 refine ⟨⟨_,Tryz.func52,by decide,rfl⟩,fun B R w0 L w vs hrel hvs=>?_⟩
 obtain ⟨_,_,rfl,⟨_,rfl,rfl⟩,_,_,rfl,⟨_,rfl,_,rfl⟩,rfl⟩:=hvs
 have hg:=hrel.obj 0 _ rfl
 refine (AsKit.miss n ((L 1).h.at 0 0) w hg).mono ?_
 rintro e w' ⟨rfl,rfl⟩
 exact ⟨_,rfl,L,bl false,[],[rtH,.one [.nilptr]],Agree.refl _ _ _,Nat.le_refl 2,rfl,hrel.grow (grownQ _ w),h⟩

theorem placeYes (n pl:Int) (h:K (bl true) [] [rtH,.one [.ptr 2 0],.one [.f (.int .i64 n),.f (.int .i64 pl)]]) :
   Does Tryz.prog 52 [cv (.iface 108 (.ptr 2 0)),cv (.iface 110 (.ptr 1 0))] [rtH,.one [.nilptr],.one [.f (.int .i64 n),.f (.int .i64 pl)]] K:=by
 refine ⟨⟨_,Tryz.func52,by decide,rfl⟩,fun B R w0 L w vs hrel hvs=>?_⟩
 obtain ⟨_,_,rfl,⟨_,rfl,_,rfl⟩,_,_,rfl,⟨_,rfl,_,rfl⟩,rfl⟩:=hvs
 have hg:=hrel.obj 0 _ rfl
 have ht:=hrel.obj 1 _ rfl
 refine (AsKit.hit ((L 2).h.at 0 0) ((L 1).h.at 0 0) (.pointer none) w hg (nil_of ht) (frozen_no ht.2.2.2.1 (by simp) (by simp [ILoc.at,ht.1]))).mono ?_
 rintro e w' ⟨rfl,rfl⟩
 have:=set_at hrel (r:=1) (q:=2) (by simp) rfl
 exact ⟨_,rfl,L,bl true,[],[rtH,.one [.ptr 2 0],.one [.f (.int .i64 n),.f (.int .i64 pl)]],Agree.refl _ _ _,Nat.le_refl 3,rfl,this,h⟩

end

end Go.Mac
end

section
namespace Go.Mac
open Go

def recC:Option CV→CV
 | none=>.niliface
 | some c=>c

section

variable {P:Program} {fn:Func} {H:List PO} {K:List Nat→List PO→Prop} {rest:Code} {id:Nat} {o1 o2:Oper} {g r d1 d2:Nat} {tys:Array TypeId} {c:Option CV}

theorem defK_rec0 (hf:P.funcs[g]? = some fn) (hb:fn.body=some (.seq (.region id #[o1,o2] false) rest))
   (ho1:o1.op=.call { callee:=.builtin .recover,args:=#[],argTypes:=tys }) (hd1:o1.dst=some d1) (hg1:o1.guard=none)
   (ho2:o2.op=.assign (.tmp d1)) (hd2:o2.dst=some d2) (hg2:o2.guard=none) (hres:fn.results = #[]) (hn1:d1<fn.ntmps) (hn2:d2<fn.ntmps) (hr:r<H.length)
   (h:XR P fn.ntmps H.length [] rest [(d2,cv (recC c)),(d1,cv (recC c)),(0,cv (.ptr r 0))] [] H fun e _ M H' =>
     match e with
     | .normal=>K M H'
     | .ret=>K M H'
     | _=>False):DefK P g r H c K:=by
 intro B R w0 L w hrel u hu
 refine callsD_of_wpS hf hb fun c₀ cs hc₀=>?_
 obtain ⟨v,cs1,hv,hrec,hcs1⟩ : ∃ v cs1,VC H.length L (recC c) v∧(match recoverD (c₀::cs) with
     | some (v',cs')=>v'=v∧cs'=cs1
     | none=>v=.nilIface∧cs1=c₀::cs)∧∃ u',cs1 = { c₀ with mode:=u' }::cs∧settle u'=.returning:=by
   cases c with
   | none =>
     have hu:u=.returning:=hu
     subst hu
     refine ⟨.nilIface,c₀::cs,rfl,?_,.returning,by rw [←hc₀],rfl⟩
     simp [recoverD,hc₀]
   | some c =>
     obtain ⟨v,hv,hu⟩:=hu
     subst hu
     refine ⟨v,{ c₀ with mode:=.panicking [{ v,recovered:=true }] }::cs,hv,?_,_,rfl,rfl⟩
     simp [recoverD,hc₀]
 obtain ⟨u',rfl,hset⟩:=hcs1
 obtain ⟨a0,ha0⟩ : ∃ a0:Act,a0 = { tmps:=#[Value.pointer (some ((L r).h.at 0 0))]++Array.replicate (fn.ntmps-(#[Value.pointer (some ((L r).h.at 0 0))]:Array Value).size) undef,defers:=[] }:=⟨_,rfl⟩
 rw [←ha0]
 have htx0:TX [] H.length L fn.ntmps [(0,cv (.ptr r 0))] a0:=by
   rw [ha0]
   refine ⟨⟨fun i=>?_,rfl,by simp;omega⟩,rfl⟩
   rw [lk_cons]
   split
   · rename_i e
     subst e
     exact ⟨hr,by rw [Array.getD_eq_getD_getElem?,Array.getElem?_append_left (by simp)];rfl⟩
   · exact trivial
 have put:∀ {T:Tm} {a:Act} {d:Nat} {o:Oper},o.dst=some d→d<fn.ntmps→TX [] H.length L fn.ntmps T a→TX [] H.length L fn.ntmps ((d,cv (recC c))::T) (a.put o.dst v):=by
   intro T a d o hd hlt ht
   obtain ⟨T',hT',htr⟩:=putT_spec (x:=cv (recC c)) (d:=some d) (nt:=fn.ntmps) (k:=fun T'=>T'=(d,cv (recC c))::T) (by simp [putT,hlt,Nat.blt_eq]) ht.tr (v:=v) hv
   subst hT'
   refine ht.put ?_
   rw [hd]
   exact htr
 have htx1:=put hd1 hn1 htx0
 have htx2:=put (o:=o2) hd2 hn2 htx1
 refine wpS_seq (wpS_region ?_)
 have hw1:Region.wanted o1 (yielded #[o1,o2] a0.tmps)=true:=by simp [Region.wanted,hg1]
 have hw2:Region.wanted o2 (yielded #[o1,o2] (a0.put o1.dst v).tmps)=true:=by simp [Region.wanted,hg2]
 have hr1:(execOp a0.eval o1).run P w=.ok .recover w:=by
   unfold execOp
   rw [ho1]
   rfl
 have hr2:(execOp (a0.put o1.dst v).eval o2).run P w=.ok (.value v) w:=by
   have he:(a0.put o1.dst v).eval (.tmp d1)=v:=by
     rw [hd1]
     show (a0.tmps.setIfInBounds d1 v).getD d1 undef=v
     rw [Array.getD_eq_getD_getElem?,Array.getElem?_setIfInBounds_self_of_lt (by rw [ha0];simp;omega)]
     rfl
   unfold execOp
   rw [ho2]
   simp [he]
 rw [show List.range (#[o1,o2]:Array Oper).size=[0,1] from rfl]
 have fin:rest.wpS P (bodyPostS P fn c₀ cs fun e u' w'=>(∃ x,e=.returned x)∧settle u'=.returning∧∃ L' M H',Agree H.length M L L'∧H.length≤H'.length∧Rel B R w0 L' H' w'∧K M H') ((a0.put o1.dst v).put o2.dst v) ({ c₀ with mode:=u' }::cs) w:=by
   refine wpS_of_wp ((wpIn_wide (n:=0)).1 ?_)
   refine (XR_ok _ _ _ _ _ h).run none B R w0 L L w _ _ (Nat.le_refl _) (Agree.refl _ _ _) hrel htx2 ?_
   intro e e' L' T' M' H' w' a' h1 h2 h3 h4 hfit h5
   have done:K M' H'→a'.defers=[]∧∃ u'_1,({ c₀ with mode:=u' }::cs:List Frame) = { c₀ with mode:=u'_1 }::cs∧∃ v,(results fn a'.tmps).run P w'=.ok v w'∧(∃ x,Ending.returned v=.returned x)∧settle u'_1=.returning∧∃ L' M H',Agree H.length M L L'∧H.length≤H'.length∧Rel B R w0 L' H' w'∧K M H':=fun hk=>by
     refine ⟨h4.df,u',rfl,.tuple #[],?_,⟨_,rfl⟩,hset,L',M',H',h2,h1,h3,hk⟩
     rw [results_eq,hres]
     simp
   cases e with
   | exit i=>exact h5.elim
   | panic c=>exact h5.elim
   | normal =>
     obtain rfl:=hfit
     exact done h5
   | ret =>
     obtain rfl:=hfit
     exact done h5
 simp only [wpOpsS,show (#[o1,o2]:Array Oper)[0]? = some o1 from rfl,show (#[o1,o2]:Array Oper)[1]? = some o2 from rfl]
 rw [if_pos hw1,hr1]
 dsimp only
 split
 · rename_i v' cs' hre
   rw [hre] at hrec
   obtain ⟨rfl,rfl⟩:=hrec
   rw [if_pos hw2,hr2]
   exact fin
 · rename_i hre
   rw [hre] at hrec
   obtain ⟨rfl,hcc⟩:=hrec
   rw [if_pos hw2,hr2,←hcc]
   exact fin

theorem defK_rec (hf:P.funcs[g]? = some fn) (hb:fn.body=some (.seq (.region id #[o1,o2] false) rest))
   (ho1:o1.op=.call { callee:=.builtin .recover,args:=#[],argTypes:=tys }) (hd1:o1.dst=some d1) (hg1:o1.guard=none)
   (ho2:o2.op=.assign (.tmp d1)) (hd2:o2.dst=some d2) (hg2:o2.guard=none) (hres:fn.results = #[]) (hn1:d1<fn.ntmps) (hn2:d2<fn.ntmps) (hr:r<H.length)
   (h:lenK H numbers fun N0=>XR P fn.ntmps N0 [] rest [(d2,cv (recC c)),(d1,cv (recC c)),(0,cv (.ptr r 0))] [] H fun e _ M H' =>
     match e with
     | .normal=>K M H'
     | .ret=>K M H'
     | _=>False):DefK P g r H c K :=
 defK_rec0 hf hb ho1 hd1 hg1 ho2 hd2 hg2 hres hn1 hn2 hr (lenK_spec h)

end

end Go.Mac
end

section
open Go Go.Proofs Go.Mac
set_option maxRecDepth 100000

namespace Go.Mac

def errText:EZ→List UInt8
 | .no e=>[101,114,114,111,114,32]++Lib.itoa e
 | .pl e p=>[101,114,114,111,114,32]++Lib.itoa e++([32,97,116,32]++Lib.itoa p)

section

variable {K:List Nat→List PO→Prop}

theorem sayNone {r:Nat} {H:List PO} (hr:r<H.length) (h:K [] H):DefK Tryz.prog 50 r H none K:=by
 refine defK_rec0 Tryz.func50 rfl rfl rfl rfl rfl rfl rfl rfl (by decide) (by decide) hr ?_
 exact h

theorem sayNo {e:Int} (he : -9223372036854775808≤e∧e≤9223372036854775807) (d:DZ) (v:VZ) (s0:List UInt8) (X Y Z:PO)
   (h:∀ A B,K [] (sysH++(deskS 5 d v++[.one [.f (.str (errText (.no e)))],X,Y,Z,A,B]))) :
   DefK Tryz.prog 50 16 (sysH++(deskS 5 d v++[.one [.f (.str s0)],X,Y,Z])) (some (wrongE e)) K:=by
 refine defK_rec Tryz.func50 rfl rfl rfl rfl rfl rfl rfl rfl (by decide) (by decide) (by simp) ?_
 change DoesX Tryz.prog 46 _ _ _ _
 refine DoesX.on 21 [0] _ _ (DoesX.of (tellErrno e ?_))
 change DoesX Tryz.prog 51 _ _ _ _
 refine DoesX.on 21 [1] _ _ (DoesX.of (strItoa e he.1 he.2 ?_))
 have hl:=itoa_len he.1 he.2
 refine And.intro (Nat.le_trans (Nat.add_le_add_left hl 6) (by decide)) ?_
 change DoesX Tryz.prog 52 _ _ _ _
 refine DoesX.on 22 [0,21] _ _ (DoesX.of (placeNo e ?_))
 exact h _ _

theorem sayPl {e p:Int} (he : -9223372036854775808≤e∧e≤9223372036854775807) (hp : -9223372036854775808≤p∧p≤9223372036854775807) (d:DZ) (v:VZ) (s0:List UInt8) (X Y Z:PO)
   (h:∀ A B C,K [] (sysH++(deskS 5 d v++[.one [.f (.str (errText (.pl e p)))],X,Y,Z,A,B,C]))) :
   DefK Tryz.prog 50 16 (sysH++(deskS 5 d v++[.one [.f (.str s0)],X,Y,Z,.one [.f (.int .i64 e),.f (.int .i64 p)]])) (some (.ifs 89 (.iface 108 (.ptr 20 0)))) K:=by
 refine defK_rec Tryz.func50 rfl rfl rfl rfl rfl rfl rfl rfl (by decide) (by decide) (by simp) ?_
 change DoesX Tryz.prog 46 _ _ _ _
 refine DoesX.on 22 [0,20] _ _ (DoesX.of (tellAt e p ?_))
 change DoesX Tryz.prog 51 _ _ _ _
 refine DoesX.on 22 [1] _ _ (DoesX.of (strItoa e he.1 he.2 ?_))
 have hl:=itoa_len he.1 he.2
 have hl2:=itoa_len hp.1 hp.2
 refine And.intro (Nat.le_trans (Nat.add_le_add_left hl 6) (by decide)) ?_
 change DoesX Tryz.prog 52 _ _ _ _
 refine DoesX.on 23 [0,22,20] _ _ (DoesX.of (placeYes e p ?_))
 refine SX.drawR follows (by decide) ?_
 change DoesX Tryz.prog 51 _ _ _ _
 refine DoesX.on 23 [1] _ _ (DoesX.of (strItoa p hp.1 hp.2 ?_))
 repeat' (first | refine And.intro rfl ?_ | refine And.intro (And.intro (by decide) (And.intro (by simp) rfl)) ?_ | refine And.intro (Exists.intro _ (Exists.intro _ (And.intro rfl (And.intro rfl rfl)))) ?_ | fail)
 refine And.intro (Nat.le_trans (Nat.add_le_add_left hl2 4) (by decide)) ?_
 refine And.intro (by
   show ([101,114,114,111,114,32]++Lib.itoa e).length+([32,97,116,32]++Lib.itoa p).length≤9223372036854775807
   rw [List.length_append,List.length_append]
   exact Nat.le_trans (Nat.add_le_add (Nat.add_le_add_left hl 6) (Nat.add_le_add_left hl2 4)) (show 6+20+(4+20)≤9223372036854775807 by decide)) ?_
 exact h _ _ _

end

end Go.Mac
end

section
open Go Go.Proofs Go.Mac
set_option maxRecDepth 100000

namespace Go.Mac

def blankP (x:Nat):Bool:=decide (x=32)

def wordsF (s:List UInt8):List (List UInt8):=(Lib.goFieldsP blankP ⟨s.toArray⟩).map fun b=>b.data.toList

set_option maxHeartbeats 2000000 in
theorem answer2 (x:Nat) (hx:x≤1114111) (W:World):FnGives Tryz.prog 54 #[] #[encR x] (.bool (blankP x)) W:=by
 have mixed:Tryz.prog.follows .mixedOrders=true:=follows
 have hb:decide ((x:Int)=32)=blankP x:=by
   unfold blankP
   exact decide_eq_decide.2 (by omega)
 go_enter Tryz.func54,Tryz.ntmps54
 go_wp2
 go_ret
 exact ⟨by show Ending.returned (.bool ((x:Int) == 32))=_;rw [←hb];rfl,0,rfl⟩

section

variable {K:AV→List Nat→List PO→Prop}

theorem fieldsFunc {s:List UInt8} (hs:s.length≤1000000000) (h:K (cv (.slc 0 0 (wordsF s).length none true)) [] [.rows false 1 ((wordsF s).map rowStr)]) :
   Does Tryz.prog 53 [st s,cv (.func 54 [])] [] K:=by
 refine ⟨⟨_,Tryz.func53,by decide,rfl⟩,fun B R w0 L w vs hrel hvs=>?_⟩
 obtain ⟨_,_,rfl,rfl,_,_,rfl,⟨_,rfl⟩,rfl⟩:=hvs
 refine (Go.Proofs.Tryz.strings_FieldsFunc_runes 54 #[] (enters_of Tryz.func54 (by kernel_rfl) rfl) blankP ⟨s.toArray⟩ w (by show s.length≤_;omega) fun W x hx _=>answer2 x hx W).mono ?_
 rintro e w' ⟨A,rfl,hA,hown,hbelow⟩
 have hsz:=hbelow.size
 generalize hfl:Lib.goFieldsP blankP ⟨s.toArray⟩ = fl at hown
 have hwl:(wordsF s).length=fl.length:=by rw [wordsF,hfl,List.length_map]
 obtain ⟨hxl,hown⟩:=hown
 rcases hown with ⟨hbad,_⟩ | ⟨g,cap,cur,hv,hbase,hcells,hnc,hcm,hcs,htk⟩
 · cases hbad
 cases hv
 have hgs:A<w'.heap.size:=(Array.getElem?_eq_some_iff.1 hcells).1
 refine ⟨_,rfl,upd L 0 ⟨⟨A,0,fl.length,1⟩,fun _=>⟨0,0,0,0⟩⟩,cv (.slc 0 0 (wordsF s).length none true),[],[.rows false 1 ((wordsF s).map rowStr)],fun j hj _=>absurd hj (by simp),by simp,⟨by simp,?_⟩,?_,h⟩
 · rw [upd_self,hwl]
   exact .inr ⟨_,_,rfl,Nat.le_refl _,(fun _ hc=>by cases hc),by simp,fun _=>by simp,fun _=>rfl⟩
 refine hrel.put (M:=[]) 0 (.rows false 1 ((wordsF s).map rowStr)) (by simp) rfl (fun j hj o ho=>?_) (fun j hj _=>absurd hj (by simp)) (fun j hj=>upd_ne hj) ⟨hbelow.os,hbelow.tape,hbelow.output,hsz,fun k hk=>hbelow.block k (hrel.size k hk)⟩ (fun k hk=>.inl (hbelow.block k hk)) (fun k hk=>?_) (fun k (hk:False)=>hk.elim) ?_
 · cases j with
   | zero=>exact absurd rfl hj
   | succ j=>simp at ho
 · rw [upd_self] at hk
   obtain ⟨_,rfl⟩:=hk
   exact ⟨fun hB=>Nat.lt_irrefl _ (Nat.lt_of_lt_of_le (hrel.size _ hB) hA),hgs,.inl hA⟩
 · rw [upd_self]
   refine ⟨rfl,by decide,by simp [hwl],fun _ _=>⟨rfl,fl.length,by simp,cur,_,_,hcells,by omega,fun i hi hc=>by simp at hc⟩,fun i r hi=>?_⟩
   rw [List.getElem?_map] at hi
   obtain ⟨b,hb,rfl⟩:=Option.map_eq_some_iff.1 hi
   rw [wordsF,hfl,List.getElem?_map] at hb
   obtain ⟨c,hc,rfl⟩:=Option.map_eq_some_iff.1 hb
   refine ⟨rfl,fun f x hx=>?_⟩
   match f,hx with
   | 0,hx =>
     obtain rfl:=Option.some.inj hx
     have hlt:i<fl.length:=(List.getElem?_eq_some_iff.1 hc).1
     have hv:cur[i]? = some (Value.string c):=by
       have h1:(List.take (fl.length*1) cur.toList)[i]? = some (Value.string c):=by rw [htk,List.getElem?_map,hc];rfl
       rw [List.getElem?_take,if_pos (by omega),Array.getElem?_toList] at h1
       exact h1
     have ha:(ILoc.at ⟨A,0,fl.length,1⟩ i 0) = ⟨A,i,none⟩:=by simp [ILoc.at]
     rw [ha]
     simp [World.cell?,hcells,hv,FC.val]

end

end Go.Mac
end

section
open Go Go.Proofs Go.Mac
set_option maxRecDepth 100000

namespace Go.Mac

def pkRightB (ph pa wa:Int):Bool:=decide (0≤ph∧ph<2147483648∧0≤pa∧pa≤65535∧0≤wa∧wa≤pa)
abbrev pkPhaseC (o:Bool) (ph pa wa:Int):PV:=.agg [.f (.bool o),.f (.int .i64 ph),.f (.int .i64 pa),.f (.int .i64 wa)]
abbrev pkPhase (o:Bool) (ph pa wa:Int):AV:=.p (pkPhaseC o ph pa wa)
abbrev pkErrC (n:Int):PV:=.c (.iface 68 (.f (.int .i64 n)))
abbrev pkOkC:PV:=.c .niliface
def pkWordZ (o:Bool) (ph pa wa:Int):Int:=wa+pa*65536+ph*4294967296+if o then 9223372036854775808 else 0

variable {K:AV→List Nat→List PO→Prop}

theorem pkRight (o:Bool) (ph pa wa:Int) (hK:K (bl (pkRightB ph pa wa)) [] []):Does Tryz.prog 182 [pkPhase o ph pa wa] [] K:=by
 refine does Tryz.func182 rfl (by decide) ?_
 iterate 5 (refine brc_intro (fun _=>?_) (fun _=>eqb (K:=fun b=>K (bl b) [] []) hK (by simp_all [pkRightB];try omega)))
 exact eqb (K:=fun b=>K (bl b) [] []) hK (by simp_all [pkRightB])

theorem pkWordEq (ph pa wa:Int) (h:0≤ph∧ph<2147483648∧0≤pa∧pa≤65535∧0≤wa∧wa≤pa):IntKind.u64.wrap
               ↑(BitVec.ofInt IntKind.u64.bits
                       (IntKind.u64.wrap
                         ↑(BitVec.ofInt IntKind.u64.bits (IntKind.u64.wrap wa) |||
                               BitVec.ofInt IntKind.u64.bits
                                 (IntKind.u64.wrap
                                   (IntKind.u64.wrap pa*2 ^ min (Int.toNat 16) IntKind.u64.bits))).toNat) |||
                     BitVec.ofInt IntKind.u64.bits
                       (IntKind.u64.wrap (IntKind.u64.wrap ph*2 ^ min (Int.toNat 32) IntKind.u64.bits))).toNat=pkWordZ false ph pa wa:=by
 have e1:min (Int.toNat 16) IntKind.u64.bits=16:=rfl
 have e2:min (Int.toNat 32) IntKind.u64.bits=32:=rfl
 rw [e1,e2,wrap_u64 wa (by omega) (by omega),wrap_u64 pa (by omega) (by omega),wrap_u64 ph (by omega) (by omega),wrap_u64 (pa*2 ^ 16) (by omega) (by omega),wrap_u64 (ph*2 ^ 32) (by omega) (by omega)]
 have e3:IntKind.u64.bits=64:=rfl
 rw [e3,or_z 16 wa pa (by omega) (by omega) (by omega) (by omega) (by omega),wrap_u64 (wa+pa*2 ^ 16) (by omega) (by omega),or_z 32 _ ph (by omega) (by omega) (by omega) (by omega) (by omega),wrap_u64 _ (by omega) (by omega)]
 simp [pkWordZ]

theorem pkWordEq2 (ph pa wa:Int) (h:0≤ph∧ph<2147483648∧0≤pa∧pa≤65535∧0≤wa∧wa≤pa):IntKind.u64.wrap ↑(BitVec.ofInt IntKind.u64.bits (pkWordZ false ph pa wa) ||| BitVec.ofInt IntKind.u64.bits 9223372036854775808).toNat=pkWordZ true ph pa wa:=by
 have e3:IntKind.u64.bits=64:=rfl
 have e4:(9223372036854775808:Int)=1*2 ^ 63:=by omega
 have h3:pkWordZ false ph pa wa=wa+pa*65536+ph*4294967296:=by simp [pkWordZ]
 rw [h3,e3,e4,or_z 63 _ 1 (by omega) (by omega) (by omega) (by omega) (by omega),wrap_u64 _ (by omega) (by omega)]
 simp [pkWordZ]

theorem pkWord (o:Bool) (ph pa wa:Int) (h0:pkRightB ph pa wa=false→K (.tup [.c (.f (.int .u64 0)),pkErrC 1]) [] [])
   (h1:pkRightB ph pa wa=true→K (.tup [.c (.f (.int .u64 (pkWordZ o ph pa wa))),pkOkC]) [] []):Does Tryz.prog 129 [pkPhase o ph pa wa] [] K:=by
 refine does Tryz.func129 rfl (by decide) ?_
 change Does Tryz.prog 182 _ _ _
 refine Does.alone 1 (pkRight o ph pa wa ?_)
 refine brc_intro (fun h=>?_) (fun h=>?_)
 · exact h0 (by simpa using h)
 · have h:pkRightB ph pa wa=true:=by simpa using h
   replace h1:=h1 h
   simp only [pkRightB,decide_eq_true_eq] at h
   refine brc_intro (fun ho=>?_) (fun ho=>?_)
   · subst ho
     refine eqz (K:=fun z=>K (.tup [.c (.f (.int .u64 z)),.c .niliface]) [] []) h1 ?_
     rw [pkWordEq ph pa wa h,pkWordEq2 ph pa wa h]
   · subst ho
     refine eqz (K:=fun z=>K (.tup [.c (.f (.int .u64 z)),.c .niliface]) [] []) h1 ?_
     rw [pkWordEq ph pa wa h]
end Go.Mac
end

section
open Go Go.Proofs Go.Mac
set_option maxRecDepth 100000

namespace Go.Mac

def gFitB (w n:Int):Bool :=
 if w=6 then decide (1≤n∧n≤65535) else if w=10 then decide (0≤n∧n<2147483648) else if w=7∨w=8∨w=9∨w=11 then decide (n=0) else false

abbrev callG (w n:Int):PV:=.agg [.f (.int .i64 w),.f (.int .i64 n)]

def overI (z:Int):List InsZ:=[⟨6,1,0,0,0⟩,⟨5,2,1,63,1⟩,⟨11,2,1,z,0⟩]
def awaitT (p:Int):List InsZ:=[⟨5,2,1,32,31⟩,⟨13,2,5,p+6,0⟩,⟨10,p+9,0,0,0⟩,⟨14,0,1,0,0⟩,⟨10,p,0,0,0⟩,⟨1,2,-1,0,0⟩,⟨16,3,2,0,0⟩]
def awaitI (p:Int):List InsZ:=overI (p+8)++awaitT p
def closesT (p:Int):List InsZ:=[⟨3,4,1,-9223372036854775808,0⟩,⟨9,3,0,1,4⟩,⟨11,3,0,p,0⟩,⟨15,0,16,-1,0⟩,⟨1,2,0,0,0⟩,⟨10,p+10,0,0,0⟩,⟨1,2,-1,0,0⟩,⟨16,3,2,0,0⟩]
def closesI (p:Int):List InsZ:=overI (p+9)++closesT p
def registerT (p n:Int):List InsZ:=[⟨5,2,1,16,16⟩,⟨1,3,65535-n,0,0⟩,⟨12,3,2,p+13,0⟩,⟨3,4,1,65537*n,0⟩,⟨9,3,0,1,4⟩,⟨11,3,0,p,0⟩,⟨5,2,1,32,31⟩,⟨10,p+14,0,0,0⟩,⟨1,2,-1,0,0⟩,⟨10,p+14,0,0,0⟩,⟨1,2,-3,0,0⟩,⟨16,3,2,0,0⟩]
def registerI (p n:Int):List InsZ:=overI (p+11)++registerT p n
def arriveT (p more fail:Int):List InsZ:=[⟨5,2,1,0,16⟩,⟨11,2,0,p+27,0⟩,⟨3,4,1,more,0⟩,⟨11,2,1,p+8,0⟩,⟨10,p+18,0,0,0⟩,⟨5,3,4,16,16⟩,⟨11,3,0,p+17,0⟩,⟨4,4,4,3,0⟩,⟨5,3,1,32,31⟩,⟨11,3,2147483647,p+15,0⟩,⟨3,4,4,4294967296,0⟩,⟨10,p+18,0,0,0⟩,
 ⟨3,4,4,-9223372032559808512,0⟩,⟨10,p+18,0,0,0⟩,⟨3,4,4,-9223372036854775808,0⟩,⟨9,3,0,1,4⟩,⟨11,3,0,p,0⟩,⟨5,5,1,32,31⟩,⟨11,2,1,p+23,0⟩,⟨10,p+29,0,0,0⟩,⟨15,0,16,-1,0⟩,⟨10,p+29,0,0,0⟩,⟨1,2,-1,0,0⟩,⟨10,fail,0,0,0⟩,⟨1,2,-2,0,0⟩,⟨10,fail,0,0,0⟩]
def arriveI (p more fail:Int):List InsZ:=overI (p+25)++arriveT p more fail
def tellsI:List InsZ:=[⟨2,2,5,0,0⟩,⟨16,3,2,0,0⟩]

section

variable {K:AV→List Nat→List PO→Prop}

theorem gFits (w n:Int) (hK:K (bl (gFitB w n)) [] []):Does Tryz.prog 183 [.p (callG w n)] [] K:=by
 refine does Tryz.func183 rfl (by decide) ?_
 refine brc_intro (fun h=>?_) (fun h6=>?_)
 · have h:w=6:=by simpa using h
   refine brc_intro (fun h1=>?_) (fun h1=>?_)
   · exact eqb (K:=fun b=>K (bl b) [] []) hK (by have h1:=of_decide_eq_true h1;simp [gFitB,h,h1])
   · exact eqb (K:=fun b=>K (bl b) [] []) hK (by have h1:=of_decide_eq_false h1;simp [gFitB,h];omega)
 have h6:¬w=6:=by simpa using h6
 refine brc_intro (fun h=>?_) (fun h10=>?_)
 · have h:w=10:=by simpa using h
   refine brc_intro (fun h1=>?_) (fun h1=>?_)
   · exact eqb (K:=fun b=>K (bl b) [] []) hK (by have h1:=of_decide_eq_true h1;simp [gFitB,h,h1])
   · exact eqb (K:=fun b=>K (bl b) [] []) hK (by have h1:=of_decide_eq_false h1;simp [gFitB,h];omega)
 have h10:¬w=10:=by simpa using h10
 have z:(w=7∨w=8∨w=9∨w=11)→K (bl (n == 0)) [] []:=fun h=>eqb (K:=fun b=>K (bl b) [] []) hK (by simp [gFitB,h6,h10,h,Bool.beq_eq_decide_eq])
 refine brc_intro (fun h=>z (.inl (by simpa using h))) (fun h7=>?_)
 refine brc_intro (fun h=>z (.inr (.inl (by simpa using h)))) (fun h8=>?_)
 refine brc_intro (fun h=>z (.inr (.inr (.inl (by simpa using h))))) (fun h9=>?_)
 refine brc_intro (fun h=>z (.inr (.inr (.inr (by simpa using h))))) (fun h11=>?_)
 exact eqb (K:=fun b=>K (bl b) [] []) hK (by simp at h7 h8 h9 h11;simp [gFitB,h6,h10,h7,h8,h9,h11])

theorem gOver (z:Int) (h:K (cv (.slc 0 0 3 none true)) [] [.rows false 5 ((overI z).map rowIns)]):Does Tryz.prog 263 [i64 z] [] K:=by
 refine does Tryz.func263 rfl (by decide) ?_
 exact h

theorem gAwait (p:Int) (hp:0≤p∧p≤1000000) (h:K (cv (.slc 0 0 10 none true)) [] [.rows false 5 ((awaitI p).map rowIns)]):Does Tryz.prog 225 [i64 p] [] K:=by
 refine Does.keep 0 rfl ?_
 refine does Tryz.func225 rfl (by decide) ?_
 change Does Tryz.prog 263 _ _ _
 refine Does.alone 0 (gOver _ ?_)
 rw [awaitI,awaitT,←wrap_i64 (p+8) (by omega) (by omega),←wrap_i64 (p+6) (by omega) (by omega),←wrap_i64 (p+9) (by omega) (by omega),List.map_append] at h
 refine And.intro (Nat.le_of_ble_eq_true rfl) (Or.inl (And.intro rfl (And.intro rfl (And.intro (Nat.le_of_ble_eq_true rfl) (And.intro (Nat.le_of_ble_eq_true rfl) ?_)))))
 exact ⟨2,[0],_,cv (.slc 0 0 10 none true),rfl,rfl,by decide,by decide,rfl,rfl,rfl,rfl,rfl,h⟩

theorem gCloses (p:Int) (hp:0≤p∧p≤1000000) (h:K (cv (.slc 0 0 11 none true)) [] [.rows false 5 ((closesI p).map rowIns)]):Does Tryz.prog 226 [i64 p] [] K:=by
 refine Does.keep 0 rfl ?_
 refine does Tryz.func226 rfl (by decide) ?_
 change Does Tryz.prog 263 _ _ _
 refine Does.alone 0 (gOver _ ?_)
 rw [closesI,closesT,←wrap_i64 (p+9) (by omega) (by omega),←wrap_i64 (p+10) (by omega) (by omega),List.map_append] at h
 refine And.intro (Nat.le_of_ble_eq_true rfl) (Or.inl (And.intro rfl (And.intro rfl (And.intro (Nat.le_of_ble_eq_true rfl) (And.intro (Nat.le_of_ble_eq_true rfl) ?_)))))
 exact ⟨2,[0],_,cv (.slc 0 0 11 none true),rfl,rfl,by decide,by decide,rfl,rfl,rfl,rfl,rfl,h⟩

theorem gRegister (p n:Int) (hp:0≤p∧p≤1000000) (hn:0≤n∧n≤65535) (h:K (cv (.slc 0 0 15 none true)) [] [.rows false 5 ((registerI p n).map rowIns)]):Does Tryz.prog 224 [i64 p,i64 n] [] K:=by
 refine Does.keep 0 rfl ?_
 refine does Tryz.func224 rfl (by decide) ?_
 change Does Tryz.prog 263 _ _ _
 refine Does.alone 0 (gOver _ ?_)
 rw [registerI,registerT,←wrap_i64 (p+11) (by omega) (by omega),←wrap_i64 (p+13) (by omega) (by omega),←wrap_i64 (p+14) (by omega) (by omega),←wrap_i64 (65535-n) (by omega) (by omega),←wrap_i64 (65537*n) (by omega) (by omega),List.map_append] at h
 refine And.intro (Nat.le_of_ble_eq_true rfl) (Or.inl (And.intro rfl (And.intro rfl (And.intro (Nat.le_of_ble_eq_true rfl) (And.intro (Nat.le_of_ble_eq_true rfl) ?_)))))
 exact ⟨2,[0],_,cv (.slc 0 0 15 none true),rfl,rfl,by decide,by decide,rfl,rfl,rfl,rfl,rfl,h⟩

theorem gArrive (p more fail:Int) (hp:0≤p∧p≤1000000) (h:K (cv (.slc 0 0 29 none true)) [] [.rows false 5 ((arriveI p more fail).map rowIns)]):Does Tryz.prog 227 [i64 p,i64 more,i64 fail] [] K:=by
 refine Does.keep 0 rfl ?_
 refine does Tryz.func227 rfl (by decide) ?_
 change Does Tryz.prog 263 _ _ _
 refine Does.alone 0 (gOver _ ?_)
 rw [arriveI,arriveT,←wrap_i64 (p+25) (by omega) (by omega),←wrap_i64 (p+27) (by omega) (by omega),←wrap_i64 (p+8) (by omega) (by omega),←wrap_i64 (p+18) (by omega) (by omega),←wrap_i64 (p+17) (by omega) (by omega),←wrap_i64 (p+15) (by omega) (by omega),←wrap_i64 (p+23) (by omega) (by omega),←wrap_i64 (p+29) (by omega) (by omega),List.map_append] at h
 refine And.intro (Nat.le_of_ble_eq_true rfl) (Or.inl (And.intro rfl (And.intro rfl (And.intro (Nat.le_of_ble_eq_true rfl) (And.intro (Nat.le_of_ble_eq_true rfl) ?_)))))
 exact ⟨2,[0],_,cv (.slc 0 0 29 none true),rfl,rfl,by decide,by decide,rfl,rfl,rfl,rfl,rfl,h⟩

theorem gTells (h:K (cv (.slc 0 0 2 none true)) [] [.rows false 5 (tellsI.map rowIns)]):Does Tryz.prog 228 [] [] K:=by
 refine does Tryz.func228 rfl (by decide) ?_
 exact h

def gathI (p:Int) (c:CallZ):List InsZ :=
 if c.w=6 then registerI p c.n
 else if c.w=10 then ⟨1,5,c.n,0,0⟩::awaitI (p+1)
 else if c.w=11 then closesI p
 else if c.w=9 then arriveI p (-1) (p+38)++awaitI (p+29)
 else if c.w=8 then arriveI p (-65537) (p+30)++tellsI
 else arriveI p (-1) (p+30)++tellsI

theorem gathI_len (p:Int) (c:CallZ):(gathI p c).length≤39∧1≤(gathI p c).length:=by
 rw [gathI]
 repeat' split
 all_goals exact ⟨Nat.le_of_ble_eq_true rfl,Nat.le_of_ble_eq_true rfl⟩

theorem gOne (p:Int) (hp:0≤p∧p≤900000) (c:CallZ) (hc:gFitB c.w c.n=true) (h:K (cv (.slc 0 0 (gathI p c).length none true)) [] [.rows false 5 ((gathI p c).map rowIns)]):Does Tryz.prog 184 [i64 p,.p (callG c.w c.n)] [] K:=by
 refine Does.keep 0 rfl ?_
 refine does Tryz.func184 rfl (by decide) ?_
 have e1:IntKind.i64.wrap (p+1)=p+1:=wrap_i64 _ (by omega) (by omega)
 have e29:IntKind.i64.wrap (p+29)=p+29:=wrap_i64 _ (by omega) (by omega)
 have e30:IntKind.i64.wrap (p+30)=p+30:=wrap_i64 _ (by omega) (by omega)
 have e38:IntKind.i64.wrap (p+38)=p+38:=wrap_i64 _ (by omega) (by omega)
 refine brc_intro (fun hw=>?_) (fun hw=>?_)
 · have hw:c.w=6:=beq_iff_eq.1 hw
   rw [gFitB,if_pos hw] at hc
   have hn:=of_decide_eq_true hc
   rw [gathI,if_pos hw] at h
   change Does Tryz.prog 224 _ _ _
   refine Does.alone 1 (gRegister p c.n (by omega) (by omega) ?_)
   exact ⟨2,[1],_,cv (.slc 0 0 15 none true),rfl,rfl,by decide,by decide,rfl,rfl,rfl,rfl,rfl,h⟩
 have hw6:¬c.w=6:=beq_eq_false_iff_ne.1 hw
 rw [gathI,if_neg hw6] at h
 refine brc_intro (fun hw=>?_) (fun hw=>?_)
 · have hw:c.w=10:=beq_iff_eq.1 hw
   rw [if_pos hw] at h
   have h:K (cv (.slc 0 0 11 none true)) [] [.rows false 5 ([rowIns ⟨1,5,c.n,0,0⟩]++(awaitI (p+1)).map rowIns)]:=h
   refine SS.drawR follows (by decide) ?_
   refine And.intro ?_ ?_
   · refine And.intro rfl (And.intro rfl ?_)
     change Does Tryz.prog 225 _ _ _
     rw [e1]
     refine Does.alone 2 (gAwait (p+1) (by omega) ?_)
     refine And.intro (Nat.le_of_ble_eq_true rfl) (Or.inl (And.intro rfl (And.intro rfl (And.intro (Nat.le_of_ble_eq_true rfl) (And.intro (Nat.le_of_ble_eq_true rfl) ?_)))))
     exact ⟨3,[1],_,cv (.slc 0 0 11 none true),rfl,rfl,by decide,by decide,rfl,rfl,rfl,rfl,rfl,h⟩
   · change Does Tryz.prog 225 _ _ _
     rw [e1]
     refine Does.alone 1 (gAwait (p+1) (by omega) ?_)
     refine And.intro rfl (And.intro rfl (And.intro rfl ?_))
     refine And.intro (Nat.le_of_ble_eq_true rfl) (Or.inl (And.intro rfl (And.intro rfl (And.intro (Nat.le_of_ble_eq_true rfl) (And.intro (Nat.le_of_ble_eq_true rfl) ?_)))))
     exact ⟨3,[2],_,cv (.slc 0 0 11 none true),rfl,rfl,by decide,by decide,rfl,rfl,rfl,rfl,rfl,h⟩
 have hw10:¬c.w=10:=beq_eq_false_iff_ne.1 hw
 rw [if_neg hw10] at h
 refine brc_intro (fun hw=>?_) (fun hw=>?_)
 · have hw:c.w=11:=beq_iff_eq.1 hw
   rw [if_pos hw] at h
   change Does Tryz.prog 226 _ _ _
   refine Does.alone 1 (gCloses p (by omega) ?_)
   exact ⟨2,[1],_,cv (.slc 0 0 11 none true),rfl,rfl,by decide,by decide,rfl,rfl,rfl,rfl,rfl,h⟩
 have hw11:¬c.w=11:=beq_eq_false_iff_ne.1 hw
 rw [if_neg hw11] at h
 refine brc_intro (fun hw=>?_) (fun hw=>?_)
 · have hw:c.w=9:=beq_iff_eq.1 hw
   rw [if_pos hw,List.map_append] at h
   change Does Tryz.prog 227 _ _ _
   rw [e38]
   refine Does.alone 1 (gArrive p _ _ (by omega) ?_)
   change Does Tryz.prog 225 _ _ _
   rw [e29]
   refine Does.alone 2 (gAwait (p+29) (by omega) ?_)
   refine And.intro (Nat.le_of_ble_eq_true rfl) (Or.inl (And.intro rfl (And.intro rfl (And.intro (Nat.le_of_ble_eq_true rfl) (And.intro (Nat.le_of_ble_eq_true rfl) ?_)))))
   exact ⟨3,[1],_,cv (.slc 0 0 39 none true),rfl,rfl,by decide,by decide,rfl,rfl,rfl,rfl,rfl,h⟩
 have hw9:¬c.w=9:=beq_eq_false_iff_ne.1 hw
 rw [if_neg hw9] at h
 refine brc_intro (fun hw=>?_) (fun hw=>?_)
 · have hw:c.w=8:=beq_iff_eq.1 hw
   rw [if_pos hw,List.map_append] at h
   change Does Tryz.prog 227 _ _ _
   rw [e30]
   refine Does.alone 1 (gArrive p _ _ (by omega) ?_)
   change Does Tryz.prog 228 _ _ _
   refine Does.alone 2 (gTells ?_)
   refine And.intro (Nat.le_of_ble_eq_true rfl) (Or.inl (And.intro rfl (And.intro rfl (And.intro (Nat.le_of_ble_eq_true rfl) (And.intro (Nat.le_of_ble_eq_true rfl) ?_)))))
   exact ⟨3,[1],_,cv (.slc 0 0 31 none true),rfl,rfl,by decide,by decide,rfl,rfl,rfl,rfl,rfl,h⟩
 have hw8:¬c.w=8:=beq_eq_false_iff_ne.1 hw
 rw [if_neg hw8,List.map_append] at h
 change Does Tryz.prog 227 _ _ _
 rw [e30]
 refine Does.alone 1 (gArrive p _ _ (by omega) ?_)
 change Does Tryz.prog 228 _ _ _
 refine Does.alone 2 (gTells ?_)
 refine And.intro (Nat.le_of_ble_eq_true rfl) (Or.inl (And.intro rfl (And.intro rfl (And.intro (Nat.le_of_ble_eq_true rfl) (And.intro (Nat.le_of_ble_eq_true rfl) ?_)))))
 exact ⟨3,[1],_,cv (.slc 0 0 31 none true),rfl,rfl,by decide,by decide,rfl,rfl,rfl,rfl,rfl,h⟩

def gathU (l:List CallZ):List InsZ:=l.foldl (fun out c=>out++gathI out.length c) []
def gathP (l:List CallZ):List InsZ:=gathU l++[⟨0,0,0,0,0⟩]
def gFit (c:CallZ):Prop:=gFitB c.w c.n=true

theorem gathU_snoc (l:List CallZ) (c:CallZ):gathU (l++[c])=gathU l++gathI (gathU l).length c:=by
 rw [gathU,List.foldl_append]
 rfl

theorem gathU_take (l:List CallZ) (i:Nat) (c:CallZ) (h:l[i]? = some c):gathU (l.take (i+1))=gathU (l.take i)++gathI (gathU (l.take i)).length c:=by
 rw [List.take_add_one,h]
 exact gathU_snoc _ _

theorem gathU_len (l:List CallZ):∀ i,(gathU (l.take i)).length≤39*i
 | 0=>by simp [gathU]
 | i+1=>by
   have ih:=gathU_len l i
   cases h:l[i]? with
   | none =>
     have:l.take (i+1)=l.take i:=by rw [List.take_add_one,h];simp
     rw [this];omega
   | some c =>
     rw [gathU_take l i c h,List.length_append]
     have:=gathI_len (gathU (l.take i)).length c
     omega

end

end Go.Mac
end

section
open Go Go.Proofs Go.Mac
set_option maxRecDepth 100000

namespace Go.Mac

abbrev th0:ThZ:=⟨0,[0,0,0,0,0,0,0,0],false⟩
def mz0 (ps:List (List InsZ)) (ws:List Int):MZ:=⟨ps,List.replicate ps.length th0,ws,[],[],[],0,ws.length⟩

section

variable {K:AV→List Nat→List PO→Prop}

theorem coreNew {ps:List (List InsZ)} {ws:List Int} {ro ro2 nn nn2:Bool} {c c2:Option Nat} {n nc:Nat} (hps:ps.length=n) (hws:ws.length=nc) (hn:n≤16) (hnc:nc≤300) (hr:∀ p∈ps,rightZ p nc=true)
   (h:∀ v,okV v→K (.tup [.c (.ptr 2 0),okP]) [] ([.rows2 ro 5 (ps.map fun p=>p.map rowIns),.rows ro2 1 (ws.map rowU)] ++
     [.one [.slc 3 0 n none v.np,.slc 4 0 n none true,.ptr 5 0,.ptr 7 0,.slc 9 0 0 none v.na,.slc 10 0 0 none v.ne,.f (.int .i64 0)],
      .rows2 false 5 (ps.map fun p=>p.map rowIns),.rows false 10 ((List.replicate n th0).map rowT),.one [.slc 6 0 nc none v.nm],.rows false 1 (ws.map rowU),
      .one [.f (.int .i64 n),.slc 8 0 0 none v.nl],.rows false 2 (v.ex.map rowS),.rows false 6 [],.rows false 4 []])) :
   Does Tryz.prog 27 [cv (.slc 0 0 n c nn),cv (.slc 1 0 nc c2 nn2)] [.rows2 ro 5 (ps.map fun p=>p.map rowIns),.rows ro2 1 (ws.map rowU)] K:=by
 refine Does.keep 2 rfl ?_
 refine Does.nilOut 7 1 2 (by decide) ?_
 refine Does.nilOut 5 4 6 (by decide) ?_
 refine Does.nilOut 5 5 4 (by decide) ?_
 refine does Tryz.func27 rfl (by decide) ?_
 refine brc_intro (fun h=>?_) (fun _=>?_)
 · have:=of_decide_eq_true h;omega
 change Does Tryz.prog 44 _ _ _
 refine Does.on 2 [1] _ _ (memOf (l:=ws) (ro:=ro2) nc hws hnc ?_)
 refine at2 (a:=(0:Int)≤(n:Int)) (b:=(n:Int)≤(n:Int)) (by omega) (by omega) ?_
 refine at2 (by show ((80:Nat):Int)*(n:Int)≤_;omega) (by omega) ?_
 refine SS.nilH2 5 0 5 rfl rfl ?_
 refine SS.loop (fun i:Nat=>i≤n) (fun i=>[(0,cv (.slc 0 0 n c nn)),(1,cv (.slc 1 0 nc c2 nn2)),(8,cv (.ptr 5 0)),(30,cv (.slc 0 0 n c nn)),(31,i64 n),(32,i64 i)])
   (fun i=>[.rows2 ro 5 (ps.map fun p=>p.map rowIns),.rows ro2 1 (ws.map rowU),.rows false 1 (ws.map rowU),.one [.slc 2 0 nc none false],.rows false 10 ((List.replicate n th0).map rowT),
     .one [.slc 6 0 i none false,.slc 4 0 n none true,.ptr 3 0,.nilptr,.nilslc,.nilslc,.f (.int .i64 0)],.rows2 false 5 ((ps.take i).map fun p=>p.map rowIns)]) (fun i=>n-i) [6,7,8]
   (At.mk' [0,1,8,30,31,32] 0 (by simp) ⟨rfl,rfl⟩ (by rw [List.map_replicate];rfl) rfl (by simp) (by simp) (by simp)) ?_
 intro i hi
 change i≤n at hi
 refine S_r ?_
 refine brc_intro (fun hlt=>?_) (fun hlt=>?_)
 · have hlt:i<n:=by
     have:=of_decide_eq_true hlt
     have:(i:Int)<(n:Int):=this
     omega
   obtain ⟨p,hp⟩ : ∃ p,ps[i]? = some p:=⟨_,List.getElem?_eq_getElem (by omega)⟩
   have hpm:(ps.map fun p=>p.map rowIns)[0+Int.toNat (i:Int)]? = some (p.map rowIns):=by simp [hp]
   have hrp:=hr p (List.mem_of_getElem? hp)
   refine SS.inlR ?_
   refine at2 (a:=(0:Int)≤(i:Int)) (b:=(i:Int)<(n:Int)) (by omega) (by omega) ?_
   refine Exists.intro (p.map rowIns) (And.intro hpm ?_)
   change Does Tryz.prog 45 _ _ _
   have hlen:(p.map rowIns).length=p.length:=by simp
   have hpl:p.length≤600:=by
     simp only [rightZ,Bool.and_eq_true,decide_eq_true_eq] at hrp
     exact hrp.1.1.2.2
   refine Does.on 7 [0] _ _ (rightRow (ps:=ps) (p:=p) (ro:=ro) nc hpm (by omega) (fun _=>?_) (fun h=>absurd (h.symm.trans hrp) (by decide)) fun h=>absurd (h.symm.trans hrp) (by decide))
   refine SS.drawR follows (by decide) ?_
   refine Exists.intro (p.map rowIns) (And.intro hpm (And.intro (by simp) ?_))
   rw [show List.take (p.map rowIns).length (List.drop 0 (p.map rowIns))=p.map rowIns from by rw [List.drop_zero,List.take_length]]
   refine at2 (by show (p.map rowIns).length*40≤_;omega) (by omega) ?_
   repeat' (first | refine And.intro rfl ?_ | fail)
   refine And.intro (by simp;omega) (at2 (by show (i+1)*24≤_;omega) (by omega) ?_)
   repeat' (first | refine And.intro rfl ?_ | fail)
   refine At.mk' [0,1,8,30,31,32] (i+1) ⟨hlt,by omega⟩ ⟨?_,rfl⟩ ?_ rfl (by simp) (by simp) (by decide)
   · rw [wrap_i64 (i+1) (by omega) (by omega)]
     rfl
   · have e:(ps.take (i+1)).map (fun p=>p.map rowIns)=(ps.take i).map (fun p=>p.map rowIns)++[p.map rowIns]:=by
       rw [List.take_add_one,hp,List.map_append]
       rfl
     rw [e]
     rfl
 · have hlt:¬(i:Int)<(n:Int):=of_decide_eq_false hlt
   obtain rfl:n=i:=by omega
   rw [show ps.take n=ps from List.take_of_length_le (by omega)]
   change Does Tryz.prog 47 _ _ _
   refine Does.alone 7 (lotNew n hn ?_)
   have hk:=h ⟨false,false,false,false,false,[]⟩ (by simp [okV])
   refine Exists.intro _ (And.intro rfl (And.intro rfl ?_))
   refine Exists.intro _ (And.intro rfl (And.intro rfl ?_))
   refine Exists.intro _ (And.intro rfl (And.intro rfl ?_))
   exact ⟨11,[0,1,5,6,4,3,2,7,10,9,8],_,_,rfl,rfl,by decide,by decide,rfl,rfl,rfl,rfl,rfl,hk⟩

end

end Go.Mac
end

section
open Go Go.Proofs Go.Mac
set_option maxRecDepth 100000

namespace Go.Mac

section

variable {K:AV→List Nat→List PO→Prop}

end

end Go.Mac
end

section
open Go Go.Proofs Go.Mac
set_option maxRecDepth 100000

namespace Go.Mac

theorem mz0_wf {ps:List (List InsZ)} {ws:List Int} (hn:ps.length≤16) (hnc:ws.length≤300) (hr:∀ p∈ps,rightZ p ws.length=true) (hws:∀ v∈ws,0≤v∧v<18446744073709551616):WF (mz0 ps ws):=by
 refine ⟨by simp [mz0],by simpa [mz0] using hn,hr,fun x hx=>?_,fun t x p hx hp=>?_,rfl,⟨hnc,hws⟩,⟨by simp [mz0],by simp [mz0]⟩,by simp [mz0],by simp [mz0],by simp [mz0],by simp [mz0]⟩
 · obtain rfl:=List.eq_of_mem_replicate (show x∈List.replicate ps.length th0 from hx)
   exact ⟨rfl,by decide⟩
 · obtain rfl:=List.eq_of_mem_replicate (show x∈List.replicate ps.length th0 from List.mem_of_getElem? hx)
   have:=hr p (List.mem_of_getElem? hp)
   simp only [rightZ,Bool.and_eq_true,decide_eq_true_eq] at this
   exact ⟨Nat.zero_le _,fun _=>by show 0<p.length;omega⟩

end Go.Mac
end
