/- Texts that belong together; the first of them:  -/
import Derived.Test.YtollgfhpcidkgaaGreatDoorA13
import Derived.Test.YtollgfhpcidkgaaGreatDoorA6
import Derived.Test.YtollgfhpcidkgaaGreatDoorA4
import Derived.Test.YtollgfhpcidkgaaGreatDoorA7
import Derived.RangeFuncLeaves
import Derived.Shelf.Abstract
import Derived.WalkKit
import Derived.OwnWalkIn
import Derived.TacticsInMore
import Derived.LoopNIn
import Derived.LoopIn

section
open Go Go.Proofs Go.Mac
set_option maxRecDepth 100000
namespace Go.Mac
section
theorem grownQ (t:Addr) (w:World):Bel (fun k=>k<w.heap.size) w (AsKit.asQ t w):=by
 refine Bel.more (Bel.more (Bel.more (Bel.refl _ _) (Nat.le_refl _) _) ?_ _) ?_ _ <;> simp <;> omega

theorem grownQ2 (t e:Addr) (w:World):Bel (fun k=>k<w.heap.size) w ((AsKit.asQ t w).alloc (.cells #[.pointer (some e)] 108)):=by
 refine Bel.more (Bel.more (Bel.more (Bel.more (Bel.refl _ _) (Nat.le_refl _) _) ?_ _) ?_ _) ?_ _ <;> simp <;> omega

section

variable {K:KP}

theorem set_at {B R:Nat→Prop} {w0:World} {L:Nat→Loc} {H:List PO} {w:World} (h:Rel B R w0 L H w) {r q:Nat} (hq:q<H.length) (hr:H[r]? = some (.one [.nilptr])) :
 Rel B R w0 L (H.set r (.one [.ptr q 0])) (AsKit.asQ2 ((L r).h.at 0 0) ((L q).h.at 0 0) w):=by
 have hg:=h.grow (grownQ2 ((L r).h.at 0 0) ((L q).h.at 0 0) w)
 obtain ⟨hb,hs,hp,hc,hcell⟩:=h.obj r _ hr
 obtain ⟨_,_,_,hc',hcell'⟩:=hg.obj r _ hr
 have hlt:=(List.getElem?_eq_some_iff.1 hr).1
 obtain ⟨w',H',hrun,_,hrel,hH⟩:=store_sound (P:=Tryz.prog) hg (t:=108) (x:=cv (.ptr r 0)) (y:=cv (.ptr q 0)) (v:=.pointer (some ((L r).h.at 0 0))) (u:=.pointer (some ((L q).h.at 0 0))) ⟨hlt,rfl⟩ ⟨hq,rfl⟩ (K:=fun H'=>H'=H.set r (.one [.ptr q 0])) (by
  have:storeA Tryz.prog H 108 (cv (.ptr r 0)) (cv (.ptr q 0)) (fun H'=>H'=H.set r (.one [.ptr q 0]))=(match nth H r with
   | some (.one cs)=>setsK cs 0 [.ptr q 0] fun cs'=>setK H r (.one cs') fun H'=>H'=H.set r (.one [.ptr q 0])
   | _=>False):=rfl
  rw [this,nth_eq,hr]
  show setK H r (.one [.ptr q 0]) _
  rw [setK_eq])
 subst hH
 have hold:((AsKit.asQ ((L r).h.at 0 0) w).alloc (.cells #[.pointer (some ((L q).h.at 0 0))] 108)).cell? ((L r).h.at 0 0)=some (.pointer none):=by
  obtain ⟨v,hv,hvr⟩:=hcell' 0 _ rfl
  rw [hv]
  exact congrArg some hvr
 have hfr:((AsKit.asQ ((L r).h.at 0 0) w).alloc (.cells #[.pointer (some ((L q).h.at 0 0))] 108)).frozen? ((L r).h.at 0 0)=false:=frozen_no hc' (by simp) (by simp [ILoc.at,hb])
 have hrun':(Instr.storeAt 108 (.pointer (some ((L r).h.at 0 0))) (.pointer (some ((L q).h.at 0 0)))).run Tryz.prog ((AsKit.asQ ((L r).h.at 0 0) w).alloc (.cells #[.pointer (some ((L q).h.at 0 0))] 108))=.ok () (AsKit.asQ2 ((L r).h.at 0 0) ((L q).h.at 0 0) w):=by
  have hsz:∀ w:World,(sizeOf 108).run Tryz.prog w=.ok 1 w:=fun w=>by kernel_rfl
  simp only [Instr.storeAt,Instr.sureAddr,storeVar,Sem.run_bind,Sem.run_pure,Result.andThen_ok,hsz]
  simp [Value.cells,storeCells,Addr.add]
  have e:(L r).h.at 0 0 = ⟨(L r).h.blk,0,none⟩:=by simp [ILoc.at,hb]
  rw [e] at hold hfr ⊢
  rw [run_store Tryz.prog _ _ _ _ (by rfl)]
  simp [hold,hfr]
 rw [hrun'] at hrun
 cases hrun
 exact hrel

theorem nil_of {N:Nat} {L:Nat→Loc} {w:World} {cs:List CV} {l:Loc} (h:OR N L w (.one (.nilptr::cs)) l):w.cell? (l.h.at 0 0)=some (.pointer none):=by
 obtain ⟨_,_,_,_,h5⟩:=h
 obtain ⟨v,hv,hvr⟩:=h5 0 _ rfl
 rw [hv]
 exact congrArg some hvr

theorem placeNo (n:Int) (h:K (bl false) [] [rtH,.one [.nilptr]]):Does Tryz.prog 52 [cv (eno n),cv (.iface 110 (.ptr 1 0))] [rtH,.one [.nilptr]] K:=by
 refine ⟨⟨_,Tryz.func52,by decide,rfl⟩,fun B R w0 L w vs hrel hvs=>?_⟩
 obtain ⟨_,_,rfl,⟨_,rfl,rfl⟩,_,_,rfl,⟨_,rfl,_,rfl⟩,rfl⟩:=hvs
 have hg:=hrel.obj 0 _ rfl
 refine (AsKit.miss n ((L 1).h.at 0 0) w hg).mono ?_
 rintro e w' ⟨rfl,rfl⟩
 exact ⟨_,rfl,L,bl false,[],[rtH,.one [.nilptr]],Agree.refl _ _ _,Nat.le_refl 2,rfl,hrel.grow (grownQ _ w),h⟩

theorem placeYes (n pl:Int) (h:K (bl true) [] [rtH,.one [.ptr 2 0],.one [.f (.int .i64 n),.f (.int .i64 pl)]]) :
 Does Tryz.prog 52 [cv (.iface 108 (.ptr 2 0)),cv (.iface 110 (.ptr 1 0))] [rtH,.one [.nilptr],.one [.f (.int .i64 n),.f (.int .i64 pl)]] K:=by
 refine ⟨⟨_,Tryz.func52,by decide,rfl⟩,fun B R w0 L w vs hrel hvs=>?_⟩
 obtain ⟨_,_,rfl,⟨_,rfl,_,rfl⟩,_,_,rfl,⟨_,rfl,_,rfl⟩,rfl⟩:=hvs
 have hg:=hrel.obj 0 _ rfl
 have ht:=hrel.obj 1 _ rfl
 refine (AsKit.hit ((L 2).h.at 0 0) ((L 1).h.at 0 0) (.pointer none) w hg (nil_of ht) (frozen_no ht.2.2.2.1 (by simp) (by simp [ILoc.at,ht.1]))).mono ?_
 rintro e w' ⟨rfl,rfl⟩
 have:=set_at hrel (r:=1) (q:=2) (by simp) rfl
 exact ⟨_,rfl,L,bl true,[],[rtH,.one [.ptr 2 0],.one [.f (.int .i64 n),.f (.int .i64 pl)]],Agree.refl _ _ _,Nat.le_refl 3,rfl,this,h⟩

end
end
end Go.Mac
end
section
namespace Go.Mac
open Go

def recC:Option CV→CV
 | none=>.niliface
 | some c=>c

section

variable {P:Program} {fn:Func} {H:List PO} {K:List Nat→List PO→Prop} {rest:Code} {id:Nat} {o1 o2:Oper} {g r d1 d2:Nat} {tys:Array TypeId} {c:Option CV}

theorem defK_rec0 (hf:P.funcs[g]? = some fn) (hb:fn.body=some (.seq (.region id #[o1,o2] false) rest))
 (ho1:o1.op=.call { callee:=.builtin .recover,args:=#[],argTypes:=tys }) (hd1:o1.dst=some d1) (hg1:o1.guard=none)
 (ho2:o2.op=.assign (.tmp d1)) (hd2:o2.dst=some d2) (hg2:o2.guard=none) (hres:fn.results = #[]) (hn1:d1<fn.ntmps) (hn2:d2<fn.ntmps) (hr:r<H.length)
 (h:XR P fn.ntmps H.length [] rest [(d2,cv (recC c)),(d1,cv (recC c)),(0,cv (.ptr r 0))] [] H fun e _ M H' =>
   match e with
   | .normal=>K M H'
   | .ret=>K M H'
   | _=>False):DefK P g r H c K:=by
 intro B R w0 L w hrel u hu
 refine callsD_of_wpS hf hb fun c₀ cs hc₀=>?_
 obtain ⟨v,cs1,hv,hrec,hcs1⟩ : ∃ v cs1,VC H.length L (recC c) v∧(match recoverD (c₀::cs) with
  | some (v',cs')=>v'=v∧cs'=cs1
  | none=>v=.nilIface∧cs1=c₀::cs)∧∃ u',cs1 = { c₀ with mode:=u' }::cs∧settle u'=.returning:=by
  cases c with
  | none =>
    have hu:u=.returning:=hu
    subst hu
    refine ⟨.nilIface,c₀::cs,rfl,?_,.returning,by rw [←hc₀],rfl⟩
    simp [recoverD,hc₀]
  | some c =>
    obtain ⟨v,hv,hu⟩:=hu
    subst hu
    refine ⟨v,{ c₀ with mode:=.panicking [{ v,recovered:=true }] }::cs,hv,?_,_,rfl,rfl⟩
    simp [recoverD,hc₀]
 obtain ⟨u',rfl,hset⟩:=hcs1
 obtain ⟨a0,ha0⟩ : ∃ a0:Act,a0 = { tmps:=#[Value.pointer (some ((L r).h.at 0 0))]++Array.replicate (fn.ntmps-(#[Value.pointer (some ((L r).h.at 0 0))]:Array Value).size) undef,defers:=[] }:=⟨_,rfl⟩
 rw [←ha0]
 have htx0:TX [] H.length L fn.ntmps [(0,cv (.ptr r 0))] a0:=by
  rw [ha0]
  refine ⟨⟨fun i=>?_,rfl,by simp;omega⟩,rfl⟩
  rw [lk_cons]
  split
  · rename_i e
    subst e
    exact ⟨hr,by rw [Array.getD_eq_getD_getElem?,Array.getElem?_append_left (by simp)];rfl⟩
  · exact trivial
 have put:∀ {T:Tm} {a:Act} {d:Nat} {o:Oper},o.dst=some d→d<fn.ntmps→TX [] H.length L fn.ntmps T a→TX [] H.length L fn.ntmps ((d,cv (recC c))::T) (a.put o.dst v):=by
  intro T a d o hd hlt ht
  obtain ⟨T',hT',htr⟩:=putT_spec (x:=cv (recC c)) (d:=some d) (nt:=fn.ntmps) (k:=fun T'=>T'=(d,cv (recC c))::T) (by simp [putT,hlt,Nat.blt_eq]) ht.tr (v:=v) hv
  subst hT'
  refine ht.put ?_
  rw [hd]
  exact htr
 have htx1:=put hd1 hn1 htx0
 have htx2:=put (o:=o2) hd2 hn2 htx1
 refine wpS_seq (wpS_region ?_)
 have hw1:Region.wanted o1 (yielded #[o1,o2] a0.tmps)=true:=by simp [Region.wanted,hg1]
 have hw2:Region.wanted o2 (yielded #[o1,o2] (a0.put o1.dst v).tmps)=true:=by simp [Region.wanted,hg2]
 have hr1:(execOp a0.eval o1).run P w=.ok .recover w:=by
  unfold execOp
  rw [ho1]
  rfl
 have hr2:(execOp (a0.put o1.dst v).eval o2).run P w=.ok (.value v) w:=by
  have he:(a0.put o1.dst v).eval (.tmp d1)=v:=by
   rw [hd1]
   show (a0.tmps.setIfInBounds d1 v).getD d1 undef=v
   rw [Array.getD_eq_getD_getElem?,Array.getElem?_setIfInBounds_self_of_lt (by rw [ha0];simp;omega)]
   rfl
  unfold execOp
  rw [ho2]
  simp [he]
 rw [show List.range (#[o1,o2]:Array Oper).size=[0,1] from rfl]
 have fin:rest.wpS P (bodyPostS P fn c₀ cs fun e u' w'=>(∃ x,e=.returned x)∧settle u'=.returning∧∃ L' M H',Agree H.length M L L'∧H.length≤H'.length∧Rel B R w0 L' H' w'∧K M H') ((a0.put o1.dst v).put o2.dst v) ({ c₀ with mode:=u' }::cs) w:=by
  refine wpS_of_wp ((wpIn_wide (n:=0)).1 ?_)
  refine (XR_ok _ _ _ _ _ h).run none B R w0 L L w _ _ (Nat.le_refl _) (Agree.refl _ _ _) hrel htx2 ?_
  intro e e' L' T' M' H' w' a' h1 h2 h3 h4 hfit h5
  have done:K M' H'→a'.defers=[]∧∃ u'_1,({ c₀ with mode:=u' }::cs:List Frame) = { c₀ with mode:=u'_1 }::cs∧∃ v,(results fn a'.tmps).run P w'=.ok v w'∧(∃ x,Ending.returned v=.returned x)∧settle u'_1=.returning∧∃ L' M H',Agree H.length M L L'∧H.length≤H'.length∧Rel B R w0 L' H' w'∧K M H':=fun hk=>by
   refine ⟨h4.df,u',rfl,.tuple #[],?_,⟨_,rfl⟩,hset,L',M',H',h2,h1,h3,hk⟩
   rw [results_eq,hres]
   simp
  cases e with
  | exit i=>exact h5.elim
  | panic c=>exact h5.elim
  | normal =>
    obtain rfl:=hfit
    exact done h5
  | ret =>
    obtain rfl:=hfit
    exact done h5
 simp only [wpOpsS,show (#[o1,o2]:Array Oper)[0]? = some o1 from rfl,show (#[o1,o2]:Array Oper)[1]? = some o2 from rfl]
 rw [if_pos hw1,hr1]
 dsimp only
 split
 · rename_i v' cs' hre
   rw [hre] at hrec
   obtain ⟨rfl,rfl⟩:=hrec
   rw [if_pos hw2,hr2]
   exact fin
 · rename_i hre
   rw [hre] at hrec
   obtain ⟨rfl,hcc⟩:=hrec
   rw [if_pos hw2,hr2,←hcc]
   exact fin

theorem defK_rec (hf:P.funcs[g]? = some fn) (hb:fn.body=some (.seq (.region id #[o1,o2] false) rest))
 (ho1:o1.op=.call { callee:=.builtin .recover,args:=#[],argTypes:=tys }) (hd1:o1.dst=some d1) (hg1:o1.guard=none)
 (ho2:o2.op=.assign (.tmp d1)) (hd2:o2.dst=some d2) (hg2:o2.guard=none) (hres:fn.results = #[]) (hn1:d1<fn.ntmps) (hn2:d2<fn.ntmps) (hr:r<H.length)
 (h:lenK H numbers fun N0=>XR P fn.ntmps N0 [] rest [(d2,cv (recC c)),(d1,cv (recC c)),(0,cv (.ptr r 0))] [] H fun e _ M H' =>
   match e with
   | .normal=>K M H'
   | .ret=>K M H'
   | _=>False):DefK P g r H c K :=
 defK_rec0 hf hb ho1 hd1 hg1 ho2 hd2 hg2 hres hn1 hn2 hr (lenK_spec h)

end

end Go.Mac
end

section
open Go Go.Proofs Go.Mac
set_option maxRecDepth 100000
namespace Go.Mac
section
def errText:EZ→List UInt8
 | .no e=>[101,114,114,111,114,32]++Lib.itoa e
 | .pl e p=>[101,114,114,111,114,32]++Lib.itoa e++([32,97,116,32]++Lib.itoa p)

section

variable {K:List Nat→List PO→Prop}

theorem sayNone {r:Nat} {H:List PO} (hr:r<H.length) (h:K [] H):DefK Tryz.prog 50 r H none K:=by
 refine defK_rec0 Tryz.func50 rfl rfl rfl rfl rfl rfl rfl rfl (by decide) (by decide) hr ?_
 exact h

theorem sayNo {e:Int} (he : -9223372036854775808≤e∧e≤9223372036854775807) (d:DZ) (v:VZ) (s0:List UInt8) (X Y Z:PO)
 (h:∀ A B,K [] (sysH++(deskS 5 d v++[.one [.f (.str (errText (.no e)))],X,Y,Z,A,B]))) :
 DefK Tryz.prog 50 16 (sysH++(deskS 5 d v++[.one [.f (.str s0)],X,Y,Z])) (some (wrongE e)) K:=by
 refine defK_rec Tryz.func50 rfl rfl rfl rfl rfl rfl rfl rfl (by decide) (by decide) (by simp) ?_
 change DoesX Tryz.prog 46 _ _ _ _
 refine DoesX.on 21 [0] _ _ (DoesX.of (tellErrno e ?_))
 change DoesX Tryz.prog 51 _ _ _ _
 refine DoesX.on 21 [1] _ _ (DoesX.of (strItoa e he.1 he.2 ?_))
 have hl:=itoa_len he.1 he.2
 refine And.intro (Nat.le_trans (Nat.add_le_add_left hl 6) (by decide)) ?_
 change DoesX Tryz.prog 52 _ _ _ _
 refine DoesX.on 22 [0,21] _ _ (DoesX.of (placeNo e ?_))
 exact h _ _

theorem sayPl {e p:Int} (he : -9223372036854775808≤e∧e≤9223372036854775807) (hp : -9223372036854775808≤p∧p≤9223372036854775807) (d:DZ) (v:VZ) (s0:List UInt8) (X Y Z:PO)
 (h:∀ A B C,K [] (sysH++(deskS 5 d v++[.one [.f (.str (errText (.pl e p)))],X,Y,Z,A,B,C]))) :
 DefK Tryz.prog 50 16 (sysH++(deskS 5 d v++[.one [.f (.str s0)],X,Y,Z,.one [.f (.int .i64 e),.f (.int .i64 p)]])) (some (.ifs 89 (.iface 108 (.ptr 20 0)))) K:=by
 refine defK_rec Tryz.func50 rfl rfl rfl rfl rfl rfl rfl rfl (by decide) (by decide) (by simp) ?_
 change DoesX Tryz.prog 46 _ _ _ _
 refine DoesX.on 22 [0,20] _ _ (DoesX.of (tellAt e p ?_))
 change DoesX Tryz.prog 51 _ _ _ _
 refine DoesX.on 22 [1] _ _ (DoesX.of (strItoa e he.1 he.2 ?_))
 have hl:=itoa_len he.1 he.2
 have hl2:=itoa_len hp.1 hp.2
 refine And.intro (Nat.le_trans (Nat.add_le_add_left hl 6) (by decide)) ?_
 change DoesX Tryz.prog 52 _ _ _ _
 refine DoesX.on 23 [0,22,20] _ _ (DoesX.of (placeYes e p ?_))
 refine SX.drawR follows (by decide) ?_
 change DoesX Tryz.prog 51 _ _ _ _
 refine DoesX.on 23 [1] _ _ (DoesX.of (strItoa p hp.1 hp.2 ?_))
 repeat' (first | refine And.intro rfl ?_ | refine And.intro (And.intro (by decide) (And.intro (by simp) rfl)) ?_ | refine And.intro (Exists.intro _ (Exists.intro _ (And.intro rfl (And.intro rfl rfl)))) ?_ | fail)
 refine And.intro (Nat.le_trans (Nat.add_le_add_left hl2 4) (by decide)) ?_
 refine And.intro (by
  show ([101,114,114,111,114,32]++Lib.itoa e).length+([32,97,116,32]++Lib.itoa p).length≤9223372036854775807
  rw [List.length_append,List.length_append]
  exact Nat.le_trans (Nat.add_le_add (Nat.add_le_add_left hl 6) (Nat.add_le_add_left hl2 4)) (show 6+20+(4+20)≤9223372036854775807 by decide)) ?_
 exact h _ _ _

end
end
section
def blankP (x:Nat):Bool:=decide (x=32)

def wordsF (s:List UInt8):List (List UInt8):=(Lib.goFieldsP blankP ⟨s.toArray⟩).map fun b=>b.data.toList

set_option maxHeartbeats 2000000 in
theorem answer2 (x:Nat) (_hx:x≤1114111) (W:World):FnGives Tryz.prog 54 #[] #[encR x] (.bool (blankP x)) W:=by
 have mixed:Tryz.prog.follows .mixedOrders=true:=follows
 have hb:decide ((x:Int)=32)=blankP x:=by
  unfold blankP
  exact decide_eq_decide.2 (by omega)
 go_enter Tryz.func54,Tryz.ntmps54
 go_wp2
 go_ret
 exact ⟨by show Ending.returned (.bool ((x:Int) == 32))=_;rw [←hb];rfl,0,rfl⟩

section

variable {K:KP}

theorem fieldsFunc {s:List UInt8} (hs:s.length≤1000000000) (h:K (cv (.slc 0 0 (wordsF s).length none true)) [] [.rows false 1 ((wordsF s).map rowStr)]) :
 Does Tryz.prog 53 [st s,cv (.func 54 [])] [] K:=by
 refine ⟨⟨_,Tryz.func53,by decide,rfl⟩,fun B R w0 L w vs hrel hvs=>?_⟩
 obtain ⟨_,_,rfl,rfl,_,_,rfl,⟨_,rfl⟩,rfl⟩:=hvs
 refine (Go.Proofs.Tryz.strings_FieldsFunc_runes 54 #[] (enters_of Tryz.func54 (by kernel_rfl) rfl) blankP ⟨s.toArray⟩ w (by show s.length≤_;omega) fun W x hx _=>answer2 x hx W).mono ?_
 rintro e w' ⟨A,rfl,hA,hown,hbelow⟩
 have hsz:=hbelow.size
 generalize hfl:Lib.goFieldsP blankP ⟨s.toArray⟩ = fl at hown
 have hwl:(wordsF s).length=fl.length:=by rw [wordsF,hfl,List.length_map]
 obtain ⟨hxl,hown⟩:=hown
 rcases hown with ⟨hbad,_⟩ | ⟨g,cap,cur,hv,hbase,hcells,hnc,hcm,hcs,htk⟩
 · cases hbad
 cases hv
 have hgs:A<w'.heap.size:=(Array.getElem?_eq_some_iff.1 hcells).1
 refine ⟨_,rfl,upd L 0 ⟨⟨A,0,fl.length,1⟩,fun _=>⟨0,0,0,0⟩⟩,cv (.slc 0 0 (wordsF s).length none true),[],[.rows false 1 ((wordsF s).map rowStr)],fun j hj _=>absurd hj (by simp),by simp,⟨by simp,?_⟩,?_,h⟩
 · rw [upd_self,hwl]
   exact .inr ⟨_,_,rfl,Nat.le_refl _,(fun _ hc=>by cases hc),by simp,fun _=>by simp,fun _=>rfl⟩
 refine hrel.put (M:=[]) 0 (.rows false 1 ((wordsF s).map rowStr)) (by simp) rfl (fun j hj o ho=>?_) (fun j hj _=>absurd hj (by simp)) (fun j hj=>upd_ne hj) ⟨hbelow.os,hbelow.tape,hbelow.output,hsz,fun k hk=>hbelow.block k (hrel.size k hk)⟩ (fun k hk=>.inl (hbelow.block k hk)) (fun k hk=>?_) (fun k (hk:False)=>hk.elim) ?_
 · cases j with
   | zero=>exact absurd rfl hj
   | succ j=>simp at ho
 · rw [upd_self] at hk
   obtain ⟨_,rfl⟩:=hk
   exact ⟨fun hB=>Nat.lt_irrefl _ (Nat.lt_of_lt_of_le (hrel.size _ hB) hA),hgs,.inl hA⟩
 · rw [upd_self]
   refine ⟨rfl,by decide,by simp [hwl],fun _ _=>⟨rfl,fl.length,by simp,cur,_,_,hcells,by omega,fun i hi hc=>by simp at hc⟩,fun i r hi=>?_⟩
   rw [List.getElem?_map] at hi
   obtain ⟨b,hb,rfl⟩:=Option.map_eq_some_iff.1 hi
   rw [wordsF,hfl,List.getElem?_map] at hb
   obtain ⟨c,hc,rfl⟩:=Option.map_eq_some_iff.1 hb
   refine ⟨rfl,fun f x hx=>?_⟩
   match f,hx with
   | 0,hx =>
     obtain rfl:=Option.some.inj hx
     have hlt:i<fl.length:=(List.getElem?_eq_some_iff.1 hc).1
     have hv:cur[i]? = some (Value.string c):=by
      have h1:(List.take (fl.length*1) cur.toList)[i]? = some (Value.string c):=by rw [htk,List.getElem?_map,hc];rfl
      rw [List.getElem?_take,if_pos (by omega),Array.getElem?_toList] at h1
      exact h1
     have ha:(ILoc.at ⟨A,0,fl.length,1⟩ i 0) = ⟨A,i,none⟩:=by simp [ILoc.at]
     rw [ha]
     simp [World.cell?,hcells,hv,FC.val]

end
end
section
def tellD (w0:List UInt8) (r:AnsZ):DZ×List UInt8 :=
 (r.1,match r.2 with
   | .ok s=>w0++s
   | .error e=>errText e)

def okEZ:EZ→Prop
 | .no e=>-9223372036854775808≤e∧e≤9223372036854775807
 | .pl e p=>(-9223372036854775808≤e∧e≤9223372036854775807)∧(-9223372036854775808≤p∧p≤9223372036854775807)

structure LineX (d:DZ) (s:List UInt8) (r:DZ×List UInt8):Prop where
 run:∀ {K:KP} (v:VZ),okV v→WF d.m →
  (∀ v',okV v'→WF r.1.m→K (st r.2) moL (sysH++deskS 5 r.1 v')) →
  Does Tryz.prog 30 [cv (.ptr 5 0),st s] (sysH++deskS 5 d v) K
end
section
def wrdL:List (List UInt8):=[[97,116],[98,97,114,114,105,101,114],[99,101,108,108,115],[101,118,101,110,116,115],[102,105,110,105,115,104],[106,117,100,103,101],[108,97,116,99,104],[109,117,116,101,120],[111,110,99,101],[112,104,97,115,101,114],[112,111,105,110,116,115],[112,111,107,101],[114,111,117,110,100],[114,117,110],[114,119],[115,101,109,97],[115,116,97,116,101],[115,116,101,112],[116,105,99,107,101,116],[116,114,97,100,101]]

def cntL:List CV:=[.f (.int .i64 1),.f (.int .i64 3),.f (.int .i64 0),.f (.int .i64 0),.f (.int .i64 0),.f (.int .i64 0),.f (.int .i64 (-2)),.f (.int .i64 (-1)),.f (.int .i64 (-1)),.f (.int .i64 (-2)),.f (.int .i64 0),.f (.int .i64 1),.f (.int .i64 1),.f (.int .i64 2),.f (.int .i64 (-1)),.f (.int .i64 (-2)),.f (.int .i64 0),.f (.int .i64 1),.f (.int .i64 (-1)),.f (.int .i64 (-1))]

def doL:List CV:=[.bfn 55 5,.bfn 56 5,.bfn 57 5,.bfn 58 5,.bfn 59 5,.bfn 60 5,.bfn 61 5,.bfn 62 5,.bfn 63 5,.bfn 64 5,.bfn 65 5,.bfn 66 5,.bfn 67 5,.bfn 68 5,.bfn 69 5,.bfn 70 5,.bfn 71 5,.bfn 72 5,.bfn 73 5,.bfn 74 5]

theorem line_no (s:List UInt8) (hs:s.length≤1000000000) (d:DZ) (w0:List UInt8) (xs:List (List UInt8)) (hw:wordsF s=w0::xs) (hno:smHas wrdL w0=false) (hz:smGet wrdL cntL w0 (.f (.int .i64 0))=.f (.int .i64 0)) (hh:w0=[104,101,108,112]→xs≠[]):LineX d s (d,errText (.no 3)):=by
 refine ⟨fun {K} v hv hwf hK=>?_⟩
 refine DoesX.does (DoesX.moved moL (DoesX.of ?_))
 refine doesD Tryz.func30 rfl (by decide) rfl rfl rfl rfl rfl rfl ⟨_,Tryz.func50,by decide,rfl⟩ (r:=16) (tc:=4) ?_
 refine And.intro rfl (And.intro rfl ?_)
 intro D
 change DoesX Tryz.prog 53 _ _ _ _
 refine DoesX.alone 17 (DoesX.of (fieldsFunc hs ?_))
 rw [hw]
 have h0:(0:Int)<(((w0::xs).length:Nat):Int):=by simp
 refine at2 (by decide) h0 (rd1 (rowStr w0) (.str w0) rfl rfl ?_)
 have hk:=hK v hv hwf
 refine bZ (fun h1=>?_) (fun h1=>?_)
 · have h1:w0=[104,101,108,112]:=eq_of_beq h1
   obtain ⟨y,ys,rfl⟩ : ∃ y ys,xs=y::ys:=by
    cases xs with
    | nil=>exact absurd rfl (hh h1)
    | cons y ys=>exact ⟨y,ys,rfl⟩
   refine at2 (by decide) h0 (rd1 (rowStr w0) (.str w0) rfl rfl ?_)
   refine tellK_intro hno hz ?_
   refine And.intro rfl (sayNo (e:=3) (by decide) d v _ _ _ _ fun A B=>?_)
   exact And.intro (by decide) hk
 · refine at2 (by decide) h0 (rd1 (rowStr w0) (.str w0) rfl rfl ?_)
   refine tellK_intro hno hz ?_
   refine And.intro rfl (sayNo (e:=3) (by decide) d v _ _ _ _ fun A B=>?_)
   exact And.intro (by decide) hk

theorem line_yes (s:List UInt8) (hs:s.length≤1000000000) (d:DZ) (w0:List UInt8) (xs:List (List UInt8)) (n:Int) (f:FuncId) (r:AnsZ) (hw:wordsF s=w0::xs) (hyes:smHas wrdL w0=true) (hz:smGet wrdL cntL w0 (.f (.int .i64 0))=.f (.int .i64 n)) (hf:∀ z,smGet wrdL doL w0 z=.bfn f 5)
 (hn0:0≤n→n=xs.length) (hn1:n<0→-n≤xs.length+1) (hnb : -2≤n) (hxl:xs.length≤1000000000) (hwl:w0.length≤1000) (hh:w0≠[104,101,108,112]) (hr:SaidX f d (w0::xs) r)
 (hl:∀ t,r.2=.ok t→t.length≤1000000000) (he:∀ e,r.2=.error e→okEZ e):LineX d s (tellD w0 r):=by
 refine ⟨fun {K} v hv hwf hK=>?_⟩
 refine doesD Tryz.func30 rfl (by decide) rfl rfl rfl rfl rfl rfl ⟨_,Tryz.func50,by decide,rfl⟩ (r:=16) (tc:=4) ?_
 refine And.intro rfl (And.intro rfl ?_)
 intro D
 change DoesX Tryz.prog 53 _ _ _ _
 refine DoesX.alone 17 (DoesX.of (fieldsFunc hs ?_))
 rw [hw]
 have h0:(0:Int)<(((w0::xs).length:Nat):Int):=by simp
 have h1:(1:Int)≤(((w0::xs).length:Nat):Int):=by simp;omega
 have wl:IntKind.i64.wrap ((((w0::xs).length:Nat):Int)-1)=(xs.length:Int):=by
  rw [List.length_cons,wrap_i64 _ (by omega) (by omega)]
  omega
 have wn:IntKind.i64.wrap (0-n)=0-n∨n≥0:=by
  rcases Int.lt_or_le n 0 with h | h
  · exact .inl (wrap_i64 _ (by omega) (by omega))
  · exact .inr h
 refine at2 (by decide) h0 (rd1 (rowStr w0) (.str w0) rfl rfl ?_)
 refine bZ (fun hb=>absurd (eq_of_beq hb) hh) (fun _=>?_)
 refine at2 (by decide) h0 (rd1 (rowStr w0) (.str w0) rfl rfl ?_)
 refine tellK_intro hyes hz ?_
 refine bZ (fun hb=>?_) (fun hb=>?_)
 · have hb:n≥0:=oTr hb
   have hne:n=xs.length:=hn0 hb
   refine bZ (fun hc=>?_) (fun hc=>?_)
   · have hc:(n != IntKind.i64.wrap ((((w0::xs).length:Nat):Int)-1))=true:=hc
     rw [wl,hne] at hc
     simp at hc
   refine bZ (fun hc=>?_) (fun hc=>?_)
   · have hc:n<0:=oTr hc
     omega
   refine SX.drawR follows (by decide) ?_
   refine at2 (by decide) h0 (rd1 (rowStr w0) (.str w0) rfl rfl ?_)
   refine at2 (by decide) h0 (rd1 (rowStr w0) (.str w0) rfl rfl ?_)
   refine tellK_intro hyes (hf _) ?_
   refine Or.inl (at2 (by decide) h1 ?_)
   change DoesX Tryz.prog f _ _ _ _
   refine DoesX.on 20 [0,1,2,3,4,5,6,7,8,9,10,11,12,13,14,15,17] _ _ (hr v hv hwf (fun t v' ht hv' hw'=>?_) (fun e v' ht hv' hw'=>?_))
   · have hb:=hl t ht
     have hk:=hK v' hv' hw'
     rw [show (tellD w0 r).2=w0++t by simp only [tellD,ht]] at hk
     repeat' (first | refine And.intro rfl ?_ | refine And.intro (Or.inl (And.intro (by decide) (And.intro h1 rfl))) ?_ | refine And.intro (And.intro (by decide) (And.intro h0 rfl)) ?_ | refine And.intro (tellK_intro hyes (hf _) rfl) ?_ | refine And.intro (Exists.intro _ (Exists.intro _ (And.intro rfl (And.intro rfl rfl)))) ?_ | fail)
     refine And.intro (show w0.length+t.length≤9223372036854775807 by omega) ?_
     refine And.intro rfl (sayNone (show 16<20 by decide) ?_)
     exact hk
   · have hb:=he e ht
     have hk:=hK v' hv' hw'
     rw [show (tellD w0 r).2=errText e by simp only [tellD,ht]] at hk
     cases e with
     | no e =>
       refine And.intro rfl (sayNo hb _ v' _ _ _ _ fun A B=>?_)
       exact hk
     | pl e p =>
       refine And.intro rfl (sayPl hb.1 hb.2 _ v' _ _ _ _ fun A B C=>?_)
       exact hk
 · have hb:¬n≥0:=oFa hb
   have hne:=hn1 (by omega)
   refine bZ (fun hc=>?_) (fun hc=>?_)
   · refine bZ (fun hc=>?_) (fun hc=>?_)
     · have hc:(((w0::xs).length:Nat):Int)<IntKind.i64.wrap (0-n):=oTr hc
       rw [wn.resolve_right (by omega)] at hc
       simp at hc
       omega
     refine SX.drawR follows (by decide) ?_
     refine at2 (by decide) h0 (rd1 (rowStr w0) (.str w0) rfl rfl ?_)
     refine at2 (by decide) h0 (rd1 (rowStr w0) (.str w0) rfl rfl ?_)
     refine tellK_intro hyes (hf _) ?_
     refine Or.inl (at2 (by decide) h1 ?_)
     change DoesX Tryz.prog f _ _ _ _
     refine DoesX.on 20 [0,1,2,3,4,5,6,7,8,9,10,11,12,13,14,15,17] _ _ (hr v hv hwf (fun t v' ht hv' hw'=>?_) (fun e v' ht hv' hw'=>?_))
     · have hb:=hl t ht
       have hk:=hK v' hv' hw'
       rw [show (tellD w0 r).2=w0++t by simp only [tellD,ht]] at hk
       repeat' (first | refine And.intro rfl ?_ | refine And.intro (Or.inl (And.intro (by decide) (And.intro h1 rfl))) ?_ | refine And.intro (And.intro (by decide) (And.intro h0 rfl)) ?_ | refine And.intro (tellK_intro hyes (hf _) rfl) ?_ | refine And.intro (Exists.intro _ (Exists.intro _ (And.intro rfl (And.intro rfl rfl)))) ?_ | fail)
       refine And.intro (show w0.length+t.length≤9223372036854775807 by omega) ?_
       refine And.intro rfl (sayNone (show 16<20 by decide) ?_)
       exact hk
     · have hb:=he e ht
       have hk:=hK v' hv' hw'
       rw [show (tellD w0 r).2=errText e by simp only [tellD,ht]] at hk
       cases e with
       | no e =>
         refine And.intro rfl (sayNo hb _ v' _ _ _ _ fun A B=>?_)
         exact hk
       | pl e p =>
         refine And.intro rfl (sayPl hb.1 hb.2 _ v' _ _ _ _ fun A B C=>?_)
         exact hk
   · have hc:¬n<0:=oFa hc
     omega

theorem line_bad (s:List UInt8) (hs:s.length≤1000000000) (d:DZ) (w0:List UInt8) (xs:List (List UInt8)) (n:Int) (hw:wordsF s=w0::xs) (hyes:smHas wrdL w0=true) (hz:smGet wrdL cntL w0 (.f (.int .i64 0))=.f (.int .i64 n))
 (hc:¬((0≤n→n=xs.length)∧(n<0→-n≤xs.length+1))) (hnb : -2≤n∧n≤3) (hxl:xs.length≤1000000000) (hh:w0≠[104,101,108,112]):LineX d s (d,errText (.no 3)):=by
 refine ⟨fun {K} v hv hwf hK=>?_⟩
 refine DoesX.does (DoesX.moved moL (DoesX.of ?_))
 refine doesD Tryz.func30 rfl (by decide) rfl rfl rfl rfl rfl rfl ⟨_,Tryz.func50,by decide,rfl⟩ (r:=16) (tc:=4) ?_
 refine And.intro rfl (And.intro rfl ?_)
 intro D
 change DoesX Tryz.prog 53 _ _ _ _
 refine DoesX.alone 17 (DoesX.of (fieldsFunc hs ?_))
 rw [hw]
 have h0:(0:Int)<(((w0::xs).length:Nat):Int):=by simp
 have wl:IntKind.i64.wrap ((((w0::xs).length:Nat):Int)-1)=(xs.length:Int):=by
  rw [List.length_cons,wrap_i64 _ (by omega) (by omega)]
  omega
 have wn:IntKind.i64.wrap (0-n)=0-n:=wrap_i64 _ (by omega) (by omega)
 refine at2 (by decide) h0 (rd1 (rowStr w0) (.str w0) rfl rfl ?_)
 have hk:=hK v hv hwf
 refine bZ (fun hb=>absurd (eq_of_beq hb) hh) (fun _=>?_)
 refine at2 (by decide) h0 (rd1 (rowStr w0) (.str w0) rfl rfl ?_)
 refine tellK_intro hyes hz ?_
 refine bZ (fun hb=>?_) (fun hb=>?_)
 · have hb:n≥0:=oTr hb
   refine bZ (fun hd=>?_) (fun hd=>?_)
   · refine And.intro rfl (sayNo (e:=3) (by decide) d v _ _ _ _ fun A B=>?_)
     exact And.intro (by decide) hk
   · have hd:(n != IntKind.i64.wrap ((((w0::xs).length:Nat):Int)-1))=false:=hd
     rw [wl] at hd
     have hd:n=xs.length:=by simpa using hd
     exact absurd ⟨fun _=>hd,fun h=>absurd h (by omega)⟩ hc
 · have hb:¬n≥0:=oFa hb
   refine bZ (fun hd=>?_) (fun hd=>?_)
   · refine bZ (fun he=>?_) (fun he=>?_)
     · refine And.intro rfl (sayNo (e:=3) (by decide) d v _ _ _ _ fun A B=>?_)
       exact And.intro (by decide) hk
     · have he:¬(((w0::xs).length:Nat):Int)<IntKind.i64.wrap (0-n):=oFa he
       rw [wn] at he
       simp at he
       exact absurd ⟨fun h=>absurd h (by omega),fun _=>by omega⟩ hc
   · have hd:¬n<0:=oFa hd
     omega

theorem line_ok (s:List UInt8) (hs:s.length≤1000000000) (d:DZ) (hw:wordsF s=[]):LineX d s (d,[111,107]):=by
 refine ⟨fun {K} v hv hwf hK=>?_⟩
 refine DoesX.does (DoesX.moved moL (DoesX.of ?_))
 refine doesD Tryz.func30 rfl (by decide) rfl rfl rfl rfl rfl rfl ⟨_,Tryz.func50,by decide,rfl⟩ (r:=16) (tc:=4) ?_
 refine And.intro rfl (And.intro rfl ?_)
 intro D
 change DoesX Tryz.prog 53 _ _ _ _
 refine DoesX.alone 17 (DoesX.of (fieldsFunc hs ?_))
 rw [hw]
 have hk:=hK v hv hwf
 refine And.intro rfl (sayNone (show 16<18 by decide) ?_)
 exact And.intro (by decide) hk

def helpT:List UInt8:=[97,116,32,98,97,114,114,105,101,114,32,99,101,108,108,115,32,101,118,101,110,116,115,32,102,105,110,105,115,104,32,104,101,108,112,32,106,117,100,103,101,32,108,97,116,99,104,32,109,117,116,101,120,32,111,110,99,101,32,112,104,97,115,101,114,32,112,111,105,110,116,115,32,112,111,107,101,32,114,111,117,110,100,32,114,117,110,32,114,119,32,115,101,109,97,32,115,116,97,116,101,32,115,116,101,112,32,116,105,99,107,101,116,32,116,114,97,100,101]

theorem line_help (s:List UInt8) (hs:s.length≤1000000000) (d:DZ) (hw:wordsF s=[[104,101,108,112]]):LineX d s (d,helpT):=by
 refine ⟨fun {K} v hv hwf hK=>?_⟩
 refine DoesX.does (DoesX.moved moL (DoesX.of ?_))
 refine doesD Tryz.func30 rfl (by decide) rfl rfl rfl rfl rfl rfl ⟨_,Tryz.func50,by decide,rfl⟩ (r:=16) (tc:=4) ?_
 refine And.intro rfl (And.intro rfl ?_)
 intro D
 change DoesX Tryz.prog 53 _ _ _ _
 refine DoesX.alone 17 (DoesX.of (fieldsFunc hs ?_))
 rw [hw]
 refine at2 (by decide) (by simp) (rd1 (rowStr [104,101,108,112]) (.str [104,101,108,112]) rfl rfl ?_)
 have hk:=hK v hv hwf
 refine And.intro rfl (sayNone (show 16<18 by decide) ?_)
 exact And.intro (by decide) hk
end
section
open Go.RowKit Go.Shelf

attribute [local go_sem] Oper.semAt_some

theorem rel_none (w:World) (L:Nat→Loc):Rel (fun b=>b<w.heap.size) (fun _=>False) w L [] w :=
 ⟨Bel.refl _ _,fun _ hk=>hk,fun _ _ h=>(by simp at h),fun _ _ _ h=>(by simp at h),fun _ _ _ h=>(by simp at h),fun _ h=>h.elim⟩

theorem index_calls (s:List UInt8) (c:UInt8) (w:World):Calls Tryz.prog 95 #[.string ⟨s.toArray⟩,.string ⟨#[c]⟩] w fun e w'=>e=.returned (.int .i64 (Lib.indexByte s c))∧Bel (fun k=>k<w.heap.size) w w' :=
 Does.top (x:=.int .i64 (Lib.indexByte s c)) (index1 s c rfl) (rel_none w fun _=>⟨⟨0,0,0,0⟩,fun _=>⟨0,0,0,0⟩⟩) ⟨_,_,rfl,rfl,_,_,rfl,rfl,rfl⟩

theorem cell_lt {w:World} {b:Nat} {v:Value} (h:w.cell? ⟨b,0,none⟩ = some v):b<w.heap.size:=by
 rcases Nat.lt_or_ge b w.heap.size with hl | hl
 · exact hl
 · simp [World.cell?,Array.getElem?_eq_none hl] at h

theorem first_of {c:UInt8}:∀ {r:List UInt8},c∈r→∃ p r2,r=p++c::r2∧c∉p
 | [],h=>by simp at h
 | b::r,h=>by
   by_cases e:b=c
   · exact ⟨[],r,by rw [e];rfl,by simp⟩
   · obtain ⟨p,r2,h1,h2⟩:=first_of (show c∈r by simpa [Ne.symm e] using h)
     exact ⟨b::p,r2,by rw [h1];rfl,by simp [h2,Ne.symm e]⟩

theorem wrap64_self {n:Int} (h0 : -9223372036854775808≤n) (h1:n≤9223372036854775807):wrap64 n=n:=by
 unfold wrap64
 omega

def leftS (b:Nat) (w:World):Nat :=
 match w.cell? ⟨b,0,none⟩ with
 | some (.string s)=>s.size
 | _=>0

set_option maxHeartbeats 1000000 in
theorem splits:Splits splitB Tryz.prog 101:=by
 intro l bs bp bz s c J Jp W hs hne1 hne2 hcs hfs hcp hcz hJ0 hgrow hset hround
 refine (callsIn_wide (n:=1)).1 (callsIn_of_wp Tryz.func101 rfl trivial ?_ rfl)
 simp only [Tryz.ntmps101,List.size_toArray,List.length_cons,List.length_nil,Nat.reduceAdd,Nat.reduceSub,Array.replicate_succ,Array.replicate_zero,List.push_toArray,List.append_toArray,List.nil_append,List.cons_append]
 gi_wp2
 gi_loopw [] (fun wr=>∃ (k:Nat) (r:List UInt8),wr.cell? ⟨bs,0,none⟩ = some (.string ⟨r.toArray⟩)∧wr.frozen? ⟨bs,0,none⟩ = false∧wr.cell? ⟨bp,0,none⟩ = some (.string ⟨#[c]⟩)∧wr.cell? ⟨bz,0,none⟩ = some (.int .i64 0) ∧
  J k wr∧(splitB c s).drop k=splitB c r∧r.length≤s.length)
  (fun wr=>leftS bs wr)
 case atStart =>
  exact ⟨0,s,hcs,hfs,hcp,hcz,hJ0,rfl,Nat.le_refl _⟩
 case round =>
  obtain ⟨k,r,h1,h2,h3,h4,h5,h6,h7⟩:=hrel
  gi_wp2
  refine ⟨trivial,?_⟩
  refine (callsIn_wide.2 (index_calls r c _)).mono ?_
  rintro e W2 ⟨rfl,hb⟩
  have lt1:bs<wr.heap.size:=cell_lt h1
  have lt2:bp<wr.heap.size:=cell_lt h3
  have lt3:bz<wr.heap.size:=cell_lt h4
  have g1:W2.cell? ⟨bs,0,none⟩ = some (.string ⟨r.toArray⟩):=(cell?_of_heap (hb.block bs lt1)).trans h1
  have g2:W2.frozen? ⟨bs,0,none⟩ = false:=by simp only [World.frozen?,hb.block bs lt1];exact h2
  have g3:W2.cell? ⟨bp,0,none⟩ = some (.string ⟨#[c]⟩):=(cell?_of_heap (hb.block bp lt2)).trans h3
  have g4:W2.cell? ⟨bz,0,none⟩ = some (.int .i64 0):=(cell?_of_heap (hb.block bz lt3)).trans h4
  have g5:J k W2:=hgrow k wr W2 h5 hb
  by_cases hcr:c∈r
  · obtain ⟨p,r2,rfl,hcp2⟩:=first_of hcr
    rw [index_app hcp2]
    rw [split_app hcp2] at h6
    have hpk:(splitB c s)[k]? = some p:=by
     have:=congrArg (·[0]?) h6
     simpa using this
    obtain ⟨fn,tmps,assign,body,hy,hR⟩:=hround k p W2 g5 hpk
    have hpl:p.length+r2.length+1≤1000000000:=by
     have:(p++c::r2).length=p.length+r2.length+1:=by simp;omega
     omega
    have hw0:wrap64 (p.length:Int)=(p.length:Int):=wrap64_self (by omega) (by omega)
    have hx0:(⟨(p++c::r2).toArray⟩ : ByteArray).extract 0 p.length = ⟨p.toArray⟩:=by
     apply ByteArray.ext
     simp [ByteArray.data_extract]
    have hle:(p.length:Int)≤p.length+(r2.length+1):=by omega
    gi_wp2
    refine hR.mono ?_
    rintro e W3 (⟨rfl,hJ3,hsame⟩ | ⟨ch,rfl,hp⟩)
    · have e1:W3.cell? ⟨bs,0,none⟩ = some (.string ⟨(p++c::r2).toArray⟩):=(cell?_of_heap (hsame bs (.inl rfl))).trans g1
      have e2:W3.frozen? ⟨bs,0,none⟩ = false:=by simp only [World.frozen?,hsame bs (.inl rfl)];exact g2
      have e3:W3.cell? ⟨bp,0,none⟩ = some (.string ⟨#[c]⟩):=(cell?_of_heap (hsame bp (.inr (.inl rfl)))).trans g3
      have e4:W3.cell? ⟨bz,0,none⟩ = some (.int .i64 0):=(cell?_of_heap (hsame bz (.inr (.inr rfl)))).trans g4
      have hx2:(⟨(p++c::r2).toArray⟩ : ByteArray).extract (p.length+1) (p.length+(r2.length+1)) = ⟨r2.toArray⟩:=by
       apply ByteArray.ext
       simp [ByteArray.data_extract,List.drop_append]
       rw [List.drop_eq_nil_of_le (by omega),List.nil_append,List.take_of_length_le (by omega)]
      gi_wp2
      have f1:(W3.setCell ⟨bs,0,none⟩ (.string ⟨r2.toArray⟩)).cell? ⟨bs,0,none⟩ = some (.string ⟨r2.toArray⟩):=World.cell?_setCell_same' _ _ _ (by rw [e1];rfl)
      refine ⟨⟨k+1,r2,f1,by rw [World.frozen?_setCell];exact e2,?_,?_,hset _ _ _ hJ3,?_,?_⟩,?_⟩
      · exact (cell?_of_heap (heap_setCell_ne _ _ _ _ (Ne.symm hne1))).trans e3
      · exact (cell?_of_heap (heap_setCell_ne _ _ _ _ (Ne.symm hne2))).trans e4
      · rw [←List.drop_drop,h6]
        rfl
      · have:(p++c::r2).length=p.length+r2.length+1:=by simp;omega
        omega
      · rw [leftS,f1,leftS,h1]
        show r2.toArray.size<(p++c::r2).toArray.size
        simp
        omega
    · gi_wp2
      exact ⟨rfl,.inr ⟨ch,rfl,hp⟩⟩
  · rw [index_free hcr]
    obtain ⟨fn,tmps,assign,body,hy,hR⟩:=hround k r W2 g5 (by
     rw [split_one hcr] at h6
     have:=congrArg (·[0]?) h6
     simpa using this)
    gi_wp2
    refine hR.mono ?_
    rintro e W3 (⟨rfl,hJ3,hsame⟩ | ⟨ch,rfl,hp⟩)
    · gi_wp2
      have hk1:(splitB c s).length=k+1:=by
       rw [split_one hcr] at h6
       have:=congrArg List.length h6
       simp at this
       omega
      exact ⟨rfl,_,results_none rfl _ _ _,.inl ⟨_,rfl,by rw [hk1];exact hJ3⟩⟩
    · gi_wp2
      exact ⟨rfl,.inr ⟨ch,rfl,hp⟩⟩
end
end Go.Mac
end
