import Derived.Test.YtollgfhpcidkgaaGreatDoorMacSlc2
import Derived.MapKept
import Derived.WideKeyRuns

namespace Go.Mac
open Go

section

variable {B R:Nat→Prop} {w0:World} {N:Nat} {L:Nat→Loc} {H:List PO} {P:Program} {w:World}

theorem keyT_spec {t:TypeId} {n:Nat} (h:keyT P t=some n):(n=0∧P.underlying t=some (.int .i64)) ∨
   (n=2∧∃ e,P.underlying t=some (.array 2 e)∧P.underlying e=some (.int .i64)∧(P.info? e).isSome=true∧szOf P e=1):=by
 unfold keyT at h
 split at h
 · rename_i hu
   exact .inl ⟨(Option.some.inj h).symm,hu⟩
 · rename_i m e hu
   split at h
   · rename_i he
     simp only [cond_eq_ite,Bool.and_eq_true] at h
     split at h
     · rename_i hc
       obtain rfl:m=2:=Nat.eq_of_beq_eq_true hc.1
       exact .inr ⟨(Option.some.inj h).symm,e,hu,he,hc.2.1,Nat.eq_of_beq_eq_true hc.2.2⟩
     · cases h
   · cases h
 · cases h

structure KeyOk (P:Program) (k:TypeId) (kn:Nat):Prop where
 check:∀ (w:World) (l:List Int),l.length=keyLen kn→∀ em,(Instr.checkKey em 10000 k (keyV kn l)).run P w=.ok () w
 find:∀ (w:World) (l:List Int),l.length=keyLen kn→∀ (vb:Bool) (es:List (List Int×Int×Nat)),(∀ e∈es,e.1.length=keyLen kn) →
   (mpFind l es=none∧(Instr.findKey k (keyV kn l) (es.map (entV kn vb))).run P w=.ok none w∧mpDel l es=es) ∨
   ∃ j e,es[j]? = some e∧e.1=l∧mpFind l es=some e.2∧(Instr.findKey k (keyV kn l) (es.map (entV kn vb))).run P w=.ok (some (j,(elmF vb e.2.1).val)) w ∧
     (∀ v,mpSet l v es=es.set j (l,v,e.2.2))∧mpDel l es=es.eraseIdx j
 stays:∀ (w:World) (l:List Int),l.length=keyLen kn→(Instr.keyThatStays (keyV kn l) (keyV kn l)).run P w=.ok (keyV kn l) w

theorem elmT_spec {t:TypeId} {b:Bool} (h:elmT P t=some b):zval P t=.p (.c (.f (elmF b 0))):=by
 unfold elmT at h
 split at h
 · split at h
   · rename_i n hz
     simp only [cond_eq_ite,decide_eq_true_eq] at h
     split at h
     · rename_i hn
       subst hn
       obtain rfl:=Option.some.inj h
       exact hz
     · cases h
   · cases h
 · split at h
   · rename_i b' hz
     cases b' with
     | true=>cases h
     | false =>
       obtain rfl:=Option.some.inj h
       exact hz
   · cases h
 · cases h

theorem mapT_spec {t:TypeId} {kn:Nat} {vb:Bool} {K:Prop} (h:mapT P t kn vb K):∃ k e,P.underlying t=some (.map k e)∧keyT P k=some kn∧zval P e=.p (.c (.f (elmF vb 0)))∧K:=by
 unfold mapT at h
 split at h <;> try exact h.elim
 rename_i k e hu
 split at h <;> try exact h.elim
 rename_i n b hk he
 simp only [cond_eq_ite,Bool.and_eq_true,beq_iff_eq] at h
 split at h <;> try exact h.elim
 rename_i hc
 obtain ⟨h1,h2⟩:=hc
 have h1:n=kn:=Nat.eq_of_beq_eq_true h1
 subst h1;subst h2
 exact ⟨k,e,hu,hk,elmT_spec he,h⟩

theorem intsOf_spec:∀ {cs:List CV} {l:List Int} {vs:List Value},intsOf cs=some l→VCs N L cs vs→vs=l.map (Value.int .i64)
 | [],_,_,h,hv=>by
   obtain rfl:=Option.some.inj h
   simpa [VCs] using hv
 | c::cs,l,vs,h,hv=>by
   obtain ⟨y,ys,rfl,h2,h3⟩:=hv
   unfold intsOf at h
   split at h
   · rename_i heq
     cases heq
   · rename_i n xs heq
     cases heq
     split at h
     · rename_i l' hl'
       obtain rfl:=Option.some.inj h
       obtain rfl:y=.int .i64 n:=h2
       rw [intsOf_spec hl' h3]
       rfl
     · cases h
   · cases h

theorem keyK_spec {kn:Nat} {x:AV} {v:Value} (hx:VA N L x v) {K:List Int→Prop} (h:keyK kn x K):∃ l,v=keyV kn l∧l.length=keyLen kn∧K l:=by
 unfold keyK at h
 split at h
 · rename_i n
   obtain rfl:v=_:=hx
   exact ⟨[n],rfl,rfl,h⟩
 · rename_i m cs
   split at h <;> try exact h.elim
   rename_i l hl
   simp only [cond_eq_ite] at h
   split at h <;> try exact h.elim
   rename_i hc
   obtain ⟨vs,rfl,h2⟩:=hx
   exact ⟨l,by rw [intsOf_spec hl h2];rfl,lenIs_spec _ _ hc,h⟩
 · exact h.elim

theorem elmK_spec {vb:Bool} {x:AV} {v:Value} (hx:VA N L x v) {K:Int→Prop} (h:elmK vb x K):∃ n,v=(elmF vb n).val∧K n:=by
 unfold elmK at h
 split at h <;> try exact h.elim
 · rename_i n
   obtain rfl:v=_:=hx
   exact ⟨n,rfl,h⟩
 · rename_i b
   obtain rfl:v=_:=hx
   refine ⟨_,?_,h⟩
   cases b <;> rfl

theorem find_spec (n:Int) (vb:Bool):∀ (es:List (List Int×Int×Nat)) (i:Nat),(∀ e∈es,e.1.length=1) →
   (mpFind [n] es=none∧Instr.findNow (.int .i64) (.int .i64 n) (es.map (entV 0 vb)) i=some none∧mpDel [n] es=es) ∨
   ∃ j e,es[j]? = some e∧e.1=[n]∧mpFind [n] es=some e.2∧Instr.findNow (.int .i64) (.int .i64 n) (es.map (entV 0 vb)) i=some (some (i+j,(elmF vb e.2.1).val)) ∧
     (∀ v,mpSet [n] v es=es.set j ([n],v,e.2.2))∧mpDel [n] es=es.eraseIdx j
 | [],i,_=>.inl ⟨rfl,rfl,rfl⟩
 | e::es,i,h=>by
   obtain ⟨k,v,b⟩:=e
   obtain ⟨m,rfl⟩ : ∃ m,k=[m]:=by
     have:=h _ (List.mem_cons_self ..)
     match k,this with
     | [m],_=>exact ⟨m,rfl⟩
   have hs:Instr.sameNow (.int .i64) (.int .i64 n) (.int .i64 m)=some (n == m):=rfl
   by_cases hm:m=n
   · subst hm
     refine .inr ⟨0,_,rfl,rfl,if_pos rfl,?_,fun v=>if_pos rfl,if_pos rfl⟩
     rw [List.map_cons,Instr.findNow]
     show (match Instr.sameNow (.int .i64) (.int .i64 m) (.int .i64 m) with | some true=>_ | some false=>_ | none=>_)=_
     rw [hs,show (m == m)=true by simp]
     rfl
   · have hne:¬([m]:List Int)=[n]:=fun h=>hm (by simpa using h)
     have hf:∀ rest,Instr.findNow (.int .i64) (.int .i64 n) (entV 0 vb ([m],v,b)::rest) i=Instr.findNow (.int .i64) (.int .i64 n) rest (i+1):=fun rest=>by
       rw [Instr.findNow]
       show (match Instr.sameNow (.int .i64) (.int .i64 n) (.int .i64 m) with | some true=>_ | some false=>_ | none=>_)=_
       rw [hs,show (n == m)=false by simpa using Ne.symm hm]
     rw [List.map_cons,hf]
     rcases find_spec n vb es (i+1) (fun e he=>h e (List.mem_cons_of_mem _ he)) with ⟨h1,h2,h3⟩ | ⟨j,e,h1,h2,h3,h4,h5,h6⟩
     · refine .inl ⟨?_,h2,?_⟩
       · rw [mpFind,if_neg hne];exact h1
       · rw [mpDel,if_neg hne,h3]
     · refine .inr ⟨j+1,e,by simpa using h1,h2,?_,by rw [h4];congr 3;omega,fun v'=>?_,?_⟩
       · rw [mpFind,if_neg hne];exact h3
       · rw [mpSet,if_neg hne,h5];rfl
       · rw [mpDel,if_neg hne,h6];rfl

theorem keyOk_int {k:TypeId} (hk:P.underlying k=some (.int .i64)):KeyOk P k 0:=by
 have one:∀ l:List Int,l.length=keyLen 0→∃ n,l=[n]:=fun l hl=>match l,hl with | [n],_=>⟨n,rfl⟩
 refine ⟨fun w l hl em=>?_,fun w l hl vb es hes=>?_,fun w l hl=>?_⟩
 · obtain ⟨n,rfl⟩:=one l hl
   have hkey:MapKept.IsKey (.int .i64) (.int .i64 n):=by simp [MapKept.IsKey]
   exact MapKept.run_checkKey (P:=P) (w:=w) hk hkey em 9999
 · obtain ⟨n,rfl⟩:=one l hl
   rcases find_spec n vb es 0 hes with ⟨h1,h2,h3⟩ | ⟨j,e,h1,h2,h3,h4,h5,h6⟩
   · exact .inl ⟨h1,MapKept.run_findKey (P:=P) (w:=w) hk h2,h3⟩
   · refine .inr ⟨j,e,h1,h2,h3,?_,h5,h6⟩
     have:=MapKept.run_findKey (P:=P) (w:=w) hk h4
     rwa [Nat.zero_add] at this
 · obtain ⟨n,rfl⟩:=one l hl
   have hkey:MapKept.IsKey (.int .i64) (.int .i64 n):=by simp [MapKept.IsKey]
   exact MapKept.run_keyThatStays (P:=P) (w:=w) hkey

theorem ask_spec {k:TypeId} {kn:Nat} {l:List Int} (w:World) (heq:∀ l':List Int,l'.length=keyLen kn→(Op.equal k (keyV kn l) (keyV kn l')).run P w=.ok (decide (l'=l)) w) (vb:Bool):∀ (es:List (List Int×Int×Nat)) (i:Nat),(∀ e∈es,e.1.length=keyLen kn) →
   (mpFind l es=none∧(Instr.findAsking k (keyV kn l) (es.map (entV kn vb)) i).run P w=.ok none w∧mpDel l es=es) ∨
   ∃ j e,es[j]? = some e∧e.1=l∧mpFind l es=some e.2∧(Instr.findAsking k (keyV kn l) (es.map (entV kn vb)) i).run P w=.ok (some (i+j,(elmF vb e.2.1).val)) w ∧
     (∀ v,mpSet l v es=es.set j (l,v,e.2.2))∧mpDel l es=es.eraseIdx j
 | [],i,_=>.inl ⟨rfl,rfl,rfl⟩
 | e::es,i,h=>by
   have h0:=heq e.1 (h e (List.mem_cons_self ..))
   by_cases he:e.1=l
   · rw [decide_eq_true he] at h0
     refine .inr ⟨0,e,rfl,he,if_pos he,?_,fun v=>if_pos he,if_pos he⟩
     simp only [List.map_cons,Instr.findAsking,Sem.run_bind,entV,h0,Result.andThen_ok,if_true,Sem.run_pure]
     rfl
   · rw [decide_eq_false he] at h0
     have hf:(Instr.findAsking k (keyV kn l) ((e::es).map (entV kn vb)) i).run P w=(Instr.findAsking k (keyV kn l) (es.map (entV kn vb)) (i+1)).run P w:=by
       simp only [List.map_cons,Instr.findAsking,Sem.run_bind]
       rw [show (entV kn vb e).key=keyV kn e.1 from rfl,h0]
       simp
     rw [hf]
     rcases ask_spec w heq vb es (i+1) (fun e he=>h e (List.mem_cons_of_mem _ he)) with ⟨h1,h2,h3⟩ | ⟨j,e',h1,h2,h3,h4,h5,h6⟩
     · refine .inl ⟨?_,h2,?_⟩
       · rw [mpFind,if_neg he];exact h1
       · rw [mpDel,if_neg he,h3]
     · refine .inr ⟨j+1,e',by simpa using h1,h2,?_,by rw [h4];congr 3;omega,fun v'=>?_,?_⟩
       · rw [mpFind,if_neg he];exact h3
       · rw [mpSet,if_neg he,h5];rfl
       · rw [mpDel,if_neg he,h6];rfl

theorem keyOk_two {k e:TypeId} (hk:P.underlying k=some (.array 2 e)) (he:P.underlying e=some (.int .i64)) (hi:(P.info? e).isSome=true) (hz:szOf P e=1):KeyOk P k 2:=by
 have two:∀ l:List Int,l.length=keyLen 2→∃ a b,l=[a,b]:=fun l hl=>match l,hl with | [a,b],_=>⟨a,b,rfl⟩
 obtain ⟨i,hi⟩:=Option.isSome_iff_exists.1 hi
 have hz1:i.size=1:=by simpa [szOf,hi] using hz
 have hagg:aggT P e=some false:=by simp [aggT,he]
 have hpart0:∀ (w:World) (a b:Int),(part e #[.int .i64 a,.int .i64 b] 0).run P w=.ok (.int .i64 a) w:=fun w a b=>by
   simp [part,run_isAgg_some hagg]
 have hpart1:∀ (w:World) (a b:Int),(part e #[.int .i64 a,.int .i64 b] 1).run P w=.ok (.int .i64 b) w:=fun w a b=>by
   simp [part,run_isAgg_some hagg]
 have hso:∀ w:World,(sizeOf e).run P w=.ok 1 w:=fun w=>by simp [sizeOf,typeInfo,hi,hz1]
 have hco:P.cellsOf e=1:=by simp [Program.cellsOf,hi,hz1]
 refine ⟨fun w l hl em=>?_,fun w l hl vb es hes=>?_,fun w l hl=>?_⟩
 · obtain ⟨a,b,rfl⟩:=two l hl
   have hc:∀ (n:Nat) (w:World) (x:Int),(Instr.checkKey em (n+1) e (.int .i64 x)).run P w=.ok () w:=fun n w x=>by
     unfold Instr.checkKey
     simp only [Sem.run_bind,run_underlying_some he,Result.andThen_ok]
     rfl
   have ha:∀ (n:Nat),(Instr.checkKey em (n+2) k (.agg #[.int .i64 a,.int .i64 b])).run P w=.ok () w:=fun n=>by
     unfold Instr.checkKey
     simp only [Sem.run_bind,run_underlying_some hk,Result.andThen_ok]
     simp [Std.Legacy.Range.forIn_eq_forIn_range',Std.Legacy.Range.size,List.range',hso,hpart0,hpart1,hc]
   exact ha 9998
 · obtain ⟨a,b,rfl⟩:=two l hl
   have heq:∀ l':List Int,l'.length=keyLen 2→(Op.equal k (keyV 2 [a,b]) (keyV 2 l')).run P w=.ok (decide (l'=[a,b])) w:=fun l' hl'=>by
     obtain ⟨c,d,rfl⟩:=two l' hl'
     show (Op.equalIn (9999+1) k (.agg #[.int .i64 a,.int .i64 b]) (.agg #[.int .i64 c,.int .i64 d])).run P w=_
     rw [run_equalIn_array w 9999 _ _ hk hi,hco]
     have h1:∀ x y:Int,(Op.equalIn 9999 e (.int .i64 x) (.int .i64 y)).run P w=.ok (x == y) w:=fun x y=>run_equalIn_int w 9998 e _ _ x y he
     simp only [List.range,List.range.loop,Op.eqItems,Nat.zero_mul,Nat.one_mul,Sem.run_bind,hpart0,Result.andThen_ok,h1]
     by_cases e1:a=c
     · subst e1
       by_cases e2:b=d
       · subst e2;simp [Sem.run_bind,hpart1,h1]
       · simp [Sem.run_bind,hpart1,h1,e2,Ne.symm e2]
     · simp [e1,Ne.symm e1]
   have:=ask_spec w heq vb es 0 hes
   simp only [Nat.zero_add] at this
   rw [run_findKey_eq w (by rw [hk])]
   exact this
 · obtain ⟨a,b,rfl⟩:=two l hl
   show (Instr.keyThatStays (.agg #[.int .i64 a,.int .i64 b]) (.agg #[.int .i64 a,.int .i64 b])).run P w=_
   simp [Instr.keyThatStays,Instr.sameBits]
   rfl

theorem keyOk {k:TypeId} {kn:Nat} (h:keyT P k=some kn):KeyOk P k kn:=by
 rcases keyT_spec h with ⟨rfl,h'⟩ | ⟨rfl,e,h1,h2,h3,h4⟩
 · exact keyOk_int h'
 · exact keyOk_two h1 h2 h3 h4

theorem mp_set (h:Rel B R w0 L H w) {r:Nat} {kn:Nat} {vb:Bool} {es es':List (List Int×Int×Nat)} {clk clk':Nat} (hr:H[r]? = some (.mp kn vb es clk)) {xs:Array MapEntry} (hx:xs.toList=es'.map (entV kn vb)) (hl:∀ e∈es',e.1.length=keyLen kn) :
   Rel B R w0 L (H.set r (.mp kn vb es' clk')) { w with heap:=w.heap.setIfInBounds (L r).h.blk (.map xs clk') }:=by
 obtain ⟨xs0,hb,_,_⟩:=h.obj r _ hr
 obtain ⟨hB,hlt,hu⟩:=h.own r _ (L r).h.blk hr rfl
 obtain ⟨k1,k2⟩:=MapKept.heap_set (o':=.map xs clk') hb
 refine h.put (M:=[]) r _ (by simp) (List.getElem?_set_self (List.getElem?_eq_some_iff.1 hr).1) (fun j hj o1 ho1=>?_) (Agree.refl _ _ _) (fun _ _=>rfl) ⟨rfl,rfl,rfl,by simp,fun q hq=>k2 q fun e=>hB (by rw [←e];exact hq)⟩ (fun q hq=>?_) (fun q hq=>?_) (fun q hq=>hq.elim) ⟨xs,k1,hx,hl⟩
 · rw [List.getElem?_set_ne (Ne.symm hj)] at ho1
   exact ⟨o1,ho1,(killO_nil o1).symm⟩
 · by_cases hqb:q=(L r).h.blk
   · exact .inr ⟨_,hr,hqb⟩
   · exact .inl (k2 q hqb)
 · obtain rfl:q=(L r).h.blk:=hq
   exact ⟨hB,by simpa using hlt,.inr ⟨_,hr,rfl⟩⟩

theorem makeMap_sound (h:Rel B R w0 L H w) {t:TypeId} {r:Option Operand} {f:Operand→Value} {K:AV→List PO→Prop} (hs:makeMapA H P t r K) :
   ∃ u w' L' y H',(Instr.makeMap t (r.map f)).run P w=.ok u w'∧Agree H.length [] L L'∧H.length≤H'.length∧Rel B R w0 L' H' w'∧VA H'.length L' y u∧K y H':=by
 unfold makeMapA at hs
 split at hs <;> try exact hs.elim
 split at hs <;> try exact hs.elim
 rename_i k e hu
 split at hs <;> try exact hs.elim
 rename_i n b hk he
 have hK:=snocK_spec hs
 have hag:=upd_agree L ⟨⟨w.heap.size,0,0,0⟩,fun _=>⟨0,0,0,0⟩⟩ H.length []
 refine ⟨.map (some w.heap.size),w.alloc (.map #[] 0),upd L H.length ⟨⟨w.heap.size,0,0,0⟩,fun _=>⟨0,0,0,0⟩⟩,_,_,?_,hag,?_,?_,?_,hK⟩
 · simp [Instr.makeMap,Result.andThen]
 · simp
 · refine h.put (M:=[]) H.length (.mp n b [] 0) (by simp) (by simp) (fun j hj o1 ho1=>?_) hag (fun j hj=>upd_ne hj) ((Bel.refl B w).alloc h.size _)
     (fun b hb=>.inl (heap_alloc_lt _ _ _ hb)) (fun b hb=>?_) (fun b (hb:False)=>hb.elim) ?_
   · rcases Nat.lt_or_gt_of_ne hj with hl | hg
     · rw [List.getElem?_append_left hl] at ho1
       exact ⟨o1,ho1,(killO_nil o1).symm⟩
     · rw [List.getElem?_eq_none (by simp;omega)] at ho1
       cases ho1
   · rw [upd_self] at hb
     obtain rfl:b=w.heap.size:=hb
     exact ⟨fun hb=>Nat.lt_irrefl _ (h.size _ hb),by simp,.inl (Nat.le_refl _)⟩
   · rw [upd_self]
     exact ⟨#[],heap_alloc_eq _ _,rfl,fun e he=>by cases he⟩
 · refine ⟨by simp,?_⟩
   rw [upd_self]

theorem sameS_iff:∀ {a b:List UInt8},sameS a b=true↔a=b
 | [],[]=>by simp [sameS]
 | [],_::_=>by simp [sameS]
 | _::_,[]=>by simp [sameS]
 | x::xs,y::ys=>by
   simp only [sameS,cond_eq_ite]
   by_cases h:x=y
   · subst h
     rw [if_pos (by simp),sameS_iff]
     simp
   · rw [if_neg (fun e=>h (UInt8.toNat_inj.1 (Nat.eq_of_beq_eq_true e)))]
     simp [h]

theorem smT_spec {t e:TypeId} (h:smT P t=some e):∃ k,P.underlying t=some (.map k e)∧P.underlying k=some .string:=by
 unfold smT at h
 split at h
 · rename_i k e' hu
   split at h
   · rename_i hk
     obtain rfl:=Option.some.inj h
     exact ⟨k,hu,hk⟩
   · cases h
 · cases h

theorem bytes_beq (a b:List UInt8):((⟨a.toArray⟩ : ByteArray) == ⟨b.toArray⟩)=sameS a b:=by
 rw [Bool.eq_iff_iff,sameS_iff]
 change ((a.toArray == b.toArray)=true)↔a=b
 simp

theorem findNow_entS {s:List UInt8}:∀ {ks:List (List UInt8)} {vs:List Value} {n:Nat} {i:Nat},ks.length=vs.length →
   (smHas ks s=false∧Instr.findNow .string (.string ⟨s.toArray⟩) (entS ks vs n) i=some none) ∨
   ∃ j v,smHas ks s=true∧vs[j]? = some v∧(∀ (cs:List CV) (z:CV),cs.length=ks.length→cs[j]? = some (smGet ks cs s z))∧Instr.findNow .string (.string ⟨s.toArray⟩) (entS ks vs n) i=some (some (i+j,v))
 | [],[],_,_,_=>.inl ⟨rfl,rfl⟩
 | k::ks,v::vs,n,i,h=>by
   have hb:Instr.sameNow .string (.string ⟨s.toArray⟩) (.string ⟨k.toArray⟩)=some (sameS s k):=by
     simp only [Instr.sameNow]
     rw [bytes_beq]
   cases hs:sameS s k with
   | true =>
     refine .inr ⟨0,v,by simp [smHas,hs],rfl,fun cs z hc=>?_,?_⟩
     · cases cs with
       | nil=>cases hc
       | cons c cs=>simp [smGet,hs]
     · simp only [entS,Instr.findNow,hb,hs]
       rfl
   | false =>
     rcases findNow_entS (ks:=ks) (vs:=vs) (n:=n+1) (i:=i+1) (s:=s) (by simpa using h) with ⟨h1,h2⟩ | ⟨j,u,h1,h2,h3,h4⟩
     · refine .inl ⟨by simp [smHas,hs,h1],?_⟩
       simp only [entS,Instr.findNow,hb,hs]
       exact h2
     · refine .inr ⟨j+1,u,by simp [smHas,hs,h1],by simpa using h2,fun cs z hc=>?_,?_⟩
       · cases cs with
         | nil=>cases hc
         | cons c cs =>
           have:=h3 cs z (by simpa using hc)
           simpa [smGet,hs] using this
       · simp only [entS,Instr.findNow,hb,hs]
         rw [h4,show i+1+j=i+(j+1) by omega]
 | [],_::_,_,_,h=>by cases h
 | _::_,[],_,_,h=>by cases h

theorem VCs.at {x:CV} {v:Value}:∀ {xs:List CV} {vs:List Value} {j:Nat},VCs N L xs vs→xs[j]? = some x→vs[j]? = some v→VC N L x v
 | [],_,j,_,h,_=>by simp at h
 | y::ys,_,0,⟨u,us,rfl,h2,_⟩,h,h'=>by
   simp at h h'
   subst h h'
   exact h2
 | y::ys,_,j+1,⟨u,us,rfl,_,h3⟩,h,h'=>VCs.at h3 (by simpa using h) (by simpa using h')

theorem smLook_sound (h:Rel B R w0 L H w) {t e:TypeId} {r:Nat} {ks:List (List UInt8)} {cs:List CV} {i:AV} {u:Value} {ok:Bool} (ht:smT P t=some e) (hr:H[r]? = some (.smap ks cs)) (hi:VA H.length L i u) {K:AV→Prop} (hs:smLookA P e ks cs i ok K) :
   ∃ y s,(Instr.lookup t (.map (some (L r).h.blk)) u ok).run P w=.ok s w∧VA H.length L y s∧K y:=by
 obtain ⟨k,hu,hk⟩:=smT_spec ht
 unfold smLookA at hs
 split at hs <;> try exact hs.elim
 rename_i s z hz
 obtain rfl:u=.string ⟨s.toArray⟩:=hi
 obtain ⟨vs,hb,hl,hv⟩:=h.obj r _ hr
 have hlv:=hv.length
 obtain ⟨zv,hz1,hz2⟩:=zval_sound (N:=H.length) (L:=L) (w:=w) hz
 have hz2:VC H.length L z zv:=hz2
 have hkey:MapKept.IsKey .string (.string ⟨s.toArray⟩):=by simp [MapKept.IsKey]
 have hck:∀ em,(Instr.checkKey em 10000 k (.string ⟨s.toArray⟩)).run P w=.ok () w:=fun em=>MapKept.run_checkKey (P:=P) (w:=w) hk hkey em 9999
 have hrun:∀ (a:Option (Nat×Value)),(Instr.findKey k (.string ⟨s.toArray⟩) (entS ks vs 0).toArray.toList).run P w=.ok a w →
     (Instr.lookup t (.map (some (L r).h.blk)) (.string ⟨s.toArray⟩) ok).run P w=.ok (if ok then .tuple #[(a.map (·.2)).getD zv,.bool a.isSome] else (a.map (·.2)).getD zv) w:=fun a h2=>by
   cases a with
   | none=>simp [Instr.lookup,run_underlying_some hu,MapKept.run_getObj_map hb,hck,h2,hz1]
   | some b=>simp [Instr.lookup,run_underlying_some hu,MapKept.run_getObj_map hb,hck,h2]
 have fin:∀ (a:Option (Nat×Value)),a.isSome=smHas ks s→(Instr.findKey k (.string ⟨s.toArray⟩) (entS ks vs 0).toArray.toList).run P w=.ok a w→VC H.length L (smGet ks cs s z) ((a.map (·.2)).getD zv) →
     ∃ y x,(Instr.lookup t (.map (some (L r).h.blk)) (.string ⟨s.toArray⟩) ok).run P w=.ok x w∧VA H.length L y x∧K y:=fun a h1 h2 h3=>by
   cases ok with
   | true =>
     refine ⟨.tup [.c (smGet ks cs s z),.c (.f (.bool (smHas ks s)))],_,hrun a h2,?_,hs⟩
     refine ⟨[(a.map fun x:Nat×Value=>x.2).getD zv,.bool a.isSome],rfl,_,_,rfl,h3,_,_,rfl,?_,rfl⟩
     rw [h1]
     rfl
   | false=>exact ⟨cv (smGet ks cs s z),_,hrun a h2,h3,hs⟩
 rcases findNow_entS (s:=s) (ks:=ks) (vs:=vs) (n:=0) (i:=0) (by omega) with ⟨h1,h2⟩ | ⟨j,v,h1,h2,h3,h4⟩
 · refine fin none (by rw [h1];rfl) (MapKept.run_findKey (P:=P) (w:=w) hk h2) ?_
   have:smGet ks cs s z=z:=by
     clear hs hb hv h2 hr hlv hrun fin
     induction ks generalizing cs with
     | nil=>cases cs <;> rfl
     | cons k ks ih =>
       cases cs with
       | nil=>rfl
       | cons c cs =>
         simp only [smHas,cond_eq_ite] at h1
         split at h1
         · cases h1
         · rename_i hne
           simp only [smGet,cond_eq_ite,if_neg hne]
           exact ih (by simpa using hl) h1
   rw [this]
   exact hz2
 · rw [Nat.zero_add] at h4
   exact fin (some (j,v)) (by rw [h1];rfl) (MapKept.run_findKey (P:=P) (w:=w) hk h4) (hv.at (h3 cs z hl.symm) h2)

theorem lookup_sound (h:Rel B R w0 L H w) {t:TypeId} {p q:AV} {v u:Value} {ok:Bool} (hp:VA H.length L p v) (hq:VA H.length L q u) {K:AV→Prop} (hs:lookupA P H t p q ok K) :
   ∃ r s,(Instr.lookup t v u ok).run P w=.ok s w∧VA H.length L r s∧K r:=by
 unfold lookupA at hs
 split at hs <;> try exact hs.elim
 rename_i r
 obtain ⟨hr,rfl⟩:=hp
 rw [nth_eq] at hs
 split at hs <;> try exact hs.elim
 rotate_left
 · rename_i ks cs hes
   split at hs <;> try exact hs.elim
   rename_i e he
   exact smLook_sound h he hes hq hs
 rename_i kn vb es clk hes
 obtain ⟨k,e,hu,hk,hz,hs⟩:=mapT_spec hs
 obtain ⟨n,rfl,hnl,hs⟩:=keyK_spec hq hs
 have hK:=keyOk hk
 obtain ⟨xs,hb,hx,hl⟩:=h.obj r _ hes
 obtain ⟨zv,hz1,hz2⟩:=zval_sound (N:=H.length) (L:=L) (w:=w) hz
 obtain rfl:zv=(elmF vb 0).val:=hz2
 have hrun:∀ (a:Option (Nat×Value)),(Instr.findKey k (keyV kn n) xs.toList).run P w=.ok a w →
     (Instr.lookup t (.map (some (L r).h.blk)) (keyV kn n) ok).run P w=.ok (if ok then .tuple #[(a.map (·.2)).getD (elmF vb 0).val,.bool a.isSome] else (a.map (·.2)).getD (elmF vb 0).val) w:=fun a h2=>by
   have h1:=hK.check w n hnl xs.isEmpty
   cases a with
   | none=>simp [Instr.lookup,run_underlying_some hu,MapKept.run_getObj_map hb,h1,h2,hz1]
   | some b=>simp [Instr.lookup,run_underlying_some hu,MapKept.run_getObj_map hb,h1,h2]
 rw [hx] at hrun
 rcases hK.find w n hnl vb es hl with ⟨h1,h2,_⟩ | ⟨j,e',h1,h0,h2,h3,_⟩
 · have hg:mpGet es n=0:=by rw [mpGet,h1];rfl
   have hh:mpHas es n=false:=by rw [mpHas,h1];rfl
   rw [hg,hh] at hs
   cases ok with
   | true=>exact ⟨.tup [.c (.f (elmF vb 0)),.c (.f (.bool false))],_,hrun _ h2,⟨_,rfl,_,_,rfl,rfl,_,_,rfl,rfl,rfl⟩,hs⟩
   | false=>exact ⟨.p (.c (.f (elmF vb 0))),_,hrun _ h2,rfl,hs⟩
 · have hg:mpGet es n=e'.2.1:=by rw [mpGet,h2];rfl
   have hh:mpHas es n=true:=by rw [mpHas,h2];rfl
   rw [hg,hh] at hs
   cases ok with
   | true=>exact ⟨.tup [.c (.f (elmF vb e'.2.1)),.c (.f (.bool true))],_,hrun _ h3,⟨_,rfl,_,_,rfl,rfl,_,_,rfl,rfl,rfl⟩,hs⟩
   | false=>exact ⟨.p (.c (.f (elmF vb e'.2.1))),_,hrun _ h3,rfl,hs⟩

theorem mpLen_set {es:List (List Int×Int×Nat)} {j:Nat} {x:List Int×Int×Nat} {m:Nat} (hl:∀ e∈es,e.1.length=m) (hx:x.1.length=m):∀ e∈es.set j x,e.1.length=m:=fun e he=>by
 rcases List.mem_or_eq_of_mem_set he with he | rfl
 · exact hl e he
 · exact hx

theorem mpLen_snoc {es:List (List Int×Int×Nat)} {x:List Int×Int×Nat} {m:Nat} (hl:∀ e∈es,e.1.length=m) (hx:x.1.length=m):∀ e∈es++[x],e.1.length=m:=fun e he=>by
 rcases List.mem_append.1 he with he | he
 · exact hl e he
 · rw [List.mem_singleton.1 he];exact hx

theorem entV_set {kn:Nat} {vb:Bool} {xs:Array MapEntry} {es:List (List Int×Int×Nat)} {j:Nat} {e:List Int×Int×Nat} {f:MapEntry→MapEntry} {y:List Int×Int×Nat} (hx:xs.toList=es.map (entV kn vb)) (he:es[j]? = some e) (hf:f (entV kn vb e)=entV kn vb y):(xs.modify j f).toList=(es.set j y).map (entV kn vb):=by
 refine List.ext_getElem? fun i=>?_
 rw [Array.getElem?_toList,Array.getElem?_modify,List.getElem?_map,List.getElem?_set]
 have hi:xs[i]? = (es[i]?).map (entV kn vb):=by rw [←Array.getElem?_toList,hx,List.getElem?_map]
 by_cases hji:j=i
 · subst hji
   rw [if_pos rfl,if_pos rfl,if_pos (List.getElem?_eq_some_iff.1 he).1,hi,he]
   simp [hf]
 · rw [if_neg hji,if_neg hji,hi]

theorem update_sound (h:Rel B R w0 L H w) {t:TypeId} {p q y:AV} {v u z:Value} (hp:VA H.length L p v) (hq:VA H.length L q u) (hy:VA H.length L y z) {K:List PO→Prop} (hs:updateA P H t p q y K) :
   ∃ w' H',(Instr.mapUpdate t v u z).run P w=.ok () w'∧H'.length=H.length∧Rel B R w0 L H' w'∧K H':=by
 unfold updateA at hs
 split at hs <;> try exact hs.elim
 rename_i r
 obtain ⟨hr,rfl⟩:=hp
 rw [nth_eq] at hs
 split at hs <;> try exact hs.elim
 rename_i kn vb es clk hes
 obtain ⟨k,e,hu,hk,hz,hs⟩:=mapT_spec hs
 obtain ⟨n,rfl,hnl,hs⟩:=keyK_spec hq hs
 have hK:=keyOk hk
 obtain ⟨m,rfl,hs⟩:=elmK_spec hy hs
 rw [setK_eq] at hs
 obtain ⟨xs,hb,hx,hl⟩:=h.obj r _ hes
 have c1:=hK.check w n hnl false
 rcases hK.find w n hnl vb es hl with ⟨h1,h2,_⟩ | ⟨j,e',h1,h0,h2,h3,h4,_⟩
 · have hh:mpHas es n=false:=by rw [mpHas,h1];rfl
   rw [mpPut,mpClk,hh,if_neg (by decide),if_neg (by decide)] at hs
   rw [←hx] at h2
   have c2:=h2
   refine ⟨_,_,?_,by simp,mp_set h hes (xs:=xs.push ⟨keyV kn n,(elmF vb m).val,clk⟩) (by simp [hx];rfl) (mpLen_snoc hl hnl),hs⟩
   simp [Instr.mapUpdate,run_underlying_some hu,MapKept.run_getObj_map hb,c1,c2,MapKept.run_setObj_map _ hb]
 · have hh:mpHas es n=true:=by rw [mpHas,h2];rfl
   rw [mpPut,mpClk,hh,if_pos rfl,if_pos rfl,h4] at hs
   rw [←hx] at h3
   have c2:=h3
   have c3:=hK.stays w n hnl
   have hxj:xs[j]? = some (entV kn vb e'):=by rw [←Array.getElem?_toList,hx,List.getElem?_map,h1];rfl
   have hkk:((xs[j]?).map (·.key)).getD (keyV kn n)=keyV kn n:=by
     rw [hxj]
     show keyV kn e'.1=_
     rw [h0]
   refine ⟨_,_,?_,by simp,mp_set h hes (xs:=xs.modify j fun e=>{ e with key:=keyV kn n,val:=(elmF vb m).val }) (entV_set hx h1 rfl) (mpLen_set hl hnl),hs⟩
   simp only [Instr.mapUpdate,Sem.run_bind,run_underlying_some hu,Result.andThen_ok,MapKept.run_getObj_map hb,c1,c2,hkk,c3,MapKept.run_setObj_map _ hb]

theorem entry_sound (h:Rel B R w0 L H w) {t:TypeId} {p q:AV} {v u:Value} (hp:VA H.length L p v) (hq:VA H.length L q u) {K:AV→List PO→Prop} (hs:entryA P H t p q K) :
   ∃ w' H' y z,(Instr.mapEntry t v u).run P w=.ok z w'∧H'.length=H.length∧Rel B R w0 L H' w'∧VA H.length L y z∧K y H':=by
 unfold entryA at hs
 split at hs <;> try exact hs.elim
 rename_i r
 obtain ⟨hr,rfl⟩:=hp
 rw [nth_eq] at hs
 split at hs <;> try exact hs.elim
 rename_i kn vb es clk hes
 obtain ⟨k,e,hu,hk,hz,hs⟩:=mapT_spec hs
 obtain ⟨n,rfl,hnl,hs⟩:=keyK_spec hq hs
 have hK:=keyOk hk
 rw [setK_eq] at hs
 obtain ⟨xs,hb,hx,hl⟩:=h.obj r _ hes
 obtain ⟨zv,hz1,hz2⟩:=zval_sound (N:=H.length) (L:=L) (w:=w) hz
 obtain rfl:zv=(elmF vb 0).val:=hz2
 have c1:=hK.check w n hnl false
 rcases hK.find w n hnl vb es hl with ⟨h1,h2,_⟩ | ⟨j,e',h1,h0,h2,h3,h4,_⟩
 · have hh:mpHas es n=false:=by rw [mpHas,h1];rfl
   have hg:mpGet es n=0:=by rw [mpGet,h1];rfl
   have hbn:mpBorn es n clk=clk:=by rw [mpBorn,h1];rfl
   rw [mpEnt,mpClk,hh,if_neg (by decide),if_neg (by decide),hg,hbn] at hs
   rw [←hx] at h2
   have c2:=h2
   refine ⟨_,_,.tup [.c (.f (elmF vb 0)),.c (.f (.int .i64 clk))],.tuple #[(elmF vb 0).val,goInt clk],?_,by simp,mp_set h hes (xs:=xs.push ⟨keyV kn n,(elmF vb 0).val,clk⟩) (by simp [hx];rfl) (mpLen_snoc hl hnl),⟨_,rfl,_,_,rfl,rfl,_,_,rfl,rfl,rfl⟩,hs⟩
   simp [Instr.mapEntry,run_underlying_some hu,MapKept.run_getObj_map hb,c1,c2,hz1,MapKept.run_setObj_map _ hb]
 · have hh:mpHas es n=true:=by rw [mpHas,h2];rfl
   have hg:mpGet es n=e'.2.1:=by rw [mpGet,h2];rfl
   have hbn:mpBorn es n clk=e'.2.2:=by rw [mpBorn,h2];rfl
   rw [mpEnt,mpClk,hh,if_pos rfl,if_pos rfl,hg,hbn] at hs
   rw [←hx] at h3
   have c2:=h3
   have c3:=hK.stays w n hnl
   have hxj:xs[j]? = some (entV kn vb e'):=by rw [←Array.getElem?_toList,hx,List.getElem?_map,h1];rfl
   have hkk:((xs[j]?).map (·.key)).getD (keyV kn n)=keyV kn n:=by
     rw [hxj]
     show keyV kn e'.1=_
     rw [h0]
   have hset:es.set j e'=es:=List.ext_getElem? fun i=>by
     rw [List.getElem?_set]
     split
     · rename_i hji
       subst hji
       rw [if_pos (List.getElem?_eq_some_iff.1 h1).1,h1]
     · rfl
   refine ⟨_,_,.tup [.c (.f (elmF vb e'.2.1)),.c (.f (.int .i64 e'.2.2))],.tuple #[(elmF vb e'.2.1).val,goInt e'.2.2],?_,by simp,mp_set h hes (xs:=xs.modify j fun e=>{ e with key:=keyV kn n }) ((entV_set (y:=e') hx h1 (by rw [entV,h0])).trans (by rw [hset])) hl,⟨_,rfl,_,_,rfl,rfl,_,_,rfl,rfl,rfl⟩,hs⟩
   simp only [Instr.mapEntry,Sem.run_bind,run_underlying_some hu,Result.andThen_ok,MapKept.run_getObj_map hb,c1,c2,hkk,c3,MapKept.run_setObj_map _ hb,Sem.run_pure]
   rw [hxj]
   rfl

theorem at_spec {kn:Nat} {vb:Bool} (b:Nat) (v:Int):∀ (es:List (List Int×Int×Nat)),(es.any fun e=>e.2.2 == b)=true→∃ j e,es[j]? = some e∧e.2.2=b∧(es.map (entV kn vb)).findIdx? (fun e=>(e.born:Int) == (b:Int))=some j∧mpAt b v es=es.set j (e.1,v,b)
 | [],h=>by cases h
 | e::es,h=>by
   by_cases hb:e.2.2=b
   · refine ⟨0,e,rfl,hb,?_,if_pos hb⟩
     rw [List.map_cons,List.findIdx?_cons,if_pos (by show ((e.2.2:Nat):Int) == (b:Int);simp [hb])]
   · rw [List.any_cons,Bool.or_eq_true] at h
     rcases h with h | h
     · exact absurd (by simpa using h) hb
     · obtain ⟨j,e',h1,h2,h3,h4⟩:=at_spec (kn:=kn) (vb:=vb) b v es h
       refine ⟨j+1,e',by simpa using h1,h2,?_,by rw [mpAt,if_neg hb,h4];rfl⟩
       rw [List.map_cons,List.findIdx?_cons,if_neg ?_,h3]
       · rfl
       · show ¬(((e.2.2:Nat):Int) == (b:Int))=true
         simp;omega

theorem entryStore_sound (h:Rel B R w0 L H w) {t:TypeId} {p q y:AV} {v u z:Value} (hp:VA H.length L p v) (hq:VA H.length L q u) (hy:VA H.length L y z) {K:List PO→Prop} (hs:entryStoreA H p q y K) :
   ∃ w' H',(Instr.entryStore t v u z).run P w=.ok () w'∧H'.length=H.length∧Rel B R w0 L H' w'∧K H':=by
 unfold entryStoreA at hs
 split at hs <;> try exact hs.elim
 rename_i r kd b
 obtain ⟨hr,rfl⟩:=hp
 obtain rfl:u=.int kd b:=hq
 rw [nth_eq] at hs
 split at hs <;> try exact hs.elim
 rename_i kn vb es clk hes
 obtain ⟨n,rfl,hany,hs⟩:=hs
 obtain ⟨m,rfl,hs⟩:=elmK_spec hy hs
 rw [setK_eq] at hs
 obtain ⟨xs,hb,hx,hl⟩:=h.obj r _ hes
 obtain ⟨j,e',h1,h2,h3,h4⟩:=at_spec (kn:=kn) (vb:=vb) n m es hany
 rw [h4] at hs
 have hfi:xs.findIdx? (fun e=>(e.born:Int) == (n:Int))=some j:=by rw [←h3,←hx];cases xs;simp
 have hj:=hl e' (List.mem_of_getElem? h1)
 refine ⟨_,_,?_,by simp,mp_set h hes (xs:=xs.modify j fun e=>{ e with val:=(elmF vb m).val }) (entV_set (y:=(e'.1,m,n)) hx h1 (by rw [←h2];rfl)) (mpLen_set hl hj),hs⟩
 simp [Instr.entryStore,MapKept.run_getObj_map hb,asInt,asIntOf,hfi,MapKept.run_setObj_map _ hb]

theorem delete_sound (h:Rel B R w0 L H w) {ts:Array TypeId} {ty:TypeId} {p q:AV} {v u:Value} (hp:VA H.length L p v) (hq:VA H.length L q u) {K:List PO→Prop} (hs:deleteA P H ts.toList p q K) :
   ∃ w' H',(Builtin.delete_ ts ty #[v,u]).run P w=.ok (.tuple #[]) w'∧H'.length=H.length∧Rel B R w0 L H' w'∧K H':=by
 obtain ⟨ts⟩:=ts
 unfold deleteA at hs
 split at hs <;> try exact hs.elim
 rename_i t ts' hts
 dsimp only at hts
 subst hts
 split at hs <;> try exact hs.elim
 rename_i r
 obtain ⟨hr,rfl⟩:=hp
 rw [nth_eq] at hs
 split at hs <;> try exact hs.elim
 rename_i kn vb es clk hes
 obtain ⟨k,e,hu,hk,hz,hs⟩:=mapT_spec hs
 obtain ⟨n,rfl,hnl,hs⟩:=keyK_spec hq hs
 have hK:=keyOk hk
 rw [setK_eq] at hs
 obtain ⟨xs,hb,hx,hl⟩:=h.obj r _ hes
 have c1:=hK.check w n hnl xs.isEmpty
 rcases hK.find w n hnl vb es hl with ⟨h1,h2,h5⟩ | ⟨j,e',h1,h0,h2,h3,h4,h5⟩
 · rw [h5] at hs
   rw [←hx] at h2
   have c2:=h2
   refine ⟨_,_,?_,by simp,mp_set h hes (xs:=xs) hx hl,hs⟩
   simp [Builtin.delete_,run_underlying_some hu,MapKept.run_getObj_map hb,c1,c2,MapKept.run_setObj_map _ hb]
 · rw [h5] at hs
   rw [←hx] at h3
   have c2:=h3
   have hsz:xs.size=es.length:=by rw [←Array.length_toList,hx,List.length_map]
   have hj:j<xs.size:=by rw [hsz];exact (List.getElem?_eq_some_iff.1 h1).1
   refine ⟨_,_,?_,by simp,mp_set h hes (xs:=xs.eraseIdxIfInBounds j) (by
     rw [Array.eraseIdxIfInBounds,dif_pos hj,Array.toList_eraseIdx,hx];refine List.ext_getElem? fun i=>?_;rw [List.getElem?_eraseIdx,List.getElem?_map,List.getElem?_map,List.getElem?_map,List.getElem?_eraseIdx];split <;> rfl) (fun e he=>hl e (List.mem_of_mem_eraseIdx he)),hs⟩
   simp [Builtin.delete_,run_underlying_some hu,MapKept.run_getObj_map hb,c1,c2,MapKept.run_setObj_map _ hb]

theorem lenH_sound (h:Rel B R w0 L H w) {t ty:TypeId} {p:AV} {v:Value} (hp:VA H.length L p v) {K:AV→Prop} (hs:lenH P H t p K):∃ r s,(Builtin.len_ #[t] ty #[v]).run P w=.ok s w∧VA H.length L r s∧K r:=by
 unfold lenH at hs
 split at hs
 · rename_i r
   obtain ⟨hr,rfl⟩:=hp
   rw [nth_eq] at hs
   split at hs <;> try exact hs.elim
   rename_i kn vb es clk hes
   obtain ⟨k,e,hu,hk,hz,hs⟩:=mapT_spec hs
   obtain ⟨xs,hb,hx,hl⟩:=h.obj r _ hes
   have hsz:xs.size=es.length:=by rw [←Array.length_toList,hx,List.length_map]
   refine ⟨i64 es.length,.int .i64 es.length,?_,rfl,hs⟩
   simp [Builtin.len_,run_underlying_some hu,MapKept.run_getObj_map hb,hsz,goInt]
 · exact len_sound hp hs

end

end Go.Mac
