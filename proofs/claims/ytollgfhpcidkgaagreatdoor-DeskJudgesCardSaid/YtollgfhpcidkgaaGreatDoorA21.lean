/- Texts that belong together; the first of them:  -/
import Derived.Test.YtollgfhpcidkgaaGreatDoorA15
import Derived.Test.YtollgfhpcidkgaaGreatDoorA20
import Derived.Test.YtollgfhpcidkgaaGreatDoorA14

section
open Go Go.Proofs Go.Mac
set_option maxRecDepth 100000

namespace Go.Mac

theorem SX.nil2 {P:Program} {nt N0:Nat} {D:List Deferred} {c:Code} {T:Tm} {M:List Nat} {H:List PO} {Q:QX} (d sz:Nat) (hd:lk T d=cv .nilslc)
   (h:SX P nt N0 D c ((d,cv (.slc H.length 0 0 none false))::T) M (H++[.rows2 false sz []]) Q):SX P nt N0 D c T M H Q:=by
 refine ⟨fun r B R w0 L0 L w a R0 h1 h2 h3 h4 h5=>?_⟩
 obtain ⟨g1,g2⟩:=none2_sound h3 sz
 refine h.run r B R w0 L0 _ w a R0 (by simp;omega) ?_ g2 ⟨⟨fun i=>?_,h4.tr.defers,h4.tr.room⟩,h4.df⟩ h5
 · intro i hi hm
   rw [upd_ne (by omega)]
   exact h2 i hi hm
 · rw [lk_cons]
   split
   · rename_i e
     subst e
     have:=h4.tr.get d
     rw [hd] at this
     have hv:a.tmps.getD d undef=.slice none 0 0:=this
     exact ⟨by simp,.inl ⟨rfl,rfl,hv,fun c' hc'=>by cases hc'⟩⟩
   · have:=(h4.tr.get i).mono (M:=[]) (N':=(H++[PO.rows2 false sz []]).length) (by simp) g1
     rwa [killA_nil] at this

def EZ.num:EZ→Int
 | .no e=>e
 | .pl e _=>e

abbrev bxH (f:FuncId):PO:=.one [.func f []]

def CodeX (g:FuncId) (cp:List Nat) (bx:PO) (cls:List (List CallZ)) (codeV:Nat→List CallZ→Except EZ (List InsZ)):Prop :=
 ∀ (i:Nat) (l:List CallZ),cls[i]? = some l→∀ K:AV→List Nat→List PO→Prop,
   (∀ p,codeV i l=.ok p→K (.tup [.c (.slc 2 0 p.length none false),okP]) [] [callsH false cls,bx,.rows false 5 (p.map rowIns)]) →
   (∀ e,codeV i l=.error (.no e)→K (.tup [.c .nilslc,.c (eno e)]) [] [callsH false cls,bx]) →
   (∀ e p,codeV i l=.error (.pl e p)→K (.tup [.c .nilslc,.c (.iface 108 (.ptr 2 0))]) [] [callsH false cls,bx,.one [.f (.int .i64 e),.f (.int .i64 p)]]) →
   Does Tryz.prog g ([i64 i,cv (.islc 0 i 0 l.length none false)]++cp.map fun _=>cv (.ptr 1 0)) [callsH false cls,bx] K

def wordsV:List (List UInt8)→Option (List (List CallZ))
 | []=>some []
 | x::xs=>match callsV x,wordsV xs with
   | some c,some l=>some (c::l)
   | _,_=>none

def codesV (codeV:Nat→List CallZ→Except EZ (List InsZ)):Nat→List (List CallZ)→Except EZ (List (List InsZ))
 | _,[]=>.ok []
 | i,l::ls=>match codeV i l with
   | .error e=>.error e
   | .ok p=>match codesV codeV (i+1) ls with
     | .error e=>.error e
     | .ok ps=>.ok (p::ps)

theorem wordsV_snoc {x:List UInt8}:∀ {xs:List (List UInt8)} {l:List (List CallZ)},wordsV xs=some l→wordsV (xs++[x])=(callsV x).map fun c=>l++[c]
 | [],l,h=>by
   obtain rfl:=Option.some.inj h
   simp only [List.nil_append,wordsV]
   cases callsV x <;> rfl
 | y::ys,l,h=>by
   simp only [wordsV] at h
   split at h <;> try cases h
   rename_i c l' hc hl
   rw [List.cons_append,wordsV,hc,wordsV_snoc hl]
   cases callsV x <;> rfl

theorem wordsV_none {x:List UInt8} {zs:List (List UInt8)} (hx:callsV x=none):∀ (xs:List (List UInt8)),wordsV (xs++x::zs)=none
 | []=>by simp only [List.nil_append,wordsV,hx]
 | y::ys=>by
   rw [List.cons_append,wordsV,wordsV_none hx ys]
   cases callsV y <;> rfl

theorem wordsV_len:∀ {xs:List (List UInt8)} {l:List (List CallZ)},wordsV xs=some l→l.length=xs.length
 | [],l,h=>by obtain rfl:=Option.some.inj h;rfl
 | y::ys,l,h=>by
   simp only [wordsV] at h
   split at h <;> try cases h
   rename_i c l' hc hl
   simp [wordsV_len hl]

section

variable {codeV:Nat→List CallZ→Except EZ (List InsZ)}

theorem codesV_snoc {x:List CallZ}:∀ {xs:List (List CallZ)} {ps:List (List InsZ)} {i:Nat},codesV codeV i xs=.ok ps→codesV codeV i (xs++[x])=match codeV (i+xs.length) x with
     | .error e=>.error e
     | .ok p=>.ok (ps++[p])
 | [],ps,i,h=>by
   obtain rfl:=Except.ok.inj h
   simp only [List.nil_append,codesV,List.length_nil,Nat.add_zero]
 | y::ys,ps,i,h=>by
   simp only [codesV] at h
   split at h <;> try cases h
   rename_i p hp
   split at h <;> try cases h
   rename_i qs hq
   rw [List.cons_append,codesV,hp]
   dsimp only
   rw [codesV_snoc hq,show i+1+ys.length=i+(y::ys).length by simp;omega]
   cases codeV (i+(y::ys).length) x <;> rfl

theorem codesV_error {x:List CallZ} {zs:List (List CallZ)} {e:EZ}:∀ {xs:List (List CallZ)} {ps:List (List InsZ)} {i:Nat},codesV codeV i xs=.ok ps→codeV (i+xs.length) x=.error e→codesV codeV i (xs++x::zs)=.error e
 | [],ps,i,h,he=>by
   simp only [List.length_nil,Nat.add_zero] at he
   simp only [List.nil_append,codesV,he]
 | y::ys,ps,i,h,he=>by
   simp only [codesV] at h
   split at h <;> try cases h
   rename_i p hp
   split at h <;> try cases h
   rename_i qs hq
   rw [List.cons_append,codesV,hp]
   dsimp only
   rw [codesV_error hq (by rw [show i+1+ys.length=i+(y::ys).length by simp;omega];exact he)]

theorem codesV_len:∀ {xs:List (List CallZ)} {ps:List (List InsZ)} {i:Nat},codesV codeV i xs=.ok ps→ps.length=xs.length
 | [],ps,i,h=>by obtain rfl:=Except.ok.inj h;rfl
 | y::ys,ps,i,h=>by
   simp only [codesV] at h
   split at h <;> try cases h
   rename_i p hp
   split at h <;> try cases h
   rename_i qs hq
   simp [codesV_len hq]

end

def opensD (d:DZ) (nc:Nat) (x:Int) (xs:List (List UInt8)) (codeV:Nat→List CallZ→Except EZ (List InsZ)):AnsZ :=
 match wordsV xs with
 | none=>(d,.error (.no 3))
 | some cls =>
   match codesV codeV 0 cls with
   | .error e=>(d,.error (.no e.num))
   | .ok ps=>if 16<ps.length then (d,.error (.no 4)) else (⟨mz0 ps (x::List.replicate (nc-1) 0),cls,false⟩,.ok (numsZ [(ps.length:Int)]))

section

variable {K:AV→List Nat→List PO→Prop} {J:CV→List Nat→List PO→Prop}

theorem coreNewLimit {ps:List (List InsZ)} {ws:List Int} {nn nn2:Bool} {c c2:Option Nat} {n nc:Nat} (hn:16<n) (h:K (.tup [.c .nilptr,.c (eno 4)]) [] [.rows2 false 5 (ps.map fun p=>p.map rowIns),.rows false 1 (ws.map rowU)]) :
   Does Tryz.prog 27 [cv (.slc 0 0 n c nn),cv (.slc 1 0 nc c2 nn2)] [.rows2 false 5 (ps.map fun p=>p.map rowIns),.rows false 1 (ws.map rowU)] K:=by
 refine does Tryz.func27 rfl (by decide) ?_
 refine brc_intro (fun _=>h) (fun h1=>?_)
 have h1:¬(n:Int) > 16:=of_decide_eq_false h1
 omega

theorem opens {d:DZ} {v:VZ} {ws xs:List (List UInt8)} {o n nc:Nat} {x:Int} {f g:FuncId} {cp:List Nat} {bx:PO} {c:Option Nat} {nn:Bool} {codeV:Nat→List CallZ→Except EZ (List InsZ)} (hcp:(cp=[17]∧bx=bxH f)∨(cp=[]∧bx=.rows2 false 5 [])) (hv:okV v) (hw:WF d.m)
   (hxs:∀ i,i<n→ws[o+i]? = xs[i]?) (hn:xs.length=n) (hnb:n≤1000000000) (hlen:∀ y∈xs,y.length≤1000000000) (hnc:1≤nc∧nc≤300) (hx:0≤x∧x<18446744073709551616)
   (hcode:∀ cls,wordsV xs=some cls→CodeX g cp bx cls codeV) (hright:∀ cls ps,wordsV xs=some cls→codesV codeV 0 cls=.ok ps→∀ p∈ps,rightZ p nc=true)
   (hK:∀ s v',(opensD d nc x xs codeV).2=.ok s→okV v'→WF (opensD d nc x xs codeV).1.m→K (st s) moL (saidH (opensD d nc x xs codeV).1 v' ws++[bx]))
   (hJ:∀ e v',(opensD d nc x xs codeV).2=.error (.no e)→okV v'→J (wrongE e) moL (saidH d v' ws++[bx])) :
   DoesX Tryz.prog 122 [cv (.ptr 5 0),i64 nc,u64 x,cv (.slc 16 o n c nn),cv (.func g cp)] (saidH d v ws++[bx]) K J:=by
 rcases hcp with ⟨rfl,rfl⟩ | ⟨rfl,rfl⟩ <;> (
   refine DoesX.keepB 18 moL rfl ?_
   refine doesX Tryz.func122 rfl (by decide) ?_
   refine SX.nil2 11 2 rfl ?_
   refine SX.loop (fun p:Nat×List (List CallZ)=>p.1≤n∧wordsV (xs.take p.1)=some p.2) (fun p=>[(0,cv (.ptr 5 0)),(1,i64 nc),(2,u64 x),(4,cv (.func g _)),(11,cv (.slc 18 0 p.1 none false)),(21,cv (.slc 16 o n c nn)),(22,i64 n),(23,i64 p.1)])
     (fun p=>saidH d v ws++[_,callsH false p.2]) (fun p=>n-p.1) [18,19,20]
     (At.mk' [0,1,2,4,11,21,22,23] (0,[]) ⟨by simp,rfl⟩ ⟨rfl,rfl⟩ rfl rfl (by simp) (by simp) (by simp)) ?_
   rintro ⟨i,cls⟩ ⟨hi,hcl⟩
   change i≤n at hi
   change wordsV (xs.take i)=some cls at hcl
   have hcll:=wordsV_len hcl
   refine S_rX ?_
   refine brc_intro (fun hlt=>?_) (fun hlt=>?_)
   · have hlt:i<n:=by
       have:=of_decide_eq_true hlt
       have:(i:Int)<(n:Int):=this
       omega
     obtain ⟨y,hy⟩ : ∃ y,xs[i]? = some y:=⟨_,List.getElem?_eq_getElem (by omega)⟩
     have hyw:=hxs i hlt
     rw [hy] at hyw
     have hyl:=hlen y (List.mem_of_getElem? hy)
     have hcl2:cls.length=i:=by rw [hcll,List.length_take];omega
     refine at2 (a:=(0:Int)≤(i:Int)) (b:=(i:Int)<(n:Int)) (by omega) (by omega) (rd1 (rowStr y) (.str y) (by simp [hyw]) rfl ?_)
     change DoesX Tryz.prog 174 _ _ _ _
     refine DoesX.on 19 [1,2,3,4] _ _ (callsOf hyl (fun he=>?_) (fun l hne hl=>?_) fun hno=>?_)
     · have hsn:=wordsV_snoc (x:=y) hcl
       have hcy:callsV y=some []:=by rw [callsV,if_pos he]
       rw [hcy] at hsn
       refine And.intro rfl (And.intro (by simp [hcl2]) (at2 (by show (i+1)*24≤_;omega) (by show i+1≤_;omega) ?_))
       refine At.mk' [0,1,2,4,11,21,22,23] (i+1,cls++[[]]) ⟨⟨hlt,?_⟩,by show n-(i+1)<n-i;omega⟩ ⟨?_,rfl⟩ ?_ rfl (by simp) (by simp) (by decide)
       · show wordsV (xs.take (i+1))=_
         rw [List.take_add_one,hy]
         exact hsn
       · rw [wrap_i64 ((i:Int)+1) (by omega) (by omega)]
         rfl
       · rw [show callsH false (i+1,cls++[[]]).2=.rows2 false 2 (cls.map (fun l=>l.map rowCallZ)++[[]]) from by simp]
         rfl
     · have hsn:=wordsV_snoc (x:=y) hcl
       rw [hl] at hsn
       refine And.intro (by simp) (And.intro rfl (And.intro (by simp [hcl2]) (at2 (by show (i+1)*24≤_;omega) (by show i+1≤_;omega) ?_)))
       refine At.mk' [0,1,2,4,11,21,22,23] (i+1,cls++[l]) ⟨⟨hlt,?_⟩,by show n-(i+1)<n-i;omega⟩ ⟨?_,rfl⟩ ?_ rfl (by simp) (by simp) (by decide)
       · show wordsV (xs.take (i+1))=_
         rw [List.take_add_one,hy]
         exact hsn
       · rw [wrap_i64 ((i:Int)+1) (by omega) (by omega)]
         rfl
       · rw [show callsH false (i+1,cls++[l]).2=.rows2 false 2 (cls.map (fun l=>l.map rowCallZ)++[l.map rowCallZ]) from by simp]
         rfl
     · have hwx:wordsV xs=none:=by
         have:xs=xs.take i++y::xs.drop (i+1):=by
           have h2:=List.drop_eq_getElem_cons (show i<xs.length by omega)
           rw [show xs[i]=y from (List.getElem?_eq_some_iff.1 hy).2] at h2
           rw [←h2,List.take_append_drop]
         rw [this]
         exact wordsV_none hno _
       have hr:opensD d nc x xs codeV=(d,.error (.no 3)):=by rw [opensD,hwx]
       refine ⟨_,rfl,?_⟩
       refine ⟨18,[0,1,2,3,4,5,6,7,8,9,10,11,12,13,14,15,16,17],_,_,rfl,by decide,by decide,by decide,by decide,by decide,rfl,rfl,rfl,rfl,rfl,_,rfl,hJ _ v (by rw [hr]) hv⟩
   · have hlt:¬(i:Int)<(n:Int):=of_decide_eq_false hlt
     obtain rfl:i=n:=by omega
     rw [List.take_of_length_le (by omega)] at hcl
     have hcl2:cls.length=i:=by rw [hcll,List.length_take];omega
     refine SX.nil2 14 5 rfl ?_
     refine SX.loop (fun p:Nat×List (List InsZ)=>p.1≤i∧codesV codeV 0 (cls.take p.1)=.ok p.2) (fun p=>[(0,cv (.ptr 5 0)),(1,i64 nc),(2,u64 x),(4,cv (.func g _)),(11,cv (.slc 18 0 i none false)),(14,cv (.slc 19 0 p.1 none false)),(33,cv (.slc 18 0 i none false)),(34,i64 i),(35,i64 p.1)])
       (fun p=>saidH d v ws++[_,callsH false cls,.rows2 false 5 (p.2.map fun p=>p.map rowIns)]) (fun p=>i-p.1) [18,19,20,21]
       (At.mk' [0,1,2,4,11,14,33,34,35] (0,[]) ⟨by simp,rfl⟩ ⟨rfl,rfl⟩ rfl rfl (by simp) (by simp) (by simp)) ?_
     rintro ⟨j,ps⟩ ⟨hj,hps⟩
     change j≤i at hj
     change codesV codeV 0 (cls.take j)=.ok ps at hps
     have hpsl:=codesV_len hps
     refine S_rX ?_
     refine brc_intro (fun hlt=>?_) (fun hlt=>?_)
     · have hlt:j<i:=by
         have:=of_decide_eq_true hlt
         have:(j:Int)<(i:Int):=this
         omega
       obtain ⟨l,hl⟩ : ∃ l,cls[j]? = some l:=⟨_,List.getElem?_eq_getElem (by omega)⟩
       have hpl2:ps.length=j:=by rw [hpsl,List.length_take];omega
       have hlm:(cls.map fun l=>l.map rowCallZ)[0+Int.toNat (j:Int)]? = some (l.map rowCallZ):=by simp [hl]
       have hll:(l.map rowCallZ).length=l.length:=by simp
       have hcs:cls=cls.take j++l::cls.drop (j+1):=by
         have h2:=List.drop_eq_getElem_cons (show j<cls.length by omega)
         rw [show cls[j]=l from (List.getElem?_eq_some_iff.1 hl).2] at h2
         rw [←h2,List.take_append_drop]
       have herr:∀ e,codeV j l=.error e→opensD d nc x xs codeV=(d,.error (.no e.num)):=fun e he=>by
         have h3:=codesV_error (zs:=cls.drop (j+1)) hps (x:=l) (e:=e) (by rw [List.length_take,Nat.zero_add,Nat.min_eq_left (by omega)];exact he)
         rw [←hcs] at h3
         rw [opensD,hcl]
         dsimp only
         rw [h3]
       refine SX.inlR ?_
       refine at2 (a:=(0:Int)≤(j:Int)) (b:=(j:Int)<(i:Int)) (by omega) (by omega) ?_
       refine Exists.intro (l.map rowCallZ) (And.intro hlm ?_)
       first
         | change DoesX Tryz.prog g [i64 j,cv (.islc 18 (0+Int.toNat (j:Int)) 0 (l.map rowCallZ).length none false),cv (.ptr 17 0)] _ _ _
         | change DoesX Tryz.prog g [i64 j,cv (.islc 18 (0+Int.toNat (j:Int)) 0 (l.map rowCallZ).length none false)] _ _ _
       rw [hll,show 0+Int.toNat (j:Int)=j from by simp]
       refine DoesX.on 20 [18,17] _ _ (DoesX.of (hcode cls hcl j l hl _ (fun p hp=>?_) (fun e he=>?_) fun e p he=>?_))
       · have hsn:=codesV_snoc (x:=l) hps
         rw [List.length_take,Nat.zero_add,Nat.min_eq_left (by omega),hp] at hsn
         refine And.intro (by simp) (And.intro rfl (And.intro (by simp [hpl2]) (at2 (by show (j+1)*24≤_;omega) (by show j+1≤_;omega) ?_)))
         refine At.mk' [0,1,2,4,11,14,33,34,35] (j+1,ps++[p]) ⟨⟨hlt,?_⟩,by show i-(j+1)<i-j;omega⟩ ⟨?_,rfl⟩ ?_ rfl (by simp) (by simp) (by decide)
         · show codesV codeV 0 (cls.take (j+1))=_
           rw [List.take_add_one,hl]
           exact hsn
         · rw [wrap_i64 ((j:Int)+1) (by omega) (by omega)]
           rfl
         · have e:(ps++[p]).map (fun p=>p.map rowIns)=ps.map (fun p=>p.map rowIns)++[p.map rowIns]:=by simp
           show _=saidH d v ws++[_,callsH false cls,.rows2 false 5 ((ps++[p]).map fun p=>p.map rowIns)]
           rw [e]
           rfl
       · have hr:=herr _ he
         change DoesX Tryz.prog 46 _ _ _ _
         refine DoesX.on 20 [0] _ _ (DoesX.of (tellErrno e ?_))
         refine ⟨_,rfl,?_⟩
         refine ⟨18,[0,1,2,3,4,5,6,7,8,9,10,11,12,13,14,15,16,17],_,_,rfl,by decide,by decide,by decide,by decide,by decide,rfl,rfl,rfl,rfl,rfl,_,rfl,hJ _ v (by rw [hr];rfl) hv⟩
       · have hr:=herr _ he
         change DoesX Tryz.prog 46 _ _ _ _
         refine DoesX.on 21 [0,20] _ _ (DoesX.of (tellAt e p ?_))
         refine ⟨_,rfl,?_⟩
         refine ⟨18,[0,1,2,3,4,5,6,7,8,9,10,11,12,13,14,15,16,17],_,_,rfl,by decide,by decide,by decide,by decide,by decide,rfl,rfl,rfl,rfl,rfl,_,rfl,hJ _ v (by rw [hr];rfl) hv⟩
     · have hlt:¬(j:Int)<(i:Int):=of_decide_eq_false hlt
       obtain rfl:j=i:=by omega
       rw [List.take_of_length_le (by omega)] at hps
       have hpl2:ps.length=j:=by rw [hpsl,List.length_take];omega
       have hrt:=hright cls ps hcl hps
       have wnc:(nc:Int).toNat=nc:=Int.toNat_natCast nc
       refine at2 (by omega) (Int.le_refl _) ?_
       rw [Int.toNat_natCast]
       refine at2 (by show (8:Nat)*((nc:Nat):Int)≤_;omega) (by omega) ?_
       have hrep:List.replicate nc [FC.int .u64 0]=[FC.int .u64 0]::(List.replicate (nc-1) (0:Int)).map rowU:=by
         obtain ⟨k,rfl⟩ : ∃ k,nc=k+1:=⟨nc-1,by omega⟩
         rw [List.replicate_succ,List.map_replicate]
         rfl
       rw [hrep]
       refine at2 (a:=(0:Int)≤0) (b:=(0:Int)<(nc:Int)) (by decide) (by omega) (wr1 [FC.int .u64 0] rfl ?_)
       have hwl:(x::List.replicate (nc-1) 0).length=nc:=by simp;omega
       have hwv:∀ z∈(x::List.replicate (nc-1) (0:Int)),0≤z∧z<18446744073709551616:=fun z hz=>by
         rcases List.mem_cons.1 hz with rfl | hz
         · exact hx
         · rw [List.eq_of_mem_replicate hz];omega
       by_cases h16:16<j
       · have hr:opensD d nc x xs codeV=(d,.error (.no 4)):=by
           rw [opensD,hcl];dsimp only;rw [hps];exact if_pos (by omega)
         change DoesX Tryz.prog 27 _ _ _ _
         refine DoesX.on 21 [19,20] _ _ (DoesX.of (coreNewLimit (ps:=ps) (ws:=x::List.replicate (nc-1) 0) (n:=j) (nc:=nc) h16 ?_))
         change DoesX Tryz.prog 26 _ _ _ _
         refine DoesX.alone 21 (mustCore_bad ?_)
         refine ⟨_,rfl,?_⟩
         refine ⟨18,[0,1,2,3,4,5,6,7,8,9,10,11,12,13,14,15,16,17],_,_,rfl,by decide,by decide,by decide,by decide,by decide,rfl,rfl,rfl,rfl,rfl,_,rfl,hJ _ v (by rw [hr]) hv⟩
       · have hr:opensD d nc x xs codeV=(⟨mz0 ps (x::List.replicate (nc-1) 0),cls,false⟩,.ok (numsZ [(ps.length:Int)])):=by
           rw [opensD,hcl];dsimp only;rw [hps];exact if_neg (by omega)
         rw [hr] at hK
         have w0:WF (mz0 ps (x::List.replicate (nc-1) 0)):=mz0_wf (by omega) (by omega) (by rw [hwl];exact hrt) hwv
         change DoesX Tryz.prog 27 _ _ _ _
         refine DoesX.on 21 [19,20] _ _ (DoesX.of (coreNew (ps:=ps) (ws:=x::List.replicate (nc-1) 0) (n:=j) (nc:=nc) hpl2 hwl (by omega) (by omega) hrt fun v1 hv1=>?_))
         generalize hws:(x::List.replicate (nc-1) (0:Int))=w' at hwl hwv w0 hK ⊢
         subst hwl
         subst hpl2
         change DoesX Tryz.prog 26 _ _ _ _
         refine DoesX.on 30 [21,22,23,24,25,26,27,28,29] _ _ (mustCore (m:=mz0 ps w') (v:=v1) ?_)
         change DoesX Tryz.prog 121 _ _ _ _
         refine DoesX.on 30 [21,22,23,24,25,26,27,28,29] _ _ (DoesX.of (coreThreads (m:=mz0 ps w') (v:=v1) ?_))
         change DoesX Tryz.prog 110 _ _ _ _
         refine DoesX.on 31 [1,30] _ _ (DoesX.of (nums (n:=1) (l:=[(ps.length:Int)]) rfl (by decide) (by simp;omega) ?_))
         have hK2:=hK _ v1 rfl hv1 w0
         change K _ moL (sysH++((.one [.ptr 6 0,.slc 15 0 cls.length none false,.f (.bool false)]::(machS 6 (mz0 ps w') v1++[callsH false cls]))++[.rows false 1 (ws.map rowStr)])++[_]) at hK2
         rw [hcl2] at hK2
         refine ⟨31,[0,1,2,3,4,5,21,22,23,24,25,26,27,28,29,18,16,17],_,_,rfl,by decide,by decide,by decide,by decide,by decide,rfl,rfl,rfl,?_,rfl,hK2⟩
         rfl)

end

end Go.Mac
end

section
open Go Go.Proofs Go.Mac
set_option maxRecDepth 100000

namespace Go.Mac

section

variable {K:AV→List Nat→List PO→Prop}

def gO (w:Int):Bool:=decide (9223372036854775808≤w)
def gPh (w:Int):Int:=w / 4294967296 % 2147483648
def gPa (w:Int):Int:=w / 65536 % 65536
def gWa (w:Int):Int:=w % 65536

theorem gPhEq (w:Int) (hw:0≤w∧w<18446744073709551616):IntKind.i64.wrap (IntKind.u64.wrap ↑(BitVec.ofInt IntKind.u64.bits (w.fdiv (2 ^ min (Int.toNat 32) IntKind.u64.bits)) &&& BitVec.ofInt IntKind.u64.bits 2147483647).toNat)=gPh w:=by
 have e1:(2:Int) ^ min (Int.toNat 32) IntKind.u64.bits=4294967296:=rfl
 have e3:IntKind.u64.bits=64:=rfl
 have e4:w.fdiv 4294967296=w / 4294967296:=Int.fdiv_eq_ediv_of_nonneg _ (by omega)
 rw [e1,e3,e4,and_z 31 _ 2147483647 (by omega) (by omega) (by omega) (by omega),wrap_u64 _ (by omega) (by omega),wrap_i64 _ (by omega) (by omega)]
 rfl

theorem gPaEq (w:Int) (hw:0≤w∧w<18446744073709551616):IntKind.i64.wrap (IntKind.u64.wrap ↑(BitVec.ofInt IntKind.u64.bits (w.fdiv (2 ^ min (Int.toNat 16) IntKind.u64.bits)) &&& BitVec.ofInt IntKind.u64.bits 65535).toNat)=gPa w:=by
 have e1:(2:Int) ^ min (Int.toNat 16) IntKind.u64.bits=65536:=rfl
 have e3:IntKind.u64.bits=64:=rfl
 have e4:w.fdiv 65536=w / 65536:=Int.fdiv_eq_ediv_of_nonneg _ (by omega)
 rw [e1,e3,e4,and_z 16 _ 65535 (by omega) (by omega) (by omega) (by omega),wrap_u64 _ (by omega) (by omega),wrap_i64 _ (by omega) (by omega)]
 rfl

theorem gWaEq (w:Int) (hw:0≤w∧w<18446744073709551616):IntKind.i64.wrap (IntKind.u64.wrap ↑(BitVec.ofInt IntKind.u64.bits w &&& BitVec.ofInt IntKind.u64.bits 65535).toNat)=gWa w:=by
 have e3:IntKind.u64.bits=64:=rfl
 rw [e3,and_z 16 _ 65535 (by omega) (by omega) (by omega) (by omega),wrap_u64 _ (by omega) (by omega),wrap_i64 _ (by omega) (by omega)]
 rfl

theorem gOEq (w:Int) (hw:0≤w∧w<18446744073709551616):(w.fdiv (2 ^ min (Int.toNat 63) IntKind.u64.bits) == 1)=gO w:=by
 have e1:(2:Int) ^ min (Int.toNat 63) IntKind.u64.bits=9223372036854775808:=rfl
 have e4:w.fdiv 9223372036854775808=w / 9223372036854775808:=Int.fdiv_eq_ediv_of_nonneg _ (by omega)
 rw [e1,e4,Bool.eq_iff_iff]
 simp only [gO,decide_eq_true_eq,beq_iff_eq]
 omega

theorem gOfIs (w:Int) (hw:0≤w∧w<18446744073709551616) (h0:pkRightB (gPh w) (gPa w) (gWa w)=false→K (.tup [pkPhaseC false 0 0 0,pkErrC 3]) [] [])
   (h1:pkRightB (gPh w) (gPa w) (gWa w)=true→K (.tup [pkPhaseC (gO w) (gPh w) (gPa w) (gWa w),pkOkC]) [] []):Does Tryz.prog 142 [u64 w] [] K:=by
 refine does Tryz.func142 rfl (by decide) ?_
 change Does Tryz.prog 182 _ _ _
 refine Does.alone 2 (pkRight _ _ _ _ ?_)
 rw [gPhEq w hw,gPaEq w hw,gWaEq w hw,gOEq w hw]
 refine brc_intro (fun h=>?_) (fun h=>?_)
 · exact h0 (by simpa using h)
 · exact h1 (by simpa using h)

end

end Go.Mac
end

section
open Go Go.Proofs Go.Mac
set_option maxRecDepth 100000

namespace Go.Mac

def badAt (fit:CallZ→Bool):Nat→List CallZ→Option Nat
 | _,[]=>none
 | i,c::l=>if fit c=true then badAt fit (i+1) l else some i

theorem badAt_hit {fit:CallZ→Bool} {c:CallZ} (hc:fit c=false):∀ {l:List CallZ} {i:Nat} (k:Nat),(∀ (j:Nat) (x:CallZ),j<i→l[j]? = some x→fit x=true)→l[i]? = some c→badAt fit k l=some (k+i)
 | [],i,k,_,h=>by simp at h
 | y::l,0,k,_,h=>by
   obtain rfl:=Option.some.inj (show some y=some c from h)
   rw [badAt,if_neg (by rw [hc];decide)]
   rfl
 | y::l,i+1,k,hb,h=>by
   rw [badAt,if_pos (hb 0 y (by omega) rfl),badAt_hit hc (k+1) (fun j x hj hx=>hb (j+1) x (by omega) hx) h]
   congr 1
   omega

theorem badAt_none {fit:CallZ→Bool}:∀ {l:List CallZ} (k:Nat),(∀ c∈l,fit c=true)→badAt fit k l=none
 | [],_,_=>rfl
 | y::l,k,h=>by rw [badAt,if_pos (h y (by simp)),badAt_none (k+1) fun c hc=>h c (by simp [hc])]

def codeOf (fit:CallZ→Bool) (prog:List CallZ→List InsZ) (l:List CallZ):Except EZ (List InsZ) :=
 if 12<l.length then .error (.no 4) else match badAt fit 0 l with
   | some i=>.error (.pl 1 i)
   | none=>.ok (prog l)

def gatherV (l:List CallZ):Except EZ (List InsZ):=codeOf (fun c=>gFitB c.w c.n) gathP l

section

variable {K:AV→List Nat→List PO→Prop} {J:CV→List Nat→List PO→Prop}

theorem gCodeAll {ro:Bool} {l:List CallZ} (_hlb:l.length≤1000000001) (h:∀ p,gatherV l=.ok p→K (.tup [.c (.slc 1 0 p.length none false),okP]) [] [.rows ro 2 (l.map rowCallZ),.rows false 5 (p.map rowIns)])
   (h1:∀ e,gatherV l=.error (.no e)→K (.tup [.c .nilslc,.c (eno e)]) [] [.rows ro 2 (l.map rowCallZ)])
   (h2:∀ e p,gatherV l=.error (.pl e p)→K (.tup [.c .nilslc,.c (.iface 108 (.ptr 1 0))]) [] [.rows ro 2 (l.map rowCallZ),.one [.f (.int .i64 e),.f (.int .i64 p)]]) :
   Does Tryz.prog 130 [cv (.slc 0 0 l.length none false)] [.rows ro 2 (l.map rowCallZ)] K:=by
 refine Does.keep 1 rfl ?_
 refine does Tryz.func130 rfl (by decide) ?_
 refine brc_intro (fun hlt=>?_) (fun hlt=>?_)
 · have hlt:(l.length:Int) > 12:=of_decide_eq_true hlt
   exact ⟨1,[0],_,_,rfl,rfl,by decide,by decide,rfl,rfl,rfl,rfl,rfl,h1 4 (by rw [gatherV,codeOf,if_pos (by omega)])⟩
 have hl:¬ 12<l.length:=by
   have hlt:¬(l.length:Int) > 12:=of_decide_eq_false hlt
   omega
 refine SS.nil 4 5 (by decide) rfl ?_
 refine SS.loop (fun i:Nat=>i≤l.length∧∀ (j:Nat) (x:CallZ),j<i→l[j]? = some x→gFitB x.w x.n=true) (fun i=>[(4,cv (.slc 1 0 (gathU (l.take i)).length none false)),(11,cv (.slc 0 0 l.length none false)),(12,i64 l.length),(13,i64 i)]) (fun i=>[.rows ro 2 (l.map rowCallZ),.rows false 5 ((gathU (l.take i)).map rowIns)]) (fun i=>l.length-i) [1]
   (At.mk' [4,11,12,13] 0 ⟨by simp,fun j x hj=>absurd hj (by omega)⟩ ⟨rfl,rfl⟩ rfl rfl (by simp) (by simp) (by simp)) ?_
 rintro i ⟨hi,hfit⟩
 change i≤l.length at hi
 have hul:=gathU_len l i
 refine S_r ?_
 refine brc_intro (fun hlt=>?_) (fun hlt=>?_)
 · have hlt:i<l.length:=by
     have:=of_decide_eq_true hlt
     have:(i:Int)<(l.length:Int):=this
     omega
   obtain ⟨c,hc⟩ : ∃ c,l[i]? = some c:=⟨_,List.getElem?_eq_getElem hlt⟩
   have hu:=gathU_take l i c hc
   refine SS.inlR ?_
   refine at2 (a:=(0:Int)≤(i:Int)) (b:=(i:Int)<(l.length:Int)) (by omega) (by omega) (rdA (rowCallZ c) (show (l.map rowCallZ)[0+Int.toNat (i:Int)]? = some (rowCallZ c) by simp [hc]) ?_)
   change Does Tryz.prog 183 _ _ _
   refine Does.alone 3 (gFits c.w c.n ?_)
   cases hfc:gFitB c.w c.n with
   | false =>
     have hv:gatherV l=.error (.pl 1 i):=by
       rw [gatherV,codeOf,if_neg hl,badAt_hit (fit:=fun c=>gFitB c.w c.n) (c:=c) hfc 0 hfit hc,Nat.zero_add]
     exact ⟨4,[0,3],[.rows ro 2 (l.map rowCallZ),.one [.f (.int .i64 1),.f (.int .i64 i)]],.tup [.c .nilslc,.c (.iface 108 (.ptr 1 0))],rfl,rfl,by decide,by decide,rfl,rfl,rfl,rfl,rfl,h2 1 i hv⟩
   | true =>
   change Does Tryz.prog 184 _ _ _
   refine Does.alone 3 (gOne (gathU (l.take i)).length (by omega) c hfc ?_)
   have hol:=gathI_len (gathU (l.take i)).length c
   generalize ho:gathI (gathU (l.take i)).length c=o at *
   have e:List.take o.length (List.drop 0 (o.map rowIns))=o.map rowIns:=by rw [List.drop_zero,List.take_of_length_le (by simp)]
   have e2:(o.map rowIns).length=o.length:=by simp
   refine And.intro (by simp) (Or.inl (And.intro rfl (And.intro (by simp) (And.intro ?_ (And.intro ?_ ?_)))))
   · rw [e,e2]
     show ((gathU (l.take i)).length+o.length)*40≤_
     omega
   · rw [e,e2]
     omega
   · rw [e,e2]
     refine At.mk' [4,11,12,13] (i+1) ⟨⟨by show i+1≤l.length;omega,fun j x hj hx=>?_⟩,by omega⟩ ⟨?_,rfl⟩ ?_ rfl (by simp) (by simp) (by decide)
     · rcases Nat.lt_or_ge j i with hji | hji
       · exact hfit j x hji hx
       · obtain rfl:j=i:=by omega
         rw [hc] at hx
         obtain rfl:=Option.some.inj hx
         exact hfc
     · rw [wrap_i64 (i+1) (by omega) (by omega),hu,List.length_append]
       rfl
     · rw [hu,List.map_append]
       rfl
 · have hlt:¬(i:Int)<(l.length:Int):=of_decide_eq_false hlt
   obtain rfl:i=l.length:=by omega
   rw [List.take_length] at hul ⊢
   have hv:gatherV l=.ok (gathP l):=by
     rw [gatherV,codeOf,if_neg hl,badAt_none 0 fun c hc=>by
       obtain ⟨j,hj,rfl⟩:=List.mem_iff_getElem.1 hc
       exact hfit j _ hj (List.getElem?_eq_getElem hj)]
   have h:=h _ hv
   refine And.intro (by decide) (Or.inl (And.intro rfl (And.intro (by simp) (And.intro ?_ (And.intro ?_ ?_)))))
   · show ((gathU l).length+1)*40≤_
     omega
   · show (gathU l).length+1≤_
     omega
   · rw [gathP,List.length_append,List.map_append] at h
     exact ⟨3,[0,1],[.rows ro 2 (l.map rowCallZ),.rows false 5 ((gathU l).map rowIns++[rowIns ⟨0,0,0,0,0⟩])],.tup [.c (.slc 1 0 ((gathU l).length+1) none false),okP],rfl,rfl,by decide,by decide,rfl,rfl,rfl,rfl,rfl,h⟩

theorem alikeX {f:FuncId} {cls:List (List CallZ)} {codeV:List CallZ→Except EZ (List InsZ)} (hcl:∀ l∈cls,l.length≤1000000001)
   (hf:∀ (l:List CallZ),l.length≤1000000001→∀ K:AV→List Nat→List PO→Prop,(∀ p,codeV l=.ok p→K (.tup [.c (.slc 1 0 p.length none false),okP]) [] [.rows true 2 (l.map rowCallZ),.rows false 5 (p.map rowIns)]) →
     (∀ e,codeV l=.error (.no e)→K (.tup [.c .nilslc,.c (eno e)]) [] [.rows true 2 (l.map rowCallZ)]) →
     (∀ e p,codeV l=.error (.pl e p)→K (.tup [.c .nilslc,.c (.iface 108 (.ptr 1 0))]) [] [.rows true 2 (l.map rowCallZ),.one [.f (.int .i64 e),.f (.int .i64 p)]])→Does Tryz.prog f [cv (.slc 0 0 l.length none false)] [.rows true 2 (l.map rowCallZ)] K) :
   CodeX 175 [17] (bxH f) cls fun _ l=>codeV l:=by
 intro i l hl K h h1 h2
 refine Does.row2 (l.map rowCallZ) (by simp [hl]) (by simp) ?_
 refine does Tryz.func175 rfl (by decide) ?_
 change Does Tryz.prog f _ _ _
 refine Does.on 2 [0] _ _ (hf l (hcl l (List.mem_of_getElem? hl)) _ (fun p hp=>?_) (fun e he=>?_) fun e p he=>?_)
 · exact ⟨rfl,h p hp⟩
 · exact ⟨rfl,h1 e he⟩
 · exact ⟨rfl,h2 e p he⟩

theorem alike {f:FuncId} (h:K (cv (.func 175 [0])) [] [bxH f]):Does Tryz.prog 124 [cv (.func f [])] [] K:=by
 refine does Tryz.func124 rfl (by decide) ?_
 exact h

end

end Go.Mac
end

section
open Go Go.Proofs Go.Mac
set_option maxRecDepth 100000

namespace Go.Mac

theorem gath_body_right {c:CallZ} (h:gFitB c.w c.n=true):(bodyG c).length≤39∧∀ i∈bodyG c,okI 1 (((bodyG c).length:Int)+1) i=true:=by
 refine ⟨(gathI_len 0 c).1,?_⟩
 obtain ⟨w,n⟩:=c
 unfold gFitB at h
 dsimp only at h
 split at h
 · rename_i hw
   subst hw
   have h:=of_decide_eq_true h
   have e:(bodyG ⟨6,n⟩).all (okI 1 (((bodyG ⟨6,n⟩).length:Int)+1))=true:=by
     simp [bodyG,gathI,registerI,registerT,overI,okI]
     repeat' (first | apply And.intro | rfl)
   exact List.all_eq_true.1 e
 split at h
 · rename_i _ hw
   subst hw
   have h:=of_decide_eq_true h
   have e:(bodyG ⟨10,n⟩).all (okI 1 (((bodyG ⟨10,n⟩).length:Int)+1))=true:=by
     simp [bodyG,gathI,awaitI,awaitT,overI,okI]
     repeat' (first | apply And.intro | rfl)
   exact List.all_eq_true.1 e
 split at h
 · rename_i _ _ hw
   have h:=of_decide_eq_true h
   subst h
   rcases hw with rfl | rfl | rfl | rfl
   all_goals exact List.all_eq_true.1 (by decide)
 · cases h

theorem gather_right {l:List CallZ} {p:List InsZ} (h:gatherV l=.ok p):rightZ p 1=true:=by
 unfold gatherV codeOf at h
 split at h
 · cases h
 rename_i hl
 split at h
 · cases h
 rename_i hn
 obtain rfl:=Except.ok.inj h
 have hfit:∀ c∈l,gFitB c.w c.n=true:=by
   have:∀ (l:List CallZ) (k:Nat),badAt (fun c=>gFitB c.w c.n) k l=none→∀ c∈l,gFitB c.w c.n=true:=by
     intro l
     induction l with
     | nil=>intro k _ c hc;simp at hc
     | cons y l ih =>
       intro k hk c hc
       rw [badAt] at hk
       split at hk
       · rename_i hy
         rcases List.mem_cons.1 hc with rfl | hc
         · exact hy
         · exact ih _ hk c hc
       · cases hk
   exact this l 0 hn
 rw [gathP_cat]
 refine catP_right (by decide) (fun b hb=>?_) ?_
 · obtain ⟨c,hc,rfl⟩:=List.mem_map.1 hb
   exact (gath_body_right (hfit c hc)).2
 · have:=offB_le (n:=39) (l.map bodyG) (fun b hb=>by
     obtain ⟨c,hc,rfl⟩:=List.mem_map.1 hb
     exact (gath_body_right (hfit c hc)).1) (l.map bodyG).length
   rw [List.length_map] at this ⊢
   omega

def phaseD (d:DZ) (a:List UInt8) (xs:List (List UInt8)):AnsZ :=
 match countV a with
 | .error e=>(d,.error (.no e))
 | .ok n =>
   match opensD d 1 (pkWordZ false 0 n n) xs (fun _=>gatherV) with
   | (d',.ok s)=>({ d' with ph:=true },.ok s)
   | (_,.error e)=>(d,.error e)

section

variable {K:AV→List Nat→List PO→Prop} {J:CV→List Nat→List PO→Prop}

theorem words_len:∀ {xs:List (List UInt8)} {cls:List (List CallZ)},(∀ y∈xs,y.length≤1000000000)→wordsV xs=some cls→∀ l∈cls,l.length≤1000000001
 | [],cls,_,h,l,hl=>by obtain rfl:=Option.some.inj h;simp at hl
 | y::ys,cls,hy,h,l,hl=>by
   simp only [wordsV] at h
   split at h <;> try cases h
   rename_i c l' hc hl'
   rcases List.mem_cons.1 hl with rfl | hl
   · unfold callsV at hc
     split at hc
     · obtain rfl:=Option.some.inj hc;simp
     · rw [partsV_len hc,split_len]
       have:=count_len (c:=44) y
       have:=hy y (by simp)
       omega
   · exact words_len (fun z hz=>hy z (by simp [hz])) hl' l hl

theorem codes_all {codeV:Nat→List CallZ→Except EZ (List InsZ)} {R:List InsZ→Prop}:∀ {cls:List (List CallZ)} {ps:List (List InsZ)} {i:Nat},codesV codeV i cls=.ok ps→(∀ j l p,codeV j l=.ok p→R p)→∀ p∈ps,R p
 | [],ps,i,h,_,p,hp=>by obtain rfl:=Except.ok.inj h;simp at hp
 | y::ys,ps,i,h,hr,p,hp=>by
   simp only [codesV] at h
   split at h <;> try cases h
   rename_i q hq
   split at h <;> try cases h
   rename_i qs hqs
   rcases List.mem_cons.1 hp with rfl | hp
   · exact hr _ _ _ hq
   · exact codes_all hqs hr p hp

theorem mustU {x:Int} (h:K (fcv (.int .u64 x)) [] []):DoesX Tryz.prog 128 [fcv (.int .u64 x),cv .niliface] [] K J:=by
 refine doesX Tryz.func128 rfl (by decide) ?_
 exact h

theorem saidPhase (d:DZ) (w a:List UInt8) (xs:List (List UInt8)) (ha:a.length≤1000000000) (hxs:∀ y∈xs,y.length≤1000000000) (hxl:xs.length≤1000000000):SaidX 64 d (w::a::xs) (phaseD d a xs):=by
 intro K J v hv hw hK hJ
 refine DoesX.moved moL ?_
 refine doesX Tryz.func64 rfl (by decide) ?_
 have h0l:(0:Int)<(((w::a::xs).length-1:Nat):Int):=by rw [show (w::a::xs).length-1=xs.length+1 from rfl];omega
 have h1l:(1:Int)≤(((w::a::xs).length-1:Nat):Int):=by simp;omega
 refine at2 (by decide) h0l (rd1 (rowStr a) (.str a) rfl rfl ?_)
 change DoesX Tryz.prog 123 _ _ _ _
 refine DoesX.on 17 [1,2,3] _ _ (count ha (fun n hn hn2=>?_) fun e he=>?_)
 · have wn:IntKind.i64.wrap (n:Int)=(n:Int):=wrap_i64 _ (by omega) (by omega)
   refine SX.drawR follows (by decide) ?_
   refine Or.inl (at2 (by decide) h1l ?_)
   change DoesX Tryz.prog 129 [pkPhase false 0 (IntKind.i64.wrap n) (IntKind.i64.wrap n)] _ _ _
   rw [wn]
   refine DoesX.alone 17 (DoesX.of (pkWord false 0 n n (fun hb=>?_) fun hb=>?_))
   · exfalso
     simp [pkRightB] at hb
     omega
   repeat' (first | refine And.intro rfl ?_ | refine And.intro (Or.inl (And.intro (by decide) (And.intro h1l rfl))) ?_ | refine And.intro (And.intro (by decide) (And.intro (by simp) rfl)) ?_ | refine And.intro (Exists.intro _ (Exists.intro _ (And.intro rfl (And.intro rfl rfl)))) ?_ | fail)
   change DoesX Tryz.prog 128 _ _ _ _
   refine DoesX.alone 17 (mustU ?_)
   repeat' (first | refine And.intro rfl ?_ | refine And.intro (Or.inl (And.intro (by decide) (And.intro h1l rfl))) ?_ | refine And.intro (And.intro (by decide) (And.intro (by simp) rfl)) ?_ | refine And.intro (Exists.intro _ (Exists.intro _ (And.intro rfl (And.intro rfl rfl)))) ?_ | fail)
   change DoesX Tryz.prog 124 _ _ _ _
   refine DoesX.alone 17 (DoesX.of (alike ?_))
   repeat' (first | refine And.intro rfl ?_ | refine And.intro (Or.inl (And.intro (by decide) (And.intro h1l rfl))) ?_ | refine And.intro (And.intro (by decide) (And.intro (by simp) rfl)) ?_ | refine And.intro (Exists.intro _ (Exists.intro _ (And.intro rfl (And.intro rfl rfl)))) ?_ | fail)
   have hcl:∀ cls,wordsV xs=some cls→∀ l∈cls,l.length≤1000000001:=fun cls h l hl=>words_len hxs h l hl
   have hwz:0≤pkWordZ false 0 n n∧pkWordZ false 0 n n<18446744073709551616:=by simp [pkWordZ];omega
   refine opens (d:=d) (v:=v) (ws:=w::a::xs) (xs:=xs) (o:=2) (n:=xs.length) (nc:=1) (x:=pkWordZ false 0 n n) (f:=130) (bx:=bxH 130) (cp:=[17]) (g:=175) (codeV:=fun _=>gatherV) (.inl ⟨rfl,rfl⟩) hv hw (fun i _=>by rw [show 2+i=i+1+1 by omega];rfl) rfl hxl hxs (by decide) hwz
     (fun cls h=>alikeX (hcl cls h) fun l hl K h0 h1 h2=>gCodeAll hl h0 h1 h2) (fun cls ps h1 h2=>codes_all h2 fun _ l p hp=>gather_right hp) (fun s v1 hs hv1 hw1=>?_) fun e v1 he hv1=>?_
   · have hr:phaseD d a xs=({ (opensD d 1 (pkWordZ false 0 n n) xs (fun _=>gatherV)).1 with ph:=true },.ok s):=by
       rw [phaseD,hn]
       dsimp only
       generalize opensD d 1 (pkWordZ false 0 n n) xs (fun _=>gatherV)=r at hs
       obtain ⟨d1,r1⟩:=r
       dsimp only at hs
       subst hs
       rfl
     rw [hr] at hK
     repeat' (first | refine And.intro rfl ?_ | refine And.intro (Or.inl (And.intro (by decide) (And.intro h1l rfl))) ?_ | refine And.intro (And.intro (by decide) (And.intro (by simp) rfl)) ?_ | refine And.intro (Exists.intro _ (Exists.intro _ (And.intro rfl (And.intro rfl rfl)))) ?_ | fail)
     refine And.intro ?_ (hK _ v1 rfl hv1 hw1)
     decide
   · have hr:phaseD d a xs=(d,.error (.no e)):=by
       rw [phaseD,hn]
       dsimp only
       generalize opensD d 1 (pkWordZ false 0 n n) xs (fun _=>gatherV)=r at he
       obtain ⟨d1,r1⟩:=r
       dsimp only at he
       subst he
       rfl
     rw [hr] at hJ
     refine ⟨_,rfl,And.intro (by decide) ?_⟩
     exact hJ _ v1 rfl hv1 hw
 · have hr:phaseD d a xs=(d,.error (.no e)):=by rw [phaseD,he]
   rw [hr] at hJ
   refine ⟨_,rfl,And.intro (by decide) ?_⟩
   exact hJ _ v rfl hv hw

end

end Go.Mac
end
