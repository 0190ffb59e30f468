/- Texts that belong together; the first of them:  -/
import Derived.Test.YtollgfhpcidkgaaGreatDoorA13
import Derived.Test.YtollgfhpcidkgaaGreatDoorA14
import Derived.Test.YtollgfhpcidkgaaGreatDoorA11
import Derived.Test.YtollgfhpcidkgaaGreatDoorA6
import Derived.Test.YtollgfhpcidkgaaGreatDoorProg
import Derived.Test.YtollgfhpcidkgaaGreatDoorA9
import Derived.Test.YtollgfhpcidkgaaGreatDoorA3
import Derived.Test.YtollgfhpcidkgaaGreatDoorA12

section
open Go Go.Proofs Go.Mac
set_option maxRecDepth 100000
namespace Go.Mac
section
def whatF (w:List UInt8):Nat→Int
 | 0=>0
 | i+1=>if 0<i∧namL.getD i []=w then (i:Int) else whatF w i

def whatV (w:List UInt8):Int:=whatF w 19

def hasN (k:Int):Bool:=k == 5 || k == 6 || k == 10

def callV (w n:List UInt8) (has:Bool):Option CallZ :=
 if whatV w=0∨has≠hasN (whatV w) then none else if has=true then (tokV n).map fun k=>⟨whatV w,k⟩ else some ⟨whatV w,0⟩

def oneV (x:List UInt8):Option CallZ :=
 match cutB 61 x with
 | some (w,n)=>callV w n true
 | none=>callV x [] false

def partsV:List (List UInt8)→Option (List CallZ)
 | []=>some []
 | x::xs=>match oneV x,partsV xs with
   | some c,some l=>some (c::l)
   | _,_=>none

def callsV (s:List UInt8):Option (List CallZ):=if s=[45] then some [] else partsV (splitB 44 s)

theorem partsV_snoc {x:List UInt8}:∀ {xs:List (List UInt8)} {l:List CallZ},partsV xs=some l→partsV (xs++[x])=(oneV x).map fun c=>l++[c]
 | [],l,h=>by
   obtain rfl:=Option.some.inj h
   simp only [List.nil_append,partsV]
   cases oneV x <;> rfl
 | y::ys,l,h=>by
   simp only [partsV] at h
   split at h <;> try cases h
   rename_i c l' hc hl
   rw [List.cons_append,partsV,hc,partsV_snoc hl]
   cases oneV x <;> rfl

theorem partsV_none {x:List UInt8} {zs:List (List UInt8)} (hx:oneV x=none):∀ (xs:List (List UInt8)),partsV (xs++x::zs)=none
 | []=>by simp only [List.nil_append,partsV,hx]
 | y::ys=>by
   rw [List.cons_append,partsV,partsV_none hx ys]
   cases oneV y <;> rfl

section

variable {K:KP} {J:KJ}

abbrev tabsH:List PO:=[powH,errS,errR,namH]

abbrev partH (l:List CallZ):List PO:=tabsH++[.one [.slc 5 0 l.length none false],.rows false 2 (l.map rowCallZ)]

theorem cutOne (x:List UInt8) (hx:x.length≤1000000000):∃ w n has,oneV x=callV w n has∧n.length≤1000000000∧∀ K:KP,K (.tup [.c (.f (.str w)),.c (.f (.str n)),.c (.f (.bool has))]) [] []→Does Tryz.prog 223 [st x,st [61]] [] K:=by
 cases hc:cutB 61 x with
 | none=>exact ⟨x,[],false,by rw [oneV,hc],by simp,fun K h=>cutAll hx (fun l r e=>by rw [hc] at e;cases e) fun _=>h⟩
 | some p =>
   obtain ⟨w,n⟩:=p
   obtain ⟨e1,_⟩:=cut_some hc
   refine ⟨w,n,true,by rw [oneV,hc],?_,fun K h=>cutAll hx (fun l r e=>?_) fun e=>by rw [hc] at e;cases e⟩
   · have:=congrArg List.length e1
     simp at this
     omega
   · rw [hc] at e
     obtain ⟨rfl,rfl⟩:=Prod.mk.inj (Option.some.inj e)
     exact h

theorem whatF_next (w:List UInt8) (i:Nat):whatF w (i+1)=if 0<i∧namL.getD i []=w then (i:Int) else whatF w i:=rfl

theorem splitSeqMk {s:List UInt8} {c:UInt8} (h:K (cv (.func 101 [1,0,2])) [] [.one [.f (.str s)],.one [.f (.str [c])],.one [.f (.int .i64 0)]]):Does Tryz.prog 28 [st s,st [c]] [] K:=by
 refine does Tryz.func28 rfl (by decide) ?_
 change Does Tryz.prog 48 _ _ _
 refine does Tryz.func48 rfl (by decide) ?_
 exact h

theorem partH_snoc (l:List CallZ) (c:CallZ):partH (l++[c])=tabsH++[.one [.slc 5 0 (l.length+1) none false],.rows false 2 (l.map rowCallZ++[rowCallZ c])]:=by simp [partH]

theorem partsV_len:∀ {xs:List (List UInt8)} {l:List CallZ},partsV xs=some l→l.length=xs.length
 | [],l,h=>by obtain rfl:=Option.some.inj h;rfl
 | y::ys,l,h=>by
   simp only [partsV] at h
   split at h <;> try cases h
   rename_i c l' hc hl
   simp [partsV_len hl]

theorem callsOf {s:List UInt8} (hs:s.length≤1000000000) (h0:s=[45]→K (cv .nilslc) [] tabsH) (h1:∀ l,s≠[45]→callsV s=some l→K (cv (.slc 4 0 l.length none false)) [] (tabsH++[.rows false 2 (l.map rowCallZ)])) (hJ:callsV s=none→J (wrongE 3) [] tabsH) :
 DoesX Tryz.prog 174 [st s] tabsH K J:=by
 refine DoesX.keepB 4 [] rfl ?_
 refine doesG (cuts:=splitB) (xs:=[_,_,_]) Tryz.func174 rfl (by decide) splits ⟨_,Tryz.func101,by decide,rfl⟩ ?_
 refine bZ (fun he=>?_) (fun hne=>?_)
 · have he:s=[45]:=eq_of_beq he
   refine ⟨4,[0,1,2,3],_,_,rfl,by decide,by decide,by decide,by decide,by decide,rfl,rfl,rfl,rfl,rfl,h0 he⟩
 · have hne:s≠[45]:=fun e=>by
    have h:(s == [45])=false:=hne
    rw [e] at h
    cases h
   change DoesX Tryz.prog 28 _ _ _ _
   refine DoesX.alone 5 (DoesX.of (splitSeqMk ?_))
   have hpl:∀ x∈splitB 44 s,x.length≤1000000000:=fun x hx=>Nat.le_trans (split_mem_len s x hx) hs
   have hpn:(splitB 44 s).length≤1000000001:=by
    have:=split_len 44 s
    have:=count_len (c:=44) s
    omega
   refine ⟨s,44,15,5,6,[(3,cv (.ptr 4 0))],tabsH++[.one [.nilslc]],[5],List CallZ,fun k l=>partsV ((splitB 44 s).take k)=some l,partH,[],rfl,rfl,by decide,hs,rfl,rfl,by decide,by decide,rfl,rfl,?_,?_,Conv.nil (H:=tabsH++[.one [.nilslc]]) (cs:=[.nilslc]) 4 0 2 (by decide) rfl rfl,rfl,fun _=>rfl,?_,?_⟩
   · intro i
     by_cases hi:i=3
     · subst hi;exact .inr rfl
     · exact .inl (by rw [lk_cons,if_neg (Ne.symm hi)];rfl)
   · intro i
     by_cases hi:i=3
     · subst hi;rfl
     · have:lk [(3,cv (CV.ptr 4 0))] i=.u:=by rw [lk_cons,if_neg (Ne.symm hi)];rfl
       rw [this]
       rfl
   · intro k l x hl hx
     refine S_rX ?_
     refine S_rX ?_
     have hxm:=List.mem_of_getElem? hx
     have hkl:k<(splitB 44 s).length:=(List.getElem?_eq_some_iff.1 hx).1
     obtain ⟨w,n,has,hov,hnl,hcut⟩:=cutOne x (hpl x hxm)
     change DoesX Tryz.prog 223 _ _ _ _
     refine DoesX.alone 6 (DoesX.of (hcut _ ?_))
     refine SX.loop (fun i:Nat=>i≤19) (fun i=>[(3,cv (.ptr 4 0)),(5,st w),(6,st n),(7,bl has),(8,cv (.ptr 6 0)),(23,.p (.agg (namL.map fun s=>CV.f (.str s)))),(24,i64 i)])
      (fun i=>partH l++[.one [.f (.int .i64 (whatF w i)),.f (.int .i64 0)]]) (fun i=>19-i) []
      (At.mk' [3,5,6,7,8,23,24] 0 (by simp) ⟨rfl,rfl⟩ rfl rfl (by simp) (by simp) (by simp)) ?_
     · intro i hi
       change i≤19 at hi
       refine S_rX ?_
       refine bZ (fun hlt=>?_) (fun hlt=>?_)
       · have hlt:i<19:=by
          have:=oTr hlt
          have:(i:Int)<19:=this
          omega
         have hnm:namL[i]? = some (namL.getD i []):=by
          rw [List.getD_eq_getElem?_getD,List.getElem?_eq_getElem (show i<namL.length from hlt)]
          rfl
         have hq:(namL.map fun s=>CV.f (.str s))[Int.toNat (i:Int)*1]? = some (.f (.str (namL.getD i []))):=by
          rw [Nat.mul_one,Int.toNat_natCast,List.getElem?_map,hnm]
          rfl
         have hnx:=whatF_next w i
         refine SX.inlR ?_
         refine at2 (a:=(0:Int)≤(i:Int)) (b:=(i:Int)<((19:Nat):Int)) (by omega) (by omega) (Exists.intro _ (And.intro hq ?_))
         refine bZ (fun h1=>?_) (fun h1=>?_)
         · have h1:(i:Int) > 0:=oTr h1
           refine bZ (fun h2=>?_) (fun h2=>?_)
           · have h2:namL.getD i []=w:=eq_of_beq h2
             rw [if_pos ⟨by omega,h2⟩] at hnx
             refine At.mk' [3,5,6,7,8,23,24] (i+1) ⟨hlt,by omega⟩ ⟨?_,rfl⟩ ?_ rfl (by simp) (by simp) (by simp)
             · rw [wrap_i64 ((i:Int)+1) (by omega) (by omega)]
               rfl
             · rw [hnx]
               rfl
           · have h2:(namL.getD i [] == w)=false:=h2
             rw [if_neg (fun e=>by rw [e.2] at h2;simp at h2)] at hnx
             refine At.mk' [3,5,6,7,8,23,24] (i+1) ⟨hlt,by omega⟩ ⟨?_,rfl⟩ ?_ rfl (by simp) (by simp) (by simp)
             · rw [wrap_i64 ((i:Int)+1) (by omega) (by omega)]
               rfl
             · rw [hnx]
               rfl
         · have h1:¬(i:Int) > 0:=oFa h1
           rw [if_neg (fun e=>by omega)] at hnx
           refine At.mk' [3,5,6,7,8,23,24] (i+1) ⟨hlt,by omega⟩ ⟨?_,rfl⟩ ?_ rfl (by simp) (by simp) (by simp)
           · rw [wrap_i64 ((i:Int)+1) (by omega) (by omega)]
             rfl
           · rw [hnx]
             rfl
       · have hlt:¬(i:Int)<19:=oFa hlt
         obtain rfl:i=19:=by omega
         have hwv:whatF w 19=whatV w:=rfl
         rw [hwv]
         have bad:callV w n has=none→J (wrongE 3) [] tabsH:=fun h=>by
          refine hJ ?_
          rw [callsV,if_neg hne]
          have:splitB 44 s=(splitB 44 s).take k++x::(splitB 44 s).drop (k+1):=by
           have:=List.drop_eq_getElem_cons hkl
           rw [show (splitB 44 s)[k]=x from (List.getElem?_eq_some_iff.1 hx).2] at this
           rw [←this,List.take_append_drop]
          rw [this]
          exact partsV_none (by rw [hov];exact h) _
         refine bZ (fun h1=>?_) (fun h1=>?_)
         · have h1:whatV w=0:=eq_of_beq h1
           have hb:=bad (by rw [callV,if_pos (.inl h1)])
           exact ⟨_,rfl,4,[0,1,2,3],_,_,rfl,by decide,by decide,by decide,by decide,by decide,rfl,rfl,rfl,rfl,rfl,_,rfl,hb⟩
         · have h1:(whatV w == 0)=false:=h1
           have h0w:¬whatV w=0:=by simpa using h1
           have hll:l.length≤1000000001:=by
            have h5:=partsV_len hl
            rw [List.length_take] at h5
            omega
           refine bZ (fun h2=>?_) (fun h2=>?_)
           · have h2:(whatV w == 5)=true:=h2
             have hN:hasN (whatV w)=true:=by rw [hasN,h2];rfl
             cases has
             · have hb:=bad (by rw [callV,if_pos (.inr (by rw [hN];decide))])
               exact ⟨_,rfl,4,[0,1,2,3],_,_,rfl,by decide,by decide,by decide,by decide,by decide,rfl,rfl,rfl,rfl,rfl,_,rfl,hb⟩
             · change DoesX Tryz.prog 109 _ _ _ _
               refine DoesX.on 7 [0,1,2] _ _ (number hnl (fun N hN2=>?_) fun hN2=>?_)
               · have hcv:callV w n true=some ⟨whatV w,N⟩:=by rw [callV,if_neg (by rw [hN];simp [h0w]),if_pos rfl,hN2];rfl
                 refine And.intro (by simp) (Or.inl (And.intro rfl (And.intro (by simp) (And.intro (by show (l.length+1)*16≤_;omega) (And.intro (by show l.length+1≤_;omega) ?_)))))
                 refine And.intro (by decide) (Exists.intro (l++[⟨whatV w,N⟩]) (And.intro ?_ (And.intro rfl (And.intro (by simp) ?_))))
                 · rw [partH_snoc];rfl
                 · have:=partsV_snoc (x:=x) hl
                   rw [hov,hcv] at this
                   show partsV ((splitB 44 s).take (k+1))=_
                   rw [List.take_add_one,hx]
                   exact this
               · have hb:=bad (by rw [callV,if_neg (by rw [hN];simp [h0w]),if_pos rfl,hN2];rfl)
                 exact ⟨_,rfl,4,[0,1,2,3],_,_,rfl,by decide,by decide,by decide,by decide,by decide,rfl,rfl,rfl,rfl,rfl,_,rfl,hb⟩
           · have h2:(whatV w == 5)=false:=h2
             refine bZ (fun h3=>?_) (fun h3=>?_)
             · have h3:(whatV w == 6)=true:=h3
               have hN:hasN (whatV w)=true:=by rw [hasN,h2,h3];rfl
               cases has
               · have hb:=bad (by rw [callV,if_pos (.inr (by rw [hN];decide))])
                 exact ⟨_,rfl,4,[0,1,2,3],_,_,rfl,by decide,by decide,by decide,by decide,by decide,rfl,rfl,rfl,rfl,rfl,_,rfl,hb⟩
               · change DoesX Tryz.prog 109 _ _ _ _
                 refine DoesX.on 7 [0,1,2] _ _ (number hnl (fun N hN2=>?_) fun hN2=>?_)
                 · have hcv:callV w n true=some ⟨whatV w,N⟩:=by rw [callV,if_neg (by rw [hN];simp [h0w]),if_pos rfl,hN2];rfl
                   refine And.intro (by simp) (Or.inl (And.intro rfl (And.intro (by simp) (And.intro (by show (l.length+1)*16≤_;omega) (And.intro (by show l.length+1≤_;omega) ?_)))))
                   refine And.intro (by decide) (Exists.intro (l++[⟨whatV w,N⟩]) (And.intro ?_ (And.intro rfl (And.intro (by simp) ?_))))
                   · rw [partH_snoc];rfl
                   · have:=partsV_snoc (x:=x) hl
                     rw [hov,hcv] at this
                     show partsV ((splitB 44 s).take (k+1))=_
                     rw [List.take_add_one,hx]
                     exact this
                 · have hb:=bad (by rw [callV,if_neg (by rw [hN];simp [h0w]),if_pos rfl,hN2];rfl)
                   exact ⟨_,rfl,4,[0,1,2,3],_,_,rfl,by decide,by decide,by decide,by decide,by decide,rfl,rfl,rfl,rfl,rfl,_,rfl,hb⟩
             · have h3:(whatV w == 6)=false:=h3
               have hN:hasN (whatV w)=(whatV w == 10):=by rw [hasN,h2,h3];rfl
               refine bZ (fun h4=>?_) (fun h4=>?_)
               · have h4:(!(has == (whatV w == 10)))=true:=h4
                 have hb:=bad (by rw [callV,if_pos (.inr (by rw [hN];intro e;rw [e] at h4;simp at h4))])
                 exact ⟨_,rfl,4,[0,1,2,3],_,_,rfl,by decide,by decide,by decide,by decide,by decide,rfl,rfl,rfl,rfl,rfl,_,rfl,hb⟩
               · have h4:(!(has == (whatV w == 10)))=false:=h4
                 have hN:has=hasN (whatV w):=by rw [hN];simpa using h4
                 refine bZ (fun h5=>?_) (fun h5=>?_)
                 · have h5:has=true:=h5
                   change DoesX Tryz.prog 109 _ _ _ _
                   refine DoesX.on 7 [0,1,2] _ _ (number hnl (fun N hN2=>?_) fun hN2=>?_)
                   · have hcv:callV w n has=some ⟨whatV w,N⟩:=by rw [callV,if_neg (by rw [←hN];simp [h0w]),if_pos h5,hN2];rfl
                     refine And.intro (by simp) (Or.inl (And.intro rfl (And.intro (by simp) (And.intro (by show (l.length+1)*16≤_;omega) (And.intro (by show l.length+1≤_;omega) ?_)))))
                     refine And.intro (by decide) (Exists.intro (l++[⟨whatV w,N⟩]) (And.intro ?_ (And.intro rfl (And.intro (by simp) ?_))))
                     · rw [partH_snoc];rfl
                     · have:=partsV_snoc (x:=x) hl
                       rw [hov,hcv] at this
                       show partsV ((splitB 44 s).take (k+1))=_
                       rw [List.take_add_one,hx]
                       exact this
                   · have hb:=bad (by rw [callV,if_neg (by rw [←hN];simp [h0w]),if_pos h5,hN2];rfl)
                     exact ⟨_,rfl,4,[0,1,2,3],_,_,rfl,by decide,by decide,by decide,by decide,by decide,rfl,rfl,rfl,rfl,rfl,_,rfl,hb⟩
                 · have h5:has=false:=h5
                   have hcv:callV w n has=some ⟨whatV w,0⟩:=by rw [callV,if_neg (by rw [←hN];simp [h0w]),if_neg (by rw [h5];decide)]
                   refine And.intro (by simp) (Or.inl (And.intro rfl (And.intro (by simp) (And.intro (by show (l.length+1)*16≤_;omega) (And.intro (by show l.length+1≤_;omega) ?_)))))
                   refine And.intro (by decide) (Exists.intro (l++[⟨whatV w,0⟩]) (And.intro ?_ (And.intro rfl (And.intro (by simp) ?_))))
                   · rw [partH_snoc];rfl
                   · have:=partsV_snoc (x:=x) hl
                     rw [hov,hcv] at this
                     show partsV ((splitB 44 s).take (k+1))=_
                     rw [List.take_add_one,hx]
                     exact this
   · intro l hl D
     have hl:partsV ((splitB 44 s).take (splitB 44 s).length)=some l:=hl
     rw [List.take_length] at hl
     have hcv:callsV s=some l:=by rw [callsV,if_neg hne];exact hl
     refine ⟨6,[0,1,2,3,5],_,_,rfl,by decide,by decide,by decide,by decide,by decide,rfl,rfl,rfl,?_,rfl,h1 l hne hcv⟩
     rfl

end
end
section
abbrev th0:ThZ:=⟨0,[0,0,0,0,0,0,0,0],false⟩
def mz0 (ps:List (List InsZ)) (ws:List Int):MZ:=⟨ps,List.replicate ps.length th0,ws,[],[],[],0,ws.length⟩

section

variable {K:KP}

theorem coreNew {ps:List (List InsZ)} {ws:List Int} {ro ro2 nn nn2:Bool} {c c2:Option Nat} {n nc:Nat} (hps:ps.length=n) (hws:ws.length=nc) (hn:n≤16) (hnc:nc≤300) (hr:∀ p∈ps,rightZ p nc=true)
 (h:∀ v,okV v→K (.tup [.c (.ptr 2 0),okP]) [] ([.rows2 ro 5 (ps.map fun p=>p.map rowIns),.rows ro2 1 (ws.map rowU)] ++
   [.one [.slc 3 0 n none v.np,.slc 4 0 n none true,.ptr 5 0,.ptr 7 0,.slc 9 0 0 none v.na,.slc 10 0 0 none v.ne,.f (.int .i64 0)],
    .rows2 false 5 (ps.map fun p=>p.map rowIns),.rows false 10 ((List.replicate n th0).map rowT),.one [.slc 6 0 nc none v.nm],.rows false 1 (ws.map rowU),
    .one [.f (.int .i64 n),.slc 8 0 0 none v.nl],.rows false 2 (v.ex.map rowS),.rows false 6 [],.rows false 4 []])) :
 Does Tryz.prog 27 [cv (.slc 0 0 n c nn),cv (.slc 1 0 nc c2 nn2)] [.rows2 ro 5 (ps.map fun p=>p.map rowIns),.rows ro2 1 (ws.map rowU)] K:=by
 refine Does.keep 2 rfl ?_
 refine Does.nilOut 7 1 2 (by decide) ?_
 refine Does.nilOut 5 4 6 (by decide) ?_
 refine Does.nilOut 5 5 4 (by decide) ?_
 refine does Tryz.func27 rfl (by decide) ?_
 refine bZ (fun h=>?_) (fun _=>?_)
 · have:=oTr h;omega
 change Does Tryz.prog 44 _ _ _
 refine Does.on 2 [1] _ _ (memOf (l:=ws) (ro:=ro2) nc hws hnc ?_)
 refine at2 (a:=(0:Int)≤(n:Int)) (b:=(n:Int)≤(n:Int)) (by omega) (by omega) ?_
 refine at2 (by show ((80:Nat):Int)*(n:Int)≤_;omega) (by omega) ?_
 refine SS.nilH2 5 0 5 rfl rfl ?_
 refine SS.loop (fun i:Nat=>i≤n) (fun i=>[(0,cv (.slc 0 0 n c nn)),(1,cv (.slc 1 0 nc c2 nn2)),(8,cv (.ptr 5 0)),(30,cv (.slc 0 0 n c nn)),(31,i64 n),(32,i64 i)])
  (fun i=>[.rows2 ro 5 (ps.map fun p=>p.map rowIns),.rows ro2 1 (ws.map rowU),.rows false 1 (ws.map rowU),.one [.slc 2 0 nc none false],.rows false 10 ((List.replicate n th0).map rowT),
    .one [.slc 6 0 i none false,.slc 4 0 n none true,.ptr 3 0,.nilptr,.nilslc,.nilslc,.f (.int .i64 0)],.rows2 false 5 ((ps.take i).map fun p=>p.map rowIns)]) (fun i=>n-i) [6,7,8]
  (At.mk' [0,1,8,30,31,32] 0 (by simp) ⟨rfl,rfl⟩ (by rw [List.map_replicate];rfl) rfl (by simp) (by simp) (by simp)) ?_
 intro i hi
 change i≤n at hi
 refine S_r ?_
 refine bZ (fun hlt=>?_) (fun hlt=>?_)
 · have hlt:i<n:=by
    have:=oTr hlt
    have:(i:Int)<(n:Int):=this
    omega
   obtain ⟨p,hp⟩ : ∃ p,ps[i]? = some p:=⟨_,List.getElem?_eq_getElem (by omega)⟩
   have hpm:(ps.map fun p=>p.map rowIns)[0+Int.toNat (i:Int)]? = some (p.map rowIns):=by simp [hp]
   have hrp:=hr p (List.mem_of_getElem? hp)
   refine SS.inlR ?_
   refine at2 (a:=(0:Int)≤(i:Int)) (b:=(i:Int)<(n:Int)) (by omega) (by omega) ?_
   refine Exists.intro (p.map rowIns) (And.intro hpm ?_)
   change Does Tryz.prog 45 _ _ _
   have hlen:(p.map rowIns).length=p.length:=by simp
   have hpl:p.length≤600:=by
    simp only [rightZ,Bool.and_eq_true,decide_eq_true_eq] at hrp
    exact hrp.1.1.2.2
   refine Does.on 7 [0] _ _ (rightRow (ps:=ps) (p:=p) (ro:=ro) nc hpm (by omega) (fun _=>?_) (fun h=>absurd (h.symm.trans hrp) (by decide)) fun h=>absurd (h.symm.trans hrp) (by decide))
   refine SS.drawR follows (by decide) ?_
   refine Exists.intro (p.map rowIns) (And.intro hpm (And.intro (by simp) ?_))
   rw [show List.take (p.map rowIns).length (List.drop 0 (p.map rowIns))=p.map rowIns from by rw [List.drop_zero,List.take_length]]
   refine at2 (by show (p.map rowIns).length*40≤_;omega) (by omega) ?_
   repeat' (first | refine And.intro rfl ?_ | fail)
   refine And.intro (by simp;omega) (at2 (by show (i+1)*24≤_;omega) (by omega) ?_)
   repeat' (first | refine And.intro rfl ?_ | fail)
   refine At.mk' [0,1,8,30,31,32] (i+1) ⟨hlt,by omega⟩ ⟨?_,rfl⟩ ?_ rfl (by simp) (by simp) (by decide)
   · rw [wrap_i64 (i+1) (by omega) (by omega)]
     rfl
   · have e:(ps.take (i+1)).map (fun p=>p.map rowIns)=(ps.take i).map (fun p=>p.map rowIns)++[p.map rowIns]:=by
      rw [List.take_add_one,hp,List.map_append]
      rfl
     rw [e]
     rfl
 · have hlt:¬(i:Int)<(n:Int):=oFa hlt
   obtain rfl:n=i:=by omega
   rw [show ps.take n=ps from List.take_of_length_le (by omega)]
   change Does Tryz.prog 47 _ _ _
   refine Does.alone 7 (lotNew n hn ?_)
   have hk:=h ⟨false,false,false,false,false,[]⟩ (by simp [okV])
   refine Exists.intro _ (And.intro rfl (And.intro rfl ?_))
   refine Exists.intro _ (And.intro rfl (And.intro rfl ?_))
   refine Exists.intro _ (And.intro rfl (And.intro rfl ?_))
   exact ⟨11,[0,1,5,6,4,3,2,7,10,9,8],_,_,rfl,rfl,by decide,by decide,rfl,rfl,rfl,rfl,rfl,hk⟩

end
end
section
section

variable {K:KP}

end
end
section
theorem mz0_wf {ps:List (List InsZ)} {ws:List Int} (hn:ps.length≤16) (hnc:ws.length≤300) (hr:∀ p∈ps,rightZ p ws.length=true) (hws:∀ v∈ws,0≤v∧v<18446744073709551616):WF (mz0 ps ws):=by
 refine ⟨by simp [mz0],by simpa [mz0] using hn,hr,fun x hx=>?_,fun t x p hx hp=>?_,rfl,⟨hnc,hws⟩,⟨by simp [mz0],by simp [mz0]⟩,by simp [mz0],by simp [mz0],by simp [mz0],by simp [mz0]⟩
 · obtain rfl:=List.eq_of_mem_replicate (show x∈List.replicate ps.length th0 from hx)
   exact ⟨rfl,by decide⟩
 · obtain rfl:=List.eq_of_mem_replicate (show x∈List.replicate ps.length th0 from List.mem_of_getElem? hx)
   have:=hr p (List.mem_of_getElem? hp)
   simp only [rightZ,Bool.and_eq_true,decide_eq_true_eq] at this
   exact ⟨Nat.zero_le _,fun _=>by show 0<p.length;omega⟩
end
end Go.Mac
end
section
open Go Go.Proofs Go.Mac

namespace Go.Mac

section

variable {P:Program} {nt N0:Nat} {Q:QT}

end

theorem Does.row2 {P:Program} {f:FuncId} {a:AV} {args:List AV} {Hl:List PO} {K:KP} {ro:Bool} {sz n i:Nat} {rss:List (List (List FC))} (rs:List (List FC)) (hi:rss[i]? = some rs) (_hn:rs.length=n)
 (h:Does P f (killA [0] a::cv (.slc 0 0 n none false)::args.map (killA [0])) (.rows true sz rs::Hl.map (killO [0])) fun x M H'=>match H' with
   | _::Hl'=>(ro || noRo Hl')=true∧K (killA [0] x) M (.rows2 ro sz rss::Hl'.map (killO [0]))
   | _=>False):Does P f (a::cv (.islc 0 i 0 n none false)::args) (.rows2 ro sz rss::Hl) K:=by
 refine ⟨h.fn,fun B R w0 L w vs hrel hvs=>?_⟩
 obtain ⟨v0,us0,rfl,hv0,v,us,rfl,⟨hlt,hh⟩,hus⟩:=hvs
 have hO:=hrel.obj 0 _ rfl
 have hilt:=(List.getElem?_eq_some_iff.1 hi).1
 have hlen:(PO.rows true sz rs::Hl.map (killO [0])).length=(PO.rows2 ro sz rss::Hl).length:=by simp
 have hag:Agree (PO.rows2 ro sz rss::Hl).length [0] L (upd L 0 ⟨(L 0).inn i,(L 0).inn⟩):=fun j _ hm=>upd_ne (by simpa using hm)
 have hown0:∀ b,Own (.rows2 ro sz rss) (L 0) b∨Ro (.rows2 ro sz rss) (L 0) b→b<w.heap.size:=fun b hb=>by
  rcases hb with hb | hb
  · exact (hrel.own 0 _ b rfl hb).2.1
  · exact hrel.size _ (hrel.sub _ (hrel.ro 0 _ b rfl hb))
 have hrel1:Rel (fun b=>B b∨(Own (.rows2 ro sz rss) (L 0) b∨Ro (.rows2 ro sz rss) (L 0) b)) (fun b=>R b∨(Own (.rows2 ro sz rss) (L 0) b∨Ro (.rows2 ro sz rss) (L 0) b)) w (upd L 0 ⟨(L 0).inn i,(L 0).inn⟩) (PO.rows true sz rs::Hl.map (killO [0])) w:=by
  refine ⟨Bel.refl _ _,fun k hk=>?_,fun j o hj=>?_,fun j o b hj hb=>?_,fun j o b hj hb=>?_,fun b hb=>?_⟩
  · rcases hk with hk | hk
    · exact hrel.size k hk
    · exact hown0 k hk
  · cases j with
    | zero =>
      simp at hj;subst hj
      obtain ⟨⟨g1,g2,g3,_,g5⟩,_⟩:=hO.2.2.2.1 i rs hi
      rw [upd_self]
      exact ⟨g1,g2,g3,fun hh=>by simp at hh,g5⟩
    | succ j =>
      simp only [List.getElem?_cons_succ,List.getElem?_map,Option.map_eq_some_iff] at hj
      obtain ⟨o0,ho0,rfl⟩:=hj
      rw [upd_ne (by omega),hlen]
      exact (hrel.obj (j+1) o0 (by simpa using ho0)).mono (Nat.le_refl _) hag fun _ _=>rfl
  · cases j with
    | zero=>simp at hj;subst hj;exact hb.elim
    | succ j =>
      simp only [List.getElem?_cons_succ,List.getElem?_map,Option.map_eq_some_iff] at hj
      obtain ⟨o0,ho0,rfl⟩:=hj
      rw [upd_ne (by omega),Own_kill] at hb
      obtain ⟨g1,g2,g3⟩:=hrel.own (j+1) o0 b (by simpa using ho0) hb
      refine ⟨fun hB=>?_,g2,fun j' o' hj' hb'=>?_⟩
      · rcases hB with hB | hB | hB
        · exact g1 hB
        · have:=g3 0 _ rfl hB;omega
        · exact g1 (hrel.sub _ (hrel.ro 0 _ b rfl hB))
      · cases j' with
        | zero=>simp at hj';subst hj';exact hb'.elim
        | succ j' =>
          simp only [List.getElem?_cons_succ,List.getElem?_map,Option.map_eq_some_iff] at hj'
          obtain ⟨o1,ho1,rfl⟩:=hj'
          rw [upd_ne (by omega),Own_kill] at hb'
          exact g3 (j'+1) o1 (by simpa using ho1) hb'
  · cases j with
    | zero =>
      simp at hj;subst hj
      rw [upd_self] at hb
      right
      cases ro
      · exact .inl (.inr ⟨i,hilt,hb.1,hb.2⟩)
      · exact .inr (.inr ⟨i,hilt,hb.1,hb.2⟩)
    | succ j =>
      simp only [List.getElem?_cons_succ,List.getElem?_map,Option.map_eq_some_iff] at hj
      obtain ⟨o0,ho0,rfl⟩:=hj
      rw [upd_ne (by omega),Ro_kill] at hb
      exact .inl (hrel.ro (j+1) o0 b (by simpa using ho0) hb)
  · rcases hb with hb | hb
    · exact .inl (hrel.sub b hb)
    · exact .inr hb
 refine (h.run _ _ w _ w (v0::v::us) hrel1 ⟨v0,_,rfl,by rw [hlen];exact hv0.mono (Nat.le_refl _) hag,v,us,rfl,⟨by simp,by rw [upd_self];exact hh⟩,by rw [hlen];exact VAs.mono (Nat.le_refl _) hag hus⟩).mono ?_
 rintro e w' ⟨u,he,L2,x,M,H',k1,k2,k3,k4,k5⟩
 cases H' with
 | nil=>simp at k2
 | cons o' Hl' =>
 obtain ⟨hro,k5⟩:=k5
 have hag2:Agree (o'::Hl').length [0] L2 (upd L2 0 (L 0)):=fun j _ hm=>upd_ne (by simpa using hm)
 have hag3:Agree (PO.rows2 ro sz rss::Hl).length M L (upd L2 0 (L 0)):=fun j hj hm=>by
  by_cases h0:j=0
  · subst h0;rw [upd_self]
  · rw [upd_ne h0,k1 j (by rw [hlen];exact hj) hm,upd_ne h0]
 have hlen2:(PO.rows2 ro sz rss::Hl'.map (killO [0])).length=(o'::Hl').length:=by simp
 refine ⟨u,he,upd L2 0 (L 0),killA [0] x,M,_,hag3,by rw [hlen] at k2;rw [hlen2];exact k2,by rw [hlen2];exact k3.mono (Nat.le_refl _) hag2,?_,k5⟩
 have hbel:Bel B w w':=⟨k4.below.os,k4.below.tape,k4.below.output,k4.below.size,fun k hk=>k4.below.block k (.inl hk)⟩
 refine ⟨hrel.below.trans hbel,hrel.start,fun j o hj=>?_,fun j o b hj hb=>?_,fun j o b hj hb=>?_,hrel.sub⟩
 · cases j with
   | zero =>
     simp at hj;subst hj
     rw [upd_self]
     exact (hrel.obj 0 _ rfl).mono (M:=M) (by rw [hlen] at k2;rw [hlen2];exact k2) hag3 fun b hb=>k4.below.block b (.inr hb)
   | succ j =>
     simp only [List.getElem?_cons_succ,List.getElem?_map,Option.map_eq_some_iff] at hj
     obtain ⟨o0,ho0,rfl⟩:=hj
     rw [upd_ne (by omega),hlen2]
     exact (k4.obj (j+1) o0 (by simpa using ho0)).mono (Nat.le_refl _) hag2 fun _ _=>rfl
 · cases j with
   | zero =>
     simp at hj;subst hj
     rw [upd_self] at hb
     obtain ⟨g1,g2,_⟩:=hrel.own 0 _ b rfl hb
     refine ⟨g1,Nat.lt_of_lt_of_le g2 hbel.size,fun j' o1 hj' hb'=>?_⟩
     cases j' with
     | zero=>rfl
     | succ j' =>
       simp only [List.getElem?_cons_succ,List.getElem?_map,Option.map_eq_some_iff] at hj'
       obtain ⟨o0,ho0,rfl⟩:=hj'
       rw [upd_ne (by omega),Own_kill] at hb'
       exact absurd (.inr (.inl hb)) (k4.own (j'+1) o0 b (by simpa using ho0) hb').1
   | succ j =>
     simp only [List.getElem?_cons_succ,List.getElem?_map,Option.map_eq_some_iff] at hj
     obtain ⟨o0,ho0,rfl⟩:=hj
     rw [upd_ne (by omega),Own_kill] at hb
     obtain ⟨g1,g2,g3⟩:=k4.own (j+1) o0 b (by simpa using ho0) hb
     refine ⟨fun hB=>g1 (.inl hB),g2,fun j' o1 hj' hb'=>?_⟩
     cases j' with
     | zero =>
       simp at hj';subst hj'
       rw [upd_self] at hb'
       exact absurd (.inr (.inl hb')) g1
     | succ j' =>
       simp only [List.getElem?_cons_succ,List.getElem?_map,Option.map_eq_some_iff] at hj'
       obtain ⟨o2,ho2,rfl⟩:=hj'
       rw [upd_ne (by omega),Own_kill] at hb'
       exact g3 (j'+1) o2 (by simpa using ho2) hb'
 · cases j with
   | zero =>
     simp at hj;subst hj
     rw [upd_self] at hb
     exact hrel.ro 0 _ b rfl hb
   | succ j =>
     simp only [List.getElem?_cons_succ,List.getElem?_map,Option.map_eq_some_iff] at hj
     obtain ⟨o0,ho0,rfl⟩:=hj
     rw [upd_ne (by omega),Ro_kill] at hb
     cases ro with
     | false =>
       simp only [Bool.false_or] at hro
       exact absurd hb (noRo_spec hro j o0 _ b ho0)
     | true =>
       rcases k4.ro (j+1) o0 b (by simpa using ho0) hb with hb | hb | hb
       · exact hb
       · exact hb.elim
       · exact hrel.ro 0 _ b rfl hb

end Go.Mac
end

section
open Go Go.Proofs Go.Mac
set_option maxRecDepth 100000
namespace Go.Mac
section
abbrev callsH (ro:Bool) (ls:List (List CallZ)):PO:=.rows2 ro 2 (ls.map fun l=>l.map rowCallZ)

section

variable {K:KP}

end
end
section
def rsum (n:Nat) (g:Nat→Nat):Nat:=((List.range n).map g).sum

def relI (p:Int) (i:InsZ):InsZ :=
 if i.op=10 then { i with a:=p+i.a } else if i.op=11∨i.op=12∨i.op=13 then { i with c:=p+i.c } else i
end
section
inductive Pc where
 | aw (c:Nat)
 | tl (c n:Nat)
 | up (c s j:Nat)
 | dn (c s:Nat)

def pcLen:Pc→Nat
 | .aw _=>5
 | .tl _ _=>2
 | .up _ _ _=>8
 | .dn _ _=>4

def awI (p c:Nat):List InsZ:=[⟨6,1,c,0,0⟩,⟨12,1,0,(p:Int)+3,0⟩,⟨10,(p:Int)+5,0,0,0⟩,⟨14,c,1,0,0⟩,⟨10,p,0,0,0⟩]
def tlI (c n:Nat):List InsZ:=[⟨7,c,0,-1,0⟩,⟨15,c,n,-1,0⟩]

def pcI (q:Nat→Nat) (p:Nat):Pc→List InsZ
 | .aw c=>awI p c
 | .tl c n=>tlI c n
 | .up c s j=>[⟨8,1,c,1,0⟩,⟨11,1,(s:Int)-1,(p:Int)+8,0⟩]++awI (p+2) (c+1)++[⟨10,q j,0,0,0⟩]
 | .dn c s=>[⟨1,2,0,0,0⟩,⟨7,c,2,-1,0⟩]++tlI (c+1) s

theorem pcI_len (q:Nat→Nat) (p:Nat) (x:Pc):(pcI q p x).length=pcLen x:=by cases x <;> rfl

def offP (P:List Pc) (k:Nat):Nat:=((P.take k).map pcLen).sum

def bodyQ (q:Nat→Nat):Nat→List Pc→List InsZ
 | _,[]=>[]
 | p,x::xs=>pcI q p x++bodyQ q (p+pcLen x) xs

def bodyP (P:List Pc):List InsZ:=bodyQ (fun j=>5+offP P j) 5 P

def wholeZ (R:Nat) (b:List InsZ):List InsZ :=
 [⟨1,0,1,0,0⟩,⟨1,7,(R:Int)+1,0,0⟩,⟨12,0,7,4,0⟩,⟨0,0,0,0,0⟩,⟨16,1,0,0,0⟩]++(b++[⟨16,2,0,0,0⟩,⟨3,0,0,1,0⟩,⟨10,2,0,0,0⟩])

def danceP (R:Nat) (P:List Pc):List InsZ:=wholeZ R (bodyP P)

theorem offP_cons (x:Pc) (P:List Pc) (k:Nat):offP (x::P) (k+1)=pcLen x+offP P k:=by simp [offP]

theorem bodyQ_len (q:Nat→Nat):∀ (p:Nat) (P:List Pc),(bodyQ q p P).length=offP P P.length
 | _,[]=>rfl
 | p,x::P=>by rw [bodyQ,List.length_append,pcI_len,bodyQ_len q _ P,List.length_cons,offP_cons]

theorem danceP_len (R:Nat) (P:List Pc):(danceP R P).length=8+offP P P.length:=by
 have hl:(bodyP P).length=offP P P.length:=bodyQ_len _ _ _
 rw [danceP,wholeZ,List.length_append,List.length_append,hl]
 simp;omega

inductive NL where
 | p0
 | p1
 | head
 | halt
 | came
 | pc (k o:Nat)
 | gone
 | plus
 | jump
 | ended

structure AT where
 r:Nat
 x:Nat
 e:Nat
 l:NL

def pcN (P:List Pc):NL→Nat
 | .p0=>0
 | .p1=>1
 | .head=>2
 | .halt=>3
 | .came=>4
 | .pc k o=>5+offP P k+o
 | .gone=>5+offP P P.length
 | .plus=>5+offP P P.length+1
 | .jump=>5+offP P P.length+2
 | .ended=>4

def isEnd:NL→Bool
 | .ended=>true
 | _=>false

def concA (P:List Pc) (a:AT):ThZ:=⟨pcN P a.l,[a.r,a.x,0,0,0,0,0,a.e],isEnd a.l⟩

def nxL (P:List Pc) (k:Nat):NL:=if k<P.length then .pc k 0 else .gone

inductive Ef where
 | no
 | act (o:Int) (c x y:Nat)
 | slp (c:Nat)
 | wk (c n:Nat)
 | say (a:Int) (x:Nat)

def efS (t:Nat) (ss:List Slp):Ef→List Slp
 | .slp c=>ss++[⟨t,c⟩]
 | .wk c n=>(wakeL c n 0 ss).2
 | _=>ss

def updV (V:Nat→Nat) (c y:Nat):Nat→Nat:=fun d=>if d=c then y else V d

def efV (V:Nat→Nat):Ef→Nat→Nat
 | .act _ c _ y=>updV V c y
 | _=>V

def awA (V:Nat→Nat) (a:AT) (c:Nat) (o:Nat) (at':Nat→NL) (out:NL):AT×Ef :=
 match o with
 | 0=>({ a with x:=V c,l:=at' 1 },.act 6 c (V c) (V c))
 | 1=>({ a with l:=if a.x<a.r then at' 3 else at' 2 },.no)
 | 2=>({ a with l:=out },.no)
 | 3=>({ a with l:=at' 4 },if V c=a.x then .slp c else .no)
 | _=>({ a with l:=at' 0 },.no)

def stPc (Q:List Pc) (V:Nat→Nat) (a:AT) (k o:Nat):Pc→AT×Ef
 | .aw c=>awA V a c o (fun o=>.pc k o) (nxL Q (k+1))
 | .tl c n =>
   match o with
   | 0=>({ a with l:=.pc k 1 },.act 7 c (V c) a.r)
   | _=>({ a with l:=nxL Q (k+1) },.wk c n)
 | .up c s j =>
   match o with
   | 0=>({ a with x:=V c,l:=.pc k 1 },.act 8 c (V c) (V c+1))
   | 1=>({ a with l:=if (a.x:Int)=s-1 then nxL Q (k+1) else .pc k 2 },.no)
   | 7=>({ a with l:=nxL Q j },.no)
   | o+2=>awA V a (c+1) o (fun o=>.pc k (o+2)) (.pc k 7)
 | .dn c s =>
   match o with
   | 0=>({ a with l:=.pc k 1 },.no)
   | 1=>({ a with l:=.pc k 2 },.act 7 c (V c) 0)
   | 2=>({ a with l:=.pc k 3 },.act 7 (c+1) (V (c+1)) a.r)
   | _=>({ a with l:=nxL Q (k+1) },.wk (c+1) s)

def stA (R:Nat) (Q:List Pc) (V:Nat→Nat) (a:AT):AT×Ef :=
 match a.l with
 | .p0=>({ a with r:=1,l:=.p1 },.no)
 | .p1=>({ a with e:=R+1,l:=.head },.no)
 | .head=>({ a with l:=if a.r<a.e then .came else .halt },.no)
 | .halt=>({ a with l:=.ended },.no)
 | .came=>({ a with l:=nxL Q 0 },.say 1 a.r)
 | .pc k o =>
   match Q[k]? with
   | some y=>stPc Q V a k o y
   | none=>(a,.no)
 | .gone=>({ a with l:=.plus },.say 2 a.r)
 | .plus=>({ a with r:=a.r+1,l:=.jump },.no)
 | .jump=>({ a with l:=.head },.no)
 | .ended=>(a,.no)

def cellsL (nc:Nat) (V:Nat→Nat):List Int:=(List.range nc).map fun c=>(V c:Int)

def updA (A:Nat→AT) (t:Nat) (a:AT):Nat→AT:=fun s=>if s=t then a else A s
theorem updA_same (A:Nat→AT) (t:Nat) (a:AT):updA A t a t=a:=by rw [updA,if_pos rfl]
theorem updA_ne (A:Nat→AT) {t s:Nat} (a:AT) (h:s≠t):updA A t a s=A s:=by rw [updA,if_neg h]

def pcFit (nc:Nat):Pc→Bool
 | .aw c=>decide (c<nc)
 | .tl c _=>decide (c<nc)
 | .up c s _=>decide (c+1<nc∧1≤s∧s≤1000)
 | .dn c _=>decide (c+1<nc)

def pcTo (len:Nat):Pc→Bool
 | .up _ _ j=>decide (j≤len)
 | _=>true

def LocOk (P:List Pc):NL→Prop
 | .pc k o=>∃ x,P[k]? = some x∧o<pcLen x
 | _=>True

structure Abs (n nc R:Nat) (P:Nat→List Pc) (A:Nat→AT) (V:Nat→Nat) (m:MZ):Prop where
 wf:WF m
 ln:m.ts.length=n
 nk:m.nc=nc
 ps:∀ t,t<n→m.ps[t]? = some (danceP R (P t))
 ws:m.ws=cellsL nc V
 ts:∀ t,t<n→m.ts[t]? = some (concA (P t) (A t))
 lo:∀ t,t<n→LocOk (P t) (A t).l
 fit:∀ t,t<n→∀ x∈P t,pcFit nc x=true∧pcTo (P t).length x=true
 rb:∀ t,t<n→(A t).r≤m.k+1
 vb:∀ c,V c≤m.k+1
 R:R≤1000

section

variable {n nc R:Nat} {P:Nat→List Pc} {A:Nat→AT} {V:Nat→Nat} {m:MZ} {t:Nat} {x:ThZ} {p:List InsZ}

end
end
section
def tlO:Option Pc→Nat→Nat
 | some (.tl _ _),_+1=>1
 | _,_=>0

def doneL (Q:List Pc):NL→Nat
 | .pc k o=>k+tlO Q[k]? o
 | .gone=>Q.length
 | .plus=>Q.length
 | _=>0

def tg (Q:List Pc) (a:AT) (k:Nat):Nat:=if k<doneL Q a.l then a.r else a.r-1

def cmA (a:AT):Nat :=
 match a.l with
 | .pc _ _=>a.r
 | .gone=>a.r
 | .plus=>a.r
 | _=>a.r-1

def gnA (a:AT):Nat :=
 match a.l with
 | .plus=>a.r
 | _=>a.r-1

def RegOk (R:Nat) (a:AT):Prop :=
 match a.l with
 | .p0=>a.r=0∧a.e=0
 | .p1=>a.r=1∧a.e=0
 | .head=>1≤a.r∧a.r≤R+1∧a.e=R+1
 | .jump=>1≤a.r∧a.r≤R+1∧a.e=R+1
 | .halt=>a.r=R+1∧a.e=R+1
 | .ended=>a.r=R+1∧a.e=R+1
 | _=>1≤a.r∧a.r≤R∧a.e=R+1

def MicOk (a:AT) (o v:Nat):Prop :=
 match o with
 | 1=>a.x≤v∧a.r≤a.x+1
 | 2=>a.r≤v
 | 3=>a.x<a.r∧a.x≤v∧a.r≤a.x+1
 | _=>True

def isAw (c:Nat):Pc→Bool
 | .aw d=>d == c
 | _=>false

def awaits (Q:List Pc) (c:Nat):Bool:=Q.any (isAw c)
def wtN (n:Nat) (P:Nat→List Pc) (c:Nat):Nat:=rsum n fun u=>if awaits (P u) c=true then 1 else 0

structure NetOk (n:Nat) (P:Nat→List Pc) (wr:Nat→Option (Nat×Nat)):Prop where
 kind:∀ t,t<n→∀ x∈P t,(∃ c,x=.aw c)∨∃ c s,x=.tl c s∧wtN n P c≤s
 tl:∀ t,t<n→∀ (k c s:Nat),(P t)[k]? = some (.tl c s)→wr c=some (t,k)
 aw:∀ t,t<n→∀ (k c:Nat),(P t)[k]? = some (.aw c)→∃ u p s,wr c=some (u,p)∧u<n∧(P u)[p]? = some (.tl c s)

structure NI (n R:Nat) (P:Nat→List Pc) (wr:Nat→Option (Nat×Nat)) (A:Nat→AT) (V:Nat→Nat) (ss:List Slp):Prop where
 reg:∀ t,t<n→RegOk R (A t)
 cell:∀ t,t<n→∀ (k c s:Nat),(P t)[k]? = some (.tl c s)→V c=tg (P t) (A t) k
 none:∀ c,(∀ t p,wr c=some (t,p)→n≤t)→V c=0
 await:∀ t,t<n→∀ (k c:Nat),(P t)[k]? = some (.aw c)→tg (P t) (A t) k≤V c
 mic:∀ t,t<n→∀ (k o c:Nat),(A t).l=.pc k o→(P t)[k]? = some (.aw c)→MicOk (A t) o (V c)
 slp:∀ s∈ss,∃ (t k c:Nat),t<n∧s = ⟨(t:Int),(c:Int)⟩∧(A t).l=.pc k 4∧(P t)[k]? = some (.aw c)∧(V c<(A t).r∨∃ u p,wr c=some (u,p)∧(A u).l=.pc p 1)
 nd:(ss.map (·.t)).Nodup

section

variable {n nc R:Nat} {P:Nat→List Pc} {wr:Nat→Option (Nat×Nat)} {A:Nat→AT} {V:Nat→Nat} {ss:List Slp} {t:Nat}

def kn (P:Nat→List Pc) (wr:Nat→Option (Nat×Nat)):Nat→Nat→Nat→Nat→Bool
 | 0,t,_,u=>t == u
 | f+1,t,k,u=>t == u || (List.range (k+1)).any fun j=>match (P t)[j]? with
   | some (.aw c)=>match wr c with
     | some (w,p)=>kn P wr f w p u
     | none=>false
   | _=>false

def dpB (P:Nat→List Pc) (wr:Nat→Option (Nat×Nat)):Nat→Nat→Nat→Bool
 | 0,_,_=>false
 | f+1,t,k=>match (P t)[k]? with
   | some (.aw c)=>match wr c with
     | some (w,p)=>(List.range p).all fun j=>match (P w)[j]? with
       | some (.aw _)=>dpB P wr f w j
       | _=>true
     | none=>false
   | _=>false

end
end
section
def evS (n:Nat) (l:List EvZ):List Int×List Int:=l.foldl (fun p e=>(oneZ e p.1 p.2).2) (noughts n,noughts n)

structure Bar (n R:Nat) (P:Nat→List Pc) (I:(Nat→AT)→(Nat→Nat)→List Slp→Prop) (F:(Nat→AT)→(Nat→Nat)→List Slp→Nat):Prop where
 begin:I (fun _=>⟨0,0,0,.p0⟩) (fun _=>0) []
 go:∀ A V ss t,I A V ss→t<n→LocOk (P t) (A t).l→isEnd (A t).l=false→noT ss t →
  I (updA A t (stA R (P t) V (A t)).1) (efV V (stA R (P t) V (A t)).2) (efS t ss (stA R (P t) V (A t)).2)∧F (updA A t (stA R (P t) V (A t)).1) (efV V (stA R (P t) V (A t)).2) (efS t ss (stA R (P t) V (A t)).2)+1≤F A V ss
 poke:∀ A V ss (t:Int),I A V ss→I A V (ss.filter fun s=>s.t != t)∧F A V (ss.filter fun s=>s.t != t)≤F A V ss+4
 reg:∀ A V ss,I A V ss→∀ t,t<n→RegOk R (A t)
 safe:∀ A V ss t,I A V ss→t<n→(A t).l=.gone→∀ u,u<n→(A t).r≤cmA (A u)
 live:∀ A V ss,I A V ss→(∀ t,t<n→(A t).l=.ended∨∃ s∈ss,s.t=t)→∀ t,t<n→(A t).l=.ended

structure EvI (n:Nat) (A:Nat→AT) (el:List EvZ):Prop where
 ok:checkZ n el=none
 c:(evS n el).1=(List.range n).map fun t=>(cmA (A t):Int)
 g:(evS n el).2=(List.range n).map fun t=>(gnA (A t):Int)
 len:el.length=rsum n fun t=>cmA (A t)+gnA (A t)

structure DI (n nc R:Nat) (P:Nat→List Pc) (I:(Nat→AT)→(Nat→Nat)→List Slp→Prop) (F:(Nat→AT)→(Nat→Nat)→List Slp→Nat) (b:Nat) (A:Nat→AT) (V:Nat→Nat) (m:MZ):Prop where
 abs:Abs n nc R P A V m
 inv:I A V m.ss
 ev:EvI n A m.el
 pot:F A V m.ss+m.k≤b

section

variable {n nc R:Nat} {P:Nat→List Pc} {I:(Nat→AT)→(Nat→Nat)→List Slp→Prop} {F:(Nat→AT)→(Nat→Nat)→List Slp→Nat} {b:Nat} {A:Nat→AT} {V:Nat→Nat} {m:MZ}

end
end
section
section

variable {n R:Nat} {P:Nat→List Pc} {wr:Nat→Option (Nat×Nat)} {A:Nat→AT} {V:Nat→Nat} {ss:List Slp} {t:Nat}

end
end
end Go.Mac
end
