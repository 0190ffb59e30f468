/- Texts that belong together; the first of them:  -/
import Derived.Test.YtollgfhpcidkgaaGreatDoorQTree2
import Derived.Test.YtollgfhpcidkgaaGreatDoorProg
import Derived.Test.YtollgfhpcidkgaaGreatDoorA3
import Derived.Test.YtollgfhpcidkgaaGreatDoorA7

section
open Go Go.Proofs Go.Mac
set_option maxRecDepth 100000

namespace Go.Mac

def phiT (n N R:Nat) (P:Nat→List Pc) (A:Nat→AT) (V:Nat→Nat) (ss:List Slp):Nat :=
 rsum n (fun t=>phi n R P (P t) V (aslS ss t) (A t))+rsum N fun v=>4*n*(R-V (2*v+1))

theorem costB_anti {n:Nat} {P:Nat→List Pc} {Q:List Pc} {k:Nat}:∀ d,costB n P Q (k+d)≤costB n P Q k
 | 0=>Nat.le_refl _
 | d+1=>by
   have h1:=costB_anti (n:=n) (P:=P) (Q:=Q) (k:=k) d
   by_cases h:k+d<Q.length
   · have:=costB_step (n:=n) (P:=P) (List.getElem?_eq_getElem h)
     rw [show k+(d+1)=k+d+1 by omega]
     omega
   · rw [costB_end (by omega:Q.length≤k+(d+1))]
     exact Nat.zero_le _

section

variable {n N R h:Nat} {P:Nat→List Pc} {par sz:Nat→Nat} {p:Nat→Nat→Nat} {lev:Nat→Nat} {b:Nat→Nat} {A:Nat→AT} {V:Nat→Nat} {ss:List Slp} {t:Nat}

theorem tree_mem (hT:TreeOk n N h P par sz p lev) (ht:t<n) {y:Pc} (hy:y∈P t):(∃ i,i<h∧y=.up (2*p t i) (sz (p t i)) (2*h-i))∨∃ i,i<h∧y=.dn (2*p t i) (sz (p t i)):=by
 obtain ⟨k,hk⟩:=List.mem_iff_getElem?.1 hy
 have hkl:=(List.getElem?_eq_some_iff.1 hk).1
 rw [hT.len t ht] at hkl
 by_cases h1:k<h
 · rw [hT.up t ht k h1] at hk
   exact .inl ⟨k,h1,(Option.some.inj hk).symm⟩
 · have:=hT.dn t ht (2*h-1-k) (by omega)
   rw [show 2*h-1-(2*h-1-k)=k by omega,hk] at this
   exact .inr ⟨_,by omega,Option.some.inj this⟩

theorem tree_one (hT:TreeOk n N h P par sz p lev) (ht:t<n) {a':AT} {V':Nat→Nat} {ss':List Slp} (hG:∀ w,V' (2*w+1)=V (2*w+1)) (h2:∀ u,u≠t→aslS ss' u=aslS ss u)
   (h3:phi n R P (P t) V' (aslS ss' t) a'+1≤phi n R P (P t) V (aslS ss t) (A t)):phiT n N R P (updA A t a') V' ss'+1≤phiT n N R P A V ss:=by
 have h4:=pot_one (n:=n) (t:=t) (g:=fun u=>phi n R P (P u) V' (aslS ss' u) (updA A t a' u)) (h:=fun u=>phi n R P (P u) V (aslS ss u) (A u)) ht (fun u hu hne=>by
   rw [updA_ne _ _ hne,h2 u hne]
   refine phi_le' ⟨fun c s j hm=>?_,fun c hm=>?_⟩ fun h=>h
   · rcases tree_mem hT hu hm with ⟨i,_,e⟩ | ⟨i,_,e⟩
     · injection e with e _ _
       rw [e,hG]
       exact Nat.le_refl _
     · cases e
   · rcases tree_mem hT hu hm with ⟨i,_,e⟩ | ⟨i,_,e⟩ <;> cases e) (by rw [updA_same];exact h3)
 have h5:rsum N (fun v=>4*n*(R-V' (2*v+1)))=rsum N fun v=>4*n*(R-V (2*v+1)):=rsum_cong fun v _=>by rw [hG]
 rw [phiT,phiT,h5]
 omega

set_option maxHeartbeats 1000000 in
theorem TI.pot (hT:TreeOk n N h P par sz p lev) (hI:TI n N R h P par sz p b A V ss) (ht:t<n) (hd:isEnd (A t).l=false) (hno:noT ss t) :
   phiT n N R P (updA A t (stA R (P t) V (A t)).1) (efV V (stA R (P t) V (A t)).2) (efS t ss (stA R (P t) V (A t)).2)+1≤phiT n N R P A V ss:=by
 have hreg:=hI.reg t ht
 have hlo:=hI.lo t ht
 have hmic:=hI.mic t ht
 have he2:=hI.e2 t ht
 have hl2:=hT.len t ht
 have hh1:=hT.h1
 have has:aslS ss t=false:=by
   rw [aslS,List.any_eq_false]
   exact fun s hs=>by simpa using hno s hs
 have one:=fun a' V' ss'=>tree_one (R:=R) (A:=A) (V:=V) (ss:=ss) (a':=a') (V':=V') (ss':=ss') hT ht
 rw [has] at one
 generalize hA:A t=a at *
 obtain ⟨r,x,e,l⟩:=a
 cases l with
 | p0 =>
   obtain rfl:r=0:=hreg.1
   exact one ⟨1,x,e,.p1⟩ V ss (fun _=>rfl) (fun u _=>rfl) (Nat.le_refl _)
 | p1 =>
   obtain rfl:r=1:=hreg.1
   refine one ⟨1,x,R+1,.head⟩ V ss (fun _=>rfl) (fun u _=>rfl) ?_
   show (R+1-1)*costR n P (P t)+2+1≤R*costR n P (P t)+3
   rw [Nat.add_sub_cancel]
   exact Nat.le_refl _
 | head =>
   obtain ⟨h1,h2,h3⟩ : 1≤r∧r≤R+1∧e=R+1:=hreg
   refine one ⟨r,x,e,if r<e then .came else .halt⟩ V ss (fun _=>rfl) (fun u _=>rfl) ?_
   split
   · show (R-r)*costR n P (P t)+costB n P (P t) 0+6+1≤(R+1-r)*costR n P (P t)+2
     rw [show R+1-r=R-r+1 by omega,Nat.succ_mul]
     show _≤_+(costB n P (P t) 0+5)+2
     omega
   · show 1+1≤_+2
     omega
 | halt=>exact one ⟨r,x,e,.ended⟩ V ss (fun _=>rfl) (fun u _=>rfl) (Nat.le_refl _)
 | ended=>cases hd
 | came =>
   refine one ⟨r,x,e,nxL (P t) 0⟩ V ss (fun _=>rfl) (fun u _=>rfl) ?_
   have:=phi_nx (n:=n) (R:=R) (P:=P) (Q:=P t) (V:=V) (asl:=aslS ss t) (r:=r) (x:=x) (e:=e) (k:=0)
   show _+1≤(R-r)*costR n P (P t)+costB n P (P t) 0+6
   omega
 | gone=>exact one ⟨r,x,e,.plus⟩ V ss (fun _=>rfl) (fun u _=>rfl) (Nat.le_refl _)
 | plus =>
   refine one ⟨r+1,x,e,.jump⟩ V ss (fun _=>rfl) (fun u _=>rfl) ?_
   show (R+1-(r+1))*costR n P (P t)+3+1≤(R-r)*costR n P (P t)+4
   rw [Nat.add_sub_add_right]
   exact Nat.le_refl _
 | jump=>exact one ⟨r,x,e,.head⟩ V ss (fun _=>rfl) (fun u _=>rfl) (Nat.le_refl _)
 | pc k o =>
   obtain ⟨y,hy,ho⟩:=hlo
   have hkl:=(List.getElem?_eq_some_iff.1 hy).1
   obtain ⟨h1,h2,h3⟩ : 1≤r∧r≤R∧e=R+1:=hreg
   have hnx:∀ (V':Nat→Nat) asl x' j,k+1≤j→phi n R P (P t) V' asl ⟨r,x',e,nxL (P t) j⟩≤(R-r)*costR n P (P t)+5+costB n P (P t) (k+1):=fun V' asl x' j hj=>by
     have h8:=phi_nx (n:=n) (R:=R) (P:=P) (Q:=P t) (V:=V') (asl:=asl) (r:=r) (x:=x') (e:=e) (k:=j)
     have h9:=costB_anti (n:=n) (P:=P) (Q:=P t) (k:=k+1) (j-(k+1))
     rw [show k+1+(j-(k+1))=j by omega] at h9
     omega
   by_cases hk:k<h
   · have hyu:=hT.up t ht k hk
     rw [hyu] at hy
     obtain rfl:=Option.some.inj hy
     obtain ⟨hvN,hlev⟩:=hT.node t ht k hk
     have hph:∀ (V':Nat→Nat) asl x' o',phi n R P (P t) V' asl ⟨r,x',e,.pc k o'⟩ = (R-r)*costR n P (P t)+5+costB n P (P t) (k+1)+inC n P V' asl r x' o' (.up (2*p t k) (sz (p t k)) (2*h-k)):=fun V' asl x' o'=>by rw [phi_pc,hyu];rfl
     rw [stA_pc hyu]
     rcases o with _ | _ | o
     · refine one ⟨r,V (2*p t k),e,.pc k 1⟩ (updV V (2*p t k) (V (2*p t k)+1)) ss (fun w=>updV_ne (by omega)) (fun u _=>rfl) ?_
       rw [hph,hph]
       show _+(if _ then 1 else 9)+1≤_+10
       split <;> omega
     · show phiT n N R P (updA A t ⟨r,x,e,if (x:Int)=sz (p t k)-1 then nxL (P t) (k+1) else .pc k 2⟩) V ss+1≤_
       refine one _ V ss (fun w=>rfl) (fun u _=>rfl) ?_
       rw [hph]
       by_cases hx:x+1=sz (p t k)
       · rw [if_pos (by omega)]
         have:=hnx V (aslS ss t) x (k+1) (Nat.le_refl _)
         show _+1≤_+(if x+1=sz (p t k) then 1 else 9)
         rw [if_pos hx]
         omega
       · rw [if_neg (by omega),hph]
         show _+((if r≤V (2*p t k+1) then 3 else 7)+1)+1≤_+(if x+1=sz (p t k) then 1 else 9)
         rw [if_neg hx]
         split <;> omega
     · obtain ⟨m1,m2,m3⟩:=hmic k o hk rfl
       by_cases h5:o=5
       · subst h5
         refine one ⟨r,x,e,nxL (P t) (2*h-k)⟩ V ss (fun w=>rfl) (fun u _=>rfl) ?_
         have:=hnx V (aslS ss t) x (2*h-k) (by omega)
         rw [hph]
         show _+1≤_+1
         omega
       · have hst:stPc (P t) V ⟨r,x,e,.pc k (o+1+1)⟩ k (o+1+1) (.up (2*p t k) (sz (p t k)) (2*h-k))=awA V ⟨r,x,e,.pc k (o+1+1)⟩ (2*p t k+1) o (fun o=>.pc k (o+2)) (.pc k 7):=stPc_up h5
         rw [hst]
         have hph2:∀ (V':Nat→Nat) asl x' o',o'≠5→phi n R P (P t) V' asl ⟨r,x',e,.pc k (o'+2)⟩ = (R-r)*costR n P (P t)+5+costB n P (P t) (k+1)+(awC r x' o' (V' (2*p t k+1)) asl+1):=fun V' asl x' o' ho'=>by rw [hph,inC_up ho']
         have ho5:o<5:=by
           have:o+1+1<8:=ho
           omega
         have hcur:phi n R P (P t) V false ⟨r,x,e,.pc k (o+1+1)⟩ = (R-r)*costR n P (P t)+5+costB n P (P t) (k+1)+(awC r x o (V (2*p t k+1)) false+1):=hph2 V false x o h5
         rcases o with _ | _ | _ | _ | _ | o
         · show phiT n N R P (updA A t ⟨r,V (2*p t k+1),e,.pc k (1+2)⟩) (updV V (2*p t k+1) (V (2*p t k+1))) ss+1≤_
           rw [updV_same]
           refine one _ V ss (fun w=>rfl) (fun u _=>rfl) ?_
           rw [hcur,hph2 _ _ _ 1 (by decide)]
           show _+((if r≤V (2*p t k+1) then 2 else 6)+1)+1≤_+((if r≤V (2*p t k+1) then 3 else 7)+1)
           split <;> omega
         · show phiT n N R P (updA A t ⟨r,x,e,if x<r then .pc k (3+2) else .pc k (2+2)⟩) V ss+1≤_
           refine one _ V ss (fun w=>rfl) (fun u _=>rfl) ?_
           rw [hcur]
           by_cases hx:x<r
           · rw [if_pos hx,hph2 _ _ _ 3 (by decide)]
             show _+(5+1)+1≤_+((if r≤x then 2 else 6)+1)
             rw [if_neg (by omega)]
             omega
           · rw [if_neg hx,hph2 _ _ _ 2 (by decide)]
             show _+(1+1)+1≤_+((if r≤x then 2 else 6)+1)
             split <;> omega
         · show phiT n N R P (updA A t ⟨r,x,e,.pc k 7⟩) V ss+1≤_
           refine one _ V ss (fun w=>rfl) (fun u _=>rfl) ?_
           rw [hcur,hph]
           show _+1+1≤_+(1+1)
           omega
         · have hm:x<r∧x≤V (2*p t k+1)∧r≤x+1:=m1
           show phiT n N R P (updA A t ⟨r,x,e,.pc k (4+2)⟩) (efV V (if V (2*p t k+1)=x then .slp (2*p t k+1) else .no)) (efS t ss (if V (2*p t k+1)=x then .slp (2*p t k+1) else .no))+1≤_
           by_cases hv:V (2*p t k+1)=x
           · rw [if_pos hv]
             refine one _ V (ss++[⟨(t:Int),((2*p t k+1:Nat):Int)⟩]) (fun w=>rfl) (fun u hu=>asl_snoc hu) ?_
             have:aslS (ss++[⟨(t:Int),((2*p t k+1:Nat):Int)⟩]) t=true:=by
               rw [aslS,List.any_append]
               simp
             rw [this,hcur,hph2 _ _ _ 4 (by decide)]
             show _+(4+1)+1≤_+(5+1)
             omega
           · rw [if_neg hv]
             refine one _ V ss (fun w=>rfl) (fun u hu=>rfl) ?_
             rw [hcur,hph2 _ _ _ 4 (by decide)]
             show _+((if aslS ss t=true∨r≤V (2*p t k+1) then 4 else 8)+1)+1≤_+(5+1)
             rw [if_pos (.inr (by omega))]
             omega
         · show phiT n N R P (updA A t ⟨r,x,e,.pc k (0+2)⟩) V ss+1≤_
           refine one _ V ss (fun w=>rfl) (fun u _=>rfl) ?_
           rw [hcur,hph2 _ _ _ 0 (by decide)]
           show _+((if r≤V (2*p t k+1) then 3 else 7)+1)+1≤_+((if false=true∨r≤V (2*p t k+1) then 4 else 8)+1)
           split
           · rename_i h9
             rw [if_pos (.inr h9)]
             omega
           · rename_i h9
             rw [if_neg (fun h2=>by rcases h2 with h2 | h2;cases h2;exact h9 h2)]
             omega
         · omega
   · obtain ⟨i,hi,rfl⟩ : ∃ i,i<h∧k=2*h-1-i:=⟨2*h-1-k,by omega,by omega⟩
     have hyd:=hT.dn t ht i hi
     rw [hyd] at hy
     obtain rfl:=Option.some.inj hy
     obtain ⟨hvN,hlev⟩:=hT.node t ht i hi
     have hph:∀ (V':Nat→Nat) asl x' o',phi n R P (P t) V' asl ⟨r,x',e,.pc (2*h-1-i) o'⟩ = (R-r)*costR n P (P t)+5+costB n P (P t) (2*h-1-i+1)+inC n P V' asl r x' o' (.dn (2*p t i) (sz (p t i))):=fun V' asl x' o'=>by rw [phi_pc,hyd];rfl
     rw [stA_pc hyd]
     rcases o with _ | _ | _ | _ | o
     · refine one ⟨r,x,e,.pc (2*h-1-i) 1⟩ V ss (fun w=>rfl) (fun u _=>rfl) ?_
       rw [hph,hph]
       exact Nat.le_refl _
     · refine one ⟨r,x,e,.pc (2*h-1-i) 2⟩ (updV V (2*p t i) 0) ss (fun w=>updV_ne (by omega)) (fun u _=>rfl) ?_
       rw [hph,hph]
       exact Nat.le_refl _
     · have hgr:V (2*p t i+1)+1=r:=by
         refine he2 i ?_
         rw [hi_dn hk,if_pos (Nat.le_refl _)]
         omega
       have h4:=rsum_upd (n:=n) (t:=t) (g:=fun u=>phi n R P (P u) (updV V (2*p t i+1) r) (aslS ss u) (updA A t ⟨r,x,e,.pc (2*h-1-i) 3⟩ u)) (h:=fun u=>phi n R P (P u) V (aslS ss u) (A u)) ht fun u hu hne=>by
         rw [updA_ne _ _ hne]
         refine phi_le (fun c=>?_) fun h=>h
         by_cases e9:c=2*p t i+1
         · subst e9;rw [updV_at];omega
         · rw [updV_ne e9];exact Nat.le_refl _
       have h5:=rsum_set (n:=N) (t:=p t i) (g:=fun v=>4*n*(R-updV V (2*p t i+1) r (2*v+1))) (h:=fun v=>4*n*(R-V (2*v+1))) hvN fun v hv=>by rw [updV_ne (by omega)]
       rw [updA_same,hph,hA,hph,has] at h4
       rw [updV_at] at h5
       show rsum n _+rsum N _+1≤rsum n _+rsum N _
       have h6:4*n*(R-V (2*p t i+1))=4*n*(R-r)+4*n:=by
         rw [show R-V (2*p t i+1)=R-r+1 by omega,Nat.mul_succ]
       rw [h6] at h5
       change rsum n (fun u=>phi n R P (P u) (updV V (2*p t i+1) r) (aslS ss u) (updA A t ⟨r,x,e,.pc (2*h-1-i) 3⟩ u))+(_+2)≤rsum n (fun u=>phi n R P (P u) V (aslS ss u) (A u))+(_+(1+4*n)) at h4
       change rsum n (fun u=>phi n R P (P u) (updV V (2*p t i+1) r) (aslS ss u) (updA A t ⟨r,x,e,.pc (2*h-1-i) 3⟩ u))+rsum N (fun v=>4*n*(R-updV V (2*p t i+1) r (2*v+1)))+1≤rsum n (fun u=>phi n R P (P u) V (aslS ss u) (A u))+rsum N fun v=>4*n*(R-V (2*v+1))
       omega
     · have hwk:(wakeL ((2*p t i+1:Nat):Int) (sz (p t i)) 0 ss).2=ss.filter fun x=>x.c != ((2*p t i+1:Nat):Int):=wakeL_filter _ _ ss 0 (by have:=hI.sleepers hT hvN;omega)
       show phiT n N R P (updA A t ⟨r,x,e,nxL (P t) (2*h-1-i+1)⟩) V (wakeL ((2*p t i+1:Nat):Int) (sz (p t i)) 0 ss).2+1≤_
       rw [hwk]
       have h4:=pot_wake (n:=n) (t:=t) (g:=fun u=>phi n R P (P u) V (aslS (ss.filter fun x=>x.c != ((2*p t i+1:Nat):Int)) u) (updA A t ⟨r,x,e,nxL (P t) (2*h-1-i+1)⟩ u)) (h:=fun u=>phi n R P (P u) V (aslS ss u) (A u)) (w:=fun _=>1) (b:=n) ht (fun u hu hne=>by
         rw [updA_ne _ _ hne]
         exact phi_wake) (by rw [rsum_same];omega) (by
         have:=hnx V (aslS (ss.filter fun x=>x.c != ((2*p t i+1:Nat):Int)) t) x (2*h-1-i+1) (Nat.le_refl _)
         rw [updA_same,hA,hph]
         show _+1+4*n≤_+(1+4*n)
         omega)
       rw [phiT,phiT]
       omega
     · exact absurd ho (by show ¬o+4<4;omega)

theorem TI.pokeF (A:Nat→AT) (V:Nat→Nat) (ss:List Slp) (t:Int):phiT n N R P A V (ss.filter fun s=>s.t != t)≤phiT n N R P A V ss+4:=by
 have:=NI.pokeF (n:=n) (R:=R) (P:=P) A V ss t
 rw [phiN,phiN] at this
 rw [phiT,phiT]
 omega

theorem tree_bar (hT:TreeOk n N h P par sz p lev):Bar n R P (fun A V ss=>∃ b,TI n N R h P par sz p b A V ss) (phiT n N R P) :=
 ⟨⟨_,TI.begin hT⟩,fun _ _ _ _ ⟨_,hI⟩ ht _ hd hno=>⟨hI.go hT ht hd hno,hI.pot hT ht hd hno⟩,fun A V ss t ⟨b,hI⟩=>⟨⟨b,hI.poke t⟩,TI.pokeF A V ss t⟩,fun _ _ _ ⟨_,hI⟩=>hI.reg,fun _ _ _ _ ⟨_,hI⟩ ht hg _u hu=>hI.safe hT ht hg hu,fun _ _ _ ⟨_,hI⟩ hs=>hI.live hT hs⟩

end

end Go.Mac
end

section
open Go Go.Proofs Go.Mac
set_option maxRecDepth 100000

namespace Go.Mac

def bodyN (P:List Pc):List InsZ:=bodyQ (fun _=>0) 5 P

def isNet:Pc→Bool
 | .aw _=>true
 | .tl _ _=>true
 | _=>false

theorem bodyQ_net {q q':Nat→Nat}:∀ (p:Nat) (P:List Pc),(∀ x∈P,isNet x=true)→bodyQ q p P=bodyQ q' p P
 | _,[],_=>rfl
 | p,x::P,h=>by
   rw [bodyQ,bodyQ,bodyQ_net (q:=q) (q':=q') _ P fun y hy=>h y (by simp [hy])]
   have:=h x (by simp)
   cases x <;> first | rfl | cases this

theorem bodyP_net {P:List Pc} (h:∀ x∈P,isNet x=true):bodyP P=bodyN P:=bodyQ_net 5 P h

theorem bodyQ_app (q:Nat→Nat):∀ (P Q:List Pc) (p:Nat),bodyQ q p (P++Q)=bodyQ q p P++bodyQ q (p+offP P P.length) Q
 | [],_,_=>rfl
 | x::P,Q,p=>by
   rw [List.cons_append,bodyQ,bodyQ_app q P Q,bodyQ,List.append_assoc,List.length_cons,offP_cons,Nat.add_assoc]

theorem bodyN_snoc (P:List Pc) (x:Pc):bodyN (P++[x])=bodyN P++pcI (fun _=>0) (5+(bodyN P).length) x:=by
 rw [bodyN,bodyQ_app,bodyN,bodyQ_len]
 show _++(pcI _ _ x++[])=_
 rw [List.append_nil]

theorem bodyN_len (P:List Pc):(bodyN P).length=offP P P.length:=bodyQ_len _ _ _

theorem offP_app (P Q:List Pc):offP (P++Q) (P++Q).length=offP P P.length+offP Q Q.length:=by
 rw [offP,offP,offP,List.take_length,List.take_length,List.take_length,List.map_append,List.sum_append]

def awL (b j:Nat):List Pc:=(List.range j).map fun i=>.aw (b+i)
def tlL (b j:Nat):List Pc:=(List.range j).map fun i=>.tl (b+i) 1

theorem awL_succ (b j:Nat):awL b (j+1)=awL b j++[.aw (b+j)]:=by simp [awL,List.range_succ]
theorem tlL_succ (b j:Nat):tlL b (j+1)=tlL b j++[.tl (b+j) 1]:=by simp [tlL,List.range_succ]

theorem awL_off (b:Nat):∀ j,offP (awL b j) (awL b j).length=5*j
 | 0=>rfl
 | j+1=>by rw [awL_succ,offP_app,awL_off b j];show 5*j+5=_;omega

theorem tlL_off (b:Nat):∀ j,offP (tlL b j) (tlL b j).length=2*j
 | 0=>rfl
 | j+1=>by rw [tlL_succ,offP_app,tlL_off b j];show 2*j+2=_;omega

def staticP (n id:Nat):List Pc:=awL (2*id+1) (min 2 (n-(2*id+1)))++if id=0 then [.tl n n] else [.tl id 1,.aw n]

def mcsP (n id:Nat):List Pc:=awL (4*id+1) (min 4 (n-(4*id+1)))++((if 0<id then [.tl id 1,.aw (n+id)] else [])++tlL (n+(2*id+1)) (min 2 (n-(2*id+1))))

def levN (n:Nat):Nat:=if n≤1 then 0 else if n≤2 then 1 else if n≤4 then 2 else if n≤8 then 3 else 4

def spreadU (n id:Nat):Nat→List Pc
 | 0=>[]
 | r+1=>spreadU n id r++[.tl ((id+2 ^ r) % n*levN n+r) 1,.aw (id*levN n+r)]
def spreadP (n id:Nat):List Pc:=spreadU n id (levN n)

def loseN (L id:Nat):Nat→Nat→Nat
 | 0,r=>r
 | f+1,r=>if r<L∧id / 2 ^ r % 2=0 then loseN L id f (r+1) else r

def tourneyU (n id:Nat):Nat→List Pc
 | 0=>[]
 | r+1=>tourneyU n id r++if id+2 ^ r<n then [.aw (id*levN n+r)] else []
def tourneyD (n id:Nat):Nat→List Pc
 | 0=>[]
 | r+1=>(if id+2 ^ r<n then [.tl (n*levN n+id+2 ^ r) 1] else [])++tourneyD n id r
def tourneyP (n id:Nat):List Pc :=
 let r:=loseN (levN n) id 5 0
 tourneyU n id r++((if r<levN n then [.tl ((id-2 ^ r)*levN n+r) 1,.aw (n*levN n+id)] else [])++tourneyD n id r)

def centralP (n:Nat):List Pc:=[.up 0 n 2,.dn 0 n]

def cntN (n:Nat):Nat→Nat
 | 0=>(n+1) / 2
 | j+1=>(cntN n j+1) / 2
def firstN (n:Nat):Nat→Nat
 | 0=>0
 | j+1=>firstN n j+cntN n j
def hgtN (n:Nat):Nat:=if n≤2 then 1 else if n≤4 then 2 else if n≤8 then 3 else 4
def nodeN (n id j:Nat):Nat:=firstN n j+id / 2 ^ (j+1)
def sizeN (n id j:Nat):Nat:=min 2 ((match j with | 0=>n | j+1=>cntN n j)-2*(id / 2 ^ (j+1)))
def combU (n id h:Nat):Nat→List Pc
 | 0=>[]
 | j+1=>combU n id h j++[.up (2*nodeN n id j) (sizeN n id j) (2*h-j)]
def combD (n id:Nat):Nat→List Pc
 | 0=>[]
 | j+1=>.dn (2*nodeN n id j) (sizeN n id j)::combD n id j
def combineP (n id:Nat):List Pc:=combU n id (hgtN n) (hgtN n)++combD n id (hgtN n)

def kindP (k n id:Nat):List Pc :=
 match k with
 | 1=>centralP n
 | 2=>combineP n id
 | 3=>staticP n id
 | 4=>spreadP n id
 | 5=>tourneyP n id
 | _=>mcsP n id

def kindC (k n:Nat):Nat :=
 match k with
 | 1=>2
 | 2=>2*firstN n (hgtN n)
 | 3=>n+1
 | 4=>n*levN n
 | 5=>n*levN n+n
 | _=>2*n

def kindPs (k n R:Nat):List (List InsZ):=(List.range n).map fun id=>danceP R (kindP k n id)

end Go.Mac
end

section
open Go Go.Proofs Go.Mac
set_option maxRecDepth 100000

namespace Go.Mac

section

variable {K:AV→List Nat→List PO→Prop}

end

end Go.Mac
end

section
open Go Go.Proofs Go.Mac
set_option maxRecDepth 100000

namespace Go.Mac

def isLev (n:Int) (l:Nat):Prop:=l≤61∧n≤2 ^ l∧(0<l→(2:Int) ^ (l-1)<n)

theorem pow_mono {a b:Nat} (h:a≤b):(2:Int) ^ a≤2 ^ b:=by
 have:=Nat.pow_le_pow_right (n:=2) (by decide) h
 exact_mod_cast this

theorem isLev_mono {n m:Int} {l k:Nat} (h1:isLev n l) (h2:isLev m k) (h:n≤m):l≤k:=by
 rcases Nat.lt_or_ge k l with hlt | hge
 · have h3:=h1.2.2 (by omega)
   have h4:=pow_mono (show k≤l-1 by omega)
   have h5:=h2.2.1
   omega
 · exact hge

theorem isLev_unique {n:Int} {l k:Nat} (h1:isLev n l) (h2:isLev n k):l=k :=
 Nat.le_antisymm (isLev_mono h1 h2 (Int.le_refl _)) (isLev_mono h2 h1 (Int.le_refl _))

section

variable {K:AV→List Nat→List PO→Prop}

theorem levels (n:Int) (hn:n≤2305843009213693952) (hK:∀ l:Nat,isLev n l→K (i64 l) [] []):Does Tryz.prog 258 [i64 n] [] K:=by
 refine does Tryz.func258 rfl (by decide) ?_
 refine SS.loop (fun l:Nat=>l≤61∧(0<l→(2:Int) ^ (l-1)<n)) (fun l=>[(0,i64 n),(3,i64 l),(4,i64 (2 ^ l))]) (fun _=>[]) (fun l=>62-l) []
   (At.mk' [0,3,4] 0 (by simp) ⟨rfl,rfl⟩ rfl rfl (by simp) (by simp) (by simp)) ?_
 rintro l ⟨hl,hp⟩
 refine S_r ?_
 refine brc_intro (fun h=>?_) (fun h=>?_)
 · have h:=of_decide_eq_true h
   refine brc_intro (fun h'=>?_) (fun h'=>?_)
   · have hl':l<61:=by
       rcases Nat.lt_or_ge l 61 with h | h
       · exact h
       · have:l=61:=by omega
         subst this
         omega
     have hp2:(2:Int) ^ (l+1)=2 ^ l*2:=by rw [Int.pow_succ]
     have hp3:=pow_mono (show l+1≤61 by omega)
     have hp0:(0:Int)<2 ^ l:=Int.pow_pos (by decide)
     have e1:IntKind.i64.wrap ((l:Int)+1)=((l+1:Nat):Int):=by rw [wrap_i64] <;> omega
     have e2:IntKind.i64.wrap ((2:Int) ^ l*2)=2 ^ (l+1):=by rw [wrap_i64] <;> omega
     exact At.mk' [0,3,4] (l+1) ⟨⟨by omega,fun _=>h⟩,by omega⟩ ⟨by simp only [e1,e2],rfl⟩ rfl rfl (by simp) (by simp) (by simp)
   · have h':=of_decide_eq_false h'
     omega
 · have h:=of_decide_eq_false h
   exact hK l ⟨hl,by omega,hp⟩

theorem tell (cell n:Int) (hK:K (cv (.slc 0 0 2 none true)) [] [.rows false 5 [rowIns ⟨7,cell,0,-1,0⟩,rowIns ⟨15,cell,n,-1,0⟩]]):Does Tryz.prog 275 [i64 cell,i64 n] [] K:=by
 refine does Tryz.func275 rfl (by decide) ?_
 exact hK

theorem await (place cell:Int) (h:0≤place∧place≤1000000)
   (hK:K (cv (.slc 0 0 5 none true)) [] [.rows false 5 [rowIns ⟨6,1,cell,0,0⟩,rowIns ⟨12,1,0,place+3,0⟩,rowIns ⟨10,place+5,0,0,0⟩,rowIns ⟨14,cell,1,0,0⟩,rowIns ⟨10,place,0,0,0⟩]]) :
   Does Tryz.prog 274 [i64 place,i64 cell] [] K:=by
 rw [←wrap_i64 (place+3) (by omega) (by omega),←wrap_i64 (place+5) (by omega) (by omega)] at hK
 refine does Tryz.func274 rfl (by decide) ?_
 exact hK

end

end Go.Mac
end

section
open Go Go.Proofs Go.Mac
set_option maxRecDepth 100000

namespace Go.Mac

section

variable {K:AV→List Nat→List PO→Prop}

theorem partCheck {n id R:Nat} (hn:1≤n∧n≤16) (hid:id<n) (hR:R≤20) (hK:K (cv .niliface) [] []):Does Tryz.prog 252 [i64 n,i64 id,i64 R] [] K:=by
 refine does Tryz.func252 rfl (by decide) ?_
 refine brc_intro (fun h=>?_) (fun _=>?_)
 · have:=of_decide_eq_true h;omega
 refine brc_intro (fun h=>?_) (fun _=>?_)
 · have:(n:Int) > 16:=of_decide_eq_true h
   omega
 refine brc_intro (fun h=>?_) (fun _=>?_)
 · have:(id:Int)≥(n:Int):=of_decide_eq_true h
   omega
 refine brc_intro (fun h=>?_) (fun _=>?_)
 · have:(R:Int) > 20:=of_decide_eq_true h
   omega
 exact hK

theorem partWhole {b:List InsZ} {k R:Nat} {ro nn:Bool} {c:Option Nat} (hb:b.length=k) (hk:k≤10000) (hR:R≤1000) (hK:K (cv (.slc 1 0 (k+8) none true)) [] [.rows ro 5 (b.map rowIns),.rows false 5 ((wholeZ R b).map rowIns)]) :
   Does Tryz.prog 253 [i64 R,cv (.slc 0 0 k c nn)] [.rows ro 5 (b.map rowIns)] K:=by
 refine Does.keep 1 rfl ?_
 refine does Tryz.func253 rfl (by decide) ?_
 have e:List.take k (List.drop 0 (b.map rowIns))=b.map rowIns:=by rw [List.drop_zero,List.take_of_length_le (by simp;omega)]
 have e2:(b.map rowIns).length=k:=by simp [hb]
 refine And.intro (by simp;omega) (Or.inl (And.intro rfl (And.intro rfl (And.intro ?_ (And.intro ?_ ?_)))))
 · rw [e,e2]
   show (5+k)*40≤_
   omega
 · rw [e,e2]
   omega
 rw [e]
 refine And.intro (by decide) (Or.inl (And.intro rfl (And.intro (by simp [hb];omega) (And.intro ?_ (And.intro ?_ ?_)))))
 · rw [e2]
   show (5+k+3)*40≤_
   omega
 · rw [e2]
   show 5+k+3≤_
   omega
 rw [wrap_i64 ((R:Int)+1) (by omega) (by omega),e2]
 rw [show k+8=5+k+3 by omega,wholeZ,List.map_append,List.map_append] at hK
 exact ⟨3,[0,1],_,cv (.slc 1 0 (5+k+3) none true),rfl,rfl,by decide,by decide,rfl,rfl,rfl,rfl,rfl,hK⟩

theorem awaitN {p c:Nat} {a b:Int} (ha:a=p) (hb:b=c) (hp:p≤1000000) (hK:K (cv (.slc 0 0 5 none true)) [] [.rows false 5 ((awI p c).map rowIns)]):Does Tryz.prog 274 [i64 a,i64 b] [] K:=by
 subst ha hb
 exact await p c (by omega) hK

theorem tellN {c n:Nat} {a b:Int} (ha:a=c) (hb:b=n) (hK:K (cv (.slc 0 0 2 none true)) [] [.rows false 5 ((tlI c n).map rowIns)]):Does Tryz.prog 275 [i64 a,i64 b] [] K:=by
 subst ha hb
 exact tell c n hK

theorem centralBody {n:Nat} (id:Nat) (hn:1≤n∧n≤16) (hK:K (cv (.slc 0 0 12 none true)) [] [.rows false 5 ((bodyP (centralP n)).map rowIns)]):Does Tryz.prog 254 [i64 n,i64 id] [] K:=by
 refine Does.keep 0 rfl ?_
 refine does Tryz.func254 rfl (by decide) ?_
 change Does Tryz.prog 274 _ _ _
 refine Does.alone 1 (awaitN (p:=7) (c:=1) rfl rfl (by decide) ?_)
 refine And.intro (Nat.le_of_ble_eq_true rfl) (Or.inl (And.intro rfl (And.intro rfl (And.intro (Nat.le_of_ble_eq_true rfl) (And.intro (Nat.le_of_ble_eq_true rfl) ?_)))))
 refine And.intro (Nat.le_of_ble_eq_true rfl) (Or.inl (And.intro rfl (And.intro rfl (And.intro (Nat.le_of_ble_eq_true rfl) (And.intro (Nat.le_of_ble_eq_true rfl) ?_)))))
 change Does Tryz.prog 275 _ _ _
 refine Does.alone 3 (tellN (c:=1) (n:=n) rfl rfl ?_)
 refine And.intro (Nat.le_of_ble_eq_true rfl) (Or.inl (And.intro rfl (And.intro rfl (And.intro (Nat.le_of_ble_eq_true rfl) (And.intro (Nat.le_of_ble_eq_true rfl) ?_)))))
 rw [wrap_i64 ((n:Int)-1) (by omega) (by omega)]
 exact ⟨4,[0],[.rows false 5 ((bodyP (centralP n)).map rowIns)],cv (.slc 0 0 12 none true),rfl,rfl,by decide,by decide,rfl,rfl,rfl,rfl,rfl,hK⟩

theorem staticBody {n id:Nat} (hn:1≤n∧n≤16) (hid:id<n) (hK:K (cv (.slc 0 0 (bodyN (staticP n id)).length none false)) [] [.rows false 5 ((bodyN (staticP n id)).map rowIns)]):Does Tryz.prog 257 [i64 n,i64 id] [] K:=by
 refine Does.keep 0 rfl ?_
 refine does Tryz.func257 rfl (by decide) ?_
 refine SS.nil 5 5 (by decide) rfl ?_
 have hlen:∀ j,(bodyN (awL (2*id+1) j)).length=5*j:=fun j=>by rw [bodyN_len,awL_off]
 have w1:IntKind.i64.wrap (IntKind.i64.wrap (2*(id:Int))+1)=((2*id+1:Nat):Int):=by
   rw [wrap_i64 (2*(id:Int)) (by omega) (by omega),wrap_i64 (2*(id:Int)+1) (by omega) (by omega)]
   omega
 have w2:IntKind.i64.wrap (IntKind.i64.wrap (2*(id:Int))+2)=((2*id+2:Nat):Int):=by
   rw [wrap_i64 (2*(id:Int)) (by omega) (by omega),wrap_i64 (2*(id:Int)+2) (by omega) (by omega)]
   omega
 refine SS.loop (fun j:Nat=>j≤min 2 (n-(2*id+1))) (fun j=>[(0,i64 n),(1,i64 id),(5,cv (.slc 0 0 (5*j) none false)),(6,i64 ((2*id+1+j:Nat):Int))]) (fun j=>[.rows false 5 ((bodyN (awL (2*id+1) j)).map rowIns)]) (fun j=>2-j) [0]
   (At.mk' [0,1,5,6] 0 (Nat.zero_le _) ⟨by rw [w1];rfl,rfl⟩ rfl rfl (by simp) (by simp) (by simp)) ?_
 intro j hj
 change j≤min 2 (n-(2*id+1)) at hj
 have wj:IntKind.i64.wrap (((2*id+1+j:Nat):Int)+1)=((2*id+1+(j+1):Nat):Int):=by
   rw [wrap_i64 _ (by omega) (by omega)]
   omega
 have w5:IntKind.i64.wrap (5+((5*j:Nat):Int))=((5+5*j:Nat):Int):=by
   rw [wrap_i64 _ (by omega) (by omega)]
   omega
 refine S_r ?_
 refine brc_intro (fun h1=>brc_intro (fun h2=>?_) (fun h2=>?_)) (fun h1=>?_)
 · have h1:((2*id+1+j:Nat):Int)≤IntKind.i64.wrap (IntKind.i64.wrap (2*(id:Int))+2):=of_decide_eq_true h1
   have h2:((2*id+1+j:Nat):Int)<n:=of_decide_eq_true h2
   rw [w2] at h1
   change Does Tryz.prog 274 _ _ _
   refine Does.alone 1 (awaitN w5 rfl (by omega) ?_)
   refine And.intro (Nat.le_of_ble_eq_true rfl) (Or.inl (And.intro rfl (And.intro (by simp [hlen]) (And.intro (by show (5*j+5)*40≤_;omega) (And.intro (by show 5*j+5≤_;omega) ?_)))))
   refine At.mk' [0,1,5,6] (j+1) ⟨by show j+1≤min 2 (n-(2*id+1));omega,by show 2-(j+1)<2-j;omega⟩ ⟨by rw [wj];rfl,rfl⟩ ?_ rfl (by simp) (by simp) (by decide)
   rw [awL_succ,bodyN_snoc,hlen,List.map_append]
   rfl
 all_goals
   have hje:j=min 2 (n-(2*id+1)):=by
     first
     | (have h2:¬((2*id+1+j:Nat):Int)<n:=of_decide_eq_false h2
        omega)
     | (have h1:¬((2*id+1+j:Nat):Int)≤IntKind.i64.wrap (IntKind.i64.wrap (2*(id:Int))+2):=of_decide_eq_false h1
        rw [w2] at h1
        omega)
   have hj2:j≤2:=by omega
   refine brc_intro (fun h3=>?_) (fun h3=>?_)
   · have h3:id=0:=by
       have:(id:Int)=0:=by simpa using h3
       omega
     rw [staticP,if_pos h3,←hje,bodyN_snoc,List.length_append,List.map_append,hlen] at hK
     change Does Tryz.prog 275 _ _ _
     refine Does.alone 1 (tellN (c:=n) (n:=n) rfl rfl ?_)
     refine And.intro (Nat.le_of_ble_eq_true rfl) (Or.inl (And.intro rfl (And.intro (by simp [hlen]) (And.intro (by show (5*j+2)*40≤_;omega) (And.intro (by show 5*j+2≤_;omega) ?_)))))
     exact ⟨2,[0],[.rows false 5 ((bodyN (awL (2*id+1) j)).map rowIns++(tlI n n).map rowIns)],cv (.slc 0 0 (5*j+2) none false),rfl,rfl,by decide,by decide,rfl,rfl,rfl,rfl,rfl,hK⟩
   · have h3:id≠0:=by
       have:(id:Int)≠0:=by simpa using h3
       omega
     rw [staticP,if_neg h3,←hje,show awL (2*id+1) j++[Pc.tl id 1,Pc.aw n]=(awL (2*id+1) j++[Pc.tl id 1])++[Pc.aw n] by simp,bodyN_snoc,bodyN_snoc,List.length_append,List.length_append,List.map_append,List.map_append,hlen] at hK
     have w6:IntKind.i64.wrap (5+((5*j+2:Nat):Int))=((5+(5*j+2):Nat):Int):=by
       rw [wrap_i64 _ (by omega) (by omega)]
       omega
     change Does Tryz.prog 275 _ _ _
     refine Does.alone 1 (tellN (c:=id) (n:=1) rfl rfl ?_)
     refine And.intro (Nat.le_of_ble_eq_true rfl) (Or.inl (And.intro rfl (And.intro (by simp [hlen]) (And.intro (by show (5*j+2)*40≤_;omega) (And.intro (by show 5*j+2≤_;omega) ?_)))))
     change Does Tryz.prog 274 _ _ _
     refine Does.alone 2 (awaitN w6 (c:=n) rfl (by omega) ?_)
     refine And.intro (Nat.le_of_ble_eq_true rfl) (Or.inl (And.intro rfl (And.intro (by simp [hlen]) (And.intro (by show (5*j+2+5)*40≤_;omega) (And.intro (by show 5*j+2+5≤_;omega) ?_)))))
     exact ⟨3,[0],[.rows false 5 ((bodyN (awL (2*id+1) j)).map rowIns++(tlI id 1).map rowIns++(awI (5+(5*j+2)) n).map rowIns)],cv (.slc 0 0 (5*j+2+5) none false),rfl,rfl,by decide,by decide,rfl,rfl,rfl,rfl,rfl,hK⟩

end

end Go.Mac
end

section
open Go Go.Proofs Go.Mac
set_option maxRecDepth 100000

namespace Go.Mac

section

variable {K:AV→List Nat→List PO→Prop}

set_option maxHeartbeats 1000000 in
theorem mcsBody {n id:Nat} (hn:1≤n∧n≤16) (hid:id<n) (hK:K (cv (.slc 0 0 (bodyN (mcsP n id)).length none false)) [] [.rows false 5 ((bodyN (mcsP n id)).map rowIns)]):Does Tryz.prog 261 [i64 n,i64 id] [] K:=by
 refine Does.keep 0 rfl ?_
 refine does Tryz.func261 rfl (by decide) ?_
 refine SS.nil 5 5 (by decide) rfl ?_
 have hlen:∀ j,(bodyN (awL (4*id+1) j)).length=5*j:=fun j=>by rw [bodyN_len,awL_off]
 have w1:IntKind.i64.wrap (IntKind.i64.wrap (4*(id:Int))+1)=((4*id+1:Nat):Int):=by
   rw [wrap_i64 (4*(id:Int)) (by omega) (by omega),wrap_i64 (4*(id:Int)+1) (by omega) (by omega)]
   omega
 have w2:IntKind.i64.wrap (IntKind.i64.wrap (4*(id:Int))+4)=((4*id+4:Nat):Int):=by
   rw [wrap_i64 (4*(id:Int)) (by omega) (by omega),wrap_i64 (4*(id:Int)+4) (by omega) (by omega)]
   omega
 have v1:IntKind.i64.wrap (IntKind.i64.wrap (2*(id:Int))+1)=((2*id+1:Nat):Int):=by
   rw [wrap_i64 (2*(id:Int)) (by omega) (by omega),wrap_i64 (2*(id:Int)+1) (by omega) (by omega)]
   omega
 have v2:IntKind.i64.wrap (IntKind.i64.wrap (2*(id:Int))+2)=((2*id+2:Nat):Int):=by
   rw [wrap_i64 (2*(id:Int)) (by omega) (by omega),wrap_i64 (2*(id:Int)+2) (by omega) (by omega)]
   omega
 refine SS.loop (fun j:Nat=>j≤min 4 (n-(4*id+1))) (fun j=>[(0,i64 n),(1,i64 id),(5,cv (.slc 0 0 (5*j) none false)),(6,i64 ((4*id+1+j:Nat):Int))]) (fun j=>[.rows false 5 ((bodyN (awL (4*id+1) j)).map rowIns)]) (fun j=>4-j) [0]
   (At.mk' [0,1,5,6] 0 (Nat.zero_le _) ⟨by rw [w1];rfl,rfl⟩ rfl rfl (by simp) (by simp) (by simp)) ?_
 intro j hj
 change j≤min 4 (n-(4*id+1)) at hj
 have wj:IntKind.i64.wrap (((4*id+1+j:Nat):Int)+1)=((4*id+1+(j+1):Nat):Int):=by
   rw [wrap_i64 _ (by omega) (by omega)]
   omega
 have w5:IntKind.i64.wrap (5+((5*j:Nat):Int))=((5+5*j:Nat):Int):=by
   rw [wrap_i64 _ (by omega) (by omega)]
   omega
 have w6:IntKind.i64.wrap (5+((5*j+2:Nat):Int))=((5+(5*j+2):Nat):Int):=by
   rw [wrap_i64 _ (by omega) (by omega)]
   omega
 have w7:IntKind.i64.wrap ((n:Int)+id)=((n+id:Nat):Int):=by
   rw [wrap_i64 _ (by omega) (by omega)]
   omega
 refine S_r ?_
 refine brc_intro (fun h1=>brc_intro (fun h2=>?_) (fun h2=>?_)) (fun h1=>?_)
 · have h1:((4*id+1+j:Nat):Int)≤IntKind.i64.wrap (IntKind.i64.wrap (4*(id:Int))+4):=of_decide_eq_true h1
   have h2:((4*id+1+j:Nat):Int)<n:=of_decide_eq_true h2
   rw [w2] at h1
   change Does Tryz.prog 274 _ _ _
   refine Does.alone 1 (awaitN w5 rfl (by omega) ?_)
   refine And.intro (Nat.le_of_ble_eq_true rfl) (Or.inl (And.intro rfl (And.intro (by simp [hlen]) (And.intro (by show (5*j+5)*40≤_;omega) (And.intro (by show 5*j+5≤_;omega) ?_)))))
   refine At.mk' [0,1,5,6] (j+1) ⟨by show j+1≤min 4 (n-(4*id+1));omega,by show 4-(j+1)<4-j;omega⟩ ⟨by rw [wj];rfl,rfl⟩ ?_ rfl (by simp) (by simp) (by decide)
   rw [awL_succ,bodyN_snoc,hlen,List.map_append]
   rfl
 all_goals
   have hje:j=min 4 (n-(4*id+1)):=by
     first
     | (have h2:¬((4*id+1+j:Nat):Int)<n:=of_decide_eq_false h2
        omega)
     | (have h1:¬((4*id+1+j:Nat):Int)≤IntKind.i64.wrap (IntKind.i64.wrap (4*(id:Int))+4):=of_decide_eq_false h1
        rw [w2] at h1
        omega)
   have hj4:j≤4:=by omega
   refine brc_intro (fun h3=>?_) (fun h3=>?_)
   · have h3:0<id:=by
       have:(id:Int) > 0:=of_decide_eq_true h3
       omega
     have hB:mcsP n id=(awL (4*id+1) j++[Pc.tl id 1]++[Pc.aw (n+id)])++tlL (n+(2*id+1)) (min 2 (n-(2*id+1))):=by
       rw [mcsP,if_pos h3,←hje]
       simp
     have hl7:(bodyN (awL (4*id+1) j++[Pc.tl id 1]++[Pc.aw (n+id)])).length=5*j+7:=by
       rw [bodyN_len,offP_app,offP_app,awL_off]
       rfl
     have hr7:(bodyN (awL (4*id+1) j)).map rowIns++(tlI id 1).map rowIns++(awI (5+(5*j+2)) (n+id)).map rowIns=(bodyN (awL (4*id+1) j++[Pc.tl id 1]++[Pc.aw (n+id)])).map rowIns:=by
       rw [bodyN_snoc,bodyN_snoc,List.length_append,hlen,List.map_append,List.map_append]
       rfl
     rw [hB] at hK
     generalize hBB:awL (4*id+1) j++[Pc.tl id 1]++[Pc.aw (n+id)]=B at *
     have hl2:∀ i,(bodyN (B++tlL (n+(2*id+1)) i)).length=5*j+7+2*i:=fun i=>by rw [bodyN_len,offP_app,tlL_off,←bodyN_len,hl7]
     change Does Tryz.prog 275 _ _ _
     refine Does.alone 1 (tellN (c:=id) (n:=1) rfl rfl ?_)
     refine And.intro (Nat.le_of_ble_eq_true rfl) (Or.inl (And.intro rfl (And.intro (by simp [hlen]) (And.intro (by show (5*j+2)*40≤_;omega) (And.intro (by show 5*j+2≤_;omega) ?_)))))
     change Does Tryz.prog 274 _ _ _
     refine Does.alone 2 (awaitN w6 w7 (by omega) ?_)
     refine And.intro (Nat.le_of_ble_eq_true rfl) (Or.inl (And.intro rfl (And.intro (by simp [hlen]) (And.intro (by show (5*j+2+5)*40≤_;omega) (And.intro (by show 5*j+2+5≤_;omega) ?_)))))
     refine SS.loop (fun i:Nat=>i≤min 2 (n-(2*id+1))) (fun i=>[(0,i64 n),(1,i64 id),(5,cv (.slc 0 0 (5*j+7+2*i) none false)),(7,i64 ((2*id+1+i:Nat):Int))]) (fun i=>[.rows false 5 ((bodyN (B++tlL (n+(2*id+1)) i)).map rowIns)]) (fun i=>2-i) [0]
       (At.mk' [0,1,5,7] 0 (Nat.zero_le _) ⟨by rw [v1];rfl,rfl⟩ ?_ rfl (by simp) (by simp) (by simp)) ?_
     · rw [show B++tlL (n+(2*id+1)) 0=B from List.append_nil _,←hr7]
       rfl
     intro i hi
     change i≤min 2 (n-(2*id+1)) at hi
     have vi:IntKind.i64.wrap (((2*id+1+i:Nat):Int)+1)=((2*id+1+(i+1):Nat):Int):=by
       rw [wrap_i64 _ (by omega) (by omega)]
       omega
     have vn:IntKind.i64.wrap ((n:Int)+((2*id+1+i:Nat):Int))=((n+(2*id+1)+i:Nat):Int):=by
       rw [wrap_i64 _ (by omega) (by omega)]
       omega
     refine S_r ?_
     refine brc_intro (fun h4=>brc_intro (fun h5=>?_) (fun h5=>?_)) (fun h4=>?_)
     · have h4:((2*id+1+i:Nat):Int)≤IntKind.i64.wrap (IntKind.i64.wrap (2*(id:Int))+2):=of_decide_eq_true h4
       have h5:((2*id+1+i:Nat):Int)<n:=of_decide_eq_true h5
       rw [v2] at h4
       change Does Tryz.prog 275 _ _ _
       refine Does.alone 1 (tellN (n:=1) vn rfl ?_)
       refine And.intro (Nat.le_of_ble_eq_true rfl) (Or.inl (And.intro rfl (And.intro (by simp [hl2]) (And.intro (by show (5*j+7+2*i+2)*40≤_;omega) (And.intro (by show 5*j+7+2*i+2≤_;omega) ?_)))))
       refine At.mk' [0,1,5,7] (i+1) ⟨by show i+1≤min 2 (n-(2*id+1));omega,by show 2-(i+1)<2-i;omega⟩ ⟨by rw [vi];rfl,rfl⟩ ?_ rfl (by simp) (by simp) (by decide)
       rw [tlL_succ,←List.append_assoc,bodyN_snoc,hl2,List.map_append]
       rfl
     all_goals
       have hie:i=min 2 (n-(2*id+1)):=by
         first
         | (have h5:¬((2*id+1+i:Nat):Int)<n:=of_decide_eq_false h5
            omega)
         | (have h4:¬((2*id+1+i:Nat):Int)≤IntKind.i64.wrap (IntKind.i64.wrap (2*(id:Int))+2):=of_decide_eq_false h4
            rw [v2] at h4
            omega)
       rw [←hie,hl2] at hK
       exact ⟨1,[0],[.rows false 5 ((bodyN (B++tlL (n+(2*id+1)) i)).map rowIns)],cv (.slc 0 0 (5*j+7+2*i) none false),rfl,rfl,by decide,by decide,rfl,rfl,rfl,rfl,rfl,hK⟩
   · have h3:id=0:=by
       have:¬(id:Int) > 0:=of_decide_eq_false h3
       omega
     have hB:mcsP n id=awL (4*id+1) j++tlL (n+(2*id+1)) (min 2 (n-(2*id+1))):=by
       rw [mcsP,if_neg (by omega),←hje]
       rfl
     rw [hB] at hK
     have hl2:∀ i,(bodyN (awL (4*id+1) j++tlL (n+(2*id+1)) i)).length=5*j+2*i:=fun i=>by rw [bodyN_len,offP_app,tlL_off,awL_off]
     refine SS.loop (fun i:Nat=>i≤min 2 (n-(2*id+1))) (fun i=>[(0,i64 n),(1,i64 id),(5,cv (.slc 0 0 (5*j+2*i) none false)),(7,i64 ((2*id+1+i:Nat):Int))]) (fun i=>[.rows false 5 ((bodyN (awL (4*id+1) j++tlL (n+(2*id+1)) i)).map rowIns)]) (fun i=>2-i) [0]
       (At.mk' [0,1,5,7] 0 (Nat.zero_le _) ⟨by rw [v1];rfl,rfl⟩ ?_ rfl (by simp) (by simp) (by simp)) ?_
     · rw [show awL (4*id+1) j++tlL (n+(2*id+1)) 0=awL (4*id+1) j from List.append_nil _]
       rfl
     intro i hi
     change i≤min 2 (n-(2*id+1)) at hi
     have vi:IntKind.i64.wrap (((2*id+1+i:Nat):Int)+1)=((2*id+1+(i+1):Nat):Int):=by
       rw [wrap_i64 _ (by omega) (by omega)]
       omega
     have vn:IntKind.i64.wrap ((n:Int)+((2*id+1+i:Nat):Int))=((n+(2*id+1)+i:Nat):Int):=by
       rw [wrap_i64 _ (by omega) (by omega)]
       omega
     refine S_r ?_
     refine brc_intro (fun h4=>brc_intro (fun h5=>?_) (fun h5=>?_)) (fun h4=>?_)
     · have h4:((2*id+1+i:Nat):Int)≤IntKind.i64.wrap (IntKind.i64.wrap (2*(id:Int))+2):=of_decide_eq_true h4
       have h5:((2*id+1+i:Nat):Int)<n:=of_decide_eq_true h5
       rw [v2] at h4
       change Does Tryz.prog 275 _ _ _
       refine Does.alone 1 (tellN (n:=1) vn rfl ?_)
       refine And.intro (Nat.le_of_ble_eq_true rfl) (Or.inl (And.intro rfl (And.intro (by simp [hl2]) (And.intro (by show (5*j+2*i+2)*40≤_;omega) (And.intro (by show 5*j+2*i+2≤_;omega) ?_)))))
       refine At.mk' [0,1,5,7] (i+1) ⟨by show i+1≤min 2 (n-(2*id+1));omega,by show 2-(i+1)<2-i;omega⟩ ⟨by rw [vi];rfl,rfl⟩ ?_ rfl (by simp) (by simp) (by decide)
       rw [tlL_succ,←List.append_assoc,bodyN_snoc,hl2,List.map_append]
       rfl
     all_goals
       have hie:i=min 2 (n-(2*id+1)):=by
         first
         | (have h5:¬((2*id+1+i:Nat):Int)<n:=of_decide_eq_false h5
            omega)
         | (have h4:¬((2*id+1+i:Nat):Int)≤IntKind.i64.wrap (IntKind.i64.wrap (2*(id:Int))+2):=of_decide_eq_false h4
            rw [v2] at h4
            omega)
       rw [←hie,hl2] at hK
       exact ⟨1,[0],[.rows false 5 ((bodyN (awL (4*id+1) j++tlL (n+(2*id+1)) i)).map rowIns)],cv (.slc 0 0 (5*j+2*i) none false),rfl,rfl,by decide,by decide,rfl,rfl,rfl,rfl,rfl,hK⟩

end

end Go.Mac
end
