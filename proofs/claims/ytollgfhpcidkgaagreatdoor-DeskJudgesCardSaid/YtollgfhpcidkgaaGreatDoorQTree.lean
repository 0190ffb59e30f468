import Derived.Test.YtollgfhpcidkgaaGreatDoorA16
open Go Go.Proofs Go.Mac
set_option maxRecDepth 100000

namespace Go.Mac

structure TreeOk (n N h:Nat) (P:Nat→List Pc) (par sz:Nat→Nat) (p:Nat→Nat→Nat) (lev:Nat→Nat):Prop where
 h1:1≤h
 len:∀ t,t<n→(P t).length=2*h
 up:∀ t,t<n→∀ i,i<h→(P t)[i]? = some (.up (2*p t i) (sz (p t i)) (2*h-i))
 dn:∀ t,t<n→∀ i,i<h→(P t)[2*h-1-i]? = some (.dn (2*p t i) (sz (p t i)))
 first:∀ t,t<n→par t=p t 0
 next:∀ t,t<n→∀ i,i+1<h→par (n+p t i)=p t (i+1)
 last:∀ t,t<n→N≤par (n+p t (h-1))
 node:∀ t,t<n→∀ i,i<h→p t i<N∧lev (p t i)=i
 size:∀ v,v<N→sz v=rsum (n+N) (fun x=>if par x=v then 1 else 0)∧1≤sz v
 down:∀ c,c<N→par (n+c)<N→lev (par (n+c))=lev c+1
 root:∀ t,t<n→∀ u,u<n→p t (h-1)=p u (h-1)

def hiA (h:Nat) (s:Nat→Nat) (a:AT):Nat :=
 match a.l with
 | .pc k o=>if k<h then (if o=1∧a.x+1=s k then k+1 else k) else if o≤2 then 2*h-k else 2*h-1-k
 | _=>0

def feA (h:Nat) (a:AT):Nat :=
 match a.l with
 | .pc k o=>if k<h then (if o=0 then k else k+1) else 2*h-k+1
 | .gone=>1
 | .plus=>1
 | _=>0

def bA (h:Nat) (a:AT):Nat:=if 1≤feA h a then a.r else a.r-1

def dnL (h:Nat):NL→Prop
 | .pc k _=>h≤k
 | .gone=>True
 | .plus=>True
 | _=>False

structure TI (n N R h:Nat) (P:Nat→List Pc) (par sz:Nat→Nat) (p:Nat→Nat→Nat) (b:Nat→Nat) (A:Nat→AT) (V:Nat→Nat) (ss:List Slp):Prop where
 reg:∀ t,t<n→RegOk R (A t)
 lo:∀ t,t<n→LocOk (P t) (A t).l
 thr:∀ t,t<n→b t=bA h (A t)
 arr:∀ c,c<N→par (n+c)<N→(∀ t,t<n→∀ j,j<hiA h (fun k=>sz (p t k)) (A t)→p t j≠c)→b (n+c)=V (2*c+1)
 hol:∀ t,t<n→∀ j,j+1<h→j<hiA h (fun k=>sz (p t k)) (A t)→b (n+p t j)=if j+2≤feA h (A t) then V (2*p t j+1)+1 else V (2*p t j+1)
 low:∀ x,x<n+N→par x<N→V (2*par x+1)≤b x∧b x≤V (2*par x+1)+1
 cnt:∀ v,v<N→(∀ t,t<n→∀ j,j<h→p t j=v→(A t).l≠.pc (2*h-1-j) 2)→V (2*v)+sz v*V (2*v+1)=rsum (n+N) fun x=>if par x=v then b x else 0
 win:∀ t,t<n→∀ j,j<h→(A t).l=.pc (2*h-1-j) 2→V (2*p t j)=0
 full:∀ t,t<n→∀ j,j<hiA h (fun k=>sz (p t k)) (A t)→∀ x,x<n+N→par x=p t j→b x=V (2*p t j+1)+1
 has:∀ v,v<N→(∀ x,x<n+N→par x=v→b x=V (2*v+1)+1)→∃ t,t<n∧∃ j,j<hiA h (fun k=>sz (p t k)) (A t)∧p t j=v
 one:∀ t,t<n→∀ u,u<n→∀ i j,i<hiA h (fun k=>sz (p t k)) (A t)→j<hiA h (fun k=>sz (p u k)) (A u)→p t i=p u j→t=u
 e0:∀ t,t<n→(A t).r≤V (2*par t+1)+1
 e2:∀ t,t<n→∀ j,j<hiA h (fun k=>sz (p t k)) (A t)→V (2*p t j+1)+1=(A t).r
 mic:∀ t,t<n→∀ i o,i<h→(A t).l=.pc i (o+2)→MicOk (A t) o (V (2*p t i+1))∧(o=5→(A t).r≤V (2*p t i+1))∧(A t).r≤V (2*p t i+1)+1
 x1:∀ t,t<n→∀ i,i<h→(A t).l=.pc i 1→(A t).x<sz (p t i)∧(A t).r≤V (2*p t i+1)+1
 e4:∀ t,t<n→dnL h (A t).l→∀ j,hiA h (fun k=>sz (p t k)) (A t)≤j→j<h→(A t).r≤V (2*p t j+1)
 mono:∀ v,v<N→par (n+v)<N→V (2*v+1)≤V (2*par (n+v)+1)
 slp:∀ s∈ss,∃ (t i:Nat),t<n∧i<h∧s = ⟨(t:Int),((2*p t i+1:Nat):Int)⟩∧(A t).l=.pc i 6∧(V (2*p t i+1)<(A t).r∨∃ u,u<n∧∃ j,j<h∧p u j=p t i∧(A u).l=.pc (2*h-1-j) 3)
 nd:(ss.map (·.t)).Nodup

theorem rsum_cong {n:Nat} {g h:Nat→Nat} (hl:∀ s,s<n→g s=h s):rsum n g=rsum n h :=
 Nat.le_antisymm (rsum_le fun s hs=>Nat.le_of_eq (hl s hs)) (rsum_le fun s hs=>Nat.le_of_eq (hl s hs).symm)

theorem rsum_same2 {n:Nat} {g h:Nat→Nat} (hl:∀ s,s<n→g s≤h s) (he:rsum n h≤rsum n g):∀ s,s<n→g s=h s:=fun s hs=>by
 have:=rsum_upd (n:=n) (t:=s) (g:=g) (h:=h) hs fun u hu _=>hl u hu
 have:=hl s hs
 omega

theorem rsum_if (f:Nat→Nat) (par:Nat→Nat) (v m c:Nat) (hc:∀ x,x<m→par x=v→f x=c):rsum m (fun x=>if par x=v then f x else 0)=rsum m (fun x=>if par x=v then 1 else 0)*c:=by
 rw [Nat.mul_comm,←rsum_mul]
 refine rsum_cong fun x hx=>?_
 by_cases h:par x=v
 · rw [if_pos h,if_pos h,hc x hx h];omega
 · rw [if_neg h,if_neg h];omega

theorem rsum_ifs {b:Nat→Nat} {par:Nat→Nat} {v m q:Nat} (hq:q<m) (hv:par q=v):rsum m (fun x=>if par x=v then updV b q (b q+1) x else 0)=rsum m (fun x=>if par x=v then b x else 0)+1:=by
 have:=rsum_set (n:=m) (t:=q) (g:=fun x=>if par x=v then updV b q (b q+1) x else 0) (h:=fun x=>if par x=v then b x else 0) hq fun s hs=>by
   show (if par s=v then (if s=q then b q+1 else b s) else 0)=_
   rw [if_neg hs]
 rw [if_pos hv,if_pos hv] at this
 have e:updV b q (b q+1) q=b q+1:=if_pos rfl
 rw [e] at this
 omega

theorem rsum_ifo {b:Nat→Nat} {par:Nat→Nat} {v m q y:Nat} (hv:par q≠v):rsum m (fun x=>if par x=v then updV b q y x else 0)=rsum m (fun x=>if par x=v then b x else 0) :=
 rsum_cong fun s _=>by
   by_cases h:par s=v
   · rw [if_pos h,if_pos h]
     exact if_neg fun (e:s=q)=>hv (by rw [←e];exact h)
   · rw [if_neg h,if_neg h]

section

variable {n N R h:Nat} {P:Nat→List Pc} {par sz:Nat→Nat} {p:Nat→Nat→Nat} {lev:Nat→Nat} {b:Nat→Nat} {A:Nat→AT} {V:Nat→Nat} {ss:List Slp} {t:Nat}

theorem updV_ne {V:Nat→Nat} {c y d:Nat} (h:d≠c):updV V c y d=V d:=if_neg h
theorem updV_at {V:Nat→Nat} {c y:Nat}:updV V c y c=y:=if_pos rfl

theorem hi_le {s:Nat→Nat} {a:AT} {Q:List Pc} (hl:Q.length=2*h) (ho:LocOk Q a.l):hiA h s a≤h:=by
 obtain ⟨r,x,e,l⟩:=a
 cases l with
 | pc k o =>
   obtain ⟨y,hy,_⟩:=ho
   have:=(List.getElem?_eq_some_iff.1 hy).1
   show (if k<h then (if o=1∧x+1=s k then k+1 else k) else if o≤2 then 2*h-k else 2*h-1-k)≤h
   split
   · split <;> omega
   · split <;> omega
 | _=>exact Nat.zero_le _

theorem TI.upd0 (hI:TI n N R h P par sz p b A V ss) (ht:t<n) {a':AT} {V':Nat→Nat} {ss':List Slp} (hG:∀ w,V' (2*w+1)=V (2*w+1))
   (hreg:RegOk R a') (hlo:LocOk (P t) a'.l) (hb:bA h a'=bA h (A t)) (hhi:hiA h (fun k=>sz (p t k)) a'=hiA h (fun k=>sz (p t k)) (A t))
   (hfe:∀ j,j+1<h→j<hiA h (fun k=>sz (p t k)) (A t)→(j+2≤feA h a'↔j+2≤feA h (A t)))
   (hcnt:∀ v,v<N→(∀ u,u<n→∀ j,j<h→p u j=v→(updA A t a' u).l≠.pc (2*h-1-j) 2)→V' (2*v)+sz v*V (2*v+1)=rsum (n+N) fun x=>if par x=v then b x else 0)
   (hwin:∀ u,u<n→∀ j,j<h→(updA A t a' u).l=.pc (2*h-1-j) 2→V' (2*p u j)=0)
   (he0:a'.r≤V (2*par t+1)+1) (he2:0<hiA h (fun k=>sz (p t k)) (A t)→a'.r=(A t).r)
   (hmic:∀ i o,i<h→a'.l=.pc i (o+2)→MicOk a' o (V (2*p t i+1))∧(o=5→a'.r≤V (2*p t i+1))∧a'.r≤V (2*p t i+1)+1)
   (hx1:∀ i,i<h→a'.l=.pc i 1→a'.x<sz (p t i)∧a'.r≤V (2*p t i+1)+1)
   (he4:dnL h a'.l→∀ j,hiA h (fun k=>sz (p t k)) (A t)≤j→j<h→a'.r≤V (2*p t j+1))
   (hss:∀ s∈ss',(s∈ss∧s.t≠t∧∀ j,j<h→(A t).l=.pc (2*h-1-j) 3→s.c≠((2*p t j+1:Nat):Int))∨∃ i:Nat,i<h∧s = ⟨(t:Int),((2*p t i+1:Nat):Int)⟩∧a'.l=.pc i 6∧V (2*p t i+1)<a'.r)
   (hnd:(ss'.map (·.t)).Nodup):TI n N R h P par sz p b (updA A t a') V' ss':=by
 have hh:∀ u,hiA h (fun k=>sz (p u k)) (updA A t a' u)=hiA h (fun k=>sz (p u k)) (A u):=fun u=>by
   by_cases e:u=t
   · subst e;rw [updA_same];exact hhi
   · rw [updA_ne _ _ e]
 refine ⟨fun u hu=>?_,fun u hu=>?_,fun u hu=>?_,fun c hc hp hn=>?_,fun u hu j hj1 hj=>?_,fun x hx hp=>?_,fun v hv hw=>?_,hwin,fun u hu j hj x hx hp=>?_,fun v hv hf=>?_,fun u hu w hw i j hi hj e=>?_,fun u hu=>?_,fun u hu j hj=>?_,fun u hu i o hi hl=>?_,fun u hu i hi hl=>?_,fun u hu hd j hj hjh=>?_,fun v hv hp=>?_,fun s hs=>?_,hnd⟩
 · by_cases e:u=t
   · subst e;rw [updA_same];exact hreg
   · rw [updA_ne _ _ e];exact hI.reg u hu
 · by_cases e:u=t
   · subst e;rw [updA_same];exact hlo
   · rw [updA_ne _ _ e];exact hI.lo u hu
 · by_cases e:u=t
   · subst e;rw [updA_same,hb];exact hI.thr u hu
   · rw [updA_ne _ _ e];exact hI.thr u hu
 · rw [hG]
   exact hI.arr c hc hp fun u hu j hj=>hn u hu j (by rw [hh];exact hj)
 · rw [hh] at hj
   rw [hG,hI.hol u hu j hj1 hj]
   by_cases e:u=t
   · subst e
     rw [updA_same]
     by_cases hf:j+2≤feA h (A u)
     · rw [if_pos hf,if_pos ((hfe j hj1 hj).2 hf)]
     · rw [if_neg hf,if_neg fun h9=>hf ((hfe j hj1 hj).1 h9)]
   · rw [updA_ne _ _ e]
 · rw [hG];exact hI.low x hx hp
 · rw [hG];exact hcnt v hv hw
 · rw [hh] at hj;rw [hG];exact hI.full u hu j hj x hx hp
 · obtain ⟨u,hu,j,hj,e⟩:=hI.has v hv fun x hx hp=>by rw [hf x hx hp,hG]
   exact ⟨u,hu,j,by rw [hh];exact hj,e⟩
 · rw [hh] at hi hj
   exact hI.one u hu w hw i j hi hj e
 · rw [hG]
   by_cases e:u=t
   · subst e;rw [updA_same];exact he0
   · rw [updA_ne _ _ e];exact hI.e0 u hu
 · rw [hh] at hj
   rw [hG,hI.e2 u hu j hj]
   by_cases e:u=t
   · subst e;rw [updA_same];exact (he2 (by omega)).symm
   · rw [updA_ne _ _ e]
 · rw [hG]
   by_cases e:u=t
   · subst e;rw [updA_same] at hl ⊢;exact hmic i o hi hl
   · rw [updA_ne _ _ e] at hl ⊢;exact hI.mic u hu i o hi hl
 · rw [hG]
   by_cases e:u=t
   · subst e;rw [updA_same] at hl ⊢;exact hx1 i hi hl
   · rw [updA_ne _ _ e] at hl ⊢;exact hI.x1 u hu i hi hl
 · rw [hh] at hj
   rw [hG]
   by_cases e:u=t
   · subst e;rw [updA_same] at hd ⊢;exact he4 hd j hj hjh
   · rw [updA_ne _ _ e] at hd ⊢;exact hI.e4 u hu hd j hj hjh
 · rw [hG,hG];exact hI.mono v hv hp
 · rcases hss s hs with ⟨h1,h2,h3⟩ | ⟨i,hi,rfl,hl,hv⟩
   · obtain ⟨u,i,hu,hi,rfl,hl,hv⟩:=hI.slp s h1
     have e:u≠t:=fun e=>h2 (by rw [e])
     refine ⟨u,i,hu,hi,rfl,by rw [updA_ne _ _ e];exact hl,?_⟩
     rw [hG,updA_ne _ _ e]
     rcases hv with hv | ⟨w,hw,j,hj,hp,hl'⟩
     · exact .inl hv
     · right
       have:w≠t:=fun e2=>by
         subst e2
         exact h3 j hj hl' (by rw [hp])
       exact ⟨w,hw,j,hj,hp,by rw [updA_ne _ _ this];exact hl'⟩
   · exact ⟨t,i,ht,hi,rfl,by rw [updA_same];exact hl,by rw [hG,updA_same];exact .inl hv⟩

theorem TI.quiet (hI:TI n N R h P par sz p b A V ss) (ht:t<n) (hno:noT ss t) {a':AT}
   (hreg:RegOk R a') (hlo:LocOk (P t) a'.l) (hb:bA h a'=bA h (A t)) (hhi:hiA h (fun k=>sz (p t k)) a'=hiA h (fun k=>sz (p t k)) (A t))
   (hfe:∀ j,j+1<h→j<hiA h (fun k=>sz (p t k)) (A t)→(j+2≤feA h a'↔j+2≤feA h (A t)))
   (hw:∀ k,h≤k→a'.l≠.pc k 2) (hw0:∀ k,h≤k→(A t).l≠.pc k 2∧(A t).l≠.pc k 3)
   (he0:a'.r≤V (2*par t+1)+1) (he2:0<hiA h (fun k=>sz (p t k)) (A t)→a'.r=(A t).r)
   (hmic:∀ i o,i<h→a'.l=.pc i (o+2)→MicOk a' o (V (2*p t i+1))∧(o=5→a'.r≤V (2*p t i+1))∧a'.r≤V (2*p t i+1)+1)
   (hx1:∀ i,i<h→a'.l=.pc i 1→a'.x<sz (p t i)∧a'.r≤V (2*p t i+1)+1)
   (he4:dnL h a'.l→∀ j,hiA h (fun k=>sz (p t k)) (A t)≤j→j<h→a'.r≤V (2*p t j+1)):TI n N R h P par sz p b (updA A t a') V ss:=by
 refine hI.upd0 ht (fun _=>rfl) hreg hlo hb hhi hfe (fun v hv hn=>hI.cnt v hv fun u hu j hj e hl=>?_) (fun u hu j hj hl=>?_) he0 he2 hmic hx1 he4 (fun s hs=>.inl ⟨hs,hno s hs,fun j hj hl=>absurd hl (hw0 _ (by omega)).2⟩) hI.nd
 · by_cases e2:u=t
   · subst e2;exact (hw0 _ (by omega)).1 hl
   · exact hn u hu j hj e (by rw [updA_ne _ _ e2];exact hl)
 · by_cases e2:u=t
   · subst e2
     rw [updA_same] at hl
     exact absurd hl (hw _ (by omega))
   · rw [updA_ne _ _ e2] at hl
     exact hI.win u hu j hj hl

def partA (n:Nat) (p:Nat→Nat→Nat) (t i:Nat):Nat:=match i with | 0=>t | j+1=>n+p t j

theorem part_par (hT:TreeOk n N h P par sz p lev) (ht:t<n) {i:Nat} (hi:i<h):par (partA n p t i)=p t i∧partA n p t i<n+N:=by
 cases i with
 | zero=>exact ⟨hT.first t ht,by show t<n+N;omega⟩
 | succ i=>exact ⟨hT.next t ht i hi,by have:=(hT.node t ht i (by omega)).1;show n+p t i<n+N;omega⟩

theorem hi_up {s:Nat→Nat} {r x e k o:Nat} (hk:k<h):hiA h s ⟨r,x,e,.pc k o⟩ = if o=1∧x+1=s k then k+1 else k:=if_pos hk
theorem hi_dn {s:Nat→Nat} {r x e k o:Nat} (hk:¬k<h):hiA h s ⟨r,x,e,.pc k o⟩ = if o≤2 then 2*h-k else 2*h-1-k:=if_neg hk
theorem fe_up {r x e k o:Nat} (hk:k<h):feA h ⟨r,x,e,.pc k o⟩ = if o=0 then k else k+1:=if_pos hk
theorem fe_up1 {r x e k o:Nat} (hk:k<h) (ho:o≠0):feA h ⟨r,x,e,.pc k o⟩ = k+1:=by rw [fe_up hk,if_neg ho]
theorem fe_dn {r x e k o:Nat} (hk:¬k<h):feA h ⟨r,x,e,.pc k o⟩ = 2*h-k+1:=if_neg hk

theorem TI.about (hT:TreeOk n N h P par sz p lev) (hI:TI n N R h P par sz p b A V ss) (ht:t<n) {r x e i:Nat} (hi:i<h) (hA:A t = ⟨r,x,e,.pc i 0⟩) :
   b (partA n p t i)=V (2*p t i+1)∧V (2*p t i+1)+1=r:=by
 have hreg:=hI.reg t ht
 have hhi:hiA h (fun k=>sz (p t k)) (A t)=i:=by rw [hA,hi_up hi,if_neg (by omega)]
 rw [hA] at hreg
 have hr1:1≤r:=hreg.1
 obtain ⟨q1,q2⟩:=part_par hT ht hi
 have hv:=(hT.node t ht i hi).1
 have hl:=hI.low (partA n p t i) q2 (by rw [q1];exact hv)
 rw [q1] at hl
 cases i with
 | zero =>
   have h1:=hI.thr t ht
   have h2:=hI.e0 t ht
   rw [hA] at h1 h2
   rw [bA,fe_up hi,if_neg (by decide)] at h1
   rw [hT.first t ht] at h2
   change b t=r-1 at h1
   change r≤_ at h2
   change V (2*p t 0+1)≤b t∧b t≤_ at hl
   show b t=_∧_
   omega
 | succ j =>
   have h1:=hI.hol t ht j hi (by rw [hhi];omega)
   have h2:=hI.e2 t ht j (by rw [hhi];omega)
   have h3:=hI.mono (p t j) (hT.node t ht j (by omega)).1 (by rw [hT.next t ht j hi];exact hv)
   rw [hT.next t ht j hi] at h3
   rw [hA,fe_up hi,if_pos rfl,if_neg (by omega)] at h1
   rw [hA] at h2
   change V (2*p t j+1)+1=r at h2
   change V (2*p t (j+1)+1)≤b (n+p t j)∧_ at hl
   show b (n+p t j)=_∧_
   omega

theorem TI.fetch (hT:TreeOk n N h P par sz p lev) (hI:TI n N R h P par sz p b A V ss) (ht:t<n) (hno:noT ss t) {r x e i:Nat} (hi:i<h) (hA:A t = ⟨r,x,e,.pc i 0⟩) :
   TI n N R h P par sz p (updV b (partA n p t i) (b (partA n p t i)+1)) (updA A t ⟨r,V (2*p t i),e,.pc i 1⟩) (updV V (2*p t i) (V (2*p t i)+1)) ss:=by
 obtain ⟨hbq,hgr⟩:=hI.about hT ht hi hA
 obtain ⟨q1,q2⟩:=part_par hT ht hi
 obtain ⟨hvN,hlev⟩:=hT.node t ht i hi
 have hreg:=hI.reg t ht
 have hlo:=hI.lo t ht
 rw [hA] at hreg hlo
 have hhi:hiA h (fun k=>sz (p t k)) (A t)=i:=by rw [hA,hi_up hi,if_neg (by omega)]
 generalize hv:p t i=v at *
 generalize hq:partA n p t i=q at *
 have hG:∀ w y,updV V (2*v) y (2*w+1)=V (2*w+1):=fun w y=>updV_ne (by omega)
 -- nobody has the node
 have hnone:∀ u,u<n→∀ j,j<hiA h (fun k=>sz (p u k)) (A u)→p u j≠v:=fun u hu j hj e=>by
   have:=hI.full u hu j hj q q2 (by rw [e];exact q1)
   rw [e] at this
   omega
 have hnw:∀ u,u<n→∀ j,j<h→p u j=v→(A u).l≠.pc (2*h-1-j) 2:=fun u hu j hj e hl=>by
   refine hnone u hu j ?_ e
   have:A u = ⟨(A u).r,(A u).x,(A u).e,.pc (2*h-1-j) 2⟩:=by rw [←hl]
   rw [this,hi_dn (by omega),if_pos (Nat.le_refl _)]
   omega
 have hc:=hI.cnt v hvN hnw
 obtain ⟨hs,hs1⟩:=hT.size v hvN
 -- not all of them
 have hsum:rsum (n+N) (fun x=>if par x=v then b x else 0)+1≤sz v*(V (2*v+1)+1):=by
   have h1:=rsum_if (fun _=>V (2*v+1)+1) par v (n+N) (V (2*v+1)+1) fun _ _ _=>rfl
   rw [←hs] at h1
   rw [←h1]
   have h2:=rsum_upd (n:=n+N) (t:=q) (g:=fun x=>if par x=v then b x else 0) (h:=fun x=>if par x=v then V (2*v+1)+1 else 0) q2 fun s hs' _=>by
     try dsimp only
     split
     · rename_i e
       have:=(hI.low s hs' (by rw [e];exact hvN)).2
       rw [e] at this
       exact this
     · exact Nat.le_refl _
   try dsimp only at h2
   rw [if_pos q1,if_pos q1,hbq] at h2
   omega
 rw [Nat.mul_add,Nat.mul_one] at hsum
 have hx:V (2*v)<sz v:=by omega
 have hb':∀ y,y≠q→updV b q (b q+1) y=b y:=fun y hy=>updV_ne hy
 have hbq':updV b q (b q+1) q=V (2*v+1)+1:=by rw [updV_at,hbq]
 have hS:=rsum_ifs (b:=b) (par:=par) q2 q1
 have hup:∀ u,u≠t→updA A t ⟨r,V (2*v),e,.pc i 1⟩ u=A u:=fun u hu=>updA_ne _ _ hu
 have hht:hiA h (fun k=>sz (p t k)) (updA A t ⟨r,V (2*v),e,.pc i 1⟩ t)=if V (2*v)+1=sz v then i+1 else i:=by
   rw [updA_same,hi_up hi,hv]
   by_cases h9:V (2*v)+1=sz v
   · rw [if_pos h9,if_pos ⟨rfl,h9⟩]
   · rw [if_neg h9,if_neg fun h=>h9 h.2]
 have hqt:∀ u,u<n→u=q→i=0∧u=t:=fun u hu e=>by
   cases i with
   | zero=>exact ⟨rfl,by rw [e,←hq];rfl⟩
   | succ j=>rw [←hq] at e;change u=n+p t j at e;omega
 have hqn:∀ c,n+c=q→∃ j,i=j+1∧c=p t j:=fun c e=>by
   cases i with
   | zero=>rw [←hq] at e;change n+c=t at e;omega
   | succ j=>refine ⟨j,rfl,?_⟩;rw [←hq] at e;change n+c=n+p t j at e;omega
 -- all are counted just if the last one was
 have hfull:V (2*v)+1=sz v→∀ y,y<n+N→par y=v→updV b q (b q+1) y=V (2*v+1)+1:=fun h9 y hy e9=>by
   have h1:=rsum_if (fun _=>V (2*v+1)+1) par v (n+N) (V (2*v+1)+1) fun _ _ _=>rfl
   rw [←hs,Nat.mul_add,Nat.mul_one] at h1
   have h2:=rsum_same2 (n:=n+N) (g:=fun x=>if par x=v then updV b q (b q+1) x else 0) (h:=fun x=>if par x=v then V (2*v+1)+1 else 0) (fun s hs'=>by
     try dsimp only
     split
     · rename_i e
       by_cases e2:s=q
       · subst e2;rw [hbq'];exact Nat.le_refl _
       · rw [hb' s e2]
         have:=(hI.low s hs' (by rw [e];exact hvN)).2
         rw [e] at this
         exact this
     · exact Nat.le_refl _) (by rw [hS,h1];omega) y hy
   try dsimp only at h2
   rw [if_pos e9,if_pos e9] at h2
   exact h2
 have hnfull:(∀ y,y<n+N→par y=v→updV b q (b q+1) y=V (2*v+1)+1)→V (2*v)+1=sz v:=fun hf=>by
   have h1:=rsum_if (updV b q (b q+1)) par v (n+N) (V (2*v+1)+1) hf
   rw [←hs,Nat.mul_add,Nat.mul_one,hS] at h1
   omega
 refine ⟨fun u hu=>?_,fun u hu=>?_,fun u hu=>?_,fun c hc' hp hn=>?_,fun u hu j hj1 hj=>?_,fun y hy hp=>?_,fun w hw hn=>?_,fun u hu j hj hl=>?_,fun u hu j hj y hy hp=>?_,fun w hw hf=>?_,fun u hu w hw i' j' hi' hj' e'=>?_,fun u hu=>?_,fun u hu j hj=>?_,fun u hu i' o' hi' hl=>?_,fun u hu i' hi' hl=>?_,fun u hu hd j hj hjh=>?_,fun w hw hp=>?_,fun s hs'=>?_,hI.nd⟩
 · by_cases e':u=t
   · subst e';rw [updA_same];exact hreg
   · rw [hup u e'];exact hI.reg u hu
 · by_cases e':u=t
   · subst e'
     rw [updA_same]
     exact ⟨_,hT.up u ht i hi,by show 1<8;omega⟩
   · rw [hup u e'];exact hI.lo u hu
 · by_cases e':u=t
   · subst e'
     rw [updA_same,bA,fe_up1 hi (by decide),if_pos (by omega)]
     by_cases e2:u=q
     · rw [e2,hbq']
       exact hgr
     · rw [hb' u e2,hI.thr u hu,hA,bA,fe_up hi,if_pos rfl]
       have:i≠0:=fun e3=>e2 (by subst e3;rw [←hq];rfl)
       rw [if_pos (by omega)]
   · rw [hup u e']
     have:u≠q:=fun e2=>e' (hqt u hu e2).2
     rw [hb' u this]
     exact hI.thr u hu
 · rw [hG]
   have hne:n+c≠q:=fun e2=>by
     obtain ⟨j,hj,hc2⟩:=hqn c e2
     refine hn t ht j ?_ hc2.symm
     rw [hht]
     split <;> omega
   rw [hb' _ hne]
   refine hI.arr c hc' hp fun u hu j hj=>?_
   by_cases e':u=t
   · subst e'
     refine hn u hu j ?_
     rw [hht]
     rw [hhi] at hj
     split <;> omega
   · exact hn u hu j (by rw [hup u e'];exact hj)
 · rw [hG]
   by_cases e':u=t
   · subst e'
     rw [hht] at hj
     rw [updA_same,fe_up1 hi (by decide)]
     by_cases e2:n+p u j=q
     · obtain ⟨j',hj',hc2⟩:=hqn _ e2
       have:j=j':=by
         have h1:=(hT.node u hu j (by omega)).2
         have h2:=(hT.node u hu j' (by omega)).2
         rw [hc2,h2] at h1
         omega
       subst this
       rw [e2,hbq',if_pos (by omega)]
       have h3:=hI.e2 u hu j (by rw [hhi];omega)
       rw [hA] at h3
       change _=r at h3
       omega
     · rw [hb' _ e2]
       by_cases hji:j<i
       · rw [hI.hol u hu j hj1 (by rw [hhi];exact hji),hA,fe_up hi,if_pos rfl]
         have:j+1≠i:=fun e3=>e2 (by rw [←hq,←e3];rfl)
         by_cases h9:j+2≤i
         · rw [if_pos h9,if_pos (by omega)]
         · omega
       · have:j=i:=by
           split at hj <;> omega
         subst this
         rw [if_neg (by omega),hv]
         exact hI.arr v hvN (by rw [←hv,hT.next u hu j hj1];exact (hT.node u hu (j+1) hj1).1) hnone
   · rw [hup u e'] at hj ⊢
     have hne:n+p u j≠q:=fun e2=>by
       obtain ⟨j',hj',hc2⟩:=hqn _ e2
       exact e' (hI.one u hu t ht j j' hj (by rw [hhi];omega) hc2)
     rw [hb' _ hne]
     exact hI.hol u hu j hj1 hj
 · rw [hG]
   by_cases e2:y=q
   · subst e2
     rw [hbq',q1]
     omega
   · rw [hb' y e2]
     exact hI.low y hy hp
 · rw [hG]
   by_cases e2:w=v
   · subst e2
     rw [updV_at,hS,←hc]
     omega
   · rw [updV_ne (by omega),rsum_ifo (by rw [q1];exact fun h=>e2 h.symm)]
     refine hI.cnt w hw fun u hu j hj e3 hl=>?_
     by_cases e':u=t
     · subst e'
       rw [hA] at hl
       injection hl with h1 h2
       cases h2
     · exact hn u hu j hj e3 (by rw [hup u e'];exact hl)
 · by_cases e':u=t
   · subst e'
     rw [updA_same] at hl
     injection hl with h1 h2
     cases h2
   · rw [hup u e'] at hl
     have:p u j≠v:=fun e3=>hnw u hu j hj e3 hl
     rw [updV_ne (by omega)]
     exact hI.win u hu j hj hl
 · rw [hG]
   by_cases e':u=t
   · subst e'
     rw [hht] at hj
     by_cases hji:j<i
     · have e2:y≠q:=fun e2=>by
         rw [e2,q1] at hp
         have h1:=(hT.node u hu j (by omega)).2
         rw [←hp,hlev] at h1
         omega
       rw [hb' y e2]
       exact hI.full u hu j (by rw [hhi];exact hji) y hy hp
     · have h9:V (2*v)+1=sz v:=by
         refine Classical.byContradiction fun h9=>?_
         rw [if_neg h9] at hj
         omega
       rw [if_pos h9] at hj
       obtain rfl:j=i:=by omega
       rw [hv] at hp ⊢
       exact hfull h9 y hy hp
   · rw [hup u e'] at hj
     have e2:y≠q:=fun e2=>by
       rw [e2,q1] at hp
       exact hnone u hu j hj hp.symm
     rw [hb' y e2]
     exact hI.full u hu j hj y hy hp
 · by_cases e2:w=v
   · subst e2
     refine ⟨t,ht,i,?_,hv⟩
     rw [hht,if_pos (hnfull fun y hy hp=>by rw [hf y hy hp,hG])]
     omega
   · obtain ⟨u,hu,j,hj,e3⟩:=hI.has w hw fun y hy hp=>by
       have:=hf y hy hp
       rw [hG,hb' y (fun e4=>e2 (by rw [←hp,e4,q1]))] at this
       exact this
     refine ⟨u,hu,j,?_,e3⟩
     by_cases e':u=t
     · subst e'
       rw [hht]
       rw [hhi] at hj
       split <;> omega
     · rw [hup u e'];exact hj
 · have key:∀ w,w<n→∀ j9,j9<hiA h (fun k=>sz (p w k)) (A w)→∀ i9,i9<(if V (2*v)+1=sz v then i+1 else i)→p t i9=p w j9→t=w:=fun w9 hw9 j9 hj9 i9 hi9 e9=>by
     by_cases hji:i9<i
     · exact hI.one t ht w9 hw9 i9 j9 (by rw [hhi];exact hji) hj9 e9
     · have:i9=i:=by split at hi9 <;> omega
       rw [this] at e9
       exact absurd (e9.symm.trans hv) (hnone w9 hw9 j9 hj9)
   by_cases e1:u=t
   · by_cases e2:w=t
     · rw [e1,e2]
     · rw [hup w e2] at hj'
       subst e1
       rw [hht] at hi'
       exact key w hw j' hj' i' hi' e'
   · rw [hup u e1] at hi'
     by_cases e2:w=t
     · subst e2
       rw [hht] at hj'
       exact (key u hu i' hi' j' hj' e'.symm).symm
     · rw [hup w e2] at hj'
       exact hI.one u hu w hw i' j' hi' hj' e'
 · rw [hG]
   by_cases e':u=t
   · subst e'
     rw [updA_same]
     have:=hI.e0 u hu
     rw [hA] at this
     exact this
   · rw [hup u e'];exact hI.e0 u hu
 · rw [hG]
   by_cases e':u=t
   · subst e'
     rw [hht] at hj
     rw [updA_same]
     by_cases hji:j<i
     · have:=hI.e2 u hu j (by rw [hhi];exact hji)
       rw [hA] at this
       exact this
     · have:j=i:=by split at hj <;> omega
       rw [this,hv]
       exact hgr
   · rw [hup u e'] at hj ⊢;exact hI.e2 u hu j hj
 · rw [hG]
   by_cases e':u=t
   · subst e'
     rw [updA_same] at hl
     injection hl with h1 h2
     omega
   · rw [hup u e'] at hl ⊢;exact hI.mic u hu i' o' hi' hl
 · rw [hG]
   by_cases e':u=t
   · subst e'
     rw [updA_same] at hl ⊢
     injection hl with h1 h2
     rw [←h1,hv]
     exact ⟨hx,by show r≤_;omega⟩
   · rw [hup u e'] at hl ⊢;exact hI.x1 u hu i' hi' hl
 · rw [hG]
   by_cases e':u=t
   · subst e'
     rw [updA_same] at hd
     change h≤i at hd
     omega
   · rw [hup u e'] at hd hj ⊢;exact hI.e4 u hu hd j hj hjh
 · rw [hG,hG];exact hI.mono w hw hp
 · obtain ⟨u,i',hu,hi',rfl,hl,hv'⟩:=hI.slp s hs'
   have e':u≠t:=fun e'=>hno _ hs' (by rw [e'])
   refine ⟨u,i',hu,hi',rfl,by rw [hup u e'];exact hl,?_⟩
   rw [hG,hup u e']
   rcases hv' with hv' | ⟨w,hw,j,hj,hp,hl'⟩
   · exact .inl hv'
   · right
     have:w≠t:=fun e2=>by
       subst e2
       rw [hA] at hl'
       injection hl' with _ h2
       cases h2
     exact ⟨w,hw,j,hj,hp,by rw [hup w this];exact hl'⟩

theorem TI.gate (hT:TreeOk n N h P par sz p lev) (hI:TI n N R h P par sz p b A V ss) (ht:t<n) (hno:noT ss t) {r x e i:Nat} (hi:i<h) (hA:A t = ⟨r,x,e,.pc (2*h-1-i) 2⟩) :
   TI n N R h P par sz p b (updA A t ⟨r,x,e,.pc (2*h-1-i) 3⟩) (updV V (2*p t i+1) r) ss:=by
 obtain ⟨hvN,hlev⟩:=hT.node t ht i hi
 have hreg:=hI.reg t ht
 rw [hA] at hreg
 have hnk:¬ 2*h-1-i<h:=by omega
 have hhi:hiA h (fun k=>sz (p t k)) (A t)=i+1:=by rw [hA,hi_dn hnk,if_pos (Nat.le_refl _)];omega
 have hgr:=hI.e2 t ht i (by rw [hhi];omega)
 have hfu:=hI.full t ht i (by rw [hhi];omega)
 have hwn:=hI.win t ht i hi (by rw [hA])
 have hab:i+1<h→r≤V (2*p t (i+1)+1):=fun h9=>by
   have:=hI.e4 t ht (by rw [hA];show h≤2*h-1-i;omega) (i+1) (by rw [hhi];exact Nat.le_refl _) h9
   rw [hA] at this
   exact this
 have hho:i+1<h→b (n+p t i)=V (2*p t i+1)+1:=fun h9=>by
   rw [hI.hol t ht i h9 (by rw [hhi];omega),hA,fe_dn hnk,if_pos (by omega)]
 rw [hA] at hgr
 change _=r at hgr
 have honly:∀ u,u<n→u≠t→∀ j,j<hiA h (fun k=>sz (p u k)) (A u)→p u j≠p t i:=fun u hu hne j hj e'=>hne (hI.one u hu t ht j i hj (by rw [hhi];omega) e')
 have hnext:i+1<h→par (n+p t i)=p t (i+1):=hT.next t ht i
 have hlast:¬i+1<h→N≤par (n+p t i):=fun h9=>by
   have:=hT.last t ht
   rw [show h-1=i by omega] at this
   exact this
 have hself:∀ j,j<i→p t j≠p t i:=fun j hj e'=>by
   have h1:=(hT.node t ht j (by omega)).2
   rw [e',hlev] at h1
   omega
 have hself2:∀ j,j<h→p t j=p t i→j=i:=fun j hj e'=>by
   have h1:=(hT.node t ht j hj).2
   rw [e',hlev] at h1
   exact h1.symm
 generalize hv:p t i=v at *
 have hG:∀ w,w≠v→updV V (2*v+1) r (2*w+1)=V (2*w+1):=fun w hw=>updV_ne (by omega)
 have hGv:updV V (2*v+1) r (2*v+1)=r:=updV_at
 have hE:∀ w,updV V (2*v+1) r (2*w)=V (2*w):=fun w=>updV_ne (by omega)
 have hle:∀ w,V (2*w+1)≤updV V (2*v+1) r (2*w+1):=fun w=>by
   by_cases e':w=v
   · subst e';rw [hGv];omega
   · rw [hG w e'];exact Nat.le_refl _
 have hup:∀ u,u≠t→updA A t ⟨r,x,e,.pc (2*h-1-i) 3⟩ u=A u:=fun u hu=>updA_ne _ _ hu
 have hht:hiA h (fun k=>sz (p t k)) (updA A t ⟨r,x,e,.pc (2*h-1-i) 3⟩ t)=i:=by rw [updA_same,hi_dn hnk,if_neg (by decide)];omega
 obtain ⟨hs,hs1⟩:=hT.size v hvN
 refine ⟨fun u hu=>?_,fun u hu=>?_,fun u hu=>?_,fun c hc' hp hn=>?_,fun u hu j hj1 hj=>?_,fun y hy hp=>?_,fun w hw hn=>?_,fun u hu j hj hl=>?_,fun u hu j hj y hy hp=>?_,fun w hw hf=>?_,fun u hu w hw i' j' hi' hj' e'=>?_,fun u hu=>?_,fun u hu j hj=>?_,fun u hu i' o' hi' hl=>?_,fun u hu i' hi' hl=>?_,fun u hu hd j hj hjh=>?_,fun w hw hp=>?_,fun s hs'=>?_,hI.nd⟩
 · by_cases e':u=t
   · subst e';rw [updA_same];exact hreg
   · rw [hup u e'];exact hI.reg u hu
 · by_cases e':u=t
   · subst e'
     rw [updA_same]
     exact ⟨_,hT.dn u ht i hi,by show 3<4;omega⟩
   · rw [hup u e'];exact hI.lo u hu
 · by_cases e':u=t
   · subst e'
     rw [updA_same,hI.thr u hu,hA,bA,bA,fe_dn hnk,fe_dn hnk]
   · rw [hup u e'];exact hI.thr u hu
 · by_cases e2:c=v
   · subst e2
     have h9:i+1<h:=Classical.byContradiction fun h9=>by have:=hlast h9;omega
     rw [hGv,hho h9]
     exact hgr
   · rw [hG c e2]
     refine hI.arr c hc' hp fun u hu j hj=>?_
     by_cases e':u=t
     · subst e'
       rw [hhi] at hj
       by_cases hji:j<i
       · exact hn u hu j (by rw [hht];exact hji)
       · obtain rfl:j=i:=by omega
         rw [hv]
         exact fun h=>e2 h.symm
     · exact hn u hu j (by rw [hup u e'];exact hj)
 · by_cases e':u=t
   · subst e'
     rw [hht] at hj
     rw [updA_same,hG _ (hself j hj),fe_dn hnk,hI.hol u hu j hj1 (by rw [hhi];omega),hA,fe_dn hnk]
   · rw [hup u e'] at hj ⊢
     rw [hG _ (honly u hu e' j hj)]
     exact hI.hol u hu j hj1 hj
 · by_cases e2:par y=v
   · rw [e2,hGv,hfu y hy e2]
     omega
   · rw [hG _ e2]
     exact hI.low y hy hp
 · rw [hE]
   by_cases e2:w=v
   · subst e2
     rw [hGv,hwn,rsum_if b par w (n+N) r fun y hy hp=>by rw [hfu y hy hp];exact hgr,←hs]
     omega
   · rw [hG w e2]
     refine hI.cnt w hw fun u hu j hj e3 hl=>?_
     by_cases e':u=t
     · subst e'
       rw [hA] at hl
       injection hl with h1 h2
       have:j=i:=by omega
       subst this
       exact e2 (e3.symm.trans hv)
     · exact hn u hu j hj e3 (by rw [hup u e'];exact hl)
 · rw [hE]
   by_cases e':u=t
   · subst e'
     rw [updA_same] at hl
     injection hl with h1 h2
     cases h2
   · rw [hup u e'] at hl
     exact hI.win u hu j hj hl
 · by_cases e':u=t
   · subst e'
     rw [hht] at hj
     rw [hG _ (hself j hj)]
     exact hI.full u hu j (by rw [hhi];omega) y hy hp
   · rw [hup u e'] at hj
     rw [hG _ (honly u hu e' j hj)]
     exact hI.full u hu j hj y hy hp
 · by_cases e2:w=v
   · subst e2
     exfalso
     have:∃ y,y<n+N∧par y=w:=by
       refine Classical.byContradiction fun hne=>?_
       have h1:rsum (n+N) (fun x=>if par x=w then 1 else 0)=rsum (n+N) fun _=>0:=rsum_cong fun y hy=>if_neg fun e3=>hne ⟨y,hy,e3⟩
       rw [←hs,rsum_same,Nat.mul_zero] at h1
       omega
     obtain ⟨y,hy,hp⟩:=this
     have h1:=hf y hy hp
     rw [hGv,hfu y hy hp] at h1
     omega
   · obtain ⟨u,hu,j,hj,e3⟩:=hI.has w hw fun y hy hp=>by
       have:=hf y hy hp
       rw [hG w e2] at this
       exact this
     refine ⟨u,hu,j,?_,e3⟩
     by_cases e':u=t
     · subst e'
       rw [hht]
       rw [hhi] at hj
       have:j≠i:=fun e4=>e2 (by rw [←e3,e4,hv])
       omega
     · rw [hup u e'];exact hj
 · have hsub:∀ u j,j<hiA h (fun k=>sz (p u k)) (updA A t ⟨r,x,e,.pc (2*h-1-i) 3⟩ u)→j<hiA h (fun k=>sz (p u k)) (A u):=fun u j hj=>by
     by_cases e3:u=t
     · subst e3
       rw [hht] at hj
       rw [hhi]
       omega
     · rw [hup u e3] at hj;exact hj
   exact hI.one u hu w hw i' j' (hsub u i' hi') (hsub w j' hj') e'
 · have:=hle (par u)
   have h2:=hI.e0 u hu
   by_cases e':u=t
   · subst e'
     rw [updA_same]
     rw [hA] at h2
     change r≤_ at h2
     show r≤_
     omega
   · rw [hup u e'];omega
 · by_cases e':u=t
   · subst e'
     rw [hht] at hj
     rw [updA_same,hG _ (hself j hj)]
     have:=hI.e2 u hu j (by rw [hhi];omega)
     rw [hA] at this
     exact this
   · rw [hup u e'] at hj ⊢
     rw [hG _ (honly u hu e' j hj)]
     exact hI.e2 u hu j hj
 · by_cases e':u=t
   · subst e'
     rw [updA_same] at hl
     injection hl with h1 h2
     omega
   · rw [hup u e'] at hl ⊢
     obtain ⟨m1,m2,m3⟩:=hI.mic u hu i' o' hi' hl
     have:=hle (p u i')
     exact ⟨m1.mono this,fun h9=>by have:=m2 h9;omega,by omega⟩
 · by_cases e':u=t
   · subst e'
     rw [updA_same] at hl
     injection hl with h1 h2
     omega
   · rw [hup u e'] at hl ⊢
     obtain ⟨m1,m2⟩:=hI.x1 u hu i' hi' hl
     have:=hle (p u i')
     exact ⟨m1,by omega⟩
 · by_cases e':u=t
   · subst e'
     rw [hht] at hj
     rw [updA_same]
     by_cases hji:j=i
     · rw [hji,hv,hGv]
       exact Nat.le_refl _
     · have:=hle (p u j)
       have h2:=hI.e4 u hu (by rw [hA];show h≤2*h-1-i;omega) j (by rw [hhi];omega) hjh
       rw [hA] at h2
       change r≤_ at h2
       show r≤_
       omega
   · rw [hup u e'] at hd hj ⊢
     have:=hle (p u j)
     have:=hI.e4 u hu hd j hj hjh
     omega
 · by_cases e2:w=v
   · subst e2
     have h9:i+1<h:=Classical.byContradiction fun h9=>by have:=hlast h9;omega
     rw [hGv,hnext h9]
     have:=hle (p t (i+1))
     have:=hab h9
     omega
   · rw [hG w e2]
     have:=hle (par (n+w))
     have:=hI.mono w hw hp
     omega
 · obtain ⟨u,i',hu,hi',rfl,hl,hv'⟩:=hI.slp s hs'
   have e':u≠t:=fun e'=>hno _ hs' (by rw [e'])
   refine ⟨u,i',hu,hi',rfl,by rw [hup u e'];exact hl,?_⟩
   rw [hup u e']
   by_cases e2:p u i'=v
   · exact .inr ⟨t,ht,i,hi,by rw [hv,e2],by rw [updA_same]⟩
   · rw [hG _ e2]
     rcases hv' with hv' | ⟨w,hw,j,hj,hp,hl'⟩
     · exact .inl hv'
     · right
       have:w≠t:=fun e3=>by
         subst e3
         rw [hA] at hl'
         injection hl' with _ h2
         cases h2
       exact ⟨w,hw,j,hj,hp,by rw [hup w this];exact hl'⟩

end

end Go.Mac
