import Derived.Test.YtollgfhpcidkgaaGreatDoorQDance0
open Go Go.Proofs Go.Mac
set_option maxRecDepth 100000

namespace Go.Mac

def tlO:Option Pc→Nat→Nat
 | some (.tl _ _),_+1=>1
 | _,_=>0

def doneL (Q:List Pc):NL→Nat
 | .pc k o=>k+tlO Q[k]? o
 | .gone=>Q.length
 | .plus=>Q.length
 | _=>0

def tg (Q:List Pc) (a:AT) (k:Nat):Nat:=if k<doneL Q a.l then a.r else a.r-1

def cmA (a:AT):Nat :=
 match a.l with
 | .pc _ _=>a.r
 | .gone=>a.r
 | .plus=>a.r
 | _=>a.r-1

def gnA (a:AT):Nat :=
 match a.l with
 | .plus=>a.r
 | _=>a.r-1

def RegOk (R:Nat) (a:AT):Prop :=
 match a.l with
 | .p0=>a.r=0∧a.e=0
 | .p1=>a.r=1∧a.e=0
 | .head=>1≤a.r∧a.r≤R+1∧a.e=R+1
 | .jump=>1≤a.r∧a.r≤R+1∧a.e=R+1
 | .halt=>a.r=R+1∧a.e=R+1
 | .ended=>a.r=R+1∧a.e=R+1
 | _=>1≤a.r∧a.r≤R∧a.e=R+1

def MicOk (a:AT) (o v:Nat):Prop :=
 match o with
 | 1=>a.x≤v∧a.r≤a.x+1
 | 2=>a.r≤v
 | 3=>a.x<a.r∧a.x≤v∧a.r≤a.x+1
 | _=>True

theorem MicOk.mono {a:AT} {o v v':Nat} (h:MicOk a o v) (hv:v≤v'):MicOk a o v':=by
 rcases o with _ | _ | _ | _ | o
 · trivial
 · exact ⟨Nat.le_trans h.1 hv,h.2⟩
 · exact Nat.le_trans h hv
 · exact ⟨h.1,Nat.le_trans h.2.1 hv,h.2.2⟩
 · trivial

def isAw (c:Nat):Pc→Bool
 | .aw d=>d == c
 | _=>false

def awaits (Q:List Pc) (c:Nat):Bool:=Q.any (isAw c)
def wtN (n:Nat) (P:Nat→List Pc) (c:Nat):Nat:=rsum n fun u=>if awaits (P u) c=true then 1 else 0

structure NetOk (n:Nat) (P:Nat→List Pc) (wr:Nat→Option (Nat×Nat)):Prop where
 kind:∀ t,t<n→∀ x∈P t,(∃ c,x=.aw c)∨∃ c s,x=.tl c s∧wtN n P c≤s
 tl:∀ t,t<n→∀ (k c s:Nat),(P t)[k]? = some (.tl c s)→wr c=some (t,k)
 aw:∀ t,t<n→∀ (k c:Nat),(P t)[k]? = some (.aw c)→∃ u p s,wr c=some (u,p)∧u<n∧(P u)[p]? = some (.tl c s)

structure NI (n R:Nat) (P:Nat→List Pc) (wr:Nat→Option (Nat×Nat)) (A:Nat→AT) (V:Nat→Nat) (ss:List Slp):Prop where
 reg:∀ t,t<n→RegOk R (A t)
 cell:∀ t,t<n→∀ (k c s:Nat),(P t)[k]? = some (.tl c s)→V c=tg (P t) (A t) k
 none:∀ c,(∀ t p,wr c=some (t,p)→n≤t)→V c=0
 await:∀ t,t<n→∀ (k c:Nat),(P t)[k]? = some (.aw c)→tg (P t) (A t) k≤V c
 mic:∀ t,t<n→∀ (k o c:Nat),(A t).l=.pc k o→(P t)[k]? = some (.aw c)→MicOk (A t) o (V c)
 slp:∀ s∈ss,∃ (t k c:Nat),t<n∧s = ⟨(t:Int),(c:Int)⟩∧(A t).l=.pc k 4∧(P t)[k]? = some (.aw c)∧(V c<(A t).r∨∃ u p,wr c=some (u,p)∧(A u).l=.pc p 1)
 nd:(ss.map (·.t)).Nodup

theorem tlO_zero (y:Option Pc):tlO y 0=0:=by
 rcases y with _ | (_ | _ | _ | _) <;> rfl

theorem done_nx (Q:List Pc) {k:Nat} (h:k≤Q.length):doneL Q (nxL Q k)=k:=by
 rw [nxL]
 split
 · show k+tlO Q[k]? 0=k
   rw [tlO_zero];rfl
 · show Q.length=k
   omega

theorem done_aw {Q:List Pc} {k c:Nat} (o:Nat) (h:Q[k]? = some (.aw c)):doneL Q (.pc k o)=k:=by rw [doneL,h];rfl
theorem done_tl0 {Q:List Pc} {k c s:Nat} (_h:Q[k]? = some (.tl c s)):doneL Q (.pc k 0)=k:=by rw [doneL,tlO_zero];rfl
theorem done_tl1 {Q:List Pc} {k c s:Nat} (o:Nat) (h:Q[k]? = some (.tl c s)):doneL Q (.pc k (o+1))=k+1:=by rw [doneL,h];rfl

theorem wakeL_filter (c n:Int):∀ (l:List Slp) (k:Nat),((k+l.countP (fun s=>s.c == c):Nat):Int)≤n→(wakeL c n k l).2=l.filter fun s=>s.c != c
 | [],_,_=>rfl
 | x::xs,k,h=>by
   rw [wakeL,List.filter_cons]
   by_cases e:x.c=c
   · rw [List.countP_cons_of_pos (by simpa using e)] at h
     rw [if_pos ⟨e,by omega⟩,if_neg (by simp [e])]
     exact wakeL_filter c n xs (k+1) (by omega)
   · rw [List.countP_cons_of_neg (by simpa using e)] at h
     rw [if_neg (fun h=>e h.1),if_pos (by simpa using e)]
     exact congrArg (x::·) (wakeL_filter c n xs k h)

theorem count_le {q:Nat→Bool}:∀ (n:Nat) (l:List Slp),(l.map (·.t)).Nodup→(∀ s∈l,∃ t:Nat,t<n∧s.t=t∧q t=true)→l.length≤rsum n fun u=>if q u=true then 1 else 0
 | 0,l,_,h=>by
   cases l with
   | nil=>exact Nat.zero_le _
   | cons x l=>obtain ⟨t,ht,_⟩:=h x (by simp);omega
 | n+1,l,hd,h=>by
   rw [rsum_succ]
   have hlen:l.length=(l.filter fun s=>s.t != (n:Int)).length+(l.filter fun s=>s.t == (n:Int)).length:=by
     have:=List.length_eq_countP_add_countP (p:=fun s:Slp=>s.t != (n:Int)) (l:=l)
     rw [List.countP_eq_length_filter,List.countP_eq_length_filter] at this
     rw [this]
     congr 2
     refine List.filter_congr fun s _=>?_
     rw [Bool.eq_iff_iff]
     simp
   have h1:=count_le n (l.filter fun s=>s.t != (n:Int)) (hd.sublist (List.filter_sublist.map _)) fun s hs=>by
     obtain ⟨hs,hne⟩:=List.mem_filter.1 hs
     obtain ⟨t,ht,e,hq⟩:=h s hs
     refine ⟨t,?_,e,hq⟩
     have:t≠n:=fun e2=>by rw [e,e2] at hne;simp at hne
     omega
   have h2:(l.filter fun s=>s.t == (n:Int)).length≤if q n=true then 1 else 0:=by
     cases hl:l.filter fun s=>s.t == (n:Int) with
     | nil=>exact Nat.zero_le _
     | cons x xs =>
       have hx:x∈l.filter fun s=>s.t == (n:Int):=by rw [hl];simp
       obtain ⟨hx,hxe⟩:=List.mem_filter.1 hx
       obtain ⟨t,ht,e,hq⟩:=h x hx
       have hxe:x.t=(n:Int):=by simpa using hxe
       obtain rfl:t=n:=by omega
       rw [if_pos hq]
       cases xs with
       | nil=>exact Nat.le_refl _
       | cons y ys =>
         exfalso
         have hnd:((l.filter fun s=>s.t == (t:Int)).map (·.t)).Nodup:=hd.sublist (List.filter_sublist.map _)
         rw [hl,List.map_cons,List.map_cons,List.nodup_cons] at hnd
         have hy:y∈l.filter fun s=>s.t == (t:Int):=by rw [hl];simp
         have hye:y.t=t:=by simpa using (List.mem_filter.1 hy).2
         exact hnd.1 (by rw [hxe,hye];simp)
   omega

section

variable {n nc R:Nat} {P:Nat→List Pc} {wr:Nat→Option (Nat×Nat)} {A:Nat→AT} {V:Nat→Nat} {ss:List Slp} {t:Nat}

theorem awaits_of {Q:List Pc} {k c:Nat} (h:Q[k]? = some (.aw c)):awaits Q c=true:=List.any_eq_true.2 ⟨_,List.mem_of_getElem? h,by simp [isAw]⟩

theorem NI.sleepers (hI:NI n R P wr A V ss) (c:Nat):ss.countP (fun s=>s.c == (c:Int))≤wtN n P c:=by
 rw [List.countP_eq_length_filter]
 refine count_le n _ (hI.nd.sublist (List.filter_sublist.map _)) fun s hs=>?_
 obtain ⟨hs,hc⟩:=List.mem_filter.1 hs
 obtain ⟨t,k,c',ht,rfl,hl,hp,_⟩:=hI.slp s hs
 have:(c':Int)=c:=by simpa using hc
 obtain rfl:c'=c:=by omega
 exact ⟨t,ht,rfl,awaits_of hp⟩

theorem NI.upd (hN:NetOk n P wr) (hI:NI n R P wr A V ss) (ht:t<n) {a':AT} {V':Nat→Nat} {ss':List Slp}
   (hreg:RegOk R a') (hcell:∀ (k c s:Nat),(P t)[k]? = some (.tl c s)→V' c=tg (P t) a' k)
   (hV:∀ c,V c≤V' c∧(V' c=V c∨∃ p,wr c=some (t,p)∧a'.l=.pc p 1))
   (haw:∀ (k c:Nat),(P t)[k]? = some (.aw c)→tg (P t) a' k≤V' c)
   (hmic:∀ (k o c:Nat),a'.l=.pc k o→(P t)[k]? = some (.aw c)→MicOk a' o (V' c))
   (hss:∀ s∈ss',(s∈ss∧s.t≠t∧∀ (p c:Nat),s.c=(c:Int)→wr c=some (t,p)→(A t).l≠.pc p 1)∨∃ k c:Nat,s = ⟨(t:Int),(c:Int)⟩∧a'.l=.pc k 4∧(P t)[k]? = some (.aw c)∧V' c<a'.r)
   (hnd:(ss'.map (·.t)).Nodup):NI n R P wr (updA A t a') V' ss':=by
 refine ⟨fun u hu=>?_,fun u hu k c s hk=>?_,fun c hc=>?_,fun u hu k c hk=>?_,fun u hu k o c hl hk=>?_,fun s hs=>?_,hnd⟩
 · by_cases e:u=t
   · subst e;rw [updA_same];exact hreg
   · rw [updA_ne _ _ e];exact hI.reg u hu
 · by_cases e:u=t
   · subst e;rw [updA_same];exact hcell k c s hk
   · rw [updA_ne _ _ e,←hI.cell u hu k c s hk]
     rcases (hV c).2 with h | ⟨p,h,_⟩
     · exact h
     · rw [hN.tl u hu k c s hk] at h
       exact absurd (congrArg Prod.fst (Option.some.inj h)) e
 · rcases (hV c).2 with h | ⟨p,h,_⟩
   · rw [h];exact hI.none c hc
   · have:=hc t p h
     omega
 · by_cases e:u=t
   · subst e;rw [updA_same];exact haw k c hk
   · rw [updA_ne _ _ e]
     exact Nat.le_trans (hI.await u hu k c hk) (hV c).1
 · by_cases e:u=t
   · subst e;rw [updA_same] at hl ⊢;exact hmic k o c hl hk
   · rw [updA_ne _ _ e] at hl ⊢
     exact (hI.mic u hu k o c hl hk).mono (hV c).1
 · rcases hss s hs with ⟨h1,h2,h3⟩ | ⟨k,c,rfl,h2,h3,h4⟩
   · obtain ⟨u,k,c,hu,rfl,hl,hk,hv⟩:=hI.slp s h1
     have e:u≠t:=fun e=>h2 (by rw [e])
     refine ⟨u,k,c,hu,rfl,by rw [updA_ne _ _ e];exact hl,hk,?_⟩
     rw [updA_ne _ _ e]
     rcases (hV c).2 with h | ⟨p,h,hp⟩
     · rcases hv with hv | ⟨w,p,hw,hp⟩
       · left;rw [h];exact hv
       · right
         refine ⟨w,p,hw,?_⟩
         have:w≠t:=fun e2=>h3 p c rfl (by rw [←e2];exact hw) (by rw [←e2];exact hp)
         rw [updA_ne _ _ this]
         exact hp
     · right
       exact ⟨t,p,h,by rw [updA_same];exact hp⟩
   · exact ⟨t,k,c,ht,rfl,by rw [updA_same];exact h2,h3,by rw [updA_same];exact .inl h4⟩

theorem NI.quiet (hN:NetOk n P wr) (hI:NI n R P wr A V ss) (ht:t<n) (hno:noT ss t) {a':AT}
   (hreg:RegOk R a') (htg:∀ k,k<(P t).length→tg (P t) a' k=tg (P t) (A t) k) (hmic:∀ (k o c:Nat),a'.l=.pc k o→(P t)[k]? = some (.aw c)→MicOk a' o (V c))
   (hl:∀ (p c s:Nat),(P t)[p]? = some (.tl c s)→(A t).l≠.pc p 1):NI n R P wr (updA A t a') V ss :=
 hI.upd hN ht hreg (fun k c s hk=>by rw [htg k (List.getElem?_eq_some_iff.1 hk).1];exact hI.cell t ht k c s hk) (fun c=>⟨Nat.le_refl _,.inl rfl⟩)
   (fun k c hk=>by rw [htg k (List.getElem?_eq_some_iff.1 hk).1];exact hI.await t ht k c hk) hmic
   (fun s hs=>.inl ⟨hs,hno s hs,fun p c hc hw hp=>by
     obtain ⟨u,k,c',hu,rfl,hl',hk,_⟩:=hI.slp s hs
     have:(c':Int)=c:=hc
     obtain rfl:c'=c:=by omega
     obtain ⟨u',p',s',hw',hu',hp'⟩:=hN.aw u hu k c' hk
     rw [hw] at hw'
     obtain ⟨rfl,rfl⟩:=Prod.mk.inj (Option.some.inj hw')
     exact hl p c' s' hp' hp⟩) hI.nd

theorem nx_mic {Q:List Pc} {k k' o:Nat} {a:AT} {v:Nat} (h:a.l=nxL Q k) (h2:a.l=.pc k' o):MicOk a o v:=by
 rw [h,nxL] at h2
 split at h2
 · injection h2 with _ h2
   subst h2
   trivial
 · cases h2

theorem reg_nx {a:AT} {Q:List Pc} {k:Nat} (h:1≤a.r∧a.r≤R∧a.e=R+1) (hl:a.l=nxL Q k):RegOk R a:=by
 rw [RegOk,hl,nxL]
 split <;> (rename_i h2;split at h2 <;> first | exact h | cases h2)

set_option maxHeartbeats 1000000 in
theorem NI.go (hN:NetOk n P wr) (hI:NI n R P wr A V ss) (ht:t<n) (hlo:LocOk (P t) (A t).l) (hd:isEnd (A t).l=false) (hno:noT ss t) :
   NI n R P wr (updA A t (stA R (P t) V (A t)).1) (efV V (stA R (P t) V (A t)).2) (efS t ss (stA R (P t) V (A t)).2):=by
 have hreg:=hI.reg t ht
 have hcell:=hI.cell t ht
 have hawt:=hI.await t ht
 have hmic:=hI.mic t ht
 have hq:=fun a'=>NI.quiet (a':=a') hN hI ht hno
 have hup:=fun a' V' ss'=>NI.upd (a':=a') (V':=V') (ss':=ss') hN hI ht
 generalize hA:A t=a at *
 obtain ⟨r,x,e,l⟩:=a
 cases l with
 | p0 =>
   refine hq ⟨1,x,e,.p1⟩ ⟨rfl,hreg.2⟩ (fun k _=>?_) (fun k o c h=>by cases h) fun p c s _ h=>by cases h
   obtain rfl:r=0:=hreg.1
   rfl
 | p1 =>
   obtain rfl:r=1:=hreg.1
   exact hq ⟨1,x,R+1,.head⟩ ⟨Nat.le_refl _,by show 1≤R+1;omega,rfl⟩ (fun k _=>rfl) (fun k o c h=>by cases h) fun p c s _ h=>by cases h
 | head =>
   obtain ⟨h1,h2,h3⟩ : 1≤r∧r≤R+1∧e=R+1:=hreg
   refine hq ⟨r,x,e,if r<e then .came else .halt⟩ ?_ (fun k _=>?_) (fun k o c h=>?_) fun p c s _ h=>by cases h
   · show RegOk R ⟨r,x,e,if r<e then .came else .halt⟩
     split
     · exact ⟨h1,by show r≤R;omega,h3⟩
     · exact ⟨by show r=R+1;omega,h3⟩
   · show tg (P t) ⟨r,x,e,if r<e then .came else .halt⟩ k=_
     split <;> rfl
   · change (if r<e then NL.came else NL.halt)=.pc k o at h
     split at h <;> cases h
 | halt=>exact hq ⟨r,x,e,.ended⟩ hreg (fun k _=>rfl) (fun k o c h=>by cases h) fun p c s _ h=>by cases h
 | ended=>cases hd
 | came =>
   refine hq ⟨r,x,e,nxL (P t) 0⟩ (reg_nx hreg rfl) (fun k _=>?_) (fun k o c h _=>nx_mic (a:=⟨r,x,e,nxL (P t) 0⟩) rfl h) fun p c s _ h=>by cases h
   rw [tg,done_nx _ (Nat.zero_le _)]
   rfl
 | gone=>exact hq ⟨r,x,e,.plus⟩ hreg (fun k _=>rfl) (fun k o c h=>by cases h) fun p c s _ h=>by cases h
 | plus =>
   obtain ⟨h1,h2,h3⟩ : 1≤r∧r≤R∧e=R+1:=hreg
   refine hq ⟨r+1,x,e,.jump⟩ ⟨by show 1≤r+1;omega,by show r+1≤R+1;omega,h3⟩ (fun k hk=>?_) (fun k o c h=>by cases h) fun p c s _ h=>by cases h
   show (if k<0 then r+1 else r+1-1)=if k<(P t).length then r else r-1
   rw [if_neg (by omega),if_pos hk]
   omega
 | jump=>exact hq ⟨r,x,e,.head⟩ hreg (fun k _=>rfl) (fun k o c h=>by cases h) fun p c s _ h=>by cases h
 | pc k o =>
   obtain ⟨y,hy,ho⟩:=hlo
   have hkl:=(List.getElem?_eq_some_iff.1 hy).1
   obtain ⟨h1,h2,h3⟩ : 1≤r∧r≤R∧e=R+1:=hreg
   rcases hN.kind t ht y (List.mem_of_getElem? hy) with ⟨c,rfl⟩ | ⟨c,s,rfl,hs⟩
   · have hst:stA R (P t) V ⟨r,x,e,.pc k o⟩ = awA V ⟨r,x,e,.pc k o⟩ c o (fun o=>.pc k o) (nxL (P t) (k+1)):=stA_pc hy
     rw [hst]
     have hlow:r≤V c+1:=by
       have:=hawt k c hy
       rw [tg,done_aw o hy,if_neg (Nat.lt_irrefl _)] at this
       change r-1≤V c at this
       omega
     have hm:=hmic k o c rfl hy
     have htg:∀ x' o',∀ j,j<(P t).length→tg (P t) ⟨r,x',e,.pc k o'⟩ j=tg (P t) ⟨r,x,e,.pc k o⟩ j:=fun x' o' j _=>by rw [tg,tg,done_aw o' hy,done_aw o hy]
     have hnt:∀ (p d s':Nat),(P t)[p]? = some (.tl d s')→NL.pc k o≠.pc p 1:=fun p d s' hp e=>by
       injection e with e _
       rw [←e,hy] at hp
       cases hp
     have haw:∀ {k' c':Nat},k'=k→(P t)[k']? = some (.aw c')→c'=c:=fun e h=>by
       rw [e,hy] at h
       injection h with h
       injection h with h
       exact h.symm
     rcases o with _ | _ | _ | _ | _ | o
     · show NI n R P wr (updA A t ⟨r,V c,e,.pc k 1⟩) (updV V c (V c)) ss
       rw [updV_same]
       refine hq _ ⟨h1,h2,h3⟩ (htg _ _) (fun k' o' c' h hk'=>?_) hnt
       injection h with hk ho'
       obtain rfl:=haw hk.symm hk'
       subst ho'
       exact ⟨Nat.le_refl _,hlow⟩
     · show NI n R P wr (updA A t ⟨r,x,e,if x<r then .pc k 3 else .pc k 2⟩) V ss
       by_cases hx:x<r
       · rw [if_pos hx]
         refine hq _ ⟨h1,h2,h3⟩ (htg _ _) (fun k' o' c' h hk'=>?_) hnt
         injection h with hk ho'
         obtain rfl:=haw hk.symm hk'
         subst ho'
         exact ⟨hx,hm.1,hm.2⟩
       · rw [if_neg hx]
         refine hq _ ⟨h1,h2,h3⟩ (htg _ _) (fun k' o' c' h hk'=>?_) hnt
         injection h with hk ho'
         obtain rfl:=haw hk.symm hk'
         subst ho'
         have h9:x≤V c':=hm.1
         show r≤V c'
         omega
     · have hr:r≤V c:=hm
       refine hup ⟨r,x,e,nxL (P t) (k+1)⟩ V ss (reg_nx ⟨h1,h2,h3⟩ rfl) (fun j d s' hj=>?_) (fun d=>⟨Nat.le_refl _,.inl rfl⟩) (fun j d hj=>?_) (fun k' o' c' h _=>nx_mic (a:=⟨r,x,e,nxL (P t) (k+1)⟩) rfl h)
         (fun s hs=>.inl ⟨hs,hno s hs,fun p d hd' hw hp=>by
           obtain ⟨u,k',c',hu,rfl,hl',hk',_⟩:=hI.slp s hs
           have:(c':Int)=d:=hd'
           obtain rfl:c'=d:=by omega
           obtain ⟨u',p',s',hw',hu',hp'⟩:=hN.aw u hu k' c' hk'
           rw [hw] at hw'
           obtain ⟨rfl,rfl⟩:=Prod.mk.inj (Option.some.inj hw')
           exact hnt p c' s' hp' hp⟩) hI.nd
       · have:=hcell j d s' hj
         rw [this,tg,tg,done_nx _ hkl,done_aw _ hy]
         have:j≠k:=fun e=>by rw [e,hy] at hj;cases hj
         by_cases hjk:j<k
         · rw [if_pos hjk,if_pos (show j<k+1 by omega)]
         · rw [if_neg hjk,if_neg (show ¬j<k+1 by omega)]
       · have h9:=hawt j d hj
         rw [tg,done_nx _ hkl]
         rw [tg,done_aw _ hy] at h9
         by_cases hjk:j<k
         · rw [if_pos hjk] at h9
           rw [if_pos (show j<k+1 by omega)]
           exact h9
         · by_cases e:j=k
           · obtain rfl:=haw e hj
             rw [if_pos (show j<k+1 by omega)]
             exact hr
           · rw [if_neg hjk] at h9
             rw [if_neg (show ¬j<k+1 by omega)]
             exact h9
     · show NI n R P wr (updA A t ⟨r,x,e,.pc k 4⟩) (efV V (if V c=x then .slp c else .no)) (efS t ss (if V c=x then .slp c else .no))
       by_cases hv:V c=x
       · rw [if_pos hv]
         have hxr:x<r:=hm.1
         refine hup ⟨r,x,e,.pc k 4⟩ V (ss++[⟨t,c⟩]) ⟨h1,h2,h3⟩ (fun j d s' hj=>?_) (fun d=>⟨Nat.le_refl _,.inl rfl⟩) (fun j d hj=>?_) (fun k' o' c' h _=>?_) (fun s hs=>?_) ?_
         · rw [htg x 4 j (List.getElem?_eq_some_iff.1 hj).1]
           exact hcell j d s' hj
         · rw [htg x 4 j (List.getElem?_eq_some_iff.1 hj).1]
           exact hawt j d hj
         · injection h with _ h
           subst h
           trivial
         · rcases List.mem_append.1 hs with hs | hs
           · refine .inl ⟨hs,hno s hs,fun p d hd' hw hp=>?_⟩
             obtain ⟨u,k',c',hu,rfl,hl',hk',_⟩:=hI.slp s hs
             have:(c':Int)=d:=hd'
             obtain rfl:c'=d:=by omega
             obtain ⟨u',p',s',hw',hu',hp'⟩:=hN.aw u hu k' c' hk'
             rw [hw] at hw'
             obtain ⟨rfl,rfl⟩:=Prod.mk.inj (Option.some.inj hw')
             exact hnt p c' s' hp' hp
           · exact .inr ⟨k,c,List.mem_singleton.1 hs,rfl,hy,by show V c<r;omega⟩
         · rw [List.map_append,List.nodup_append]
           refine ⟨hI.nd,by simp,fun y hy z hz=>?_⟩
           simp at hz
           subst hz
           obtain ⟨s,hs,rfl⟩:=List.mem_map.1 hy
           exact hno s hs
       · rw [if_neg hv]
         refine hq _ ⟨h1,h2,h3⟩ (htg _ _) (fun k' o' c' h hk'=>?_) hnt
         injection h with hk ho'
         subst ho'
         trivial
     · refine hq ⟨r,x,e,.pc k 0⟩ ⟨h1,h2,h3⟩ (htg _ _) (fun k' o' c' h hk'=>?_) hnt
       injection h with hk ho'
       subst ho'
       trivial
     · exact absurd ho (by show ¬o+5<5;omega)
   · have hw:=hN.tl t ht k c s hy
     have hn1:∀ {j d s':Nat},(P t)[j]? = some (.tl d s')→d=c→j=k:=fun hj e=>by
       subst e
       have:=hN.tl t ht _ _ _ hj
       rw [hw] at this
       exact (congrArg Prod.snd (Option.some.inj this)).symm
     rcases o with _ | _ | o
     · have hst:stA R (P t) V ⟨r,x,e,.pc k 0⟩ = (⟨r,x,e,.pc k 1⟩,.act 7 c (V c) r):=stA_pc hy
       rw [hst]
       have hvc:V c=r-1:=by
         rw [hcell k c s hy,tg,done_tl0 hy,if_neg (Nat.lt_irrefl _)]
       have htg:∀ j,j≠k→tg (P t) ⟨r,x,e,.pc k 1⟩ j=tg (P t) ⟨r,x,e,.pc k 0⟩ j:=fun j hj=>by
         rw [tg,tg,done_tl0 hy,done_tl1 0 hy]
         by_cases hjk:j<k
         · rw [if_pos hjk,if_pos (show j<k+1 by omega)]
         · rw [if_neg hjk,if_neg (show ¬j<k+1 by omega)]
       refine hup ⟨r,x,e,.pc k 1⟩ (updV V c r) ss ⟨h1,h2,h3⟩ (fun j d s' hj=>?_) (fun d=>?_) (fun j d hj=>?_) (fun k' o' c' h hk'=>?_) (fun s' hs'=>.inl ⟨hs',hno s' hs',fun p d hd' hw' hp=>?_⟩) hI.nd
       · by_cases e2:d=c
         · obtain rfl:=hn1 hj e2
           subst e2
           rw [tg,done_tl1 0 hy,if_pos (show j<j+1 by omega)]
           show (if d=d then r else V d)=r
           rw [if_pos rfl]
         · have:j≠k:=fun e=>by
             rw [e,hy] at hj
             injection hj with hj
             injection hj with hj _
             exact e2 hj.symm
           rw [htg j this,←hcell j d s' hj]
           show (if d=c then r else V d)=V d
           rw [if_neg e2]
       · show V d≤(if d=c then r else V d)∧((if d=c then r else V d)=V d∨_)
         by_cases e2:d=c
         · rw [if_pos e2,e2]
           exact ⟨by omega,.inr ⟨k,hw,rfl⟩⟩
         · rw [if_neg e2]
           exact ⟨Nat.le_refl _,.inl rfl⟩
       · have:j≠k:=fun e=>by rw [e,hy] at hj;cases hj
         rw [htg j this]
         have h9:=hawt j d hj
         show _≤(if d=c then r else V d)
         by_cases e2:d=c
         · rw [if_pos e2]
           rw [e2] at h9
           omega
         · rw [if_neg e2]
           exact h9
       · injection h with hk ho'
         rw [←hk,hy] at hk'
         cases hk'
       · injection hp with _ hp
         cases hp
     · have hst:stA R (P t) V ⟨r,x,e,.pc k 1⟩ = (⟨r,x,e,nxL (P t) (k+1)⟩,.wk c s):=stA_pc hy
       have hwk:(wakeL c s 0 ss).2=ss.filter fun x=>x.c != (c:Int):=wakeL_filter c s ss 0 (by have:=hI.sleepers c;omega)
       rw [hst]
       show NI n R P wr (updA A t ⟨r,x,e,nxL (P t) (k+1)⟩) V (wakeL c s 0 ss).2
       rw [hwk]
       have htg:∀ j,tg (P t) ⟨r,x,e,nxL (P t) (k+1)⟩ j=tg (P t) ⟨r,x,e,.pc k 1⟩ j:=fun j=>by rw [tg,tg,done_nx _ hkl,done_tl1 0 hy]
       refine hup _ V _ (reg_nx ⟨h1,h2,h3⟩ rfl) (fun j d s' hj=>?_) (fun d=>⟨Nat.le_refl _,.inl rfl⟩) (fun j d hj=>?_) (fun k' o' c' h _=>nx_mic (a:=⟨r,x,e,nxL (P t) (k+1)⟩) rfl h) (fun s' hs'=>?_) (hI.nd.sublist (List.filter_sublist.map _))
       · rw [htg];exact hcell j d s' hj
       · rw [htg];exact hawt j d hj
       · obtain ⟨hs',hne⟩:=List.mem_filter.1 hs'
         refine .inl ⟨hs',hno s' hs',fun p d hd' hw' hp=>?_⟩
         injection hp with hp _
         subst hp
         obtain ⟨u,k',c',hu,rfl,hl',hk',_⟩:=hI.slp s' hs'
         have:(c':Int)=d:=hd'
         obtain rfl:c'=d:=by omega
         obtain ⟨u',p',s'',hw'',hu',hp'⟩:=hN.aw u hu k' c' hk'
         rw [hw'] at hw''
         obtain ⟨rfl,rfl⟩:=Prod.mk.inj (Option.some.inj hw'')
         rw [hy] at hp'
         injection hp' with hp'
         injection hp' with hp' _
         subst hp'
         simp at hne
     · exact absurd ho (by show ¬o+2<2;omega)

theorem NI.poke (hI:NI n R P wr A V ss) (t:Int):NI n R P wr A V (ss.filter fun s=>s.t != t) :=
 ⟨hI.reg,hI.cell,hI.none,hI.await,hI.mic,fun s hs=>hI.slp s (List.mem_filter.1 hs).1,hI.nd.sublist (List.filter_sublist.map _)⟩

theorem NI.begin (n R:Nat) (P:Nat→List Pc) (wr:Nat→Option (Nat×Nat)):NI n R P wr (fun _=>⟨0,0,0,.p0⟩) (fun _=>0) [] :=
 ⟨fun t _=>⟨rfl,rfl⟩,fun t _ k c s _=>(by rw [tg];split <;> rfl),fun c _=>rfl,fun t _ k c _=>(by rw [tg];split <;> exact Nat.le_refl _),fun t _ k o c h _=>(by cases h),fun s h=>(by simp at h),List.nodup_nil⟩

theorem tg_cm (Q:List Pc) (a:AT) (k:Nat):tg Q a k≤cmA a:=by
 obtain ⟨r,x,e,l⟩:=a
 rw [tg]
 cases l <;> (show (if k<_ then r else r-1)≤_;split <;> first | omega | (rename_i h;exact absurd h (Nat.not_lt_zero _)) | (show _≤r;omega) | (show _≤r-1;omega))

theorem tg_mono (Q:List Pc) (a:AT) {j k:Nat} (h:j≤k):tg Q a k≤tg Q a j:=by
 rw [tg,tg]
 split
 · rw [if_pos (by omega)];exact Nat.le_refl _
 · split <;> omega

def kn (P:Nat→List Pc) (wr:Nat→Option (Nat×Nat)):Nat→Nat→Nat→Nat→Bool
 | 0,t,_,u=>t == u
 | f+1,t,k,u=>t == u || (List.range (k+1)).any fun j=>match (P t)[j]? with
   | some (.aw c)=>match wr c with
     | some (w,p)=>kn P wr f w p u
     | none=>false
   | _=>false

theorem kn_ok (hN:NetOk n P wr) (hI:NI n R P wr A V ss):∀ (f t k u:Nat),t<n→kn P wr f t k u=true→tg (P t) (A t) k≤cmA (A u)
 | 0,t,k,u,_,h=>by
   obtain rfl:t=u:=by simpa [kn] using h
   exact tg_cm _ _ _
 | f+1,t,k,u,ht,h=>by
   rw [kn,Bool.or_eq_true] at h
   rcases h with h | h
   · obtain rfl:t=u:=by simpa using h
     exact tg_cm _ _ _
   · obtain ⟨j,hj,h⟩:=List.any_eq_true.1 h
     have hj:=List.mem_range.1 hj
     split at h
     · rename_i c hc
       split at h
       · rename_i w p hw
         obtain ⟨u',p',s,hw',hu',hp⟩:=hN.aw t ht j c hc
         rw [hw] at hw'
         obtain ⟨rfl,rfl⟩:=Prod.mk.inj (Option.some.inj hw')
         have h1:=kn_ok hN hI f w p u hu' h
         have h2:=hI.cell w hu' p c s hp
         have h3:=hI.await t ht j c hc
         have h4:=tg_mono (P t) (A t) (show j≤k by omega)
         omega
       · cases h
     · cases h

theorem NI.safe (hN:NetOk n P wr) (hI:NI n R P wr A V ss) {f:Nat} (hk:∀ t,t<n→∀ u,u<n→t=u∨0<(P t).length∧kn P wr f t ((P t).length-1) u=true)
   (ht:t<n) (hg:(A t).l=.gone):∀ u,u<n→(A t).r≤cmA (A u):=fun u hu=>by
 rcases hk t ht u hu with rfl | ⟨hp,h⟩
 · rw [cmA,hg];exact Nat.le_refl _
 · have:=kn_ok hN hI f t _ u ht h
   rw [tg,hg,if_pos (by show _<(P t).length;omega)] at this
   exact this

def dpB (P:Nat→List Pc) (wr:Nat→Option (Nat×Nat)):Nat→Nat→Nat→Bool
 | 0,_,_=>false
 | f+1,t,k=>match (P t)[k]? with
   | some (.aw c)=>match wr c with
     | some (w,p)=>(List.range p).all fun j=>match (P w)[j]? with
       | some (.aw _)=>dpB P wr f w j
       | _=>true
     | none=>false
   | _=>false

theorem no_ring (hN:NetOk n P wr) (hI:NI n R P wr A V ss) {F:Nat} (hd:∀ t,t<n→∀ (k c:Nat),(P t)[k]? = some (.aw c)→dpB P wr F t k=true)
   (hs:∀ t,t<n→(A t).l=.ended∨∃ s∈ss,s.t=t):∀ (r0 f t k c:Nat),t<n→(A t).r=r0→(A t).l=.pc k 4→(P t)[k]? = some (.aw c)→(∃ s∈ss,s.t=t)→dpB P wr f t k=true→False:=by
 intro r0
 induction r0 using Nat.strongRecOn with
 | ind r0 ihr =>
   intro f
   induction f with
   | zero=>intro t k c _ _ _ _ _ h;cases h
   | succ f ihf =>
     intro t k c ht hr hl hk ⟨s,hss,hst⟩ hdp
     obtain ⟨t',k',c',ht',rfl,hl',hk',hv⟩:=hI.slp s hss
     have:(t':Int)=t:=hst
     obtain rfl:t'=t:=by omega
     rw [hl] at hl'
     obtain ⟨rfl,-⟩:=NL.pc.inj hl'
     rw [hk] at hk'
     obtain rfl:=Pc.aw.inj (Option.some.inj hk')
     obtain ⟨w,p,s',hw,hwn,hp⟩:=hN.aw t' ht k c hk
     have hreg:=hI.reg t' ht
     rw [RegOk,hl] at hreg
     have hv:V c<(A t').r:=by
       rcases hv with hv | ⟨u,q,hu,hq⟩
       · exact hv
       · exfalso
         rw [hw] at hu
         obtain ⟨rfl,rfl⟩:=Prod.mk.inj (Option.some.inj hu)
         rcases hs w hwn with h | ⟨s2,hs2,e2⟩
         · rw [hq] at h;cases h
         · obtain ⟨t2,k2,c2,_,rfl,hl2,_⟩:=hI.slp s2 hs2
           have:(t2:Int)=w:=e2
           obtain rfl:t2=w:=by omega
           rw [hq] at hl2
           have:=(NL.pc.inj hl2).2
           omega
     have hcw:=hI.cell w hwn p c s' hp
     have hregw:=hI.reg w hwn
     rcases hs w hwn with h | ⟨s2,hs2,e2⟩
     · rw [RegOk,h] at hregw
       rw [tg,h,if_neg (show ¬p<doneL (P w) NL.ended from Nat.not_lt_zero _)] at hcw
       have:=hreg.2.1
       have:=hregw.1
       omega
     · obtain ⟨t2,j,c2,_,rfl,hl2,hj,_⟩:=hI.slp s2 hs2
       have:(t2:Int)=w:=e2
       obtain rfl:t2=w:=by omega
       rw [tg,hl2,done_aw 4 hj] at hcw
       rw [RegOk,hl2] at hregw
       have hle:(A t2).r≤r0:=by
         split at hcw <;> omega
       by_cases hlt:(A t2).r<r0
       · exact ihr _ hlt F t2 j c2 hwn rfl hl2 hj ⟨_,hs2,rfl⟩ (hd t2 hwn j c2 hj)
       · have hpj:¬p<j:=fun h=>by
           rw [if_pos h] at hcw
           omega
         have hne:j≠p:=fun e=>by rw [e,hp] at hj;cases hj
         rw [dpB,hk] at hdp
         dsimp only at hdp
         rw [hw] at hdp
         have:=List.all_eq_true.1 hdp j (List.mem_range.2 (by omega))
         rw [hj] at this
         exact ihf t2 j c2 hwn (by omega) hl2 hj ⟨_,hs2,rfl⟩ this

theorem NI.live (hN:NetOk n P wr) (hI:NI n R P wr A V ss) {F:Nat} (hd:∀ t,t<n→∀ (k c:Nat),(P t)[k]? = some (.aw c)→dpB P wr F t k=true)
   (hs:∀ t,t<n→(A t).l=.ended∨∃ s∈ss,s.t=t):∀ t,t<n→(A t).l=.ended:=fun t ht=>by
 rcases hs t ht with h | ⟨s,hss,e⟩
 · exact h
 · exfalso
   obtain ⟨t2,k,c,_,rfl,hl,hk,_⟩:=hI.slp s hss
   have:(t2:Int)=t:=e
   obtain rfl:t2=t:=by omega
   exact no_ring hN hI hd hs _ F t2 k c ht rfl hl hk ⟨_,hss,rfl⟩ (hd t2 ht k c hk)

end

end Go.Mac
