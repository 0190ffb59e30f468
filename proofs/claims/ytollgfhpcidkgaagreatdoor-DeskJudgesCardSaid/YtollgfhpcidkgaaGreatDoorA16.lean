/- Texts that belong together; the first of them:  -/
import Derived.Test.YtollgfhpcidkgaaGreatDoorQNet
import Derived.Test.YtollgfhpcidkgaaGreatDoorA12

section
open Go Go.Proofs Go.Mac
set_option maxRecDepth 100000

namespace Go.Mac

def evS (n:Nat) (l:List EvZ):List Int×List Int:=l.foldl (fun p e=>(oneZ e p.1 p.2).2) (noughts n,noughts n)

theorem evS_snoc (n:Nat) (l:List EvZ) (e:EvZ):evS n (l++[e])=(oneZ e (evS n l).1 (evS n l).2).2:=by rw [evS,List.foldl_append];rfl

theorem runZ_snoc:∀ (l:List EvZ) (e:EvZ) (i:Nat) (c g:List Int),runZ l i c g=none→(oneZ e (l.foldl (fun p e=>(oneZ e p.1 p.2).2) (c,g)).1 (l.foldl (fun p e=>(oneZ e p.1 p.2).2) (c,g)).2).1=0→runZ (l++[e]) i c g=none
 | [],e,i,c,g,_,h=>by
   have h:(oneZ e c g).1=0:=h
   rw [List.nil_append,runZ,if_pos h]
   rfl
 | x::l,e,i,c,g,h,h2=>by
   rw [List.cons_append,runZ]
   rw [runZ] at h
   split at h
   · rename_i h1
     rw [if_pos h1]
     exact runZ_snoc l e (i+1) _ _ h h2
   · cases h

theorem check_snoc {n:Nat} {l:List EvZ} {e:EvZ} (h:checkZ n l=none) (h2:(oneZ e (evS n l).1 (evS n l).2).1=0):checkZ n (l++[e])=none:=runZ_snoc l e 0 _ _ h h2

theorem JInv.runS {n:Nat}:∀ (l:List EvZ) (i:Nat) (c g:List Int) (a:Int),JInv n c g a→runZ l i c g=none→JInv n (l.foldl (fun p e=>(oneZ e p.1 p.2).2) (c,g)).1 (l.foldl (fun p e=>(oneZ e p.1 p.2).2) (c,g)).2 (l.foldl anyStep a)∧(l.foldl (fun p e=>(oneZ e p.1 p.2).2) (c,g)).2=l.foldl goneStep g
 | [],_,_,_,_,h,_=>⟨h,rfl⟩
 | e::l,i,c,g,a,h,hr=>by
   rw [runZ] at hr
   split at hr
   · rename_i h0
     obtain ⟨h1,h2⟩:=h.step e h0
     obtain ⟨h3,h4⟩:=JInv.runS l (i+1) _ _ _ h1 hr
     rw [List.foldl_cons,List.foldl_cons,List.foldl_cons]
     exact ⟨h3,by rw [←h2];exact h4⟩
   · cases hr

theorem check_inv {n:Nat} {l:List EvZ} (h:checkZ n l=none):JInv n (evS n l).1 (evS n l).2 (anyR l)∧(evS n l).2=goneR n l:=JInv.runS l 0 _ _ 0 (JInv.begin n) h

structure Bar (n R:Nat) (P:Nat→List Pc) (I:(Nat→AT)→(Nat→Nat)→List Slp→Prop) (F:(Nat→AT)→(Nat→Nat)→List Slp→Nat):Prop where
 begin:I (fun _=>⟨0,0,0,.p0⟩) (fun _=>0) []
 go:∀ A V ss t,I A V ss→t<n→LocOk (P t) (A t).l→isEnd (A t).l=false→noT ss t →
   I (updA A t (stA R (P t) V (A t)).1) (efV V (stA R (P t) V (A t)).2) (efS t ss (stA R (P t) V (A t)).2)∧F (updA A t (stA R (P t) V (A t)).1) (efV V (stA R (P t) V (A t)).2) (efS t ss (stA R (P t) V (A t)).2)+1≤F A V ss
 poke:∀ A V ss (t:Int),I A V ss→I A V (ss.filter fun s=>s.t != t)∧F A V (ss.filter fun s=>s.t != t)≤F A V ss+4
 reg:∀ A V ss,I A V ss→∀ t,t<n→RegOk R (A t)
 safe:∀ A V ss t,I A V ss→t<n→(A t).l=.gone→∀ u,u<n→(A t).r≤cmA (A u)
 live:∀ A V ss,I A V ss→(∀ t,t<n→(A t).l=.ended∨∃ s∈ss,s.t=t)→∀ t,t<n→(A t).l=.ended

structure EvI (n:Nat) (A:Nat→AT) (el:List EvZ):Prop where
 ok:checkZ n el=none
 c:(evS n el).1=(List.range n).map fun t=>(cmA (A t):Int)
 g:(evS n el).2=(List.range n).map fun t=>(gnA (A t):Int)
 len:el.length=rsum n fun t=>cmA (A t)+gnA (A t)

theorem aw_cm {V:Nat→Nat} {a:AT} {c o:Nat} {f:Nat→NL} {out:NL} (hr:∀ o,∃ k o',f o=.pc k o') (hl:∃ k o',a.l=.pc k o') (ho:(∃ k o',out=.pc k o')∨out=.gone):cmA (awA V a c o f out).1=cmA a∧gnA (awA V a c o f out).1=gnA a:=by
 obtain ⟨k,o',hl⟩:=hl
 obtain ⟨r,x,e,l⟩:=a
 dsimp only at hl
 subst hl
 have key:∀ (x:Nat) (l:NL),(∃ k o',l=.pc k o')∨l=.gone→cmA ⟨r,x,e,l⟩ = r∧gnA ⟨r,x,e,l⟩ = r-1:=fun x l h=>by
   rcases h with ⟨k,o',rfl⟩ | rfl <;> exact ⟨rfl,rfl⟩
 rcases o with _ | _ | _ | _ | o
 · exact key _ _ (.inl (hr 1))
 · refine key _ (if x<r then f 3 else f 2) ?_
   split
   · exact .inl (hr 3)
   · exact .inl (hr 2)
 · exact key _ _ ho
 · exact key _ _ (.inl (hr 4))
 · exact key _ _ (.inl (hr 0))

theorem nx_pc (Q:List Pc) (k:Nat):(∃ k' o',nxL Q k=.pc k' o')∨nxL Q k=.gone:=by
 rw [nxL]
 split
 · exact .inl ⟨_,_,rfl⟩
 · exact .inr rfl

theorem cm_nx (r x e:Nat) (Q:List Pc) (k:Nat):cmA ⟨r,x,e,nxL Q k⟩ = r∧gnA ⟨r,x,e,nxL Q k⟩ = r-1:=by
 rcases nx_pc Q k with ⟨k',o',h⟩ | h <;> rw [h] <;> exact ⟨rfl,rfl⟩

theorem st_say {R:Nat} {Q:List Pc} {V:Nat→Nat} {a:AT} (hr:RegOk R a) :
   ((∀ b x,(stA R Q V a).2≠.say b x)∧cmA (stA R Q V a).1=cmA a∧gnA (stA R Q V a).1=gnA a) ∨
     (a.l=.came∧(stA R Q V a).2=.say 1 a.r∧1≤a.r∧cmA a=a.r-1∧gnA a=a.r-1∧cmA (stA R Q V a).1=a.r∧gnA (stA R Q V a).1=a.r-1) ∨
     (a.l=.gone∧(stA R Q V a).2=.say 2 a.r∧1≤a.r∧cmA a=a.r∧gnA a=a.r-1∧cmA (stA R Q V a).1=a.r∧gnA (stA R Q V a).1=a.r):=by
 obtain ⟨r,x,e,l⟩:=a
 cases l with
 | p0 =>
   obtain rfl:r=0:=hr.1
   exact .inl ⟨fun b x h=>(by cases h),rfl,rfl⟩
 | p1=>exact .inl ⟨fun b x h=>(by cases h),rfl,rfl⟩
 | head =>
   refine .inl ⟨fun b x h=>(by cases h),?_⟩
   show cmA ⟨r,x,e,if r<e then .came else .halt⟩ = r-1∧gnA ⟨r,x,e,if r<e then .came else .halt⟩ = r-1
   split <;> exact ⟨rfl,rfl⟩
 | halt=>exact .inl ⟨fun b x h=>(by cases h),rfl,rfl⟩
 | came=>exact .inr (.inl ⟨rfl,rfl,hr.1,rfl,rfl,(cm_nx _ _ _ _ _).1,(cm_nx _ _ _ _ _).2⟩)
 | gone=>exact .inr (.inr ⟨rfl,rfl,hr.1,rfl,rfl,rfl,rfl⟩)
 | plus=>exact .inl ⟨fun b x h=>(by cases h),rfl,rfl⟩
 | jump=>exact .inl ⟨fun b x h=>(by cases h),rfl,rfl⟩
 | ended=>exact .inl ⟨fun b x h=>(by cases h),rfl,rfl⟩
 | pc k o =>
   left
   have haw:∀ (c o:Nat) (f:Nat→NL) (out:NL) b x',(awA V ⟨r,x,e,.pc k o⟩ c o f out).2≠.say b x':=fun c o f out b x' h=>by
     rcases o with _ | _ | _ | _ | o
     · cases h
     · cases h
     · cases h
     · change (if V c=x then Ef.slp c else .no)=.say b x' at h
       split at h <;> cases h
     · cases h
   have haw2:∀ (a:AT) (c o:Nat) (f:Nat→NL) (out:NL) b x',(awA V a c o f out).2≠.say b x':=fun a c o f out b x' h=>by
     rcases o with _ | _ | _ | _ | o
     · cases h
     · cases h
     · cases h
     · change (if V c=a.x then Ef.slp c else .no)=.say b x' at h
       split at h <;> cases h
     · cases h
   cases hy:Q[k]? with
   | none =>
     have:stA R Q V ⟨r,x,e,.pc k o⟩ = (⟨r,x,e,.pc k o⟩,.no):=by rw [stA];dsimp only;rw [hy]
     rw [this]
     exact ⟨fun b x h=>(by cases h),rfl,rfl⟩
   | some y =>
     rw [stA_pc hy]
     cases y with
     | aw c=>exact ⟨fun b x' h=>haw2 _ _ _ _ _ _ _ h,aw_cm (fun o=>⟨_,_,rfl⟩) ⟨_,_,rfl⟩ (nx_pc _ _)⟩
     | tl c n =>
       rcases o with _ | o
       · exact ⟨fun b x h=>(by cases h),rfl,rfl⟩
       · exact ⟨fun b x h=>(by cases h),cm_nx _ _ _ _ _⟩
     | up c s j =>
       rcases o with _ | _ | o
       · exact ⟨fun b x h=>(by cases h),rfl,rfl⟩
       · refine ⟨fun b x h=>(by cases h),?_⟩
         show cmA ⟨r,x,e,if (x:Int)=s-1 then nxL Q (k+1) else .pc k 2⟩ = r∧gnA ⟨r,x,e,if (x:Int)=s-1 then nxL Q (k+1) else .pc k 2⟩ = r-1
         split
         · exact cm_nx _ _ _ _ _
         · exact ⟨rfl,rfl⟩
       · by_cases h5:o=5
         · subst h5
           exact ⟨fun b x h=>(by cases h),cm_nx _ _ _ _ _⟩
         · have:stPc Q V ⟨r,x,e,.pc k (o+1+1)⟩ k (o+1+1) (.up c s j)=awA V ⟨r,x,e,.pc k (o+1+1)⟩ (c+1) o (fun o=>.pc k (o+2)) (.pc k 7):=stPc_up h5
           rw [this]
           exact ⟨fun b x' h=>haw2 _ _ _ _ _ _ _ h,aw_cm (fun o=>⟨_,_,rfl⟩) ⟨_,_,rfl⟩ (.inl ⟨_,_,rfl⟩)⟩
     | dn c s =>
       rcases o with _ | _ | _ | o
       · exact ⟨fun b x h=>(by cases h),rfl,rfl⟩
       · exact ⟨fun b x h=>(by cases h),rfl,rfl⟩
       · exact ⟨fun b x h=>(by cases h),rfl,rfl⟩
       · exact ⟨fun b x h=>(by cases h),cm_nx _ _ _ _ _⟩

theorem range_set {n t:Nat} {f g:Nat→Int} (h:∀ s,s≠t→f s=g s):((List.range n).map f).set t (g t)=(List.range n).map g:=by
 refine List.ext_getElem? fun j=>?_
 by_cases hj:j<n
 · by_cases e:t=j
   · subst e
     rw [List.getElem?_set_self (by simpa using hj),List.getElem?_map,List.getElem?_range hj]
     rfl
   · rw [List.getElem?_set_ne e,List.getElem?_map,List.getElem?_map,List.getElem?_range hj]
     exact congrArg some (h j fun h=>e h.symm)
 · rw [List.getElem?_eq_none (by simp;omega),List.getElem?_eq_none (by simp;omega)]

theorem rsum_set {n t:Nat} {g h:Nat→Nat} (ht:t<n) (hl:∀ s,s≠t→g s=h s):rsum n g+h t=rsum n h+g t:=by
 have h1:=rsum_upd (n:=n) (g:=g) (h:=h) ht fun s _ e=>Nat.le_of_eq (hl s e)
 have h2:=rsum_upd (n:=n) (g:=h) (h:=g) ht fun s _ e=>Nat.le_of_eq (hl s e).symm
 omega

theorem EvI.go {n R:Nat} {P:Nat→List Pc} {A:Nat→AT} {V:Nat→Nat} {el:List EvZ} {t k:Nat} (h:EvI n A el) (ht:t<n) (hreg:RegOk R (A t)) (hs:(A t).l=.gone→∀ u,u<n→(A t).r≤cmA (A u)) :
   EvI n (updA A t (stA R (P t) V (A t)).1) (efE k t el (stA R (P t) V (A t)).2):=by
 have hg:∀ (f:Nat→Nat) ,(((List.range n).map fun t=>(f t:Int))).getD t 0=f t:=fun f=>by
   rw [List.getD_eq_getElem?_getD,List.getElem?_map,List.getElem?_range ht];rfl
 have hl:∀ (f:Nat→Nat),(((List.range n).map fun t=>(f t:Int))).length=n:=fun f=>by simp
 have hne:∀ (f:AT→Nat) (s':AT) s,s≠t→(f (A s):Int)=f (updA A t s' s):=fun f s' s e=>by rw [updA_ne _ _ e]
 rcases st_say (Q:=P t) (V:=V) hreg with ⟨h1,h2,h3⟩ | ⟨hl1,h1,h2,h3,h4,h5,h6⟩ | ⟨hl1,h1,h2,h3,h4,h5,h6⟩
 · have hsame:efE k t el (stA R (P t) V (A t)).2=el:=by
     cases hE:(stA R (P t) V (A t)).2 with
     | say b x=>exact absurd hE (h1 b x)
     | _=>rfl
   have ec:∀ s,cmA (updA A t (stA R (P t) V (A t)).1 s)=cmA (A s):=fun s=>by
     by_cases e:s=t
     · subst e;rw [updA_same];exact h2
     · rw [updA_ne _ _ e]
   have eg:∀ s,gnA (updA A t (stA R (P t) V (A t)).1 s)=gnA (A s):=fun s=>by
     by_cases e:s=t
     · subst e;rw [updA_same];exact h3
     · rw [updA_ne _ _ e]
   rw [hsame]
   refine ⟨h.ok,?_,?_,?_⟩
   · rw [h.c];exact List.map_congr_left fun s _=>by rw [ec]
   · rw [h.g];exact List.map_congr_left fun s _=>by rw [eg]
   · rw [h.len];congr 1;exact funext fun s=>by rw [ec,eg]
 · have one:oneZ ⟨(k:Int),1,t,(A t).r⟩ (evS n el).1 (evS n el).2=(0,((evS n el).1.set t ((A t).r:Int)),(evS n el).2):=by
     have e1:(evS n el).1.getD t 0=((A t).r:Int)-1:=by rw [h.c,hg,h3];omega
     have e2:(evS n el).2.getD t 0=((A t).r:Int)-1:=by rw [h.g,hg,h4];omega
     rw [oneZ,if_neg (by simp),if_neg (by rw [h.c,hl];show ¬((t:Int)<0∨(t:Int)≥n);omega),if_pos rfl]
     dsimp only
     rw [Int.toNat_natCast,e1,e2,if_neg (by omega)]
     rw [show ((A t).r:Int)-1+1=(A t).r by omega]
   have hE:efE k t el (stA R (P t) V (A t)).2=el++[⟨(k:Int),1,t,(A t).r⟩]:=by rw [h1];rfl
   rw [hE]
   have hs2:evS n (el++[⟨(k:Int),1,t,(A t).r⟩])=((evS n el).1.set t ((A t).r:Int),(evS n el).2):=by rw [evS_snoc,one]
   refine ⟨check_snoc h.ok (by rw [one]),?_,?_,?_⟩
   · rw [hs2]
     show (evS n el).1.set t _=_
     rw [h.c]
     have:=range_set (n:=n) (t:=t) (f:=fun s=>(cmA (A s):Int)) (g:=fun s=>(cmA (updA A t (stA R (P t) V (A t)).1 s):Int)) fun s e=>hne cmA _ s e
     rw [←this]
     rw [updA_same,h5]
   · rw [hs2]
     show (evS n el).2=_
     rw [h.g]
     refine List.map_congr_left fun s _=>?_
     by_cases e:s=t
     · subst e;rw [updA_same,h6,h4]
     · rw [updA_ne _ _ e]
   · rw [List.length_append,h.len]
     have:=rsum_set (n:=n) (t:=t) (g:=fun s=>cmA (A s)+gnA (A s)) (h:=fun s=>cmA (updA A t (stA R (P t) V (A t)).1 s)+gnA (updA A t (stA R (P t) V (A t)).1 s)) ht fun s e=>by rw [updA_ne _ _ e]
     rw [updA_same,h5,h6,h3,h4] at this
     show rsum n _+1=_
     omega
 · have one:oneZ ⟨(k:Int),2,t,(A t).r⟩ (evS n el).1 (evS n el).2=(0,(evS n el).1,((evS n el).2.set t ((A t).r:Int))):=by
     have e1:(evS n el).1.getD t 0=((A t).r:Int):=by rw [h.c,hg,h3]
     have e2:(evS n el).2.getD t 0=((A t).r:Int)-1:=by rw [h.g,hg,h4];omega
     rw [oneZ,if_neg (by simp),if_neg (by rw [h.c,hl];show ¬((t:Int)<0∨(t:Int)≥n);omega),if_neg (show ¬(2:Int)=1 by decide)]
     dsimp only
     rw [Int.toNat_natCast,e1,e2,if_neg (by omega),if_neg ?_]
     · rw [show ((A t).r:Int)-1+1=(A t).r by omega]
     · rw [Bool.not_eq_true,List.any_eq_false]
       intro x hx
       rw [h.c] at hx
       obtain ⟨u,hu,rfl⟩:=List.mem_map.1 hx
       have:=hs hl1 u (List.mem_range.1 hu)
       simp
       omega
   have hE:efE k t el (stA R (P t) V (A t)).2=el++[⟨(k:Int),2,t,(A t).r⟩]:=by rw [h1];rfl
   rw [hE]
   have hs2:evS n (el++[⟨(k:Int),2,t,(A t).r⟩])=((evS n el).1,(evS n el).2.set t ((A t).r:Int)):=by rw [evS_snoc,one]
   refine ⟨check_snoc h.ok (by rw [one]),?_,?_,?_⟩
   · rw [hs2]
     show (evS n el).1=_
     rw [h.c]
     refine List.map_congr_left fun s _=>?_
     by_cases e:s=t
     · subst e;rw [updA_same,h5,h3]
     · rw [updA_ne _ _ e]
   · rw [hs2]
     show (evS n el).2.set t _=_
     rw [h.g]
     have:=range_set (n:=n) (t:=t) (f:=fun s=>(gnA (A s):Int)) (g:=fun s=>(gnA (updA A t (stA R (P t) V (A t)).1 s):Int)) fun s e=>hne gnA _ s e
     rw [←this]
     rw [updA_same,h6]
   · rw [List.length_append,h.len]
     have:=rsum_set (n:=n) (t:=t) (g:=fun s=>cmA (A s)+gnA (A s)) (h:=fun s=>cmA (updA A t (stA R (P t) V (A t)).1 s)+gnA (updA A t (stA R (P t) V (A t)).1 s)) ht fun s e=>by rw [updA_ne _ _ e]
     rw [updA_same,h5,h6,h3,h4] at this
     show rsum n _+1=_
     omega

theorem EvI.begin (n:Nat):EvI n (fun _=>⟨0,0,0,.p0⟩) []:=by
 have hz:noughts n=(List.range n).map fun t=>((0:Nat):Int):=by
   refine List.ext_getElem (by simp [noughts]) fun i h1 h2=>?_
   simp [noughts]
 refine ⟨rfl,hz,hz,?_⟩
 have:=rsum_const n 0 (fun _=>cmA ⟨0,0,0,.p0⟩ + gnA ⟨0,0,0,.p0⟩) fun s _=>Nat.le_refl _
 show 0=rsum n (fun _=>cmA ⟨0,0,0,.p0⟩ + gnA ⟨0,0,0,.p0⟩)
 omega

structure DI (n nc R:Nat) (P:Nat→List Pc) (I:(Nat→AT)→(Nat→Nat)→List Slp→Prop) (F:(Nat→AT)→(Nat→Nat)→List Slp→Nat) (b:Nat) (A:Nat→AT) (V:Nat→Nat) (m:MZ):Prop where
 abs:Abs n nc R P A V m
 inv:I A V m.ss
 ev:EvI n A m.el
 pot:F A V m.ss+m.k≤b

section

variable {n nc R:Nat} {P:Nat→List Pc} {I:(Nat→AT)→(Nat→Nat)→List Slp→Prop} {F:(Nat→AT)→(Nat→Nat)→List Slp→Nat} {b:Nat} {A:Nat→AT} {V:Nat→Nat} {m:MZ}

theorem DI.go (hB:Bar n R P I F) (h:DI n nc R P I F b A V m) {t:Nat} (hc:canZ m t=true) (hk:m.k<20000):∃ A' V',DI n nc R P I F b A' V' (stepZ m t).2:=by
 obtain ⟨g1,g2,g3,g4,g5⟩:=h.abs.go hc hk
 obtain ⟨ht,hd,hno⟩:=h.abs.can hc
 obtain ⟨i1,i2⟩:=hB.go A V m.ss t h.inv ht (h.abs.lo t ht) hd hno
 have hp:=h.pot
 refine ⟨_,_,g1,by rw [g2];exact i1,?_,by rw [g2,g5];omega⟩
 rw [g4]
 exact h.ev.go ht (hB.reg A V m.ss h.inv t ht) fun hg=>hB.safe A V m.ss t h.inv ht hg

theorem DI.poke (hB:Bar n R P I F) (h:DI n nc R P I F b A V m) (t:Int):DI n nc R P I F (b+4) A V (pokeZ m t):=by
 obtain ⟨i1,i2⟩:=hB.poke A V m.ss t h.inv
 have hp:=h.pot
 exact ⟨h.abs.poke t,i1,h.ev,by show F A V (m.ss.filter fun s=>s.t != t)+m.k≤b+4;omega⟩

theorem DI.finish (hB:Bar n R P I F) (h:DI n nc R P I F b A V m) (hb:b<20000):∃ A' V',DI n nc R P I F b A' V' (finish m)∧∀ t,t<n→(A' t).l=.ended:=by
 obtain ⟨⟨A',V',h'⟩,hn⟩:=finish_inv (P:=fun m=>∃ A V,DI n nc R P I F b A V m) (fun m t h hc hk=>by obtain ⟨A,V,h⟩:=h;exact h.go hB hc hk) ⟨A,V,h⟩ h.abs.wf
 refine ⟨A',V',h',?_⟩
 refine hB.live A' V' _ h'.inv fun t ht=>?_
 have hp:=h'.pot
 have hx:=h'.abs.ts t ht
 have hc:¬canZ (Go.Mac.finish m) (t:Int)=true:=fun hc=>hn t (by rw [h'.abs.ln];exact ht) ⟨hc,by omega⟩
 by_cases hd:isEnd (A' t).l=true
 · left
   cases hl:(A' t).l <;> rw [hl] at hd <;> first | rfl | cases hd
 · right
   refine Classical.byContradiction fun hne=>hc (can_in hx (show isEnd (A' t).l=false by simpa using hd) fun s hs e=>hne ⟨s,hs,e⟩)

theorem rsum_same (c:Nat):∀ n,rsum n (fun _=>c)=n*c
 | 0=>by simp [rsum]
 | n+1=>by rw [rsum_succ,rsum_same c n,Nat.succ_mul]

theorem DI.ended (hB:Bar n R P I F) (h:DI n nc R P I F b A V m) (hn:1≤n) (he:∀ t,t<n→(A t).l=.ended) :
   allZ m=true∧stuckZ m=false∧checkZ n m.el=none∧allG n m.el=R∧anyR m.el=R∧m.el.length=2*n*R:=by
 have hr:∀ t,t<n→(A t).r=R+1:=fun t ht=>by
   have:=hB.reg A V _ h.inv t ht
   rw [RegOk,he t ht] at this
   exact this.1
 have hall:allZ m=true:=by
   rw [allZ,List.all_eq_true]
   intro x hx
   obtain ⟨t,ht⟩:=List.mem_iff_getElem?.1 hx
   have htl:=(List.getElem?_eq_some_iff.1 ht).1
   rw [h.abs.ln] at htl
   rw [h.abs.ts t htl] at ht
   obtain rfl:=Option.some.inj ht
   show isEnd (A t).l=true
   rw [he t htl]
   rfl
 have hc:∀ t,t<n→cmA (A t)=R:=fun t ht=>by rw [cmA,he t ht];have:=hr t ht;show (A t).r-1=R;omega
 have hg:∀ t,t<n→gnA (A t)=R:=fun t ht=>by rw [gnA,he t ht];have:=hr t ht;show (A t).r-1=R;omega
 obtain ⟨hj,hgr⟩:=check_inv h.ev.ok
 have hgd:∀ u,u<n→(goneR n m.el).getD u 0=R:=fun u hu=>by
   rw [←hgr,h.ev.g,List.getD_eq_getElem?_getD,List.getElem?_map,List.getElem?_range hu]
   show (gnA (A u):Int)=R
   rw [hg u hu]
 have hcd:∀ u,u<n→(evS n m.el).1.getD u 0=R:=fun u hu=>by
   rw [h.ev.c,List.getD_eq_getElem?_getD,List.getElem?_map,List.getElem?_range hu]
   show (cmA (A u):Int)=R
   rw [hc u hu]
 refine ⟨hall,by rw [stuckZ,hall];simp,h.ev.ok,?_,?_,?_⟩
 · obtain ⟨u,hu,e⟩:=(allG_min hn m.el).2
   rw [e,hgd u hu]
 · have h1:=hj.le 0 hn
   rw [hcd 0 hn] at h1
   rcases hj.top with h2 | ⟨u,hu,h2⟩
   · omega
   · rw [hcd u hu] at h2
     exact h2.symm
 · rw [h.ev.len]
   have h1:rsum n (fun t=>cmA (A t)+gnA (A t))=rsum n fun _=>2*R:=by
     refine Nat.le_antisymm (rsum_le fun s hs=>?_) (rsum_le fun s hs=>?_) <;> rw [hc s hs,hg s hs] <;> omega
   rw [h1,rsum_same,Nat.mul_left_comm,←Nat.mul_assoc]

end

end Go.Mac
end

section
open Go Go.Proofs Go.Mac
set_option maxRecDepth 100000

namespace Go.Mac

def costP (n:Nat) (P:Nat→List Pc):Pc→Nat
 | .aw _=>7
 | .tl c _=>2+4*wtN n P c
 | .up _ _ _=>10
 | .dn _ _=>4

def costB (n:Nat) (P:Nat→List Pc) (Q:List Pc) (k:Nat):Nat:=((Q.drop k).map (costP n P)).sum
def costR (n:Nat) (P:Nat→List Pc) (Q:List Pc):Nat:=costB n P Q 0+5

def awC (r x o v:Nat) (asl:Bool):Nat :=
 match o with
 | 0=>if r≤v then 3 else 7
 | 1=>if r≤x then 2 else 6
 | 2=>1
 | 3=>5
 | _=>if asl=true∨r≤v then 4 else 8

def inC (n:Nat) (P:Nat→List Pc) (V:Nat→Nat) (asl:Bool) (r x o:Nat):Pc→Nat
 | .aw c=>awC r x o (V c) asl
 | .tl c _=>(if o=0 then 2 else 1)+4*wtN n P c
 | .up c s _=>(match o with
   | 0=>10
   | 1=>if x+1=s then 1 else 9
   | 7=>1
   | o+2=>awC r x o (V (c+1)) asl+1)
 | .dn _ _=>(match o with
   | 0=>4
   | 1=>3
   | 2=>2
   | _=>1+4*n)

def inO (n:Nat) (P:Nat→List Pc) (V:Nat→Nat) (asl:Bool) (r x o:Nat):Option Pc→Nat
 | some y=>inC n P V asl r x o y
 | none=>0

def phi (n R:Nat) (P:Nat→List Pc) (Q:List Pc) (V:Nat→Nat) (asl:Bool) (a:AT):Nat :=
 match a.l with
 | .p0=>R*costR n P Q+4
 | .p1=>R*costR n P Q+3
 | .head=>(R+1-a.r)*costR n P Q+2
 | .halt=>1
 | .ended=>0
 | .came=>(R-a.r)*costR n P Q+costB n P Q 0+6
 | .pc k o=>(R-a.r)*costR n P Q+5+costB n P Q (k+1)+inO n P V asl a.r a.x o Q[k]?
 | .gone=>(R-a.r)*costR n P Q+5
 | .plus=>(R-a.r)*costR n P Q+4
 | .jump=>(R+1-a.r)*costR n P Q+3

def aslS (ss:List Slp) (t:Nat):Bool:=ss.any fun s=>s.t == t

def phiN (n R:Nat) (P:Nat→List Pc) (A:Nat→AT) (V:Nat→Nat) (ss:List Slp):Nat:=rsum n fun t=>phi n R P (P t) V (aslS ss t) (A t)

theorem costB_step {n:Nat} {P:Nat→List Pc} {Q:List Pc} {k:Nat} {y:Pc} (h:Q[k]? = some y):costB n P Q k=costP n P y+costB n P Q (k+1):=by
 have hl:=(List.getElem?_eq_some_iff.1 h).1
 rw [costB,List.drop_eq_getElem_cons hl,List.map_cons,List.sum_cons,(List.getElem?_eq_some_iff.1 h).2]
 rfl

theorem costB_end {n:Nat} {P:Nat→List Pc} {Q:List Pc} {k:Nat} (h:Q.length≤k):costB n P Q k=0:=by
 rw [costB,List.drop_of_length_le h];rfl

theorem phi_nx {n R:Nat} {P:Nat→List Pc} {Q:List Pc} {V:Nat→Nat} {asl:Bool} {r x e k:Nat}:phi n R P Q V asl ⟨r,x,e,nxL Q k⟩≤(R-r)*costR n P Q+5+costB n P Q k:=by
 rw [nxL]
 split
 · rename_i h
   have hy:Q[k]? = some Q[k]:=List.getElem?_eq_getElem h
   show (R-r)*costR n P Q+5+costB n P Q (k+1)+inO n P V asl r x 0 Q[k]?≤_
   rw [costB_step hy,hy]
   have:inO n P V asl r x 0 (some Q[k])≤costP n P Q[k]:=by
     cases Q[k] with
     | aw c =>
       show (if r≤V c then 3 else 7)≤7
       split <;> omega
     | _=>exact Nat.le_refl _
   omega
 · show (R-r)*costR n P Q+5≤_
   omega

theorem awC_le {r x o v v':Nat} {asl asl':Bool} (hv:v≤v') (ha:asl=true→asl'=true):awC r x o v' asl'≤awC r x o v asl:=by
 rcases o with _ | _ | _ | _ | o
 · show (if r≤v' then 3 else 7)≤if r≤v then 3 else 7
   split <;> split <;> omega
 · exact Nat.le_refl _
 · exact Nat.le_refl _
 · exact Nat.le_refl _
 · show (if asl'=true∨r≤v' then 4 else 8)≤if asl=true∨r≤v then 4 else 8
   split
   · split <;> omega
   · rename_i h
     rw [if_neg]
     · exact Nat.le_refl _
     · rintro (h2 | h2)
       · exact h (.inl (ha h2))
       · exact h (.inr (by omega))

theorem awC_wake {r x o v:Nat} {asl asl':Bool}:awC r x o v asl'≤awC r x o v asl+4:=by
 rcases o with _ | _ | _ | _ | o
 · show (if r≤v then 3 else 7)≤(if r≤v then 3 else 7)+4
   omega
 · show (if r≤x then 2 else 6)≤(if r≤x then 2 else 6)+4
   omega
 · show 1≤1+4
   omega
 · show 5≤5+4
   omega
 · show (if asl'=true∨r≤v then 4 else 8)≤(if asl=true∨r≤v then 4 else 8)+4
   split <;> split <;> omega

theorem inC_up {n:Nat} {P:Nat→List Pc} {V:Nat→Nat} {asl:Bool} {r x o c s j:Nat} (h:o≠5):inC n P V asl r x (o+2) (.up c s j)=awC r x o (V (c+1)) asl+1:=by
 rcases o with _ | _ | _ | _ | _ | _ | o
 all_goals first | rfl | exact absurd rfl h

theorem inO_le {n:Nat} {P:Nat→List Pc} {V V':Nat→Nat} {asl asl':Bool} {r x o:Nat} {y:Option Pc} (hv:(∀ c s j,y=some (.up c s j)→V (c+1)≤V' (c+1))∧∀ c,y=some (.aw c)→V c≤V' c) (ha:asl=true→asl'=true):inO n P V' asl' r x o y≤inO n P V asl r x o y:=by
 rcases y with _ | (c | ⟨c,s⟩ | ⟨c,s,j⟩ | ⟨c,s⟩)
 · exact Nat.le_refl _
 · exact awC_le (hv.2 c rfl) ha
 · exact Nat.le_refl _
 · rcases o with _ | _ | o
   · exact Nat.le_refl _
   · exact Nat.le_refl _
   · by_cases h5:o=5
     · subst h5
       exact Nat.le_refl _
     · show inC n P V' asl' r x (o+2) (.up c s j)≤inC n P V asl r x (o+2) (.up c s j)
       rw [inC_up h5,inC_up h5]
       exact Nat.add_le_add_right (awC_le (hv.1 c s j rfl) ha) 1
 · exact Nat.le_refl _

theorem inO_wake {n:Nat} {P:Nat→List Pc} {V:Nat→Nat} {asl asl':Bool} {r x o:Nat} {y:Option Pc}:inO n P V asl' r x o y≤inO n P V asl r x o y+4:=by
 rcases y with _ | (c | ⟨c,s⟩ | ⟨c,s,j⟩ | ⟨c,s⟩)
 · exact Nat.le_add_right _ _
 · exact awC_wake
 · exact Nat.le_add_right _ _
 · rcases o with _ | _ | o
   · exact Nat.le_add_right _ _
   · exact Nat.le_add_right _ _
   · by_cases h5:o=5
     · subst h5
       exact Nat.le_add_right _ _
     · show inC n P V asl' r x (o+2) (.up c s j)≤inC n P V asl r x (o+2) (.up c s j)+4
       rw [inC_up h5,inC_up h5]
       have:=awC_wake (r:=r) (x:=x) (o:=o) (v:=V (c+1)) (asl:=asl) (asl':=asl')
       omega
 · exact Nat.le_add_right _ _

theorem phi_pc {n R:Nat} {P:Nat→List Pc} {Q:List Pc} {V:Nat→Nat} {asl:Bool} {r x e k o:Nat}:phi n R P Q V asl ⟨r,x,e,.pc k o⟩ = (R-r)*costR n P Q+5+costB n P Q (k+1)+inO n P V asl r x o Q[k]?:=rfl

theorem phi_le' {n R:Nat} {P:Nat→List Pc} {Q:List Pc} {V V':Nat→Nat} {asl asl':Bool} {a:AT} (hv:(∀ c s j,Pc.up c s j∈Q→V (c+1)≤V' (c+1))∧∀ c,Pc.aw c∈Q→V c≤V' c) (ha:asl=true→asl'=true):phi n R P Q V' asl' a≤phi n R P Q V asl a:=by
 obtain ⟨r,x,e,l⟩:=a
 cases l with
 | pc k o =>
   rw [phi_pc,phi_pc]
   exact Nat.add_le_add_left (inO_le ⟨fun c s j e=>hv.1 c s j (List.mem_of_getElem? e),fun c e=>hv.2 c (List.mem_of_getElem? e)⟩ ha) _
 | _=>exact Nat.le_refl _

theorem phi_le {n R:Nat} {P:Nat→List Pc} {Q:List Pc} {V V':Nat→Nat} {asl asl':Bool} {a:AT} (hv:∀ c,V c≤V' c) (ha:asl=true→asl'=true):phi n R P Q V' asl' a≤phi n R P Q V asl a :=
 phi_le' ⟨fun c _ _ _=>hv (c+1),fun c _=>hv c⟩ ha

theorem phi_wake {n R:Nat} {P:Nat→List Pc} {Q:List Pc} {V:Nat→Nat} {asl asl':Bool} {a:AT}:phi n R P Q V asl' a≤phi n R P Q V asl a+4:=by
 obtain ⟨r,x,e,l⟩:=a
 cases l with
 | pc k o =>
   rw [phi_pc,phi_pc]
   have:=inO_wake (n:=n) (P:=P) (V:=V) (asl:=asl) (asl':=asl') (r:=r) (x:=x) (o:=o) (y:=Q[k]?)
   omega
 | _=>exact Nat.le_add_right _ _

theorem asl_snoc {ss:List Slp} {t u c:Nat} (h:u≠t):aslS (ss++[⟨(t:Int),(c:Int)⟩]) u=aslS ss u:=by
 rw [aslS,List.any_append]
 have:(([⟨(t:Int),(c:Int)⟩]:List Slp).any fun s=>s.t == (u:Int))=false:=by
   simp
   omega
 rw [this,Bool.or_false]
 rfl

theorem asl_filter {ss:List Slp} {q:Slp→Bool} {u:Nat} (h:∀ s∈ss,s.t=u→q s=true):aslS (ss.filter q) u=aslS ss u:=by
 rw [Bool.eq_iff_iff,aslS,aslS,List.any_eq_true,List.any_eq_true]
 constructor
 · rintro ⟨s,hs,h2⟩
   exact ⟨s,(List.mem_filter.1 hs).1,h2⟩
 · rintro ⟨s,hs,h2⟩
   exact ⟨s,List.mem_filter.2 ⟨hs,h s hs (by simpa using h2)⟩,h2⟩

theorem rsum_add (f g:Nat→Nat):∀ n,rsum n (fun t=>f t+g t)=rsum n f+rsum n g
 | 0=>rfl
 | n+1=>by rw [rsum_succ,rsum_succ,rsum_succ,rsum_add f g n];omega

theorem rsum_mul (c:Nat) (g:Nat→Nat):∀ n,rsum n (fun t=>c*g t)=c*rsum n g
 | 0=>rfl
 | n+1=>by rw [rsum_succ,rsum_succ,rsum_mul c g n,Nat.mul_add]

section

variable {n R:Nat} {P:Nat→List Pc} {wr:Nat→Option (Nat×Nat)} {A:Nat→AT} {V:Nat→Nat} {ss:List Slp} {t:Nat}

theorem pot_one {g h:Nat→Nat} (ht:t<n) (h1:∀ u,u<n→u≠t→g u≤h u) (h2:g t+1≤h t):rsum n g+1≤rsum n h:=by
 have:=rsum_upd (n:=n) (g:=g) (h:=h) ht h1
 omega

theorem pot_wake {g h w:Nat→Nat} {b:Nat} (ht:t<n) (h1:∀ u,u<n→u≠t→g u≤h u+4*w u) (hw:rsum n w≤b) (h2:g t+1+4*b≤h t):rsum n g+1≤rsum n h:=by
 have h3:=rsum_upd (n:=n) (g:=g) (h:=fun u=>h u+4*w u) ht h1
 rw [rsum_add,rsum_mul] at h3
 have:4*rsum n w≤4*b:=Nat.mul_le_mul_left 4 hw
 omega

theorem nx_wk (hI:NI n R P wr A V ss) (ht:t<n) (_hno:noT ss t) {k r x e s c:Nat} {Q:List Pc} (hQ:P t=Q) (hA:A t = ⟨r,x,e,.pc k 1⟩) (hy:Q[k]? = some (.tl c s)) :
   phiN n R P (updA A t ⟨r,x,e,nxL Q (k+1)⟩) V (ss.filter fun x=>x.c != (c:Int))+1≤phiN n R P A V ss:=by
 have hkl:=(List.getElem?_eq_some_iff.1 hy).1
 refine pot_wake (w:=fun u=>if awaits (P u) c=true then 1 else 0) ht (fun u hu hne=>?_) (Nat.le_refl _) ?_
 · rw [updA_ne _ _ hne]
   by_cases hq:∀ s∈ss,s.t=u→(s.c != (c:Int))=true
   · rw [asl_filter hq]
     exact Nat.le_add_right _ _
   · have:awaits (P u) c=true:=by
       refine Classical.byContradiction fun hn=>hq fun s hs he=>?_
       obtain ⟨u',k',c',hu',rfl,hl',hk',_⟩:=hI.slp s hs
       have:(u':Int)=u:=he
       obtain rfl:u'=u:=by omega
       have hne:c'≠c:=fun e=>hn (by rw [←e];exact awaits_of hk')
       have:((c':Int) != (c:Int))=true:=by
         simp
         omega
       exact this
     rw [if_pos this]
     exact phi_wake
 · have h1:=phi_nx (n:=n) (R:=R) (P:=P) (Q:=Q) (V:=V) (asl:=aslS (ss.filter fun x=>x.c != (c:Int)) t) (r:=r) (x:=x) (e:=e) (k:=k+1)
   rw [updA_same,hA,hQ]
   show _+1+4*wtN n P c≤(R-r)*costR n P Q+5+costB n P Q (k+1)+inO n P V (aslS ss t) r x 1 Q[k]?
   rw [hy]
   show _+1+4*wtN n P c≤(R-r)*costR n P Q+5+costB n P Q (k+1)+(1+4*wtN n P c)
   omega

set_option maxHeartbeats 1000000 in
theorem NI.pot (hN:NetOk n P wr) (hI:NI n R P wr A V ss) (ht:t<n) (hlo:LocOk (P t) (A t).l) (hd:isEnd (A t).l=false) (hno:noT ss t) :
   phiN n R P (updA A t (stA R (P t) V (A t)).1) (efV V (stA R (P t) V (A t)).2) (efS t ss (stA R (P t) V (A t)).2)+1≤phiN n R P A V ss:=by
 have hreg:=hI.reg t ht
 have hmic:=hI.mic t ht
 have hawt:=hI.await t ht
 have hcell:=hI.cell t ht
 have has:aslS ss t=false:=by
   rw [aslS,List.any_eq_false]
   exact fun s hs=>by simpa using hno s hs
 -- the cells rise,who sleeps sleeps on
 have one:∀ (a':AT) (V':Nat→Nat) (ss':List Slp),(∀ c,V c≤V' c)→(∀ u,u≠t→aslS ss' u=aslS ss u)→phi n R P (P t) V' (aslS ss' t) a'+1≤phi n R P (P t) V false (A t)→phiN n R P (updA A t a') V' ss'+1≤phiN n R P A V ss:=fun a' V' ss' h1 h2 h3=>by
   refine pot_one ht (fun u hu hne=>?_) ?_
   · rw [updA_ne _ _ hne,h2 u hne]
     exact phi_le h1 fun h=>h
   · rw [updA_same,has]
     exact h3
 have wk:=@nx_wk n R P wr A V ss t hI ht hno
 generalize hA:A t=a at *
 obtain ⟨r,x,e,l⟩:=a
 cases l with
 | p0 =>
   obtain rfl:r=0:=hreg.1
   exact one ⟨1,x,e,.p1⟩ V ss (fun c=>Nat.le_refl _) (fun u _=>rfl) (Nat.le_refl _)
 | p1 =>
   obtain rfl:r=1:=hreg.1
   refine one ⟨1,x,R+1,.head⟩ V ss (fun c=>Nat.le_refl _) (fun u _=>rfl) ?_
   show (R+1-1)*costR n P (P t)+2+1≤R*costR n P (P t)+3
   rw [Nat.add_sub_cancel]
   exact Nat.le_refl _
 | head =>
   obtain ⟨h1,h2,h3⟩ : 1≤r∧r≤R+1∧e=R+1:=hreg
   refine one ⟨r,x,e,if r<e then .came else .halt⟩ V ss (fun c=>Nat.le_refl _) (fun u _=>rfl) ?_
   split
   · show (R-r)*costR n P (P t)+costB n P (P t) 0+6+1≤(R+1-r)*costR n P (P t)+2
     rw [show R+1-r=R-r+1 by omega,Nat.succ_mul]
     show _≤_+(costB n P (P t) 0+5)+2
     omega
   · show 1+1≤_+2
     omega
 | halt=>exact one ⟨r,x,e,.ended⟩ V ss (fun c=>Nat.le_refl _) (fun u _=>rfl) (Nat.le_refl _)
 | ended=>cases hd
 | came =>
   refine one ⟨r,x,e,nxL (P t) 0⟩ V ss (fun c=>Nat.le_refl _) (fun u _=>rfl) ?_
   have:=phi_nx (n:=n) (R:=R) (P:=P) (Q:=P t) (V:=V) (asl:=aslS ss t) (r:=r) (x:=x) (e:=e) (k:=0)
   show _+1≤(R-r)*costR n P (P t)+costB n P (P t) 0+6
   omega
 | gone=>exact one ⟨r,x,e,.plus⟩ V ss (fun c=>Nat.le_refl _) (fun u _=>rfl) (Nat.le_refl _)
 | plus =>
   refine one ⟨r+1,x,e,.jump⟩ V ss (fun c=>Nat.le_refl _) (fun u _=>rfl) ?_
   show (R+1-(r+1))*costR n P (P t)+3+1≤(R-r)*costR n P (P t)+4
   rw [Nat.add_sub_add_right]
   exact Nat.le_refl _
 | jump=>exact one ⟨r,x,e,.head⟩ V ss (fun c=>Nat.le_refl _) (fun u _=>rfl) (Nat.le_refl _)
 | pc k o =>
   obtain ⟨y,hy,ho⟩:=hlo
   have hkl:=(List.getElem?_eq_some_iff.1 hy).1
   rcases hN.kind t ht y (List.mem_of_getElem? hy) with ⟨c,rfl⟩ | ⟨c,s,rfl,hs⟩
   · have hst:stA R (P t) V ⟨r,x,e,.pc k o⟩ = awA V ⟨r,x,e,.pc k o⟩ c o (fun o=>.pc k o) (nxL (P t) (k+1)):=stA_pc hy
     have hph:∀ (V':Nat→Nat) asl x' o',phi n R P (P t) V' asl ⟨r,x',e,.pc k o'⟩ = (R-r)*costR n P (P t)+5+costB n P (P t) (k+1)+awC r x' o' (V' c) asl:=fun V' asl x' o'=>by
       rw [phi_pc,hy]
       rfl
     rw [hst]
     have hm:=hmic k o c rfl hy
     rcases o with _ | _ | _ | _ | _ | o
     · show phiN n R P (updA A t ⟨r,V c,e,.pc k 1⟩) (updV V c (V c)) ss+1≤_
       rw [updV_same]
       refine one _ V ss (fun c=>Nat.le_refl _) (fun u _=>rfl) ?_
       rw [hph,hph]
       have:awC r (V c) 1 (V c) (aslS ss t)+1≤awC r x 0 (V c) false:=by
         show (if r≤V c then 2 else 6)+1≤if r≤V c then 3 else 7
         split <;> omega
       omega
     · refine one ⟨r,x,e,if x<r then .pc k 3 else .pc k 2⟩ V ss (fun c=>Nat.le_refl _) (fun u _=>rfl) ?_
       by_cases hx:x<r
       · rw [if_pos hx,hph,hph]
         have:awC r x 3 (V c) (aslS ss t)+1≤awC r x (0+1) (V c) false:=by
           show 5+1≤if r≤x then 2 else 6
           rw [if_neg (by omega)]
           exact Nat.le_refl _
         omega
       · rw [if_neg hx,hph,hph]
         have:awC r x 2 (V c) (aslS ss t)+1≤awC r x (0+1) (V c) false:=by
           show 1+1≤if r≤x then 2 else 6
           split <;> omega
         omega
     · refine one ⟨r,x,e,nxL (P t) (k+1)⟩ V ss (fun c=>Nat.le_refl _) (fun u _=>rfl) ?_
       have:=phi_nx (n:=n) (R:=R) (P:=P) (Q:=P t) (V:=V) (asl:=aslS ss t) (r:=r) (x:=x) (e:=e) (k:=k+1)
       rw [hph]
       show _+1≤_+_+_+1
       omega
     · have hm:x<r∧x≤V c∧r≤x+1:=hm
       show phiN n R P (updA A t ⟨r,x,e,.pc k 4⟩) (efV V (if V c=x then .slp c else .no)) (efS t ss (if V c=x then .slp c else .no))+1≤_
       by_cases hv:V c=x
       · rw [if_pos hv]
         refine one ⟨r,x,e,.pc k 4⟩ V (ss++[⟨t,c⟩]) (fun c=>Nat.le_refl _) (fun u hu=>asl_snoc hu) ?_
         have:aslS (ss++[⟨(t:Int),(c:Int)⟩]) t=true:=by
           rw [aslS,List.any_append]
           simp
         rw [this,hph,hph]
         show _+4+1≤_+5
         omega
       · rw [if_neg hv]
         refine one ⟨r,x,e,.pc k 4⟩ V ss (fun c=>Nat.le_refl _) (fun u hu=>rfl) ?_
         rw [hph,hph]
         show _+(if aslS ss t=true∨r≤V c then 4 else 8)+1≤_+5
         rw [if_pos (.inr (by omega))]
         omega
     · refine one ⟨r,x,e,.pc k 0⟩ V ss (fun c=>Nat.le_refl _) (fun u _=>rfl) ?_
       rw [hph,hph]
       show _+(if r≤V c then 3 else 7)+1≤_+if false=true∨r≤V c then 4 else 8
       split
       · rename_i h
         rw [if_pos (.inr h)]
         omega
       · rename_i h
         rw [if_neg (fun h2=>by rcases h2 with h2 | h2;cases h2;exact h h2)]
         omega
     · exact absurd ho (by show ¬o+5<5;omega)
   · rcases o with _ | _ | o
     · have hst:stA R (P t) V ⟨r,x,e,.pc k 0⟩ = (⟨r,x,e,.pc k 1⟩,.act 7 c (V c) r):=stA_pc hy
       rw [hst]
       have hvc:V c=r-1:=by
         rw [hcell k c s hy,tg,done_tl0 hy,if_neg (Nat.lt_irrefl _)]
       refine one ⟨r,x,e,.pc k 1⟩ (updV V c r) ss (fun d=>?_) (fun u _=>rfl) ?_
       · show V d≤if d=c then r else V d
         split
         · rename_i h;rw [h];omega
         · exact Nat.le_refl _
       · rw [phi_pc,phi_pc,hy]
         show _+(1+4*wtN n P c)+1≤_+(2+4*wtN n P c)
         omega
     · have hst:stA R (P t) V ⟨r,x,e,.pc k 1⟩ = (⟨r,x,e,nxL (P t) (k+1)⟩,.wk c s):=stA_pc hy
       have hwk:(wakeL c s 0 ss).2=ss.filter fun x=>x.c != (c:Int):=wakeL_filter c s ss 0 (by have:=hI.sleepers c;omega)
       rw [hst]
       show phiN n R P (updA A t ⟨r,x,e,nxL (P t) (k+1)⟩) V (wakeL c s 0 ss).2+1≤_
       rw [hwk]
       exact wk rfl rfl hy
     · exact absurd ho (by show ¬o+2<2;omega)

theorem NI.pokeF (A:Nat→AT) (V:Nat→Nat) (ss:List Slp) (t:Int):phiN n R P A V (ss.filter fun s=>s.t != t)≤phiN n R P A V ss+4:=by
 by_cases ht:0≤t∧t<n
 · obtain ⟨t,rfl⟩:=Int.eq_ofNat_of_zero_le ht.1
   have htn:t<n:=by omega
   have h:=rsum_upd (n:=n) (g:=fun u=>phi n R P (P u) V (aslS (ss.filter fun s=>s.t != (t:Int)) u) (A u)) (h:=fun u=>phi n R P (P u) V (aslS ss u) (A u)) htn fun u hu hne=>by
     rw [asl_filter fun s hs e=>by simp;omega]
     exact Nat.le_refl _
   have h2:phi n R P (P t) V (aslS (ss.filter fun s=>s.t != (t:Int)) t) (A t)≤phi n R P (P t) V (aslS ss t) (A t)+4:=phi_wake
   rw [phiN,phiN]
   omega
 · refine Nat.le_trans (rsum_le fun u hu=>?_) (Nat.le_add_right _ _)
   rw [asl_filter fun s hs e=>by simp;omega]
   exact Nat.le_refl _

theorem net_bar (hN:NetOk n P wr) {f F:Nat} (hk:∀ t,t<n→∀ u,u<n→t=u∨0<(P t).length∧kn P wr f t ((P t).length-1) u=true)
   (hd:∀ t,t<n→∀ (k c:Nat),(P t)[k]? = some (.aw c)→dpB P wr F t k=true):Bar n R P (NI n R P wr) (phiN n R P) :=
 ⟨NI.begin n R P wr,fun _ _ _ _ hI ht hlo hd hno=>⟨hI.go hN ht hlo hd hno,hI.pot hN ht hlo hd hno⟩,fun A V ss t hI=>⟨hI.poke t,NI.pokeF A V ss t⟩,fun _ _ _ hI=>hI.reg,fun _ _ _ _ hI ht hg=>hI.safe hN hk ht hg,fun _ _ _ hI hs=>hI.live hN hd hs⟩

end

end Go.Mac
end
