import Derived.Test.YtollgfhpcidkgaaGreatDoorQTree
open Go Go.Proofs Go.Mac
set_option maxRecDepth 100000

namespace Go.Mac

theorem nx_lt {Q:List Pc} {k:Nat} (h:k<Q.length):nxL Q k=.pc k 0:=if_pos h
theorem nx_ge {Q:List Pc} {k:Nat} (h:¬k<Q.length):nxL Q k=.gone:=if_neg h

theorem nat_count {q:Nat→Bool}:∀ (m:Nat) (l:List Nat),l.Nodup→(∀ x∈l,x<m∧q x=true)→l.length≤rsum m fun u=>if q u=true then 1 else 0
 | 0,l,_,h=>by
   cases l with
   | nil=>exact Nat.zero_le _
   | cons x l=>have:=(h x (by simp)).1;omega
 | m+1,l,hd,h=>by
   rw [rsum_succ]
   by_cases hm:m∈l
   · have h1:=nat_count m (l.erase m) (hd.erase _) fun x hx=>by
       have h2:=h x (List.mem_of_mem_erase hx)
       have h3:x≠m:=fun e=>by subst e;exact hd.not_mem_erase hx
       exact ⟨by omega,h2.2⟩
     have h2:=List.length_erase_of_mem hm
     rw [if_pos (h m hm).2]
     omega
   · have h1:=nat_count m l hd fun x hx=>by
       have h2:=h x hx
       have h3:x≠m:=fun e=>hm (e ▸ hx)
       exact ⟨by omega,h2.2⟩
     omega

section

variable {n N R h:Nat} {P:Nat→List Pc} {par sz:Nat→Nat} {p:Nat→Nat→Nat} {lev:Nat→Nat} {b:Nat→Nat} {A:Nat→AT} {V:Nat→Nat} {ss:List Slp} {t:Nat}

theorem TI.sleepers (hT:TreeOk n N h P par sz p lev) (hI:TI n N R h P par sz p b A V ss) {v:Nat} (hv:v<N):ss.countP (fun s=>s.c == ((2*v+1:Nat):Int))≤sz v:=by
 rw [List.countP_eq_length_filter,(hT.size v hv).1]
 have hm:∀ s∈ss.filter (fun s=>s.c == ((2*v+1:Nat):Int)),∃ t:Nat,t<n∧s.t=t∧lev v<h∧p t (lev v)=v∧(A t).l=.pc (lev v) 6:=fun s hs=>by
   obtain ⟨hs,hc⟩:=List.mem_filter.1 hs
   obtain ⟨t,i,ht,hi,rfl,hl,_⟩:=hI.slp s hs
   have hc:((2*p t i+1:Nat):Int)=((2*v+1:Nat):Int):=by simpa using hc
   have e:p t i=v:=by omega
   have hlev:=(hT.node t ht i hi).2
   rw [e] at hlev
   subst hlev
   exact ⟨t,ht,rfl,hi,e,hl⟩
 have hnd:((ss.filter (fun s=>s.c == ((2*v+1:Nat):Int))).map fun s=>partA n p s.t.toNat (lev v)).Nodup:=by
   rw [List.nodup_iff_pairwise_ne,List.pairwise_map]
   have h0:=hI.nd.sublist ((List.filter_sublist (p:=fun s=>s.c == ((2*v+1:Nat):Int)) (l:=ss)).map (·.t))
   rw [List.nodup_iff_pairwise_ne,List.pairwise_map] at h0
   refine h0.imp_of_mem fun {a b'} ha hb hne e=>hne ?_
   obtain ⟨t,ht,e1,hi,hp,hl⟩:=hm a ha
   obtain ⟨u,hu,e2,_,hpu,hlu⟩:=hm b' hb
   rw [e1,e2,Int.toNat_natCast,Int.toNat_natCast] at e
   rw [e1,e2]
   cases hlv:lev v with
   | zero=>rw [hlv] at e;exact congrArg _ e
   | succ j =>
     rw [hlv] at e hl hlu hi
     change n+p t j=n+p u j at e
     have hA1:A t = ⟨(A t).r,(A t).x,(A t).e,.pc (j+1) 6⟩:=by rw [←hl]
     have hA2:A u = ⟨(A u).r,(A u).x,(A u).e,.pc (j+1) 6⟩:=by rw [←hlu]
     have:=hI.one t ht u hu j j (by rw [hA1,hi_up hi,if_neg (by omega)];omega) (by rw [hA2,hi_up hi,if_neg (by omega)];omega) (by omega)
     exact congrArg _ this
 have:=nat_count (q:=fun x=>par x == v) (n+N) _ hnd fun x hx=>by
   obtain ⟨s,hs,rfl⟩:=List.mem_map.1 hx
   obtain ⟨t,ht,e1,hi,hp,hl⟩:=hm s hs
   rw [e1,Int.toNat_natCast]
   obtain ⟨q1,q2⟩:=part_par hT ht hi
   exact ⟨q2,by simp [q1,hp]⟩
 rw [List.length_map] at this
 simpa using this

theorem TI.inU (hT:TreeOk n N h P par sz p lev) (hI:TI n N R h P par sz p b A V ss) (ht:t<n) {r x e k o:Nat} (hk:k<h) (ho:o≠0) (hx:o=1→x+1≠sz (p t k)) (hA:A t = ⟨r,x,e,.pc k o⟩) (x' o':Nat) (ho':o'<6)
   (hm:MicOk ⟨r,x',e,.pc k (o'+2)⟩ o' (V (2*p t k+1))∧(o'=5→r≤V (2*p t k+1))∧r≤V (2*p t k+1)+1) {ss':List Slp}
   (hss:∀ s∈ss',(s∈ss∧s.t≠t)∨(s = ⟨(t:Int),((2*p t k+1:Nat):Int)⟩∧o'=4∧V (2*p t k+1)<r)) (hnd:(ss'.map (·.t)).Nodup) :
   TI n N R h P par sz p b (updA A t ⟨r,x',e,.pc k (o'+2)⟩) V ss':=by
 have hreg:=hI.reg t ht
 have he0:=hI.e0 t ht
 have hhi:hiA h (fun k=>sz (p t k)) (A t)=k:=by
   rw [hA,hi_up hk,if_neg fun h=>hx h.1 h.2]
 have hfe:feA h (A t)=k+1:=by rw [hA,fe_up1 hk ho]
 have hfe':feA h ⟨r,x',e,.pc k (o'+2)⟩ = k+1:=fe_up1 hk (by omega)
 have hhi':hiA h (fun k=>sz (p t k)) ⟨r,x',e,.pc k (o'+2)⟩ = k:=by rw [hi_up hk,if_neg fun h=>by omega]
 rw [hA] at hreg he0
 refine hI.upd0 ht (fun _=>rfl) hreg ⟨_,hT.up t ht k hk,by show o'+2<8;omega⟩ (by rw [bA,bA,hfe,hfe',hA]) (by rw [hhi,hhi']) (fun j _ _=>by rw [hfe,hfe'])
   (fun v hv hn=>hI.cnt v hv fun u hu j hj e' hl=>?_) (fun u hu j hj hl=>?_) he0 (fun _=>by rw [hA]) (fun i o2 hi hl=>?_) (fun i hi hl=>?_) (fun hd=>?_) (fun s hs=>?_) hnd
 · by_cases e2:u=t
   · subst e2
     rw [hA] at hl
     injection hl with h1 h2
     omega
   · exact hn u hu j hj e' (by rw [updA_ne _ _ e2];exact hl)
 · by_cases e2:u=t
   · subst e2
     rw [updA_same] at hl
     injection hl with h1 h2
     omega
   · rw [updA_ne _ _ e2] at hl
     exact hI.win u hu j hj hl
 · injection hl with h1 h2
   obtain rfl:o'=o2:=by omega
   subst h1
   exact hm
 · injection hl with h1 h2
   omega
 · change h≤k at hd
   omega
 · rcases hss s hs with ⟨h1,h2⟩ | ⟨h1,h2,h3⟩
   · refine .inl ⟨h1,h2,fun j hj hl=>?_⟩
     rw [hA] at hl
     injection hl with h4 h5
     omega
   · exact .inr ⟨k,hk,h1,by subst h2;rfl,h3⟩

set_option maxHeartbeats 1000000 in
theorem TI.go (hT:TreeOk n N h P par sz p lev) (hI:TI n N R h P par sz p b A V ss) (ht:t<n) (hd:isEnd (A t).l=false) (hno:noT ss t) :
   ∃ b',TI n N R h P par sz p b' (updA A t (stA R (P t) V (A t)).1) (efV V (stA R (P t) V (A t)).2) (efS t ss (stA R (P t) V (A t)).2):=by
 have hreg:=hI.reg t ht
 have hlo:=hI.lo t ht
 have he0:=hI.e0 t ht
 have he4:=hI.e4 t ht
 have he2:=hI.e2 t ht
 have hmic:=hI.mic t ht
 have hx1:=hI.x1 t ht
 have hq:=fun a'=>TI.quiet (a':=a') hI ht hno
 have hup:=fun a' V' ss'=>TI.upd0 (a':=a') (V':=V') (ss':=ss') hI ht
 have hfet:=@TI.fetch n N R h P par sz p lev b A V ss t hT hI ht hno
 have hgat:=@TI.gate n N R h P par sz p lev b A V ss t hT hI ht hno
 have hinU:=@TI.inU n N R h P par sz p lev b A V ss t hT hI ht
 have hcnt:=hI.cnt
 have hwin:=hI.win
 have hl2:=hT.len t ht
 have hh1:=hT.h1
 generalize hA:A t=a at *
 obtain ⟨r,x,e,l⟩:=a
 cases l with
 | p0 =>
   obtain rfl:r=0:=hreg.1
   exact ⟨b,hq ⟨1,x,e,.p1⟩ ⟨rfl,hreg.2⟩ trivial rfl rfl (fun j _ hj=>absurd hj (Nat.not_lt_zero _)) (fun k _ h=>(by cases h)) (fun k _=>⟨fun h=>(by cases h),fun h=>(by cases h)⟩) (by show 1≤_;omega) (fun h=>absurd h (Nat.not_lt_zero _)) (fun i o _ h=>(by cases h)) (fun i _ h=>(by cases h)) fun h=>h.elim⟩
 | p1 =>
   obtain rfl:r=1:=hreg.1
   exact ⟨b,hq ⟨1,x,R+1,.head⟩ ⟨Nat.le_refl _,by show 1≤R+1;omega,rfl⟩ trivial rfl rfl (fun j _ hj=>absurd hj (Nat.not_lt_zero _)) (fun k _ h=>(by cases h)) (fun k _=>⟨fun h=>(by cases h),fun h=>(by cases h)⟩) he0 (fun h=>absurd h (Nat.not_lt_zero _)) (fun i o _ h=>(by cases h)) (fun i _ h=>(by cases h)) fun h=>h.elim⟩
 | head =>
   obtain ⟨h1,h2,h3⟩ : 1≤r∧r≤R+1∧e=R+1:=hreg
   by_cases hre:r<e
   · have hst:stA R (P t) V ⟨r,x,e,.head⟩ = (⟨r,x,e,.came⟩,.no):=by
       show ((⟨r,x,e,if r<e then NL.came else .halt⟩ : AT),Ef.no)=_
       rw [if_pos hre]
     rw [hst]
     exact ⟨b,hq ⟨r,x,e,.came⟩ ⟨h1,by show r≤R;omega,h3⟩ trivial rfl rfl (fun j _ hj=>absurd hj (Nat.not_lt_zero _)) (fun k _ h=>(by cases h)) (fun k _=>⟨fun h=>(by cases h),fun h=>(by cases h)⟩) he0 (fun h=>absurd h (Nat.not_lt_zero _)) (fun i o _ h=>(by cases h)) (fun i _ h=>(by cases h)) fun h=>h.elim⟩
   · have hst:stA R (P t) V ⟨r,x,e,.head⟩ = (⟨r,x,e,.halt⟩,.no):=by
       show ((⟨r,x,e,if r<e then NL.came else .halt⟩ : AT),Ef.no)=_
       rw [if_neg hre]
     rw [hst]
     exact ⟨b,hq ⟨r,x,e,.halt⟩ ⟨by show r=R+1;omega,h3⟩ trivial rfl rfl (fun j _ hj=>absurd hj (Nat.not_lt_zero _)) (fun k _ h=>(by cases h)) (fun k _=>⟨fun h=>(by cases h),fun h=>(by cases h)⟩) he0 (fun h=>absurd h (Nat.not_lt_zero _)) (fun i o _ h=>(by cases h)) (fun i _ h=>(by cases h)) fun h=>h.elim⟩
 | halt=>exact ⟨b,hq ⟨r,x,e,.ended⟩ hreg trivial rfl rfl (fun j _ hj=>absurd hj (Nat.not_lt_zero _)) (fun k _ h=>(by cases h)) (fun k _=>⟨fun h=>(by cases h),fun h=>(by cases h)⟩) he0 (fun h=>absurd h (Nat.not_lt_zero _)) (fun i o _ h=>(by cases h)) (fun i _ h=>(by cases h)) fun h=>h.elim⟩
 | ended=>cases hd
 | came =>
   have hst:stA R (P t) V ⟨r,x,e,.came⟩ = (⟨r,x,e,.pc 0 0⟩,.say 1 r):=by
     show ((⟨r,x,e,nxL (P t) 0⟩ : AT),Ef.say 1 r)=_
     rw [nx_lt (by omega)]
   rw [hst]
   have hf:feA h ⟨r,x,e,.pc 0 0⟩ = 0:=by rw [fe_up (by omega),if_pos rfl]
   exact ⟨b,hq ⟨r,x,e,.pc 0 0⟩ hreg ⟨_,hT.up t ht 0 (by omega),by show 0<8;omega⟩ (by rw [bA,hf];rfl) (by rw [hi_up (by omega),if_neg (by omega)];rfl) (fun j _ hj=>absurd hj (Nat.not_lt_zero _)) (fun k _ h=>(by injection h with _ h;cases h))
     (fun k _=>⟨fun h=>(by cases h),fun h=>(by cases h)⟩) he0 (fun h=>absurd h (Nat.not_lt_zero _)) (fun i o _ h=>(by injection h with _ h;omega)) (fun i _ h=>(by injection h with _ h;cases h)) fun hd=>by change h≤0 at hd;omega⟩
 | gone=>exact ⟨b,hq ⟨r,x,e,.plus⟩ hreg trivial rfl rfl (fun j _ hj=>absurd hj (Nat.not_lt_zero _)) (fun k _ h=>(by cases h)) (fun k _=>⟨fun h=>(by cases h),fun h=>(by cases h)⟩) he0 (fun h=>absurd h (Nat.not_lt_zero _)) (fun i o _ h=>(by cases h)) (fun i _ h=>(by cases h)) fun _=>he4 trivial⟩
 | plus =>
   obtain ⟨h1,h2,h3⟩ : 1≤r∧r≤R∧e=R+1:=hreg
   have h4:r≤V (2*p t 0+1):=he4 trivial 0 (Nat.zero_le _) (by omega)
   rw [←hT.first t ht] at h4
   exact ⟨b,hq ⟨r+1,x,e,.jump⟩ ⟨by show 1≤r+1;omega,by show r+1≤R+1;omega,h3⟩ trivial rfl rfl (fun j _ hj=>absurd hj (Nat.not_lt_zero _)) (fun k _ h=>(by cases h)) (fun k _=>⟨fun h=>(by cases h),fun h=>(by cases h)⟩) (by show r+1≤_;omega) (fun h=>absurd h (Nat.not_lt_zero _)) (fun i o _ h=>(by cases h)) (fun i _ h=>(by cases h)) fun h=>h.elim⟩
 | jump=>exact ⟨b,hq ⟨r,x,e,.head⟩ hreg trivial rfl rfl (fun j _ hj=>absurd hj (Nat.not_lt_zero _)) (fun k _ h=>(by cases h)) (fun k _=>⟨fun h=>(by cases h),fun h=>(by cases h)⟩) he0 (fun h=>absurd h (Nat.not_lt_zero _)) (fun i o _ h=>(by cases h)) (fun i _ h=>(by cases h)) fun h=>h.elim⟩
 | pc k o =>
   obtain ⟨y,hy,ho⟩:=hlo
   have hkl:=(List.getElem?_eq_some_iff.1 hy).1
   obtain ⟨h1,h2,h3⟩ : 1≤r∧r≤R∧e=R+1:=hreg
   have hregp:∀ x' k' o',RegOk R ⟨r,x',e,.pc k' o'⟩:=fun _ _ _=>⟨h1,h2,h3⟩
   by_cases hk:k<h
   · have hyu:=hT.up t ht k hk
     rw [hyu] at hy
     obtain rfl:=Option.some.inj hy
     obtain ⟨hvN,hlev⟩:=hT.node t ht k hk
     have hs1:=(hT.size _ hvN).2
     rw [stA_pc hyu]
     rcases o with _ | _ | o
     · exact ⟨_,hfet hk rfl⟩
     · obtain ⟨hxs,hrv⟩ : x<sz (p t k)∧r≤V (2*p t k+1)+1:=hx1 k hk rfl
       by_cases hx:x+1=sz (p t k)
       · have hst:stPc (P t) V ⟨r,x,e,.pc k (0+1)⟩ k (0+1) (.up (2*p t k) (sz (p t k)) (2*h-k))=(⟨r,x,e,.pc (k+1) 0⟩,.no):=by
           show ((⟨r,x,e,if (x:Int)=sz (p t k)-1 then nxL (P t) (k+1) else .pc k 2⟩ : AT),Ef.no)=_
           rw [if_pos (by omega),nx_lt (by omega)]
         rw [hst]
         have hhi:hiA h (fun k=>sz (p t k)) ⟨r,x,e,.pc k (0+1)⟩ = k+1:=by rw [hi_up hk,if_pos ⟨rfl,hx⟩]
         have hfe:feA h ⟨r,x,e,.pc k (0+1)⟩ = k+1:=fe_up1 hk (by decide)
         by_cases hk1:k+1<h
         · have hf':feA h ⟨r,x,e,.pc (k+1) 0⟩ = k+1:=by rw [fe_up hk1,if_pos rfl]
           refine ⟨b,hq ⟨r,x,e,.pc (k+1) 0⟩ (hregp _ _ _) ⟨_,hT.up t ht (k+1) hk1,by show 0<8;omega⟩ (by rw [bA,bA,hf',hfe]) (by rw [hhi,hi_up hk1,if_neg (by omega)]) (fun j _ _=>by rw [hf',hfe]) (fun k' _ h=>(by injection h with _ h;cases h))
             (fun k' hk'=>⟨fun h=>(by injection h with h _;omega),fun h=>(by injection h with h _;omega)⟩) he0 (fun _=>rfl) (fun i o _ h=>(by injection h with _ h;omega)) (fun i _ h=>(by injection h with _ h;cases h)) fun hd=>by change h≤k+1 at hd;omega⟩
         · have hf':feA h ⟨r,x,e,.pc (k+1) 0⟩ = h+1:=by rw [fe_dn hk1];omega
           have hl9:(P t)[k+1]? = some (.dn (2*p t (h-1)) (sz (p t (h-1)))):=by
             have:=hT.dn t ht (h-1) (by omega)
             rw [show 2*h-1-(h-1)=k+1 by omega] at this
             exact this
           refine ⟨b,hq ⟨r,x,e,.pc (k+1) 0⟩ (hregp _ _ _) ⟨_,hl9,by show 0<4;omega⟩ (by rw [bA,bA,hf',hfe,if_pos (by omega),if_pos (by omega)]) (by rw [hhi,hi_dn hk1,if_pos (by omega)];omega) (fun j hj _=>by rw [hf',hfe];omega) (fun k' _ h=>(by injection h with _ h;cases h))
             (fun k' hk'=>⟨fun h=>(by injection h with h _;omega),fun h=>(by injection h with h _;omega)⟩) he0 (fun _=>rfl) (fun i o hi h=>(by injection h with h _;omega)) (fun i _ h=>(by injection h with _ h;cases h)) fun _ j hj hjh=>by rw [hhi] at hj;omega⟩
       · have hst:stPc (P t) V ⟨r,x,e,.pc k (0+1)⟩ k (0+1) (.up (2*p t k) (sz (p t k)) (2*h-k))=(⟨r,x,e,.pc k (0+2)⟩,.no):=by
           show ((⟨r,x,e,if (x:Int)=sz (p t k)-1 then nxL (P t) (k+1) else .pc k 2⟩ : AT),Ef.no)=_
           rw [if_neg (by omega)]
         rw [hst]
         exact ⟨b,hinU hk (by decide) (fun _=>hx) rfl x 0 (by decide) ⟨trivial,fun h=>(by cases h),hrv⟩ (fun s hs=>.inl ⟨hs,hno s hs⟩) hI.nd⟩
     · obtain ⟨m1,m2,m3⟩:=hmic k o hk rfl
       by_cases h5:o=5
       · subst h5
         have hr5:r≤V (2*p t k+1):=m2 rfl
         have hhi:hiA h (fun k=>sz (p t k)) ⟨r,x,e,.pc k (5+2)⟩ = k:=by rw [hi_up hk,if_neg (by omega)]
         have hfe:feA h ⟨r,x,e,.pc k (5+2)⟩ = k+1:=fe_up1 hk (by decide)
         -- the gates above are open,too
         have hchain:∀ j,k≤j→j<h→r≤V (2*p t j+1):=fun j hj=>by
           induction j with
           | zero=>intro _;rw [show 0=k by omega];exact hr5
           | succ j ih =>
             intro hjh
             by_cases e9:k=j+1
             · rw [←e9];exact hr5
             · have h8:=ih (by omega) (by omega)
               have h7:=hI.mono (p t j) (hT.node t ht j (by omega)).1 (by rw [hT.next t ht j hjh];exact (hT.node t ht (j+1) hjh).1)
               rw [hT.next t ht j hjh] at h7
               omega
         by_cases hk0:k=0
         · subst hk0
           have hst:stPc (P t) V ⟨r,x,e,.pc 0 (5+1+1)⟩ 0 (5+1+1) (.up (2*p t 0) (sz (p t 0)) (2*h-0))=(⟨r,x,e,.gone⟩,.no):=by
             show ((⟨r,x,e,nxL (P t) (2*h-0)⟩ : AT),Ef.no)=_
             rw [nx_ge (by omega)]
           rw [hst]
           exact ⟨b,hq ⟨r,x,e,.gone⟩ ⟨h1,h2,h3⟩ trivial (by rw [bA,bA,hfe];rfl) (by rw [hhi];rfl) (fun j _ hj=>by rw [hhi] at hj;omega) (fun k' _ h=>(by cases h))
             (fun k' hk'=>⟨fun h=>(by injection h with h _;omega),fun h=>(by injection h with h _;omega)⟩) he0 (fun _=>rfl) (fun i o hi h=>(by cases h)) (fun i _ h=>(by cases h)) fun _ j _ hjh=>hchain j (Nat.zero_le _) hjh⟩
         · have hst:stPc (P t) V ⟨r,x,e,.pc k (5+1+1)⟩ k (5+1+1) (.up (2*p t k) (sz (p t k)) (2*h-k))=(⟨r,x,e,.pc (2*h-k) 0⟩,.no):=by
             show ((⟨r,x,e,nxL (P t) (2*h-k)⟩ : AT),Ef.no)=_
             rw [nx_lt (by omega)]
           rw [hst]
           have hnk:¬ 2*h-k<h:=by omega
           have hf':feA h ⟨r,x,e,.pc (2*h-k) 0⟩ = k+1:=by rw [fe_dn hnk];omega
           have hl9:(P t)[2*h-k]? = some (.dn (2*p t (k-1)) (sz (p t (k-1)))):=by
             have:=hT.dn t ht (k-1) (by omega)
             rw [show 2*h-1-(k-1)=2*h-k by omega] at this
             exact this
           exact ⟨b,hq ⟨r,x,e,.pc (2*h-k) 0⟩ (hregp _ _ _) ⟨_,hl9,by show 0<4;omega⟩ (by rw [bA,bA,hf',hfe]) (by rw [hhi,hi_dn hnk,if_pos (by omega)];omega) (fun j _ _=>by rw [hf',hfe]) (fun k' _ h=>(by injection h with _ h;cases h))
             (fun k' hk'=>⟨fun h=>(by injection h with h _;omega),fun h=>(by injection h with h _;omega)⟩) he0 (fun _=>rfl) (fun i o hi h=>(by injection h with h _;omega)) (fun i _ h=>(by injection h with _ h;cases h)) fun _ j hj hjh=>by rw [hhi] at hj;exact hchain j hj hjh⟩
       · have hst:stPc (P t) V ⟨r,x,e,.pc k (o+1+1)⟩ k (o+1+1) (.up (2*p t k) (sz (p t k)) (2*h-k))=awA V ⟨r,x,e,.pc k (o+1+1)⟩ (2*p t k+1) o (fun o=>.pc k (o+2)) (.pc k 7):=stPc_up h5
         rw [hst]
         have ho5:o<5:=by
           have:o+1+1<8:=ho
           omega
         have hU:=fun x' o' ho' hm ss' hss hnd=>hinU hk (o:=o+1+1) (by omega) (fun h=>by omega) rfl x' o' ho' hm (ss':=ss') hss hnd
         have hold:∀ s∈ss,(s∈ss∧s.t≠t)∨(s = ⟨(t:Int),((2*p t k+1:Nat):Int)⟩∧(0:Nat)=4∧V (2*p t k+1)<r):=fun s hs=>.inl ⟨hs,hno s hs⟩
         rcases o with _ | _ | _ | _ | _ | o
         · show ∃ b',TI n N R h P par sz p b' (updA A t ⟨r,V (2*p t k+1),e,.pc k (1+2)⟩) (updV V (2*p t k+1) (V (2*p t k+1))) ss
           rw [updV_same]
           exact ⟨b,hU _ 1 (by decide) ⟨⟨Nat.le_refl _,m3⟩,fun h=>(by cases h),m3⟩ ss (fun s hs=>.inl ⟨hs,hno s hs⟩) hI.nd⟩
         · show ∃ b',TI n N R h P par sz p b' (updA A t ⟨r,x,e,if x<r then .pc k (3+2) else .pc k (2+2)⟩) V ss
           by_cases hx:x<r
           · rw [if_pos hx]
             exact ⟨b,hU x 3 (by decide) ⟨⟨hx,m1.1,m1.2⟩,fun h=>(by cases h),m3⟩ ss (fun s hs=>.inl ⟨hs,hno s hs⟩) hI.nd⟩
           · rw [if_neg hx]
             have h9:x≤V (2*p t k+1):=m1.1
             exact ⟨b,hU x 2 (by decide) ⟨by show r≤V (2*p t k+1);omega,fun h=>(by cases h),m3⟩ ss (fun s hs=>.inl ⟨hs,hno s hs⟩) hI.nd⟩
         · show ∃ b',TI n N R h P par sz p b' (updA A t ⟨r,x,e,.pc k (5+2)⟩) V ss
           have h9:r≤V (2*p t k+1):=m1
           exact ⟨b,hU x 5 (by decide) ⟨trivial,fun _=>h9,m3⟩ ss (fun s hs=>.inl ⟨hs,hno s hs⟩) hI.nd⟩
         · have h9:x<r∧x≤V (2*p t k+1)∧r≤x+1:=m1
           show ∃ b',TI n N R h P par sz p b' (updA A t ⟨r,x,e,.pc k (4+2)⟩) (efV V (if V (2*p t k+1)=x then .slp (2*p t k+1) else .no)) (efS t ss (if V (2*p t k+1)=x then .slp (2*p t k+1) else .no))
           by_cases hv:V (2*p t k+1)=x
           · rw [if_pos hv]
             refine ⟨b,hU x 4 (by decide) ⟨trivial,fun h=>(by cases h),m3⟩ (ss++[(⟨(t:Int),((2*p t k+1:Nat):Int)⟩ : Slp)]) (fun s hs=>?_) ?_⟩
             · rcases List.mem_append.1 hs with hs | hs
               · exact .inl ⟨hs,hno s hs⟩
               · exact .inr ⟨List.mem_singleton.1 hs,rfl,by omega⟩
             · rw [List.map_append,List.nodup_append]
               refine ⟨hI.nd,by simp,fun y hy z hz=>?_⟩
               simp at hz
               subst hz
               obtain ⟨s,hs,rfl⟩:=List.mem_map.1 hy
               exact hno s hs
           · rw [if_neg hv]
             exact ⟨b,hU x 4 (by decide) ⟨trivial,fun h=>(by cases h),m3⟩ ss (fun s hs=>.inl ⟨hs,hno s hs⟩) hI.nd⟩
         · exact ⟨b,hU x 0 (by decide) ⟨trivial,fun h=>(by cases h),m3⟩ ss (fun s hs=>.inl ⟨hs,hno s hs⟩) hI.nd⟩
         · omega
   · obtain ⟨i,hi,rfl⟩ : ∃ i,i<h∧k=2*h-1-i:=⟨2*h-1-k,by omega,by omega⟩
     have hyd:=hT.dn t ht i hi
     rw [hyd] at hy
     obtain rfl:=Option.some.inj hy
     obtain ⟨hvN,hlev⟩:=hT.node t ht i hi
     rw [stA_pc hyd]
     have hf:∀ x' o',feA h ⟨r,x',e,.pc (2*h-1-i) o'⟩ = i+2:=fun x' o'=>by rw [fe_dn hk];omega
     have hhi:∀ o',o'≤2→hiA h (fun k=>sz (p t k)) ⟨r,x,e,.pc (2*h-1-i) o'⟩ = i+1:=fun o' ho'=>by rw [hi_dn hk,if_pos ho'];omega
     rcases o with _ | _ | _ | _ | o
     · exact ⟨b,hq ⟨r,x,e,.pc (2*h-1-i) 1⟩ (hregp _ _ _) ⟨_,hyd,by show 1<4;omega⟩ (by rw [bA,bA,hf,hf]) (by rw [hhi 0 (by omega),hhi 1 (by omega)]) (fun j _ _=>by rw [hf,hf]) (fun k' _ h=>(by injection h with _ h;cases h))
         (fun k' _=>⟨fun h=>(by injection h with _ h;cases h),fun h=>(by injection h with _ h;cases h)⟩) he0 (fun _=>rfl) (fun i' o' hi' h=>(by injection h with h _;omega)) (fun i' hi' h=>(by injection h with h _;omega)) fun hd=>he4 hd⟩
     · refine ⟨b,hup ⟨r,x,e,.pc (2*h-1-i) 2⟩ (updV V (2*p t i) 0) ss (fun w=>updV_ne (by omega)) (hregp _ _ _) ⟨_,hyd,by show 2<4;omega⟩ (by rw [bA,bA,hf,hf]) (by rw [hhi 1 (by omega),hhi 2 (by omega)]) (fun j _ _=>by rw [hf,hf]) (fun v hv hn=>?_) (fun u hu j hj hl=>?_)
         he0 (fun _=>rfl) (fun i' o' hi' h=>(by injection h with h _;omega)) (fun i' hi' h=>(by injection h with h _;omega)) (fun hd=>he4 hd) (fun s hs=>.inl ⟨hs,hno s hs,fun j hj h=>(by injection h with _ h;cases h)⟩) hI.nd⟩
       · have hne:v≠p t i:=fun e9=>hn t ht i hi e9.symm (by rw [updA_same])
         rw [updV_ne (by omega)]
         refine hcnt v hv fun u hu j hj e9 hl=>?_
         by_cases e2:u=t
         · subst e2
           rw [hA] at hl
           injection hl with _ hl
           cases hl
         · exact hn u hu j hj e9 (by rw [updA_ne _ _ e2];exact hl)
       · by_cases e3:p u j=p t i
         · rw [e3,updV_at]
         · rw [updV_ne (by omega)]
           refine hwin u hu j hj ?_
           by_cases e2:u=t
           · subst e2
             rw [updA_same] at hl
             injection hl with h9 _
             exact absurd (by rw [show j=i by omega]) e3
           · rw [updA_ne _ _ e2] at hl
             exact hl
     · exact ⟨b,hgat hi rfl⟩
     · have hwk:(wakeL ((2*p t i+1:Nat):Int) (sz (p t i)) 0 ss).2=ss.filter fun x=>x.c != ((2*p t i+1:Nat):Int):=wakeL_filter _ _ ss 0 (by have:=hI.sleepers hT hvN;omega)
       have hhi3:hiA h (fun k=>sz (p t k)) ⟨r,x,e,.pc (2*h-1-i) 3⟩ = i:=by rw [hi_dn hk,if_neg (by decide)];omega
       show ∃ b',TI n N R h P par sz p b' (updA A t ⟨r,x,e,nxL (P t) (2*h-1-i+1)⟩) V (wakeL ((2*p t i+1:Nat):Int) (sz (p t i)) 0 ss).2
       rw [hwk]
       have hss:∀ s∈ss.filter (fun x=>x.c != ((2*p t i+1:Nat):Int)),s∈ss∧s.t≠t∧∀ j,j<h→NL.pc (2*h-1-i) 3=.pc (2*h-1-j) 3→s.c≠((2*p t j+1:Nat):Int):=fun s hs=>by
         obtain ⟨hs,hne⟩:=List.mem_filter.1 hs
         refine ⟨hs,hno s hs,fun j hj hl e9=>?_⟩
         injection hl with hl _
         rw [show j=i by omega] at e9
         simp [e9] at hne
       have hnd:=hI.nd.sublist ((List.filter_sublist (p:=fun x:Slp=>x.c != ((2*p t i+1:Nat):Int)) (l:=ss)).map (·.t))
       by_cases hi0:i=0
       · subst hi0
         rw [nx_ge (by omega)]
         refine ⟨b,hup ⟨r,x,e,.gone⟩ V _ (fun _=>rfl) ⟨h1,h2,h3⟩ trivial (by rw [bA,bA,hf];rfl) (by rw [hhi3];rfl) (fun j _ hj=>by rw [hhi3] at hj;omega) (fun v hv hn=>hcnt v hv fun u hu j hj e9 hl=>?_) (fun u hu j hj hl=>?_)
           he0 (fun _=>rfl) (fun i' o' hi' h=>(by cases h)) (fun i' hi' h=>(by cases h)) (fun _=>he4 (by show h≤2*h-1-0;omega)) (fun s hs=>.inl (hss s hs)) hnd⟩
         · by_cases e2:u=t
           · subst e2
             rw [hA] at hl
             injection hl with _ hl
             cases hl
           · exact hn u hu j hj e9 (by rw [updA_ne _ _ e2];exact hl)
         · by_cases e2:u=t
           · subst e2
             rw [updA_same] at hl
             cases hl
           · rw [updA_ne _ _ e2] at hl
             exact hwin u hu j hj hl
       · rw [nx_lt (by omega)]
         have hk1:¬ 2*h-1-i+1<h:=by omega
         have hl9:(P t)[2*h-1-i+1]? = some (.dn (2*p t (i-1)) (sz (p t (i-1)))):=by
           have:=hT.dn t ht (i-1) (by omega)
           rw [show 2*h-1-(i-1)=2*h-1-i+1 by omega] at this
           exact this
         have hf':feA h ⟨r,x,e,.pc (2*h-1-i+1) 0⟩ = i+1:=by rw [fe_dn hk1];omega
         refine ⟨b,hup ⟨r,x,e,.pc (2*h-1-i+1) 0⟩ V _ (fun _=>rfl) (hregp _ _ _) ⟨_,hl9,by show 0<4;omega⟩ (by rw [bA,bA,hf,hf',if_pos (by omega),if_pos (by omega)]) (by rw [hhi3,hi_dn hk1,if_pos (by omega)];omega) (fun j _ hj=>by rw [hhi3] at hj;rw [hf,hf'];omega) (fun v hv hn=>hcnt v hv fun u hu j hj e9 hl=>?_) (fun u hu j hj hl=>?_)
           he0 (fun _=>rfl) (fun i' o' hi' h=>(by injection h with h _;omega)) (fun i' hi' h=>(by injection h with h _;omega)) (fun _=>he4 (by show h≤2*h-1-i;omega)) (fun s hs=>.inl (hss s hs)) hnd⟩
         · by_cases e2:u=t
           · subst e2
             rw [hA] at hl
             injection hl with _ hl
             cases hl
           · exact hn u hu j hj e9 (by rw [updA_ne _ _ e2];exact hl)
         · by_cases e2:u=t
           · subst e2
             rw [updA_same] at hl
             injection hl with _ hl
             cases hl
           · rw [updA_ne _ _ e2] at hl
             exact hwin u hu j hj hl
     · exact absurd ho (by show ¬o+4<4;omega)

theorem TI.poke (hI:TI n N R h P par sz p b A V ss) (t:Int):TI n N R h P par sz p b A V (ss.filter fun s=>s.t != t) :=
 { hI with slp:=fun s hs=>hI.slp s (List.mem_filter.1 hs).1,nd:=hI.nd.sublist (List.filter_sublist.map _) }

theorem TI.begin (hT:TreeOk n N h P par sz p lev):TI n N R h P par sz p (fun _=>0) (fun _=>⟨0,0,0,.p0⟩) (fun _=>0) []:=by
 refine ⟨fun t _=>⟨rfl,rfl⟩,fun t _=>trivial,fun t _=>rfl,fun c _ _ _=>rfl,fun t _ j _ hj=>absurd hj (Nat.not_lt_zero _),fun x _ _=>⟨Nat.le_refl _,Nat.zero_le _⟩,fun v hv _=>?_,fun t _ j _ hl=>(by cases hl),fun t _ j hj=>absurd hj (Nat.not_lt_zero _),fun v hv hf=>?_,
   fun t _ u _ i j hi=>absurd hi (Nat.not_lt_zero _),fun t _=>Nat.zero_le _,fun t _ j hj=>absurd hj (Nat.not_lt_zero _),fun t _ i o _ hl=>(by cases hl),fun t _ i _ hl=>(by cases hl),fun t _ hd=>hd.elim,fun v _ _=>Nat.le_refl _,fun s hs=>(by simp at hs),List.nodup_nil⟩
 · have:=rsum_if (fun _=>0) par v (n+N) 0 fun _ _ _=>rfl
   rw [this]
   simp
 · exfalso
   obtain ⟨hs,hs1⟩:=hT.size v hv
   have:rsum (n+N) (fun x=>if par x=v then 1 else 0)=rsum (n+N) fun _=>0:=rsum_cong fun x hx=>if_neg fun e=>by
     have:=hf x hx e
     cases this
   rw [←hs,rsum_same,Nat.mul_zero] at this
   omega

theorem TI.above (hT:TreeOk n N h P par sz p lev) (hI:TI n N R h P par sz p b A V ss) (ht:t<n) {i:Nat}:∀ j,i≤j→j<h→V (2*p t i+1)≤V (2*p t j+1)
 | 0,hij,_=>by rw [show i=0 by omega];exact Nat.le_refl _
 | j+1,hij,hj=>by
   by_cases e:i=j+1
   · rw [e];exact Nat.le_refl _
   · have h1:=hI.above hT ht (i:=i) j (by omega) (by omega)
     have h2:=hI.mono (p t j) (hT.node t ht j (by omega)).1 (by rw [hT.next t ht j hj];exact (hT.node t ht (j+1) hj).1)
     rw [hT.next t ht j hj] at h2
     omega

theorem TI.safe (hT:TreeOk n N h P par sz p lev) (hI:TI n N R h P par sz p b A V ss) (ht:t<n) (hg:(A t).l=.gone) {u:Nat} (hu:u<n):(A t).r≤cmA (A u):=by
 have hh1:=hT.h1
 have hroot:(A t).r≤V (2*p u (h-1)+1):=by
   rw [←hT.root t ht u hu]
   refine hI.e4 t ht (by rw [hg];trivial) (h-1) ?_ (by omega)
   rw [show hiA h (fun k=>sz (p t k)) (A t)=0 by rw [hiA,hg]]
   exact Nat.zero_le _
 have key:∀ m i,m+i+1=h→(A t).r≤b (partA n p u i):=fun m=>by
   induction m with
   | zero =>
     intro i hi
     obtain ⟨q1,q2⟩:=part_par hT hu (show i<h by omega)
     have:=(hI.low _ q2 (by rw [q1];exact (hT.node u hu i (by omega)).1)).1
     rw [q1,show i=h-1 by omega] at this
     rw [show i=h-1 by omega]
     omega
   | succ m ih =>
     intro i hi
     have h1:(A t).r≤b (n+p u i):=ih (i+1) (by omega)
     obtain ⟨q1,q2⟩:=part_par hT hu (show i<h by omega)
     obtain ⟨hvN,hlev⟩:=hT.node u hu i (by omega)
     have hlow:=(hI.low _ q2 (by rw [q1];exact hvN)).1
     rw [q1] at hlow
     have hpar:par (n+p u i)<N:=by rw [hT.next u hu i (by omega)];exact (hT.node u hu (i+1) (by omega)).1
     by_cases hh:∃ w,w<n∧∃ j,j<hiA h (fun k=>sz (p w k)) (A w)∧p w j=p u i
     · obtain ⟨w,hw,j,hj,e⟩:=hh
       have hjh:j<h:=Nat.lt_of_lt_of_le hj (hi_le (hT.len w hw) (hI.lo w hw))
       have hf:=hI.full w hw j hj _ q2 (by rw [q1,e])
       have hji:j=i:=by
         have:=(hT.node w hw j hjh).2
         rw [e,hlev] at this
         exact this.symm
       have hho:=hI.hol w hw j (by omega) hj
       rw [e] at hf hho
       split at hho <;> omega
     · have:=hI.arr (p u i) hvN hpar fun w hw j hj e=>hh ⟨w,hw,j,hj,e⟩
       omega
 have h0:(A t).r≤b u:=key (h-1) 0 (by omega)
 rw [hI.thr u hu] at h0
 refine Nat.le_trans h0 ?_
 obtain ⟨r,x,e,l⟩:=A u
 cases l with
 | pc k o =>
   show (if 1≤_ then r else r-1)≤r
   split <;> omega
 | gone =>
   show (if 1≤_ then r else r-1)≤r
   split <;> omega
 | plus =>
   show (if 1≤_ then r else r-1)≤r
   split <;> omega
 | _ =>
   show (if 1≤0 then r else r-1)≤r-1
   exact Nat.le_refl _

theorem TI.open' (hT:TreeOk n N h P par sz p lev) (hI:TI n N R h P par sz p b A V ss)
   (hl:∀ t,t<n→(A t).l=.ended∨∃ i,i<h∧(A t).l=.pc i 6∧V (2*p t i+1)<(A t).r) :
   ∀ m v,v<N→lev v<m→(∀ t,t<n→∀ j,j<hiA h (fun k=>sz (p t k)) (A t)→p t j≠v)→V (2*v+1)<R→False:=by
 intro m
 induction m with
 | zero=>intro v _ h;omega
 | succ m ih =>
   intro v hv hlev hnone hR
   have hx:∃ x,x<n+N∧par x=v∧b x≠V (2*v+1)+1:=by
     refine Classical.byContradiction fun hne=>?_
     obtain ⟨t,ht,j,hj,e⟩:=hI.has v hv fun x hx hp=>Classical.byContradiction fun h9=>hne ⟨x,hx,hp,h9⟩
     exact hnone t ht j hj e
   obtain ⟨x,hx,hp,hne⟩:=hx
   have hlow:=hI.low x hx (by rw [hp];exact hv)
   rw [hp] at hlow
   have hbx:b x=V (2*v+1):=by omega
   have sleeping:∀ u,u<n→∀ i,i<h→(A u).l=.pc i 6→hiA h (fun k=>sz (p u k)) (A u)=i∧feA h (A u)=i+1:=fun u hu i hi hlu=>by
     have hA:A u = ⟨(A u).r,(A u).x,(A u).e,.pc i 6⟩:=by rw [←hlu]
     rw [hA]
     exact ⟨by rw [hi_up hi,if_neg (by omega)],fe_up1 hi (by decide)⟩
   by_cases hxn:x<n
   · have hthr:=hI.thr x hxn
     rw [hT.first x hxn] at hp
     rcases hl x hxn with h1 | ⟨i,hi,h1,h2⟩
     · have hreg:=hI.reg x hxn
       rw [RegOk,h1] at hreg
       have:feA h (A x)=0:=by rw [feA,h1]
       rw [bA,this,if_neg (by decide)] at hthr
       have:=hreg.1
       omega
     · obtain ⟨h3,h4⟩:=sleeping x hxn i hi h1
       rw [bA,h4,if_pos (by omega)] at hthr
       have:=hI.above hT hxn (i:=0) i (Nat.zero_le _) hi
       rw [hp] at this
       omega
   · obtain ⟨c,rfl⟩ : ∃ c,x=n+c:=⟨x-n,by omega⟩
     have hcN:c<N:=by omega
     have hd:=hT.down c hcN (by rw [hp];exact hv)
     rw [hp] at hd
     by_cases hh:∃ w,w<n∧∃ j,j<hiA h (fun k=>sz (p w k)) (A w)∧p w j=c
     · obtain ⟨w,hw,j,hj,e⟩:=hh
       rcases hl w hw with h1 | ⟨i,hi,h1,h2⟩
       · rw [hiA,h1] at hj
         exact absurd hj (Nat.not_lt_zero _)
       · obtain ⟨h3,h4⟩:=sleeping w hw i hi h1
         rw [h3] at hj
         have hho:=hI.hol w hw j (by omega) (by rw [h3];exact hj)
         have he2:=hI.e2 w hw j (by rw [h3];exact hj)
         rw [h4,if_pos (by omega),e] at hho
         rw [e] at he2
         have hpv:p w (j+1)=v:=by rw [←hT.next w hw j (by omega),e,hp]
         have:=hI.above hT hw (i:=j+1) i (by omega) hi
         rw [hpv] at this
         omega
     · have harr:=hI.arr c hcN (by rw [hp];exact hv) fun w hw j hj e=>hh ⟨w,hw,j,hj,e⟩
       exact ih c hcN (by omega) (fun w hw j hj e=>hh ⟨w,hw,j,hj,e⟩) (by omega)

theorem TI.live (hT:TreeOk n N h P par sz p lev) (hI:TI n N R h P par sz p b A V ss) (hs:∀ t,t<n→(A t).l=.ended∨∃ s∈ss,s.t=t):∀ t,t<n→(A t).l=.ended:=by
 have hl:∀ t,t<n→(A t).l=.ended∨∃ i,i<h∧(A t).l=.pc i 6∧V (2*p t i+1)<(A t).r:=fun t ht=>by
   rcases hs t ht with h1 | ⟨s,hss,e⟩
   · exact .inl h1
   · right
     obtain ⟨t',i,ht',hi,rfl,hl',hv⟩:=hI.slp s hss
     have:(t':Int)=t:=e
     obtain rfl:t'=t:=by omega
     refine ⟨i,hi,hl',?_⟩
     rcases hv with hv | ⟨u,hu,j,hj,hp,hlu⟩
     · exact hv
     · exfalso
       rcases hs u hu with h1 | ⟨s2,hs2,e2⟩
       · rw [hlu] at h1;cases h1
       · obtain ⟨u',i',_,_,rfl,hl2,_⟩:=hI.slp s2 hs2
         have:(u':Int)=u:=e2
         obtain rfl:u'=u:=by omega
         rw [hlu] at hl2
         injection hl2 with _ h9
         cases h9
 have key:∀ m t i,t<n→m+i=h→(A t).l=.pc i 6→i<h→V (2*p t i+1)<(A t).r→False:=by
   intro m
   induction m using Nat.strongRecOn with
   | ind m ih =>
     intro t i ht hm hlt hi hv
     have hreg:=hI.reg t ht
     rw [RegOk,hlt] at hreg
     have hrR:(A t).r≤R:=hreg.2.1
     obtain ⟨hvN,hlev⟩:=hT.node t ht i hi
     by_cases hh:∃ w,w<n∧∃ j,j<hiA h (fun k=>sz (p w k)) (A w)∧p w j=p t i
     · obtain ⟨w,hw,j,hj,e⟩:=hh
       rcases hl w hw with h1 | ⟨i',hi',h1,h2⟩
       · rw [hiA,h1] at hj
         exact absurd hj (Nat.not_lt_zero _)
       · have hA:A w = ⟨(A w).r,(A w).x,(A w).e,.pc i' 6⟩:=by rw [←h1]
         have hhi:hiA h (fun k=>sz (p w k)) (A w)=i':=by rw [hA,hi_up hi',if_neg (by omega)]
         rw [hhi] at hj
         have hji:j=i:=by
           have:=(hT.node w hw j (by omega)).2
           rw [e,hlev] at this
           exact this.symm
         exact ih (h-i') (by omega) w i' hw (by omega) h1 hi' h2
     · exact hI.open' hT hl (lev (p t i)+1) (p t i) hvN (Nat.lt_succ_self _) (fun w hw j hj e=>hh ⟨w,hw,j,hj,e⟩) (by omega)
 intro t ht
 rcases hl t ht with h1 | ⟨i,hi,h1,h2⟩
 · exact h1
 · exact (key (h-i) t i ht (by omega) h1 hi h2).elim

end

end Go.Mac
