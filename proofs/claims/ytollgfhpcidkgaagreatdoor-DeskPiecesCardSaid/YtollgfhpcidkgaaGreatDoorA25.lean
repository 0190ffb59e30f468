/- Texts that belong together; the first of them:  -/
import Derived.Test.YtollgfhpcidkgaaGreatDoorA24
import Derived.Test.YtollgfhpcidkgaaGreatDoorQSortM
import Derived.Test.YtollgfhpcidkgaaGreatDoorA22
import Derived.Test.YtollgfhpcidkgaaGreatDoorA11
import Derived.Test.YtollgfhpcidkgaaGreatDoorA6

section
open Go Go.Proofs Go.Mac
set_option maxRecDepth 100000
namespace Go.Mac
section
inductive Chunks (bs:Nat):List PtZ→Prop
 | last (l:List PtZ) (h:Srt l) (hl:l.length≤bs):Chunks bs l
 | cons (s l:List PtZ) (h:Srt s) (hl:s.length=bs) (h2:Chunks bs l):Chunks bs (s++l)

theorem Chunks.one {bs:Nat} {l:List PtZ} (h:Chunks bs l) (hl:l.length≤bs):Srt l:=by
 cases h with
 | last _ h _=>exact h
 | cons s l h h1 h2 =>
   rw [List.length_append] at hl
   have:l=[]:=List.length_eq_zero_iff.1 (by omega)
   subst this
   rw [List.append_nil]
   exact h

theorem Chunks.head {bs:Nat} {l:List PtZ} (h:Chunks bs l) (hl:bs<l.length):∃ s r,l=s++r∧Srt s∧s.length=bs∧Chunks bs r:=by
 cases h with
 | last _ _ h=>omega
 | cons s l h h1 h2=>exact ⟨s,l,rfl,h,h1,h2⟩

theorem Chunks.two {bs:Nat} {l:List PtZ} (h:Chunks bs l) (h0:0<bs) (hl:2*bs≤l.length):∃ s t r,l=s++(t++r)∧Srt s∧s.length=bs∧Srt t∧t.length=bs∧Chunks bs r:=by
 obtain ⟨s,r,rfl,h1,h2,h3⟩:=h.head (by omega)
 rw [List.length_append] at hl
 by_cases hr:bs<r.length
 · obtain ⟨t,r',rfl,h4,h5,h6⟩:=h3.head hr
   exact ⟨s,t,r',rfl,h1,h2,h4,h5,h6⟩
 · exact ⟨s,r,[],by simp,h1,h2,h3.one (by omega),by omega,.last [] List.Pairwise.nil (by simp)⟩

section

variable {K:KP}

set_option maxHeartbeats 4000000 in
theorem stableCmp {l:List PtZ} {n:Nat} {nn:Bool} (hl:l.length=n) (hnb:n≤100000) (h:∀ l',St l l'→K undefA [] [.rows false 4 (l'.map rowPt)]) :
  Does Tryz.prog 229 [cv (.slc 0 0 n none nn),i64 n,pfn] [.rows false 4 (l.map rowPt)] K:=by
 refine does Tryz.func229 rfl (by decide) ?_
 refine SS.loop (fun s:List PtZ×List PtZ=>(∀ T,Chunks 20 T→Chunks 20 (s.1++T))∧Keys l (s.1++s.2))
  (fun s=>[(0,cv (.slc 0 0 n none nn)),(1,i64 n),(2,pfn),(6,i64 (20:Nat)),(7,i64 s.1.length),(8,i64 (s.1.length+20:Nat))]) (fun s=>[.rows false 4 ((s.1++s.2).map rowPt)]) (fun s=>s.2.length) []
  (At.mk' [0,1,2,6,7,8] ([],l) ⟨fun T h=>h,Keys.refl _⟩ ⟨rfl,rfl⟩ rfl rfl (by simp) (by simp) (by simp)) ?_
 rintro ⟨D,R⟩ ⟨hD,hkey⟩
 dsimp only at hD hkey
 have hkl:=hkey.len
 rw [List.length_append,hl] at hkl
 refine S_r ?_
 refine bZ (fun hlt=>?_) (fun hlt=>?_)
 · have hlt:D.length+20≤n:=by
    have:=oTr hlt
    have:((D.length+20:Nat):Int)≤(n:Int):=this
    omega
   have l1:(R.take 20).length=20:=by rw [List.length_take];omega
   have l2:(R.drop 20).length=R.length-20:=List.length_drop ..
   have hd:D++R=D++(R.take 20++R.drop 20):=by rw [List.take_append_drop]
   have w8:IntKind.i64.wrap (((D.length+20:Nat):Int)+((20:Nat):Int))=((D.length+20+20:Nat):Int):=wrap_i64 _ (by omega) (by omega)
   change Does Tryz.prog 264 _ _ _
   dsimp only
   rw [hd]
   refine insertion (A:=D) (S:=R.take 20) (B:=R.drop 20) rfl (by omega) (by rw [←hd,List.length_append];omega) (by omega) (fun S' hS=>?_)
   have hSl:=hS.len
   refine At.mk' [0,1,2,6,7,8] (D++S',R.drop 20) ⟨⟨fun T hT=>?_,?_⟩,by dsimp only;omega⟩ ⟨?_,rfl⟩ ?_ rfl (by simp) (by simp) (by simp)
   · dsimp only
     rw [List.append_assoc]
     exact hD _ (.cons S' T hS.1 (by omega) hT)
   · dsimp only
     rw [hd] at hkey
     rw [List.append_assoc]
     exact hkey.trans ((Keys.refl D).app (hS.2.app (Keys.refl _)))
   · rw [w8]
     simp only [List.length_append,hSl,l1]
   · dsimp only
     rw [List.append_assoc]
     rfl
 · have hlt:¬D.length+20≤n:=by
    have:=oFa hlt
    have:¬((D.length+20:Nat):Int)≤(n:Int):=this
    omega
   have hd:D++R=D++(R++[]):=by rw [List.append_nil]
   change Does Tryz.prog 264 _ _ _
   dsimp only
   rw [hd]
   refine insertion (A:=D) (S:=R) (B:=[]) rfl (by omega) (by rw [←hd,List.length_append];omega) (by omega) (fun S' hS=>?_)
   have hSl:=hS.len
   have hch:Chunks 20 (D++S'):=hD _ (.last S' hS.1 (by omega))
   have hkey2:Keys l (D++S'):=hkey.trans ((Keys.refl D).app hS.2)
   clear hkey hD hd hlt hkl
   rw [List.append_nil]
   refine SS.loop (fun s:Nat×List PtZ=>20≤s.1∧s.1≤2*n+20∧Chunks s.1 s.2∧Keys l s.2)
    (fun s=>[(0,cv (.slc 0 0 n none nn)),(1,i64 n),(2,pfn),(6,i64 s.1)]) (fun s=>[.rows false 4 (s.2.map rowPt)]) (fun s=>n-s.1) []
    (At.mk' [0,1,2,6] (20,D++S') ⟨Nat.le_refl _,by omega,hch,hkey2⟩ ⟨rfl,rfl⟩ rfl rfl (by simp) (by simp) (by simp)) ?_
   clear hch hkey2 hSl hS
   rintro ⟨bs,d⟩ ⟨hb20,hbn,hch,hkey⟩
   dsimp only at hb20 hbn hch hkey
   have hdl:=hkey.len
   rw [hl] at hdl
   refine S_r ?_
   refine bZ (fun hlt=>?_) (fun hlt=>?_)
   · have hlt:bs<n:=by
      have:=oTr hlt
      have:(bs:Int)<(n:Int):=this
      omega
     have w2:IntKind.i64.wrap (2*(bs:Int))=((2*bs:Nat):Int):=by rw [wrap_i64 _ (by omega) (by omega)];omega
     have w3:IntKind.i64.wrap ((bs:Int)*2)=((2*bs:Nat):Int):=by rw [wrap_i64 _ (by omega) (by omega)];omega
     refine SS.loop (fun s:List PtZ×List PtZ=>(∀ T,Chunks (2*bs) T→Chunks (2*bs) (s.1++T))∧Chunks bs s.2∧Keys l (s.1++s.2))
      (fun s=>[(0,cv (.slc 0 0 n none nn)),(1,i64 n),(2,pfn),(6,i64 bs),(7,i64 s.1.length),(8,i64 (s.1.length+2*bs:Nat))]) (fun s=>[.rows false 4 ((s.1++s.2).map rowPt)]) (fun s=>s.2.length) []
      (At.mk' [0,1,2,6,7,8] ([],d) ⟨fun T h=>h,hch,hkey⟩ ⟨by rw [w2];simp,rfl⟩ rfl rfl (by simp) (by simp) (by simp)) ?_
     clear hch hkey hdl
     rintro ⟨D,R⟩ ⟨hD,hch,hkey⟩
     dsimp only at hD hch hkey
     have hkl:=hkey.len
     rw [List.length_append,hl] at hkl
     have wm:IntKind.i64.wrap ((D.length:Int)+(bs:Int))=((D.length+bs:Nat):Int):=wrap_i64 _ (by omega) (by omega)
     refine S_r ?_
     refine bZ (fun hlt2=>?_) (fun hlt2=>?_)
     · have hlt2:D.length+2*bs≤n:=by
        have:=oTr hlt2
        have:((D.length+2*bs:Nat):Int)≤(n:Int):=this
        omega
       obtain ⟨s,t,r,rfl,hs1,hs2,ht1,ht2,hr⟩:=hch.two (by omega) (by omega)
       have w8:IntKind.i64.wrap (((D.length+2*bs:Nat):Int)+IntKind.i64.wrap (2*(bs:Int)))=((D.length+2*bs+2*bs:Nat):Int):=by rw [w2,wrap_i64 _ (by omega) (by omega)];omega
       change Does Tryz.prog 265 _ _ _
       rw [wm]
       dsimp only
       refine symMerge (s.length+t.length) (A:=D) (X:=s) (Y:=t) (B:=r) (Nat.le_refl _) rfl (by omega) (by omega) (by omega) (by omega) (by rw [List.length_append];omega) (by omega) hs1 ht1 (fun Z hZ=>?_)
       have hZl:=hZ.len
       rw [List.length_append] at hZl
       refine At.mk' [0,1,2,6,7,8] (D++Z,r) ⟨⟨fun T hT=>?_,hr,?_⟩,by simp;omega⟩ ⟨?_,rfl⟩ ?_ rfl (by simp) (by simp) (by simp)
       · dsimp only
         rw [List.append_assoc]
         exact hD _ (.cons Z T hZ.1 (by omega) hT)
       · dsimp only
         rw [List.append_assoc]
         refine hkey.trans ((Keys.refl D).app ?_)
         rw [←List.append_assoc]
         exact hZ.2.app (Keys.refl _)
       · rw [w8]
         simp only [List.length_append,hZl,hs2,ht2]
         rw [show D.length+(bs+bs)=D.length+2*bs by omega]
       · dsimp only
         rw [List.append_assoc]
         rfl
     · have hlt2:¬D.length+2*bs≤n:=by
        have:=oFa hlt2
        have:¬((D.length+2*bs:Nat):Int)≤(n:Int):=this
        omega
       refine bZ (fun h3=>?_) (fun h3=>?_)
       · have h3:D.length+bs<n:=by
          have h3:=oTr h3
          have h3:IntKind.i64.wrap ((D.length:Int)+(bs:Int))<(n:Int):=h3
          rw [wm] at h3
          omega
         obtain ⟨s,r,rfl,hs1,hs2,hr⟩:=hch.head (by omega)
         rw [List.length_append] at hkl
         have hd:D++(s++r)=D++(s++(r++[])):=by rw [List.append_nil]
         change Does Tryz.prog 265 _ _ _
         rw [wm]
         dsimp only
         rw [hd]
         refine symMerge (s.length+r.length) (A:=D) (X:=s) (Y:=r) (B:=[]) (Nat.le_refl _) rfl (by omega) (by omega) (by omega) (by omega) (by rw [←hd,List.length_append,List.length_append];omega) (by omega) hs1 (hr.one (by omega)) (fun Z hZ=>?_)
         have hZl:=hZ.len
         rw [List.length_append] at hZl
         refine At.mk' [0,1,2,6] (2*bs,D++Z) ⟨⟨by omega,by omega,hD _ (.last Z hZ.1 (by omega)),hkey.trans ((Keys.refl D).app hZ.2)⟩,by dsimp only;omega⟩ ⟨?_,rfl⟩ ?_ rfl (by simp) (by simp) (by simp)
         · rw [w3]
         · rw [List.append_nil]
           rfl
       · have h3:¬D.length+bs<n:=by
          have h3:=oFa h3
          have h3:¬IntKind.i64.wrap ((D.length:Int)+(bs:Int))<(n:Int):=h3
          rw [wm] at h3
          omega
         refine At.mk' [0,1,2,6] (2*bs,D++R) ⟨⟨by omega,by omega,hD _ (.last R (hch.one (by omega)) (by omega)),hkey⟩,by dsimp only;omega⟩ ⟨?_,rfl⟩ rfl rfl (by simp) (by simp) (by simp)
         rw [w3]
   · have hlt:¬bs<n:=by
      have:=oFa hlt
      have:¬(bs:Int)<(n:Int):=this
      omega
     exact h d ⟨hch.one (by omega),hkey⟩

theorem sortStable {l:List PtZ} {n:Nat} {nn:Bool} (hl:l.length=n) (hnb:n≤100000) (h:∀ l',St l l'→K undefA [] [.rows false 4 (l'.map rowPt)]) :
  Does Tryz.prog 186 [cv (.slc 0 0 n none nn),pfn] [.rows false 4 (l.map rowPt)] K:=by
 refine does Tryz.func186 rfl (by decide) ?_
 change Does Tryz.prog 229 _ _ _
 exact stableCmp hl hnb h

end
end
section
def tmS (r:Nat) (T:Tm):Tm→Prop
 | []=>True
 | (i,v)::T0=>lk T i=v∧(killA [r] v=v∨∃ n c nn,v=cv (.slc r 0 n c nn))∧tmS r T T0

theorem tmS_spec {r:Nat} {T:Tm}:∀ {T0:Tm},tmS r T T0→∀ i,lk T0 i=.u∨(lk T i=lk T0 i∧(killA [r] (lk T0 i)=lk T0 i∨∃ n c nn,lk T0 i=cv (.slc r 0 n c nn)))
 | [],_,_=>.inl rfl
 | (j,v)::T0,h,i=>by
   rw [lk_cons]
   split
   · rename_i hj
     subst hj
     exact .inr ⟨h.1,h.2.1⟩
   · exact tmS_spec h.2.2 i

theorem SS.shut {P:Program} {nt N0:Nat} {c:Code} {T:Tm} {M:List Nat} {H:List PO} {Q:Ex→Tm→List Nat→List PO→Prop} (r:Nat) (T2:Tm) {ap:Bool} {sz:Nat} {es:List (Option (ILoc×List (List FC)))} (rss:List (List (List FC)))
  (hr:H[r]? = some (.rows3 ap sz es)) (hN:N0≤r) (hle:es.length=rss.length) (hes:∀ (i:Nat) (rs:List (List FC)),rss[i]? = some rs→∃ l,es[i]? = some (some (l,rs)))
  (hH:(H.set r .gone).map (killO [r])=H.set r .gone) (hT:tmS r T T2) (h:SS P nt N0 c T2 M (H.set r (.rows2 false sz rss)) Q):SS P nt N0 c T M H Q:=by
 refine ⟨fun B R w0 L0 L w a R0 h1 h2 h3 h4 h5=>?_⟩
 have hrl:=(List.getElem?_eq_some_iff.1 hr).1
 let inn:Nat→ILoc:=fun i=>match es[i]? with
  | some (some p)=>p.1
  | _=>⟨0,0,0,sz⟩
 have hinn:∀ (i:Nat) (l:ILoc) (rs:List (List FC)),es[i]? = some (some (l,rs))→inn i=l:=fun i l rs hi=>by simp only [inn,hi]
 obtain ⟨c1,c2,c3,c4⟩:=h3.obj _ _ hr
 have hget:∀ (i:Nat),i<rss.length→∃ p,es[i]? = some (some p)∧inn i=p.1∧rss[i]? = some p.2:=fun i hi=>by
  obtain ⟨l,hl⟩:=hes i rss[i] (List.getElem?_eq_getElem hi)
  exact ⟨_,hl,hinn i _ _ hl,List.getElem?_eq_getElem hi⟩
 have hag:Agree H.length [r] L (upd L r ⟨(L r).h,inn⟩):=fun j _ hm=>upd_ne (by simpa using hm)
 refine h.run B R w0 L0 (upd L r ⟨(L r).h,inn⟩) w a R0 (by rw [List.length_set];exact h1) (fun j hj hm=>(upd_ne (by omega)).trans (h2 j hj hm)) ?_ ?_ h5
 · refine h3.put (M:=[r]) r (.rows2 false sz rss) (by simp) (List.getElem?_set_self hrl) (fun j hj o ho=>?_) hag (fun j hj=>upd_ne hj) (Bel.refl _ _) (fun _ _=>.inl rfl) (fun b hb=>?_) (fun b hb=>hb.elim) ?_
   · rw [List.getElem?_set_ne (Ne.symm hj)] at ho
     refine ⟨o,ho,?_⟩
     have:=congrArg (·[j]?) hH
     simp only [List.getElem?_map,List.getElem?_set_ne (Ne.symm hj),ho] at this
     exact (Option.some.inj this).symm
   · have ho:Own (.rows3 ap sz es) (L r) b:=by
      rw [upd_self] at hb
      rcases hb with hb | ⟨i,hi,hc,rfl⟩
      · exact .inl hb
      · obtain ⟨p,hp,hpi,_⟩:=hget i hi
        have hc:(inn i).cap≠0:=hc
        rw [hpi] at hc
        refine .inr ⟨i,p,hp,hc,?_⟩
        show (inn i).blk=_
        rw [hpi]
     obtain ⟨k1,k2,_⟩:=h3.own _ _ _ hr ho
     exact ⟨k1,k2,.inr ⟨_,hr,ho⟩⟩
   · rw [upd_self]
     refine ⟨c1,by rw [←hle];exact c2,fun _ hc=>c3 hc,fun i rs hi=>?_,fun _ hc i hi hci=>?_⟩
     · obtain ⟨l,hli⟩:=hes i rs hi
       obtain ⟨d1,⟨u,d2,d3⟩,_⟩:=c4 i _ hli
       show RowsAt w true sz rs (inn i)∧∃ v,_∧Hdr (inn i) 0 rs.length none false v
       rw [hinn i _ _ hli]
       exact ⟨d1,u,d2,d3⟩
     · obtain ⟨p,hp,hpi,_⟩:=hget i hi
       have hci:(inn i).cap≠0:=hci
       show (inn i).blk≠_
       rw [hpi] at hci ⊢
       exact ((c4 i p hp).2.2 hci).1 hc
 · refine ⟨fun i=>?_,h4.defers,h4.room⟩
   rw [List.length_set]
   rcases tmS_spec hT i with e | ⟨e,hk | ⟨n,c,nn,hk⟩⟩
   · rw [e];trivial
   · have:=VA.mono (Nat.le_refl _) hag (h4.get i)
     rw [e,hk] at this
     exact this
   · have:=h4.get i
     rw [e,hk] at this
     rw [hk]
     obtain ⟨k1,k2⟩:=this
     refine ⟨k1,?_⟩
     rw [upd_self]
     exact k2
end
section
section

variable {K:KP} {m:MZ} {v:VZ}

end
end
end Go.Mac
end
