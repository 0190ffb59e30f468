import Derived.Test.YtollgfhpcidkgaaGreatDoorMacSlc

namespace Go.Mac
open Go

section

variable {B R:Nat→Prop} {w0:World} {N:Nat} {L:Nat→Loc} {H:List PO} {P:Program} {w:World}

theorem Hdr.full {h:ILoc} {n:Nat} {nn:Bool} {v:Value} (hh:Hdr h 0 n none nn v):Hdr h 0 n none false v:=by
 rcases hh with ⟨_,h2,h3,h4⟩ | h
 · exact .inl ⟨rfl,h2,h3,h4⟩
 · exact .inr h

theorem absorb_spec (h:Rel B R w0 L H w) {sz:Nat} (hsz:0<sz):∀ (cs:List CV) (vs:List Value) (G:List PO) {k:List Nat→List PO→List (List (List FC))→Prop},
 VCs H.length L cs vs→absorbK sz G cs k→(∀ (j:Nat) (o:PO),G[j]? = some o→o=.gone∨H[j]? = some o)→G.length=H.length →
 ∃ M G' rss,∃ inn:Nat→ILoc,k M G' rss∧G'.length=H.length∧(∀ (j:Nat) (o:PO),G'[j]? = some o→o=.gone∨j∉M∧G[j]? = some o)∧rss.length=cs.length ∧
   ∀ (i:Nat) (rs:List (List FC)),rss[i]? = some rs→RowsAt w true sz rs (inn i)∧(∃ v,vs[i]? = some v∧Hdr (inn i) 0 rs.length none false v)∧((inn i).cap≠0→∃ j o,j∈M∧H[j]? = some o∧Own o (L j) (inn i).blk)
 | [],vs,G,k,hv,hk,hG,hl=>⟨[],G,[],fun _=>⟨0,0,0,0⟩,hk,hl,fun j o ho=>.inr ⟨by simp,ho⟩,rfl,fun i rs hi=>by simp at hi⟩
 | .nilslc::cs,vs,G,k,⟨v,us,hvs,hv,hus⟩,hk,hG,hl=>by
   subst hvs
   obtain rfl:v=.slice none 0 0:=hv
   obtain ⟨M,G',rss,inn,k1,k2,k3,k4,k5⟩:=absorb_spec h hsz cs us G hus hk hG hl
   refine ⟨M,G',_,fun i=>match i with | 0=>⟨0,0,0,sz⟩ | i+1=>inn i,k1,k2,k3,by simp [k4],fun i rs hi=>?_⟩
   cases i with
   | zero =>
     simp at hi;subst hi
     exact ⟨⟨rfl,hsz,Nat.le_refl _,fun _ hc=>absurd rfl hc,fun i r hi=>by simp at hi⟩,⟨_,rfl,.inl ⟨rfl,rfl,rfl,fun c' hc'=>by cases hc'⟩⟩,fun hc=>absurd rfl hc⟩
   | succ i=>exact k5 i rs (by simpa using hi)
 | .slc r 0 n none nn::cs,vs,G,k,⟨v,us,hvs,hv,hus⟩,hk,hG,hl=>by
   subst hvs
   simp only [absorbK,nth_eq] at hk
   split at hk <;> try exact hk.elim
   rename_i s rs hrs
   simp only [cond_eq_ite] at hk
   split at hk <;> try exact hk.elim
   rename_i hs
   obtain rfl:=Nat.eq_of_beq_eq_true hs
   obtain ⟨hn,hk⟩:=hk
   subst hn
   rw [setK_eq] at hk
   have hrH:H[r]? = some (.rows false s rs):=by
    rcases hG r _ hrs with e | e
    · cases e
    · exact e
   have hlt:=(List.getElem?_eq_some_iff.1 hrH).1
   obtain ⟨hrN,hh⟩:=hv
   obtain ⟨M,G',rss,inn,k1,k2,k3,k4,k5⟩:=absorb_spec h hsz cs us (G.set r .gone) hus hk (fun j o hj=>by
    by_cases hjr:j=r
    · subst hjr
      rw [List.getElem?_set_self (by omega)] at hj
      exact .inl (Option.some.inj hj).symm
    · rw [List.getElem?_set_ne (Ne.symm hjr)] at hj
      exact hG j o hj) (by simpa using hl)
   refine ⟨r::M,G',rs::rss,fun i=>match i with | 0=>(L r).h | i+1=>inn i,k1,k2,fun j o hj=>?_,by simp [k4],fun i q hi=>?_⟩
   · rcases k3 j o hj with e | ⟨e1,e2⟩
     · exact .inl e
     · by_cases hjr:j=r
       · subst hjr
         rw [List.getElem?_set_self (by omega)] at e2
         exact .inl (Option.some.inj e2).symm
       · rw [List.getElem?_set_ne (Ne.symm hjr)] at e2
         exact .inr ⟨by simp [hjr,e1],e2⟩
   · cases i with
     | zero =>
       simp at hi;subst hi
       exact ⟨h.obj r _ hrH,⟨_,rfl,hh.full⟩,fun hc=>⟨r,_,by simp,hrH,hc,rfl⟩⟩
     | succ i =>
       obtain ⟨g1,g2,g3⟩:=k5 i q (by simpa using hi)
       refine ⟨g1,by simpa using g2,fun hc=>?_⟩
       obtain ⟨j,o,hj,e⟩:=g3 hc
       exact ⟨j,o,by simp [hj],e⟩

theorem fill_size:∀ (place:Nat→Option (Nat×Nat)) (ps:List (Nat×Value)) (c c':Array Value),Instr.fill place c ps=some c'→c'.size=c.size:=by
 have hfold:∀ (off:Nat) (zs:List (Value×Nat)) (c:Array Value),(zs.foldl (fun cs (x:Value×Nat)=>cs.setIfInBounds (off+x.2) x.1) c).size=c.size:=by
  intro off zs
  induction zs with
  | nil=>intro c;rfl
  | cons a zs ih2=>intro c;rw [List.foldl_cons,ih2];simp
 intro place ps
 induction ps with
 | nil=>intro c c' hh;simp [Instr.fill] at hh;rw [hh]
 | cons q ps ih =>
   intro c c' hh
   obtain ⟨i,v⟩:=q
   simp only [Instr.fill] at hh
   split at hh
   · cases hh
   · split at hh
     · cases hh
     · rw [ih _ _ hh]
       rw [←Array.foldl_toList]
       exact hfold _ _ _

def rOf:CV→Nat
 | .slc r _ _ _ _=>r
 | _=>0

theorem roK_spec {H:List PO} {sz:Nat}:∀ (cs:List CV) {k:List (List (List FC))→Prop},roK H sz cs k→∃ rss,k rss∧rss.length=cs.length∧∀ (i:Nat) (rs:List (List FC)),rss[i]? = some rs→∃ r nn,cs[i]? = some (.slc r 0 rs.length none nn)∧H[r]? = some (.rows true sz rs)
 | [],k,h=>⟨[],h,rfl,fun i rs hi=>by simp at hi⟩
 | c::cs,k,h=>by
   unfold roK at h
   split at h
   · rename_i heq;cases heq
   · rename_i r m nn cs' heq
     cases heq
     rw [nth_eq] at h
     split at h <;> try exact h.elim
     rename_i s rs hrs
     simp only [cond_eq_ite] at h
     split at h <;> try exact h.elim
     rename_i hb
     obtain rfl:=Nat.eq_of_beq_eq_true hb
     obtain ⟨rfl,h⟩:=h
     obtain ⟨rss,h1,h2,h3⟩:=roK_spec cs h
     refine ⟨rs::rss,h1,by simp [h2],fun i q hi=>?_⟩
     cases i with
     | zero =>
       simp at hi
       subst hi
       exact ⟨r,nn,rfl,hrs⟩
     | succ i=>simpa using h3 i q (by simpa using hi)
   · exact h.elim

theorem build2_sound (h:Rel B R w0 L H w) {t:TypeId} {sz n:Nat} {parts:List (Nat×AV)} {vparts:Array (Nat×Value)} (_hsz:slc2 P t=some sz) (h1:parts.map (·.1)=vparts.toList.map (·.1)) (h2:VAs H.length L (parts.map (·.2)) (vparts.toList.map (·.2)))
 {K:KP} (hs:build2A P H t sz n parts K):∃ r w',(Instr.buildSlice t n vparts).run P w=.ok r w'∧Left B R w0 H.length L K r w':=by
 unfold build2A at hs
 split at hs <;> try exact hs.elim
 rename_i e he
 split at hs <;> try exact hs.elim
 rename_i z hz
 simp only [cond_eq_ite,Bool.and_eq_true] at hs
 split at hs <;> try exact hs.elim
 rename_i hc
 obtain ⟨⟨⟨⟨hinfo,hone⟩,hmax⟩,hzl⟩,hsz⟩:=hc
 have hsz:0<sz:=by simpa [Nat.blt_eq] using hsz
 have hone:szOf P e=1:=Nat.eq_of_beq_eq_true hone
 rw [←hone] at hzl
 have hpos:0<szOf P e:=by omega
 have hmax:n*szOf P e≤16777216:=by rw [hone];simpa using Nat.le_of_ble_eq_true hmax
 have hzl:=lenIs_spec _ _ hzl
 obtain ⟨zv,hzr,hzv⟩:=zval_sound (N:=H.length) (L:=L) (w:=w) hz
 have hzc:=VP.cells hzv
 have hzs:zv.cells.size=szOf P e:=by rw [←hzl,hzc.length];simp
 have hbase:VCs H.length L (reps n (cellsOf z)) (madeCells zv.cells (n*szOf P e)).toList:=by
  refine VCs.of_get (by rw [reps_length,hzl];simp [size_madeCells]) fun i x v hx hv=>?_
  have hi:i<n*szOf P e:=by have:=(List.getElem?_eq_some_iff.1 hx).1;rwa [reps_length,hzl] at this
  rw [reps_get _ _ _ (by rw [hzl];exact hi),hzl] at hx
  rw [Array.getElem?_toList,madeCells_get (by omega) hi,hzs] at hv
  obtain ⟨v',hv',hvr⟩:=hzc.get hx
  rw [Array.getElem?_toList,hv] at hv'
  cases hv'
  exact hvr
 obtain ⟨cs,vcs,hf,hr,hK⟩:=fill_sound (N:=H.length) (L:=L) _ parts vparts.toList _ (madeCells zv.cells (n*szOf P e)) h1 h2 hbase hs
 have hfl:vcs.size=n:=by rw [fill_size _ _ _ _ hf,size_madeCells,hone];simp
 have hcl:cs.length=n:=by rw [hr.length];simpa using hfl
 have hrun:(Instr.buildSlice t n vparts).run P w=.ok (.slice (some ⟨w.heap.size,0,none⟩) n n) (w.alloc (.cells vcs e)):=by
  have h24:¬(n*szOf P e > 2 ^ 24):=by omega
  simp only [Instr.buildSlice,Sem.run_bind,run_underlying_some (elemT_spec he),Result.andThen_ok,run_sizeOf_some hinfo,Sem.run_ite,if_neg h24]
  by_cases hn:n*szOf P e=0
  · have hz0:(madeCells #[] (n*szOf P e))=madeCells zv.cells (n*szOf P e):=by rw [hn];simp [madeCells]
    simp only [if_pos hn,Sem.run_pure,Result.andThen_ok]
    have hf':Instr.fill (fun i=>some (i*szOf P e,szOf P e)) ((Array.range (n*szOf P e)).map ((#[]:Array Value)[· % (#[]:Array Value).size]!)) vparts.toList=some vcs:=by
     rw [←hf,←hz0];rfl
    simp only [hf']
    rfl
  · simp only [if_neg hn,hzr,Result.andThen_ok,Sem.run_pure]
    have hf':Instr.fill (fun i=>some (i*szOf P e,szOf P e)) ((Array.range (n*szOf P e)).map (zv.cells[· % zv.cells.size]!)) vparts.toList=some vcs:=hf
    simp only [hf']
    rfl
 split at hK
 · -- one of what is only read
   clear hs
   unfold oneRoK at hK
   obtain ⟨rss,hK,hrl,hrs⟩:=roK_spec cs hK
   have hK:=snocK_spec hK
   have hag:=upd_agree L ⟨⟨w.heap.size,0,n,1⟩,fun i=>(L (rOf (cs.getD i .junk))).h⟩ H.length []
   refine ⟨.slice (some ⟨w.heap.size,0,none⟩) n n,w.alloc (.cells vcs e),hrun,upd L H.length ⟨⟨w.heap.size,0,n,1⟩,fun i=>(L (rOf (cs.getD i .junk))).h⟩,_,[],_,hag,by simp,?_,?_,hK⟩
   · refine ⟨by simp,.inr ⟨_,n,rfl,Nat.le_refl _,by simp,?_,?_,fun _=>?_⟩⟩ <;> rw [upd_self] <;> simp [ILoc.at]
   · refine h.put (M:=[]) H.length (.rows2m sz rss) (by simp) (by simp) (fun j hj o1 ho1=>?_) hag (fun j hj=>upd_ne hj) ((Bel.refl B w).alloc h.size _)
      (fun b hb=>.inl (heap_alloc_lt _ _ _ hb)) (fun b hb=>?_) (fun b hb=>?_) ?_
     · rcases Nat.lt_or_gt_of_ne hj with hl | hg
       · rw [List.getElem?_append_left hl] at ho1
         exact ⟨o1,ho1,(killO_nil o1).symm⟩
       · rw [List.getElem?_eq_none (by simp;omega)] at ho1
         cases ho1
     · rw [upd_self] at hb
       obtain rfl:b=w.heap.size:=hb.2
       exact ⟨fun hb=>Nat.lt_irrefl _ (h.size _ hb),by simp,.inl (Nat.le_refl _)⟩
     · rw [upd_self] at hb
       obtain ⟨i,hi,hc,rfl⟩:=hb
       obtain ⟨r,nn,hci,hr⟩:=hrs i rss[i] (List.getElem?_eq_getElem hi)
       have e0:rOf (cs.getD i .junk)=r:=by rw [List.getD_eq_getElem?_getD,hci];rfl
       dsimp only at hc ⊢
       rw [e0] at hc ⊢
       exact h.ro r _ _ hr ⟨hc,rfl⟩
     · rw [upd_self]
       refine ⟨rfl,by show rss.length≤n;omega,fun _=>⟨rfl,n,Nat.le_refl _,vcs,e,_,heap_alloc_eq _ _,hfl,by simp⟩,fun i rs hi=>?_⟩
       obtain ⟨r,nn,hci,hrr⟩:=hrs i rs hi
       have e0:rOf (cs.getD i .junk)=r:=by rw [List.getD_eq_getElem?_getD,hci];rfl
       dsimp only
       rw [e0]
       have hOr:=h.obj r _ hrr
       obtain ⟨v,hv1,hrN,hv2⟩:=hr.get hci
       have hv2':Hdr (L r).h 0 rs.length none false v:=by
        rcases hv2 with ⟨_,q1,q2,q3⟩ | q
        · exact .inl ⟨rfl,q1,q2,q3⟩
        · exact .inr q
       refine ⟨RowsAt.mono (fun hc=>heap_alloc_lt _ _ _ (h.size _ (h.sub _ (h.ro r _ _ hrr ⟨hc,rfl⟩)))) hOr,v,?_,hv2'⟩
       have h0:vcs[i]? = some v:=by rw [←Array.getElem?_toList];exact hv1
       simp only [World.cell?,ILoc.at,heap_alloc_eq]
       simpa using h0
 obtain ⟨M,G',rss,inn,k1,k2,k3,k4,k5⟩:=absorb_spec h hsz cs vcs.toList H hr hK (fun j o hj=>.inr hj) rfl
 rw [killHK_eq] at k1
 have k1:=snocK_spec k1
 have hlen:(G'.map (killO M)).length=H.length:=by simpa using k2
 rw [hlen] at k1
 have hblk:∀ (i:Nat) (rs:List (List FC)),rss[i]? = some rs→(inn i).cap≠0→(inn i).blk<w.heap.size:=fun i rs hi hc=>by
  obtain ⟨_,_,g3⟩:=k5 i rs hi
  obtain ⟨j,o,_,ho,hb⟩:=g3 hc
  exact (h.own j o _ ho hb).2.1
 have hrel:=h.seize (M:=M) (L':=upd L H.length ⟨⟨w.heap.size,0,n,1⟩,inn⟩) (H':=G'.map (killO M)++[.rows2 false sz rss]) (w':=w.alloc (.cells vcs e)) H.length M (.rows2 false sz rss)
  (by simp [k2]) (by rw [List.getElem?_append_right (by omega),hlen];simp) (fun j hj o ho=>by
    rcases Nat.lt_or_gt_of_ne hj with hl | hg
    · rw [List.getElem?_append_left (by omega),List.getElem?_map,Option.map_eq_some_iff] at ho
      obtain ⟨o1,ho1,rfl⟩:=ho
      rcases k3 j o1 ho1 with rfl | ⟨e1,e2⟩
      · exact .inl rfl
      · exact .inr ⟨e1,o1,e2,rfl⟩
    · rw [List.getElem?_eq_none (by simp;omega)] at ho
      cases ho) (fun i hi _=>upd_ne (by omega)) (fun j hj=>upd_ne hj) ((Bel.refl B w).alloc h.size _) (fun b hb=>.inl (heap_alloc_lt _ _ _ hb)) (fun b hb=>by
    rw [upd_self] at hb
    rcases hb with ⟨_,rfl⟩ | ⟨i,hi,hc,rfl⟩
    · exact ⟨fun hb=>Nat.lt_irrefl _ (h.size _ hb),by simp,.inl (Nat.le_refl _)⟩
    · obtain ⟨_,_,g3⟩:=k5 i _ (List.getElem?_eq_getElem hi)
      obtain ⟨j,o,hj,ho,hb⟩:=g3 hc
      obtain ⟨g4,g5,_⟩:=h.own j o _ ho hb
      exact ⟨g4,by simp;omega,.inr ⟨j,o,.inr hj,ho,hb⟩⟩) (fun b hb=>hb.elim) (by
    rw [upd_self]
    refine ⟨rfl,by show rss.length≤n;omega,fun _ _=>⟨rfl,n,Nat.le_refl _,vcs,e,_,heap_alloc_eq _ _,hfl,by simp⟩,fun i rs hi=>?_,fun _ _ i hi hc=>?_⟩
    · obtain ⟨g1,⟨v,g2,g3⟩,_⟩:=k5 i rs hi
      refine ⟨g1.mono fun hc=>heap_alloc_lt _ _ _ (hblk i rs hi hc),v,?_,g3⟩
      simp only [World.cell?,ILoc.at,heap_alloc_eq]
      simpa using g2
    · have:=hblk i _ (List.getElem?_eq_getElem hi) hc
      show (inn i).blk≠w.heap.size
      omega)
 refine ⟨.slice (some ⟨w.heap.size,0,none⟩) n n,w.alloc (.cells vcs e),hrun,_,_,M,_,fun i hi _=>upd_ne (by omega),by simp [k2],?_,hrel,k1⟩
 refine ⟨by simp [k2],.inr ⟨_,n,rfl,Nat.le_refl _,by simp,?_,?_,fun _=>?_⟩⟩ <;> dsimp only <;> rw [upd_self] <;> simp [ILoc.at]

def outs (w:World) (h:ILoc) (n:Nat):List Value:=(List.range n).map fun j=>(w.cell? (h.at j 0)).getD undef

theorem outs_length {h:ILoc} {n:Nat}:(outs w h n).length=n:=by simp [outs]

theorem outs_get {N:Nat} {L:Nat→Loc} {ro:Bool} {sz:Nat} {rss:List (List (List FC))} {l:Loc} (ho:OR N L w (.rows2 ro sz rss) l) {j:Nat} {z:Value} (hz:(outs w l.h rss.length)[j]? = some z) :
 w.cell? (l.h.at j 0)=some z∧∃ rs,rss[j]? = some rs∧Hdr (l.inn j) 0 rs.length none false z:=by
 have hj:j<rss.length:=by have:=(List.getElem?_eq_some_iff.1 hz).1;simpa [outs_length] using this
 obtain ⟨_,v,hv,hh⟩:=ho.2.2.2.1 j _ (List.getElem?_eq_getElem hj)
 simp only [outs,List.getElem?_map,List.getElem?_range hj,Option.map_some,hv,Option.getD_some,Option.some.injEq] at hz
 subst hz
 exact ⟨hv,_,List.getElem?_eq_getElem hj,hh⟩

theorem Hdr.one {h:ILoc} {o n:Nat} {c:Option Nat} {nn:Bool} {v:Value} (hh:Hdr h o n c nn v):OneCell v=true:=by
 rcases hh with ⟨_,_,rfl,_⟩ | ⟨_,_,rfl,_⟩ <;> rfl

theorem outs_hdr {N:Nat} {L:Nat→Loc} {ro:Bool} {sz:Nat} {rss:List (List (List FC))} {l:Loc} (ho:OR N L w (.rows2 ro sz rss) l) {nn:Bool} {v:Value} (hh:Hdr l.h 0 rss.length none nn v) :
 (rss.length=0∧v=.slice none 0 0)∨∃ b c,v=.slice (some b) rss.length c∧∀ (j:Nat) (z:Value),(outs w l.h rss.length)[j]? = some z→w.cell? (b.add j)=some z:=by
 rcases hh with ⟨_,h0,hv,_⟩ | ⟨a,k,hv,hnk,_,_,_,hat⟩
 · exact .inl ⟨h0,hv⟩
 · refine .inr ⟨a,k,hv,fun j z hz=>?_⟩
   have hj:j<rss.length:=by have:=(List.getElem?_eq_some_iff.1 hz).1;simpa [outs_length] using this
   have:=(outs_get ho hz).1
   rw [hat (by omega),Addr.add_none _ _ rfl]
   simpa [ILoc.at,ho.1] using this

theorem take3 (h:Rel B R w0 L H w) {r sz i:Nat} {es:List (Option (ILoc×List (List FC)))} {l:ILoc} {rs:List (List FC)} (hr:H[r]? = some (.rows3 true sz es)) (hi:es[i]? = some (some (l,rs))) :
 Agree H.length [] L (upd L H.length ⟨l,fun _=>l⟩)∧Rel B R w0 (upd L H.length ⟨l,fun _=>l⟩) (H.set r (.rows3 true sz (es.set i none))++[.rows false sz rs]) w:=by
 have hrl:=(List.getElem?_eq_some_iff.1 hr).1
 have hil:=(List.getElem?_eq_some_iff.1 hi).1
 obtain ⟨c1,c2,c3,c4⟩:=h.obj r _ hr
 obtain ⟨d1,d2,d3⟩:=c4 i _ hi
 have hag:=upd_agree L ⟨l,fun _=>l⟩ H.length []
 have hget:∀ (j:Nat) (p:ILoc×List (List FC)),(es.set i none)[j]? = some (some p)→j≠i∧es[j]? = some (some p):=fun j p hj=>by
  by_cases e:j=i
  · subst e
    rw [List.getElem?_set_self hil] at hj
    cases hj
  · rw [List.getElem?_set_ne (Ne.symm e)] at hj
    exact ⟨e,hj⟩
 -- which object it was
 have hobj:∀ (j:Nat) (o:PO),(H.set r (.rows3 true sz (es.set i none))++[.rows false sz rs])[j]? = some o →
  (j=H.length∧o=.rows false sz rs)∨(j=r∧o=.rows3 true sz (es.set i none))∨(j<H.length∧j≠r∧H[j]? = some o):=fun j o ho=>by
  rcases Nat.lt_or_ge j H.length with hj | hj
  · rw [List.getElem?_append_left (by simpa using hj)] at ho
    by_cases e:j=r
    · subst e
      rw [List.getElem?_set_self hrl] at ho
      exact .inr (.inl ⟨rfl,(Option.some.inj ho).symm⟩)
    · rw [List.getElem?_set_ne (Ne.symm e)] at ho
      exact .inr (.inr ⟨hj,e,ho⟩)
  · rw [List.getElem?_append_right (by simpa using hj),List.length_set] at ho
    by_cases e:j=H.length
    · subst e
      rw [Nat.sub_self] at ho
      exact .inl ⟨rfl,(Option.some.inj ho).symm⟩
    · rw [List.getElem?_eq_none (by simp;omega)] at ho
      cases ho
 -- whose a block was
 have hown:∀ (j:Nat) (o:PO) (b:Nat),(H.set r (.rows3 true sz (es.set i none))++[.rows false sz rs])[j]? = some o→Own o (upd L H.length ⟨l,fun _=>l⟩ j) b →
  ∃ k o',H[k]? = some o'∧Own o' (L k) b∧((j=H.length∧k=r∧l.cap≠0∧b=l.blk)∨(j=r∧k=r∧(l.cap≠0→b≠l.blk))∨(j≠H.length∧j≠r∧j=k)):=fun j o b ho hb=>by
  rcases hobj j o ho with ⟨rfl,rfl⟩ | ⟨rfl,rfl⟩ | ⟨hj,hjr,ho⟩
  · rw [upd_self] at hb
    exact ⟨r,_,hr,.inr ⟨i,_,hi,hb.1,hb.2⟩,.inl ⟨rfl,rfl,hb.1,hb.2⟩⟩
  · rw [upd_ne (by omega)] at hb
    rcases hb with hb | ⟨k,p,hk,hc,rfl⟩
    · exact ⟨j,_,hr,.inl hb,.inr (.inl ⟨rfl,rfl,fun hl e=>(d3 hl).1 hb.1 (e.symm.trans hb.2)⟩)⟩
    · obtain ⟨hki,hk⟩:=hget k p hk
      exact ⟨j,_,hr,.inr ⟨k,p,hk,hc,rfl⟩,.inr (.inl ⟨rfl,rfl,fun hl e=>hki ((d3 hl).2 rfl k p hk hc e)⟩)⟩
  · rw [upd_ne (by omega)] at hb
    exact ⟨j,o,ho,hb,.inr (.inr ⟨by omega,hjr,rfl⟩)⟩
 refine ⟨hag,h.below,h.start,fun j o ho=>?_,fun j o b ho hb=>?_,fun j o b ho hb=>?_,h.sub⟩
 · rcases hobj j o ho with ⟨rfl,rfl⟩ | ⟨rfl,rfl⟩ | ⟨hj,hjr,ho⟩
   · rw [upd_self]
     exact d1
   · rw [upd_ne (by omega)]
     refine ⟨c1,by simpa using c2,c3,fun k p hk=>?_⟩
     obtain ⟨hki,hk⟩:=hget k p hk
     obtain ⟨e1,e2,e3⟩:=c4 k p hk
     exact ⟨e1,e2,fun hc=>⟨(e3 hc).1,fun _ k' q hk' hq e=>(e3 hc).2 rfl k' q (hget k' q hk').2 hq e⟩⟩
   · rw [upd_ne (by omega)]
     have:=(h.obj j o ho).mono (M:=[]) (N':=(H.set r (.rows3 true sz (es.set i none))++[PO.rows false sz rs]).length) (by simp) hag (w':=w) fun _ _=>rfl
     rwa [killO_nil] at this
 · obtain ⟨k,o',ho',hb',hjk⟩:=hown j o b ho hb
   obtain ⟨k1,k2,k3⟩:=h.own k o' b ho' hb'
   refine ⟨k1,k2,fun j2 o2 ho2 hb2=>?_⟩
   obtain ⟨m,o3,ho3,hb3,hjm⟩:=hown j2 o2 b ho2 hb2
   have e:=k3 m o3 ho3 hb3
   rcases hjk with ⟨a1,a2,a3,a4⟩ | ⟨a1,a2,a3⟩ | ⟨a1,a2,a3⟩ <;> rcases hjm with ⟨b1,b2,b3,b4⟩ | ⟨b1,b2,b3⟩ | ⟨b1,b2,b3⟩
   · omega
   · exact absurd a4 (b3 a3)
   · omega
   · exact absurd b4 (a3 b3)
   · omega
   · omega
   · omega
   · omega
   · omega
 · rcases hobj j o ho with ⟨rfl,rfl⟩ | ⟨rfl,rfl⟩ | ⟨hj,hjr,ho⟩
   · exact hb.elim
   · exact hb.elim
   · rw [upd_ne (by omega)] at hb
     exact h.ro j o b ho hb

theorem append3_sound (h:Rel B R w0 L H w) {ts:List TypeId} {ty:TypeId} {r i n:Nat} {l:ILoc} {x:AV} {v u:Value} (hs:VA H.length L (cv (.hslc r i l n)) v) (hx:VA H.length L x u) {K:KP} (ha:append3A P H ts r i l n x K) :
 ∃ r w',(Builtin.append_ ts.toArray ty #[v,u]).run P w=.ok r w'∧Left B R w0 H.length L K r w':=by
 unfold append3A at ha
 rw [nth_eq] at ha
 split at ha <;> try exact ha.elim
 rename_i sz es hr
 obtain ⟨rs,hi,rfl,ha⟩:=ha
 rw [setK_eq] at ha
 have ha:=snocK_spec ha
 rw [List.length_set] at ha
 obtain ⟨hag,hrel⟩:=take3 h hr hi
 have hlen:(H.set r (.rows3 true sz (es.set i none))++[PO.rows false sz rs]).length=H.length+1:=by simp
 have hs':VA (H.set r (.rows3 true sz (es.set i none))++[PO.rows false sz rs]).length (upd L H.length ⟨l,fun _=>l⟩) (cv (.slc H.length 0 rs.length none false)) v:=by
  refine ⟨by omega,?_⟩
  rw [upd_self]
  exact hs
 have hx':=hx.mono (M:=[]) (N':=(H.set r (.rows3 true sz (es.set i none))++[PO.rows false sz rs]).length) (by omega) hag
 rw [killA_nil] at hx'
 obtain ⟨rv,w',hrun,L',y,M,H',k1,k2,k3,k4,k5⟩:=append_sound (ty:=ty) hrel hs' hx' ha
 exact ⟨rv,w',hrun,L',y,M,H',fun j hj hm=>(k1 j (by omega) hm).trans (hag j hj (by simp)),by omega,k3,k4,k5⟩

theorem append2_sound (h:Rel B R w0 L H w) {ts:List TypeId} {ty:TypeId} {s x:AV} {v u:Value} (hs:VA H.length L s v) (hx:VA H.length L x u) {K:KP} (ha:append2A P H ts s x K) :
 ∃ r w',(Builtin.append_ ts.toArray ty #[v,u]).run P w=.ok r w'∧Left B R w0 H.length L K r w':=by
 unfold append2A at ha
 split at ha <;> try exact ha.elim
 rename_i t u'
 split at ha <;> try exact ha.elim
 rename_i e e' he he'
 split at ha <;> try exact ha.elim
 rename_i i z hi hz
 simp only [cond_eq_ite,Bool.and_eq_true] at ha
 split at ha <;> try exact ha.elim
 rename_i hc
 obtain ⟨hi1,hzl⟩:=hc
 have hi1:i.size=1:=Nat.eq_of_beq_eq_true hi1
 obtain ⟨zv,hzv,hzr⟩:=zero_spec (N:=H.length) (L:=L) hi hz
 have hzc:zv.cells.size=1:=by
  have h1:=(VP.cells hzr).length
  have h2:=lenIs_spec _ _ hzl
  rw [←h2,h1];simp
 have ht:=elemT_spec he
 have hu:=elemT_spec he'
 split at ha <;> try exact ha.elim
 rename_i r2 m nn2
 rw [nth_eq] at ha
 split at ha <;> try exact ha.elim
 rename_i sz xs hxs
 split at ha <;> try exact ha.elim
 rename_i r n nn
 split at ha <;> try exact ha.elim
 rename_i hne
 have hne:r≠r2:=fun e=>by subst e;simp at hne
 rw [nth_eq] at ha
 split at ha <;> try exact ha.elim
 rename_i sz' rs hrs
 split at ha <;> try exact ha.elim
 rename_i hb
 obtain rfl:=Nat.eq_of_beq_eq_true hb
 obtain ⟨rfl,rfl,h47,h63,hK⟩:=ha
 rw [killHK_eq,setK_eq,setK_eq] at hK
 obtain ⟨hr2N,hh2⟩:=hx
 obtain ⟨hrN,hh⟩:=hs
 have hO:=h.obj r _ hrs
 have hO2:=h.obj r2 _ hxs
 obtain ⟨osz,ocap,oown,oin,odis⟩:=id hO
 have hxv:=outs_hdr hO2 hh2
 have hlx:=outs_length (w:=w) (h:=(L r2).h) (n:=xs.length)
 have hlr:=outs_length (w:=w) (h:=(L r).h) (n:=rs.length)
 have hone:∀ z∈outs w (L r2).h xs.length,OneCell z=true:=fun z hz=>by
  obtain ⟨j,hj⟩:=List.mem_iff_getElem?.1 hz
  obtain ⟨_,_,_,g⟩:=outs_get hO2 hj
  exact g.one
 -- whatever world it comes to
 have fin:∀ (rv:Value) (w':World) (l':ILoc),Bel (fun k=>k<w.heap.size∧¬((L r).h.cap≠0∧k=(L r).h.blk)) w w'→(l'.cap≠0→l'.blk<w'.heap.size∧(w.heap.size≤l'.blk∨(L r).h.cap≠0∧l'.blk=(L r).h.blk)) →
  l'.sz=1→rs.length+xs.length≤l'.cap→(l'.cap≠0→l'.base=0∧∃ q,l'.cap≤q∧Cells w' l'.blk q) →
  (∀ (j:Nat) (z:Value),(outs w (L r).h rs.length++outs w (L r2).h xs.length)[j]? = some z→w'.cell? (l'.at j 0)=some z) →
  Hdr l' 0 (rs.length+xs.length) none nn rv→Left B R w0 H.length L K rv w':=by
  intro rv w' l' k1 k2 k3 k4 k5 k6 k7
  have hnB:∀ k,B k→k<w.heap.size∧¬((L r).h.cap≠0∧k=(L r).h.blk):=fun k hk=>⟨h.size k hk,fun hh=>(h.own r _ k hrs (.inl hh)).1 hk⟩
  have hag:Agree H.length [r,r2] L (upd L r ⟨l',fun j=>if j<rs.length then (L r).inn j else (L r2).inn (j-rs.length)⟩):=fun j _ hm=>upd_ne (by simp at hm;exact hm.1)
  have hinn:∀ j,j<rs.length→(fun j=>if j<rs.length then (L r).inn j else (L r2).inn (j-rs.length)) j=(L r).inn j:=fun j hj=>if_pos hj
  have hinn2:∀ j,¬j<rs.length→(fun j=>if j<rs.length then (L r).inn j else (L r2).inn (j-rs.length)) j=(L r2).inn (j-rs.length):=fun j hj=>if_neg hj
  have hrel:=h.seize (M:=[r,r2]) (L':=upd L r ⟨l',fun j=>if j<rs.length then (L r).inn j else (L r2).inn (j-rs.length)⟩) (H':=((H.map (killO [r,r2])).set r (.rows2 false sz' (rs++xs))).set r2 .gone) (w':=w') r [r2] (.rows2 false sz' (rs++xs))
   (by simp) (by rw [List.getElem?_set_ne (Ne.symm hne),List.getElem?_set_self (by simpa using hrN)]) (fun j hj o ho=>by
     by_cases hj2:j=r2
     · subst hj2
       rw [List.getElem?_set_self (by simpa using hr2N)] at ho
       exact .inl (Option.some.inj ho).symm
     · rw [List.getElem?_set_ne (Ne.symm hj2),List.getElem?_set_ne (Ne.symm hj),List.getElem?_map,Option.map_eq_some_iff] at ho
       obtain ⟨o1,ho1,rfl⟩:=ho
       exact .inr ⟨by simpa using hj2,o1,ho1,rfl⟩) hag (fun j hj=>upd_ne hj)
   ⟨k1.os,k1.tape,k1.output,k1.size,fun k hk=>k1.block k (hnB k hk)⟩ (fun b hb=>by
    by_cases hh:(L r).h.cap≠0∧b=(L r).h.blk
    · exact .inr ⟨r,_,.inl rfl,hrs,.inl hh⟩
    · exact .inl (k1.block b ⟨hb,hh⟩)) (fun b hb=>by
    rw [upd_self] at hb
    rcases hb with ⟨hc,rfl⟩ | ⟨j,hj,hc,rfl⟩
    · obtain ⟨g1,g2 | g2⟩:=k2 hc
      · exact ⟨fun hB=>by have:=h.size _ hB;simp only at this;omega,g1,.inl g2⟩
      · exact ⟨(h.own r _ _ hrs (.inl g2)).1,g1,.inr ⟨r,_,.inl rfl,hrs,.inl g2⟩⟩
    · dsimp only at hc ⊢
      rw [List.length_append] at hj
      by_cases hjl:j<rs.length
      · rw [if_pos hjl] at hc ⊢
        have hb:Own (.rows2 false sz' rs) (L r) ((L r).inn j).blk:=.inr ⟨j,hjl,hc,rfl⟩
        obtain ⟨g1,g2,_⟩:=h.own r _ _ hrs hb
        exact ⟨g1,Nat.lt_of_lt_of_le g2 k1.size,.inr ⟨r,_,.inl rfl,hrs,hb⟩⟩
      · rw [if_neg hjl] at hc ⊢
        have hb:Own (.rows2 false sz' xs) (L r2) ((L r2).inn (j-rs.length)).blk:=.inr ⟨j-rs.length,by omega,hc,rfl⟩
        obtain ⟨g1,g2,_⟩:=h.own r2 _ _ hxs hb
        exact ⟨g1,Nat.lt_of_lt_of_le g2 k1.size,.inr ⟨r2,_,.inr (by simp),hxs,hb⟩⟩) (fun b hb=>hb.elim) (by
    rw [upd_self]
    refine ⟨k3,by simpa using k4,fun _ hc=>k5 hc,fun j q hq=>?_,fun _ hc j hj hcj=>?_⟩
    · by_cases hjl:j<rs.length
      · rw [List.getElem?_append_left hjl] at hq
        obtain ⟨g1,v1,g2,g3⟩:=oin j q hq
        dsimp only
        rw [if_pos hjl]
        refine ⟨g1.mono fun hc=>?_,v1,k6 j v1 ?_,g3⟩
        · have hb:Own (.rows2 false sz' rs) (L r) ((L r).inn j).blk:=.inr ⟨j,hjl,hc,rfl⟩
          exact k1.block _ ⟨(h.own r _ _ hrs hb).2.1,fun hh=>odis rfl hh.1 j hjl hc hh.2⟩
        · rw [List.getElem?_append_left (by omega)]
          simp [outs,List.getElem?_range hjl,g2]
      · rw [List.getElem?_append_right (by omega)] at hq
        have hj2:=(List.getElem?_eq_some_iff.1 hq).1
        obtain ⟨g1,v1,g2,g3⟩:=hO2.2.2.2.1 _ q hq
        dsimp only
        rw [if_neg hjl]
        refine ⟨g1.mono fun hc=>?_,v1,k6 j v1 ?_,g3⟩
        · have hb:Own (.rows2 false sz' xs) (L r2) ((L r2).inn (j-rs.length)).blk:=.inr ⟨_,hj2,hc,rfl⟩
          obtain ⟨_,g4,g5⟩:=h.own r2 _ _ hxs hb
          exact k1.block _ ⟨g4,fun hh=>hne (g5 r _ hrs (.inl hh))⟩
        · rw [List.getElem?_append_right (by omega),hlr]
          simp [outs,List.getElem?_range hj2,g2]
    · rw [List.length_append] at hj
      dsimp only at hcj ⊢
      obtain ⟨_,g2⟩:=k2 hc
      by_cases hjl:j<rs.length
      · rw [if_pos hjl] at hcj ⊢
        have hb:Own (.rows2 false sz' rs) (L r) ((L r).inn j).blk:=.inr ⟨j,hjl,hcj,rfl⟩
        obtain ⟨_,g4,_⟩:=h.own r _ _ hrs hb
        rcases g2 with g2 | ⟨g2,g3⟩
        · omega
        · rw [g3];exact odis rfl g2 j hjl hcj
      · rw [if_neg hjl] at hcj ⊢
        have hb:Own (.rows2 false sz' xs) (L r2) ((L r2).inn (j-rs.length)).blk:=.inr ⟨_,by omega,hcj,rfl⟩
        obtain ⟨_,g4,g5⟩:=h.own r2 _ _ hxs hb
        rcases g2 with g2 | ⟨g2,g3⟩
        · omega
        · exact fun hh=>hne (g5 r _ hrs (.inl ⟨g2,by rw [hh,g3]⟩)))
  refine ⟨_,_,_,_,hag,by simp,?_,hrel,hK⟩
  refine ⟨by simpa using hrN,?_⟩
  rw [upd_self]
  exact k7
 have hg:∀ (j:Nat) (z:Value),(outs w (L r).h rs.length)[j]? = some z→w.cell? ⟨(L r).h.blk,(L r).h.base+j,none⟩ = some z:=fun j z hz=>by
  have:=(outs_get hO hz).1
  simpa [ILoc.at,osz] using this
 have out:∀ k,((rs.length=0∧k=0∧v=.slice none 0 0)∨∃ b,v=.slice (some b) rs.length k∧∀ (j:Nat) (z:Value),(outs w (L r).h rs.length)[j]? = some z→w.cell? (b.add j)=some z)→k<rs.length+xs.length →
  ∃ rv w',(Builtin.append_ [t,u'].toArray ty #[v,u]).run P w=.ok rv w'∧Left B R w0 H.length L K rv w':=by
  intro k hv hlt
  have hr:=run_append_out (P:=P) (w:=w) (ty:=ty) (os:=outs w (L r).h rs.length) ht hi hzv hv (by rw [hlr,hi1];simp) (.inl ⟨_,hu,hxv⟩) (by rw [hlx,hi1];simp) hlt h47 h63
  have hcap:=grownCap_ge w (rs.length+xs.length) k e
  have hsize:((outs w (L r).h rs.length).toArray++(outs w (L r2).h xs.length).toArray++Builtin.zeroCells zv.cells (grownCap w (rs.length+xs.length) k e-(rs.length+xs.length))).size=grownCap w (rs.length+xs.length) k e:=by
   simp only [Array.size_append,List.size_toArray,hlr,hlx,size_zeroCells,hzc]
   omega
  refine ⟨_,_,hr,fin _ _ ⟨w.heap.size,0,grownCap w (rs.length+xs.length) k e,1⟩ ?_ (fun _=>⟨by simp,.inl (Nat.le_refl _)⟩) rfl hcap (fun _=>⟨rfl,_,Nat.le_refl _,_,_,_,heap_alloc_eq _ _,hsize,by simp⟩) (fun j z hz=>?_) (.inr ⟨_,_,rfl,hcap,by simp,by simp,by simp,fun _=>by simp [ILoc.at]⟩)⟩
  · exact ((Bel.refl _ w).drew).trans ⟨rfl,rfl,rfl,by simp,fun q hq=>heap_alloc_lt _ _ _ (by simpa using hq.1)⟩
  · have hw:w.drew.heap.size=w.heap.size:=rfl
    have hj:j<(outs w (L r).h rs.length++outs w (L r2).h xs.length).length:=(List.getElem?_eq_some_iff.1 hz).1
    have hblk:(w.drew.alloc (Obj.cells ((outs w (L r).h rs.length).toArray++(outs w (L r2).h xs.length).toArray++Builtin.zeroCells zv.cells (grownCap w (rs.length+xs.length) k e-(rs.length+xs.length))) e)).heap[w.heap.size]? = some _:=heap_alloc_eq w.drew _
    simp only [World.cell?,ILoc.at,hblk,Nat.zero_add,Nat.mul_one,Nat.add_zero]
    rw [Array.getElem?_append_left (by simpa using hj)]
    simpa using hz
 rcases id hh with ⟨hnn,hn0,hv,_⟩ | ⟨a,k,hv,hnk,_,hok,hoc,hat⟩
 · rcases Nat.eq_zero_or_pos xs.length with hm | hm
   · have hr0:rs=[]:=List.length_eq_zero_iff.1 hn0
     have hx0:xs=[]:=List.length_eq_zero_iff.1 hm
     subst hx0;subst hr0;subst hv
     refine ⟨_,w,run_append_in (a:=none) ht hi (.inl ⟨_,hu,hxv⟩) (by rw [hlx,hi1];simp) (by simp) (fun a0 ha0=>by cases ha0) (fun _=>rfl),fin _ w ⟨0,0,0,1⟩ (Bel.refl _ _) (fun hc=>absurd rfl hc) rfl (by simp) (fun hc=>absurd rfl hc) (fun j z hz=>by simp [outs] at hz) (.inl ⟨hnn,rfl,rfl,by simp⟩)⟩
   · exact out 0 (.inl ⟨hn0,rfl,hv⟩) (by omega)
 · have hva:∀ (j:Nat) (z:Value),(outs w (L r).h rs.length)[j]? = some z→w.cell? (a.add j)=some z:=fun j z hz=>by
    have hj:j<rs.length:=by have:=(List.getElem?_eq_some_iff.1 hz).1;rwa [hlr] at this
    rw [hat (by omega),Addr.add_none _ _ rfl]
    simpa [ILoc.at,osz] using hg j z hz
   rcases Nat.lt_or_ge k (rs.length+xs.length) with hlt | hge
   · exact out k (.inr ⟨a,hv,hva⟩) hlt
   · -- there is room
     subst hv
     rcases Nat.eq_zero_or_pos xs.length with hm | hm
     · have hx0:xs=[]:=List.length_eq_zero_iff.1 hm
       subst hx0
       refine ⟨_,w,run_append_in (a:=some a) ht hi (.inl ⟨_,hu,hxv⟩) (by rw [hlx,hi1];simp) (by simp at hge ⊢;omega) (fun a0 _=>by simp [outs,storeCells]) (fun ha0=>by cases ha0),fin _ w ⟨(L r).h.blk,(L r).h.base,k,1⟩ (Bel.refl _ _)
        (fun hk=>⟨(h.own r _ _ hrs (.inl ⟨by simp at hk;omega,rfl⟩)).2.1,.inr ⟨by simp at hk;omega,rfl⟩⟩) rfl (by simpa using hnk) (fun hk=>by
          obtain ⟨hb0,q,hq,hcc⟩:=oown rfl (by simp at hk;omega)
          exact ⟨hb0,q,Nat.le_trans (by simp;omega) hq,hcc⟩) (fun j z hz=>by
          have:=hg j z (by simpa [outs] using hz)
          simpa [ILoc.at] using this) (.inr ⟨a,k,rfl,by simpa using hnk,by simp,by simp,by simp,fun hk=>by rw [hat hk];simp [ILoc.at]⟩)⟩
     · have hk0:k≠0:=by omega
       have hcap0:(L r).h.cap≠0:=by omega
       obtain ⟨hb0,q,hq,cc,ct,cfr,hblk,hcs,hfr⟩:=oown rfl hcap0
       have ha:=hat hk0
       have hfit:rs.length+(outs w (L r2).h xs.length).length≤q:=by rw [hlx];omega
       obtain ⟨w',c',hrun,hbel,hkk,hzz,hb',hc',hout,hin⟩:=run_storeCells' (P:=P) (a:=⟨(L r).h.blk,rs.length,none⟩) rfl (outs w (L r2).h xs.length) w cc 0 hblk (by simpa [hcs] using hfit) hfr hone
       have haa:a.add (rs.length*i.size) = ⟨(L r).h.blk,rs.length,none⟩:=by rw [ha,Addr.add_none _ _ rfl];simp [ILoc.at,hb0,hi1]
       refine ⟨_,w',run_append_in (a:=some a) ht hi (.inl ⟨_,hu,hxv⟩) (by rw [hlx,hi1];simp) hge (fun a0 ha0=>by cases ha0;rw [haa];exact hrun) (fun ha0=>by cases ha0),fin _ w' ⟨(L r).h.blk,0,k,1⟩
        ⟨hbel.os,hbel.tape,hbel.output,hbel.size,fun b hb=>hbel.block b fun e=>hb.2 ⟨hcap0,e⟩⟩ (fun _=>⟨Nat.lt_of_lt_of_le (h.own r _ _ hrs (.inl ⟨hcap0,rfl⟩)).2.1 (by omega),.inr ⟨hcap0,rfl⟩⟩) rfl hge (fun _=>⟨rfl,q,by simp;omega,c',ct,cfr,hb',by rw [hc',hcs],by rw [hc'];exact hfr⟩) (fun j z hz=>?_)
        (.inr ⟨a,k,rfl,hge,by simp,by simp,by simp,fun _=>by rw [ha];simp [ILoc.at,hb0]⟩)⟩
       simp only [World.cell?,ILoc.at,hb',Nat.zero_add,Nat.mul_one,Nat.add_zero]
       rcases Nat.lt_or_ge j rs.length with hjl | hjl
       · rw [List.getElem?_append_left (by omega)] at hz
         have:=hg j z hz
         simp only [World.cell?,hb0,hblk,Nat.zero_add] at this
         rw [hout j (.inl (by simpa using hjl))]
         simpa using this
       · rw [List.getElem?_append_right (by omega),hlr] at hz
         have:=hin _ z hz
         simp only [Nat.add_zero] at this
         rwa [show rs.length+(j-rs.length)=j by omega] at this

theorem none2_sound (h:Rel B R w0 L H w) (sz:Nat):Agree H.length [] L (upd L H.length ⟨⟨0,0,0,1⟩,fun _=>⟨0,0,0,0⟩⟩)∧Rel B R w0 (upd L H.length ⟨⟨0,0,0,1⟩,fun _=>⟨0,0,0,0⟩⟩) (H++[.rows2 false sz []]) w:=by
 have hag:=upd_agree L ⟨⟨0,0,0,1⟩,fun _=>⟨0,0,0,0⟩⟩ H.length []
 refine ⟨hag,h.put (M:=[]) H.length (.rows2 false sz []) (by simp) (by simp) (fun j hj o1 ho1=>?_) hag (fun j hj=>upd_ne hj) (Bel.refl _ _) (fun _ _=>.inl rfl) (fun b hb=>?_) (fun b hb=>hb.elim) ?_⟩
 · rcases Nat.lt_or_gt_of_ne hj with hl | hg
   · rw [List.getElem?_append_left hl] at ho1
     exact ⟨o1,ho1,(killO_nil o1).symm⟩
   · rw [List.getElem?_eq_none (by simp;omega)] at ho1
     cases ho1
 · rw [upd_self] at hb
   rcases hb with ⟨hc,_⟩ | ⟨i,hi,_⟩
   · exact absurd rfl hc
   · simp at hi
 · rw [upd_self];exact ⟨rfl,Nat.le_refl _,fun _ hc=>absurd rfl hc,fun i r hi=>by simp at hi,fun _ hc=>absurd rfl hc⟩

end

end Go.Mac
