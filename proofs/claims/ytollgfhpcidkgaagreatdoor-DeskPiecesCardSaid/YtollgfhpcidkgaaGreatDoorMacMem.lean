import Derived.Test.YtollgfhpcidkgaaGreatDoorMacDef

namespace Go.Mac
open Go

section tables

variable {P:Program} {t:TypeId} {w:World}

theorem run_underlying_some {d:TypeDesc} (h:P.underlying t=some d):(underlying t).run P w=.ok d w:=by simp [underlying,h]

theorem run_sizeOf_some (h:(P.info? t).isSome=true):(sizeOf t).run P w=.ok (szOf P t) w:=by
 obtain ⟨i,hi⟩:=Option.isSome_iff_exists.1 h
 simp [sizeOf,typeInfo,hi,szOf]

theorem run_isAgg_some {b:Bool} (h:aggT P t=some b):(isAgg t).run P w=.ok b w:=by
 simp only [aggT,Option.map_eq_some_iff] at h
 obtain ⟨d,hd,hb⟩:=h
 simp only [isAgg,Sem.run_bind,run_underlying_some hd,Result.andThen_ok]
 cases d <;> simp at hb <;> subst hb <;> rfl

theorem run_zeroValue_some {z:Value} (h:(P.info? t).bind (·.zero)=some z):(zeroValue t).run P w=.ok z w:=by
 cases hi:P.info? t with
 | none=>simp [hi] at h
 | some i=>simp [hi] at h;simp [zeroValue,typeInfo,hi,h]

end tables

section vals

variable {N:Nat} {L:Nat→Loc}

theorem cvOf_ok {v:Value} {x:CV} (h:cvOf v=some x):VC N L x v:=by
 unfold cvOf at h
 split at h <;> simp at h <;> subst h <;> simp [VC,FC.val]

theorem cvsOf_ok:∀ {l:List Value} {xs:List CV},cvsOf l=some xs→VCs N L xs l
 | [],xs,h=>by simp [cvsOf] at h;subst h;rfl
 | v::l,xs,h=>by
   simp only [cvsOf] at h
   split at h <;> simp at h
   rename_i x ys hx hys
   subst h
   exact ⟨v,l,rfl,cvOf_ok hx,cvsOf_ok hys⟩

theorem avOf_ok (v:Value):VA N L (avOf v) v:=by
 unfold avOf
 split
 · split
   · rename_i cs _ l hl
     exact ⟨cs.toList,by simp,cvsOf_ok hl⟩
   · trivial
 · split
   · rename_i x hx;exact cvOf_ok hx
   · trivial

theorem TR.eval {nt:Nat} {T:Tm} {a:Act} (h:TR N L nt T a) (x:Operand):VA N L (ev T x) (a.eval x):=by
 cases x with
 | tmp t =>
   have:=h.get t
   simp only [ev,Act.eval]
   simpa [Array.getD_eq_getD_getElem?] using this
 | const v=>exact avOf_ok v
 | global g=>exact rfl
 | func f=>exact ⟨by simp,rfl⟩

theorem lk_cons (j:Nat) (x:AV) (T:Tm) (i:Nat):lk ((j,x)::T) i=if j=i then x else lk T i:=by
 simp only [lk,cond_eq_ite]
 by_cases h:j=i
 · simp [h]
 · have:Nat.beq j i=false:=by cases hb:Nat.beq j i <;> simp_all [Nat.beq_eq]
   simp [h,this]

theorem putT_spec {nt:Nat} {T:Tm} {d:Option Tmp} {x:AV} {k:Tm→Prop} (h:putT nt T d x k) {a:Act} (ht:TR N L nt T a) {v:Value} (hv:VA N L x v) :
 ∃ T',k T'∧TR N L nt T' (a.put d v):=by
 cases d with
 | none=>exact ⟨T,h,ht⟩
 | some d =>
   simp only [putT,cond_eq_ite] at h
   split at h
   · rename_i hd
     have hd:d<nt:=by simpa [Nat.blt_eq] using hd
     refine ⟨_,h,fun i=>?_,ht.defers,?_⟩
     rotate_left
     · have:=ht.room;simp only [Act.put,Array.size_setIfInBounds];exact this
     rw [lk_cons]
     have hsz:=ht.room
     split
     · rename_i hdi
       subst hdi
       have:d<a.tmps.size:=Nat.lt_of_lt_of_le hd hsz
       simpa [Act.put,Array.getD_eq_getD_getElem?,this] using hv
     · rename_i hdi
       have:=ht.get i
       simpa [Act.put,Array.getD_eq_getD_getElem?,Array.getElem?_setIfInBounds_ne hdi] using this
   · exact h.elim

theorem lk_map (M:List Nat):∀ (T:Tm) (i:Nat),lk (T.map fun e=>(e.1,killA M e.2)) i=killA M (lk T i)
 | [],i=>rfl
 | (j,x)::T,i=>by
   simp only [List.map_cons,lk_cons,lk_map M T i]
   split <;> rfl

theorem TR.kill {nt N':Nat} {L':Nat→Loc} {T:Tm} {M:List Nat} {k:Tm→Prop} {a:Act} (h:killT M T k) (ht:TR N L nt T a) (hN:N≤N') (hL:Agree N M L L') :
 ∃ T',k T'∧TR N' L' nt T' a:=by
 have key:TR N' L' nt (T.map fun e=>(e.1,killA M e.2)) a:=⟨fun i=>by rw [lk_map];exact (ht.get i).mono hN hL,ht.defers,ht.room⟩
 cases M with
 | nil =>
   refine ⟨T,h,?_⟩
   have:(T.map fun e=>(e.1,killA [] e.2))=T:=by
    conv=>rhs;rw [←List.map_id T]
    exact List.map_congr_left fun e _=>by simp [killA_nil]
   rwa [this] at key
 | cons m M=>exact ⟨_,h,key⟩

end vals

theorem Addr.add_none (a:Addr) (n:Nat) (h:a.spot=none):a.add n = ⟨a.block,a.off+n,none⟩:=by
 cases a with
 | mk b o s=>simp at h;subst h;unfold Addr.add;split <;> simp_all

theorem run_loadCellsFrom' {P:Program} {w:World} {a:Addr} (hs:a.spot=none):∀ (vs:List Value) (i:Nat) (acc:Array Value),
 (∀ (j:Nat) (v:Value),vs[j]? = some v→w.cell? ⟨a.block,a.off+i+j,none⟩ = some v)→(loadCellsFrom a i vs.length acc).run P w=.ok (acc++vs.toArray) w
 | [],i,acc,_=>by simp [loadCellsFrom]
 | v::vs,i,acc,h=>by
   have h0:=h 0 v rfl
   simp only [Nat.add_zero] at h0
   have ih:=run_loadCellsFrom' (P:=P) (w:=w) hs vs (i+1) (acc.push v) fun j u hu=>by
    have:=h (j+1) u (by simpa using hu)
    rwa [show a.off+i+(j+1)=a.off+(i+1)+j by omega] at this
   simp only [List.length_cons,loadCellsFrom,Sem.run_bind,run_load,Addr.add_none a i hs,h0,Result.andThen_ok,ih]
   congr 1
   apply Array.ext'
   simp

theorem run_loadCells' {P:Program} {w:World} {a:Addr} (hs:a.spot=none) (vs:List Value)
 (h:∀ (j:Nat) (v:Value),vs[j]? = some v→w.cell? ⟨a.block,a.off+j,none⟩ = some v):(loadCells a vs.length).run P w=.ok vs.toArray w:=by
 have:=run_loadCellsFrom' (P:=P) (w:=w) hs vs 0 #[] (by simpa using h)
 simpa [loadCells] using this

theorem one_cell' {v:Value} (h:OneCell v=true):v.oneCell'=true:=by cases v <;> first | rfl | simp [OneCell] at h

theorem run_storeCells' {P:Program} {a:Addr} (hs:a.spot=none) {t:TypeId} {fr:Nat×Nat}:∀ (vs:List Value) (w:World) (c:Array Value) (i:Nat),
 w.heap[a.block]? = some (.cells c t fr)→a.off+i+vs.length≤c.size→(∀ j,j<c.size→¬(fr.1≤j∧j<fr.2))→(∀ v∈vs,OneCell v=true) →
 ∃ w' c',(storeCells a vs i).run P w=.ok () w'∧Bel (fun k=>k≠a.block) w w'∧(∀ k,k≠a.block→w'.heap[k]? = w.heap[k]?)∧w'.heap.size=w.heap.size ∧
   w'.heap[a.block]? = some (.cells c' t fr)∧c'.size=c.size∧(∀ j,(j<a.off+i∨a.off+i+vs.length≤j)→c'[j]? = c[j]?) ∧
   (∀ (j:Nat) (v:Value),vs[j]? = some v→c'[a.off+i+j]? = some v)
 | [],w,c,i,hh,_,_,_=>⟨w,c,rfl,Bel.refl _ _,fun _ _=>rfl,rfl,hh,rfl,fun _ _=>rfl,by simp⟩
 | v::vs,w,c,i,hh,hsz,hfr,h1=>by
   simp only [List.length_cons] at hsz
   have hlt:a.off+i<c.size:=by omega
   have hcell:w.cell? ⟨a.block,a.off+i,none⟩ = some c[a.off+i]:=by simp [World.cell?,hh,hlt]
   have hnf:w.frozen? ⟨a.block,a.off+i,none⟩ = false:=by
    have:=hfr (a.off+i) hlt
    simp only [World.frozen?,hh]
    simpa using this
   have hst:(store (a.add i) v).run P w=.ok () (w.setCell ⟨a.block,a.off+i,none⟩ v):=by
    rw [run_store P w _ v _ (one_cell' (h1 v (by simp))),Addr.add_none a i hs,hcell]
    simp [hnf]
   have hblk:(w.setCell ⟨a.block,a.off+i,none⟩ v).heap[a.block]? = some (.cells (c.setIfInBounds (a.off+i) v) t fr):=by
    simp [World.setCell,Array.getElem?_modify,hh]
   obtain ⟨w',c',hr,hb,hk,hz,hb',hc',hout,hin⟩:=run_storeCells' (P:=P) hs vs (w.setCell ⟨a.block,a.off+i,none⟩ v) (c.setIfInBounds (a.off+i) v) (i+1)
    hblk (by simp;omega) (by simpa using hfr) (fun u hu=>h1 u (by simp [hu]))
   refine ⟨w',c',?_,?_,?_,?_,hb',?_,?_,?_⟩
   · simp only [storeCells,Sem.run_bind,hst,Result.andThen_ok,hr]
   · exact (Bel.setCell (p:=⟨a.block,a.off+i,none⟩) (Bel.refl _ _) (by simp) v).trans hb
   · intro k hk'
     rw [hk k hk',heap_setCell_ne w ⟨a.block,a.off+i,none⟩ v k hk']
   · rw [hz];simp
   · rw [hc'];simp
   · intro j hj
     rw [hout j (by simp only [List.length_cons] at hj;omega)]
     rw [Array.getElem?_setIfInBounds_ne (by simp only [List.length_cons] at hj;omega)]
   · intro j u hu
     cases j with
     | zero =>
       simp at hu;subst hu
       rw [hout _ (by omega)]
       simp [hlt]
     | succ j =>
       simp at hu
       have:=hin j u hu
       rwa [show a.off+(i+1)+j=a.off+i+(j+1) by omega] at this

theorem splice_length {α : Type}:∀ (cs row:List α) (f:Nat),(splice row f cs).length=row.length
 | [],_,_=>rfl
 | x::xs,row,f=>by simp [splice,splice_length xs]

theorem splice_get {α : Type}:∀ (cs row:List α) (f k:Nat),f+cs.length≤row.length →
 (splice row f cs)[k]? = if f≤k∧k<f+cs.length then cs[k-f]? else row[k]?
 | [],row,f,k,_=>by
   simp only [splice,List.length_nil]
   rw [if_neg (by omega)]
 | x::xs,row,f,k,h=>by
   simp only [List.length_cons] at h
   simp only [splice]
   rw [splice_get xs (row.set f x) (f+1) k (by simp;omega)]
   by_cases h1:k=f
   · subst h1
     rw [if_neg (by omega),if_pos (by simp),Nat.sub_self,List.getElem?_set_self (by omega)]
     rfl
   · by_cases h2:f+1≤k∧k<f+1+xs.length
     · rw [if_pos h2,if_pos (by simp;omega)]
       obtain ⟨d,hd⟩ : ∃ d,k-f=d+1:=⟨k-f-1,by omega⟩
       rw [hd,show k-(f+1)=d by omega]
       simp
     · rw [if_neg h2,if_neg (by simp;omega),List.getElem?_set_ne (by omega)]

theorem rows_apart {i i' f f' sz n:Nat} (hi:i'≠i) (hf:f'<sz) (hn:f+n≤sz):i'*sz+f'<i*sz+f∨i*sz+f+n≤i'*sz+f':=by
 rcases Nat.lt_or_gt_of_ne hi with h | h
 · left
   have:(i'+1)*sz≤i*sz:=Nat.mul_le_mul_right _ h
   rw [Nat.add_mul] at this
   omega
 · right
   have:(i+1)*sz≤i'*sz:=Nat.mul_le_mul_right _ h
   rw [Nat.add_mul] at this
   omega

theorem row_in {i n f sz:Nat} (hi:i<n) (hf:f≤sz):i*sz+f≤n*sz:=by
 have:(i+1)*sz≤n*sz:=Nat.mul_le_mul_right _ hi
 rw [Nat.add_mul] at this
 omega

section

variable {B R:Nat→Prop} {w0:World} {N:Nat} {L:Nat→Loc} {H:List PO} {w:World} {P:Program}

theorem run_loadAt_cell {t:TypeId} {ad:Addr} {u:Value} (hagg:aggT P t=some false) (h:w.cell? ad=some u):(Instr.loadAt t (.pointer (some ad))).run P w=.ok u w:=by
 simp [Instr.loadAt,Instr.sureAddr,loadVar,run_isAgg_some hagg,h]

theorem run_loadAt_agg {t:TypeId} {ad:Addr} {vs:List Value} (hs:ad.spot=none) (hagg:aggT P t=some true) (hinfo:(P.info? t).isSome=true) (hl:vs.length=szOf P t)
 (h:∀ (j:Nat) (v:Value),vs[j]? = some v→w.cell? ⟨ad.block,ad.off+j,none⟩ = some v):(Instr.loadAt t (.pointer (some ad))).run P w=.ok (.agg vs.toArray) w:=by
 have hlc:=run_loadCells' (P:=P) (w:=w) hs vs h
 simp only [Instr.loadAt,Instr.sureAddr,loadVar,Sem.run_bind,Sem.run_pure,Result.andThen_ok,run_isAgg_some hagg,if_true,run_sizeOf_some hinfo]
 rw [←hl,hlc]
 rfl

theorem gather_cells (xs:List CV) (ad:Nat→Addr) (h:∀ (j:Nat) (x:CV),xs[j]? = some x→∃ v,w.cell? (ad j)=some v∧VC N L x v) :
 ∃ vs:List Value,vs.length=xs.length∧VCs N L xs vs∧∀ (j:Nat) (v:Value),vs[j]? = some v→w.cell? (ad j)=some v:=by
 let vs:=(List.range xs.length).map fun g=>(w.cell? (ad g)).getD undef
 have hget:∀ (j:Nat) (v:Value),vs[j]? = some v→w.cell? (ad j)=some v∧∀ x,xs[j]? = some x→VC N L x v:=by
  intro j v hv
  have hlt:j<xs.length:=by have:=(List.getElem?_eq_some_iff.1 hv).1;simpa [vs] using this
  obtain ⟨u,hu,hur⟩:=h j xs[j] (by simp [hlt])
  simp only [vs,List.getElem?_map,List.getElem?_range hlt,Option.map_some,hu,Option.getD_some,Option.some.injEq] at hv
  subst hv
  refine ⟨hu,fun x hx=>?_⟩
  simp [hlt] at hx
  subst hx
  exact hur
 exact ⟨vs,by simp [vs],VCs.of_get (by simp [vs]) fun i x v hx hv=>(hget i v hv).2 x hx,fun j v hv=>(hget j v hv).1⟩

theorem tabOf_spec {g:Nat} {vs:List FC}:∀ {H:List PO},tabOf H g=some vs→∃ r:Nat,H[r]? = some (PO.tab g vs)
 | o::H,h=>by
   unfold tabOf at h
   split at h
   · cases h
   · rename_i heq
     cases heq
     simp only [cond_eq_ite] at h
     split at h
     · rename_i hb
       obtain rfl:=Nat.eq_of_beq_eq_true hb
       cases h
       exact ⟨0,rfl⟩
     · obtain ⟨r,hr⟩:=tabOf_spec h
       exact ⟨r+1,hr⟩
   · rename_i heq
     cases heq
     obtain ⟨r,hr⟩:=tabOf_spec h
     exact ⟨r+1,hr⟩

theorem load_sound (h:Rel B R w0 L H w) {t:TypeId} {x:AV} {v:Value} (hx:VA H.length L x v) {K:PV→Prop} (hl:loadA P H t x K) :
 ∃ y u,(Instr.loadAt t v).run P w=.ok u w∧VP H.length L y u∧K y:=by
 unfold loadA at hl
 split at hl <;> try exact hl.elim
 · -- of a box
   rename_i r f
   obtain ⟨hr,rfl⟩:=hx
   rw [nth_eq] at hl
   split at hl <;> try exact hl.elim
   rename_i cs hcs
   obtain ⟨hb,hsz,_,_,hc⟩:=h.obj r _ hcs
   have hat:∀ f,(L r).h.at 0 f = ⟨(L r).h.blk,f,none⟩:=fun f=>by simp [ILoc.at,hb]
   split at hl
   · rename_i hagg
     simp only [cond_eq_ite] at hl
     split at hl <;> try exact hl.elim
     rename_i hinfo
     obtain ⟨hle,hK⟩:=takeK_spec _ _ _ _ hl
     obtain ⟨vs,h1,h2,h3⟩:=gather_cells (N:=H.length) (L:=L) (w:=w) ((cs.drop f).take (szOf P t)) (fun j=>⟨(L r).h.blk,f+j,none⟩) fun j x hj=>by
      rw [List.getElem?_take] at hj
      split at hj
      · rw [List.getElem?_drop] at hj
        obtain ⟨v,hv,hvr⟩:=hc _ _ hj
        exact ⟨v,by rw [hat] at hv;exact hv,hvr⟩
      · cases hj
     have hlen:vs.length=szOf P t:=by rw [h1];simp;omega
     refine ⟨.agg _,.agg vs.toArray,run_loadAt_agg rfl hagg hinfo hlen fun j v hv=>?_,⟨vs,rfl,h2⟩,hK⟩
     rw [hat]
     exact h3 j v hv
   · rename_i hagg
     rw [nth_eq] at hl
     split at hl <;> try exact hl.elim
     rename_i y hy
     obtain ⟨u,hu,hur⟩:=hc _ _ hy
     exact ⟨.c y,u,run_loadAt_cell hagg hu,hur,hl⟩
   · exact hl.elim
 · rename_i r i f
   obtain ⟨hr,rfl⟩:=hx
   rw [nth_eq] at hl
   split at hl <;> try exact hl.elim
   · rename_i ro sz rs hrs
     obtain ⟨hsz,_,_,_,hc⟩:=h.obj r _ hrs
     split at hl
     · rename_i hagg
       simp only [cond_eq_ite] at hl
       split at hl <;> try exact hl.elim
       rename_i hinfo
       obtain ⟨row,hrow,hl⟩:=hl
       obtain ⟨hle,hK⟩:=takeK_spec _ _ _ _ hl
       rw [fmapK_eq] at hK
       obtain ⟨vs,h1,h2,h3⟩:=gather_cells (N:=H.length) (L:=L) (w:=w) (((row.drop f).take (szOf P t)).map .f) (fun j=>(L r).h.at i (f+j)) fun j x hj=>by
        rw [List.getElem?_map,Option.map_eq_some_iff] at hj
        obtain ⟨y,hj,rfl⟩:=hj
        rw [List.getElem?_take] at hj
        split at hj
        · rw [List.getElem?_drop] at hj
          exact ⟨_,(hc i row hrow).2 _ _ hj,rfl⟩
        · cases hj
       have hlen:vs.length=szOf P t:=by rw [h1];simp;omega
       refine ⟨.agg _,.agg vs.toArray,run_loadAt_agg rfl hagg hinfo hlen fun j v hv=>?_,⟨vs,rfl,h2⟩,hK⟩
       have:=h3 j v hv
       simpa [ILoc.at,Nat.add_assoc] using this
     · rename_i hagg
       obtain ⟨row,y,hrow,hy,hK⟩:=hl
       exact ⟨.c (.f y),y.val,run_loadAt_cell hagg ((hc i row hrow).2 f y hy),rfl,hK⟩
     · exact hl.elim
   · rename_i ro sz rss hrs
     obtain ⟨_,_,_,hc,_⟩:=h.obj r _ hrs
     split at hl <;> try exact hl.elim
     rename_i hagg
     obtain ⟨rs,hi,hK⟩:=hl
     obtain ⟨_,u,hu,hur⟩:=hc i rs hi
     exact ⟨.c (.islc r i 0 rs.length none false),u,run_loadAt_cell hagg hu,⟨hr,hur⟩,hK⟩
   · rename_i sz es hrs
     obtain ⟨_,_,_,hc⟩:=h.obj r _ hrs
     split at hl <;> try exact hl.elim
     rename_i hagg
     obtain ⟨l,rs,hi,hK⟩:=hl
     obtain ⟨_,⟨u,hu,hur⟩,_⟩:=hc i _ hi
     exact ⟨.c (.hslc r i l rs.length),u,run_loadAt_cell hagg hu,hur,hK⟩
 · rename_i r i j f
   obtain ⟨hr,rfl⟩:=hx
   rw [nth_eq] at hl
   split at hl <;> try exact hl.elim
   rename_i ro sz rss hrs
   obtain ⟨_,_,_,hc,_⟩:=h.obj r _ hrs
   split at hl
   · rename_i hagg
     simp only [cond_eq_ite] at hl
     split at hl <;> try exact hl.elim
     rename_i hinfo
     obtain ⟨rs,row,hi,hrow,hl⟩:=hl
     obtain ⟨hle,hK⟩:=takeK_spec _ _ _ _ hl
     rw [fmapK_eq] at hK
     obtain ⟨⟨_,_,_,_,hc⟩,_⟩:=hc i rs hi
     obtain ⟨vs,h1,h2,h3⟩:=gather_cells (N:=H.length) (L:=L) (w:=w) (((row.drop f).take (szOf P t)).map .f) (fun g=>((L r).inn i).at j (f+g)) fun g x hj=>by
      rw [List.getElem?_map,Option.map_eq_some_iff] at hj
      obtain ⟨y,hj,rfl⟩:=hj
      rw [List.getElem?_take] at hj
      split at hj
      · rw [List.getElem?_drop] at hj
        exact ⟨_,(hc j row hrow).2 _ _ hj,rfl⟩
      · cases hj
     have hlen:vs.length=szOf P t:=by rw [h1];simp;omega
     refine ⟨.agg _,.agg vs.toArray,run_loadAt_agg rfl hagg hinfo hlen fun j v hv=>?_,⟨vs,rfl,h2⟩,hK⟩
     have:=h3 j v hv
     simpa [ILoc.at,Nat.add_assoc] using this
   · rename_i hagg
     obtain ⟨rs,row,y,hi,hrow,hy,hK⟩:=hl
     obtain ⟨⟨_,_,_,_,hc⟩,_⟩:=hc i rs hi
     exact ⟨.c (.f y),y.val,run_loadAt_cell hagg ((hc j row hrow).2 f y hy),rfl,hK⟩
   · exact hl.elim
 · rename_i g i
   obtain rfl:=hx
   split at hl <;> try exact hl.elim
   rename_i vs htab
   obtain ⟨r,hr⟩:=tabOf_spec htab
   obtain ⟨tt,fr,hb⟩ : ∃ tt fr,w.heap[g]? = some (.cells (vs.map FC.val).toArray tt fr):=h.obj r _ hr
   have hcell:∀ (j:Nat) (y:FC),vs[j]? = some y→w.cell? ⟨g,j,none⟩ = some y.val:=fun j y hy=>by
    simp only [World.cell?,hb]
    simp [hy]
   split at hl
   · rename_i hagg
     simp only [cond_eq_ite] at hl
     split at hl <;> try exact hl.elim
     rename_i hinfo
     obtain ⟨hle,hK⟩:=takeK_spec _ _ _ _ hl
     rw [fmapK_eq] at hK
     obtain ⟨us,h1,h2,h3⟩:=gather_cells (N:=H.length) (L:=L) (w:=w) (((vs.drop i).take (szOf P t)).map .f) (fun j=>⟨g,i+j,none⟩) fun j x hj=>by
      rw [List.getElem?_map,Option.map_eq_some_iff] at hj
      obtain ⟨y,hj,rfl⟩:=hj
      rw [List.getElem?_take] at hj
      split at hj
      · rw [List.getElem?_drop] at hj
        exact ⟨_,hcell _ _ hj,rfl⟩
      · cases hj
     have hlen:us.length=szOf P t:=by rw [h1];simp;omega
     exact ⟨.agg _,.agg us.toArray,run_loadAt_agg rfl hagg hinfo hlen fun j v hv=>h3 j v hv,⟨us,rfl,h2⟩,hK⟩
   · rename_i hagg
     obtain ⟨y,hy,hK⟩:=hl
     exact ⟨.c (.f y),y.val,run_loadAt_cell hagg (hcell i y hy),rfl,hK⟩
   · exact hl.elim

theorem store_cells2 (h:Rel B R w0 L H w) {r:Nat} {o o':PO} (hr:H[r]? = some o) {b off n:Nat} (hb:Own o (L r) b) (hO:∀ b,Own o' (L r) b↔Own o (L r) b) (hRo:∀ b,Ro o' (L r) b↔Ro o (L r) b)
 (hc:Cells w b n) (us:List Value) (h1:∀ v∈us,OneCell v=true) (hle:off+us.length≤n)
 (hOR:∀ w',(∀ k,k≠b→w'.heap[k]? = w.heap[k]?)→Cells w' b n →
   (∀ j,(j<off∨off+us.length≤j)→w'.cell? ⟨b,j,none⟩ = w.cell? ⟨b,j,none⟩)→(∀ (j:Nat) (v:Value),us[j]? = some v→w'.cell? ⟨b,off+j,none⟩ = some v)→OR H.length L w' o' (L r)) :
 ∃ w',(storeCells ⟨b,off,none⟩ us 0).run P w=.ok () w'∧Rel B R w0 L (H.set r o') w'∧∀ (j:Nat) (v:Value),us[j]? = some v→w'.cell? ⟨b,off+j,none⟩ = some v:=by
 obtain ⟨c,t,fr,hblk,hsz,hfr⟩:=hc
 obtain ⟨hB,hlt,hu⟩:=h.own r o b hr hb
 obtain ⟨w',c',hrun,hbel,hk,hz,hb',hc',hout,hin⟩:=run_storeCells' (P:=P) (a:=⟨b,off,none⟩) rfl us w c 0 hblk (by simpa [hsz] using hle) hfr h1
 have hcell:∀ j,w'.cell? ⟨b,j,none⟩ = c'[j]?:=fun j=>by
  have:w'.heap[b]? = some (.cells c' t fr):=hb'
  simp [World.cell?,this]
 have hcell0:∀ j,w.cell? ⟨b,j,none⟩ = c[j]?:=fun j=>by simp [World.cell?,hblk]
 refine ⟨w',hrun,?_,fun j v hj=>by rw [hcell];exact by simpa using hin j v hj⟩
 refine h.put (M:=[]) r o' (by simp) (List.getElem?_set_self (List.getElem?_eq_some_iff.1 hr).1) (fun j hj o1 ho1=>?_) (Agree.refl _ _ _) (fun _ _=>rfl)
  ⟨hbel.os,hbel.tape,hbel.output,hbel.size,fun q hq=>hbel.block q (fun e=>hB (by rw [show q=b from e] at hq;exact hq))⟩ (fun q hq=>?_) (fun q hq=>?_) (fun q hq=>h.ro r o q hr ((hRo q).1 hq)) ?_
 · rw [List.getElem?_set_ne (Ne.symm hj)] at ho1
   exact ⟨o1,ho1,(killO_nil o1).symm⟩
 · by_cases hqb:q=b
   · exact .inr ⟨o,hr,hqb ▸ hb⟩
   · exact .inl (hk q hqb)
 · have hq':=(hO q).1 hq
   obtain ⟨e1,e2,_⟩:=h.own r o q hr hq'
   exact ⟨e1,by omega,.inr ⟨o,hr,hq'⟩⟩
 · rw [List.length_set]
   refine hOR w' hk ⟨c',t,fr,hb',by rw [hc',hsz],by rw [hc'];exact hfr⟩ (fun j hj=>?_) fun j v hj=>?_
   · rw [hcell,hcell0,hout j (by simpa using hj)]
   · rw [hcell];exact by simpa using hin j v hj

theorem store_cells (h:Rel B R w0 L H w) {r:Nat} {o o':PO} (hr:H[r]? = some o) {b off n:Nat} (hb:Own o (L r) b) (hO:∀ b,Own o' (L r) b↔Own o (L r) b) (hRo:∀ b,Ro o' (L r) b↔Ro o (L r) b)
 (hc:Cells w b n) (us:List Value) (h1:∀ v∈us,OneCell v=true) (hle:off+us.length≤n)
 (hOR:∀ w',(∀ k,k≠b→w'.heap[k]? = w.heap[k]?)→Cells w' b n →
   (∀ j,(j<off∨off+us.length≤j)→w'.cell? ⟨b,j,none⟩ = w.cell? ⟨b,j,none⟩)→(∀ (j:Nat) (v:Value),us[j]? = some v→w'.cell? ⟨b,off+j,none⟩ = some v)→OR H.length L w' o' (L r)) :
 ∃ w',(storeCells ⟨b,off,none⟩ us 0).run P w=.ok () w'∧Rel B R w0 L (H.set r o') w':=by
 obtain ⟨w',h1,h2,_⟩:=store_cells2 (P:=P) h hr hb hO hRo hc us h1 hle hOR
 exact ⟨w',h1,h2⟩

theorem fcs_spec:∀ {xs:List CV} {ys:List FC},fcs xs=some ys→xs=ys.map .f
 | [],ys,h=>by simp [fcs] at h;subst h;rfl
 | x::xs,ys,h=>by
   cases x <;> simp only [fcs] at h <;> try cases h
   split at h <;> simp at h
   rename_i l hl
   subst h
   simp [fcs_spec hl]

theorem VCs.all_one:∀ {xs:List CV} {vs:List Value},VCs N L xs vs→∀ v∈vs,OneCell v=true
 | [],_,h,v,hv=>by simp [VCs] at h;subst h;simp at hv
 | _::_,_,⟨y,ys,h1,h2,h3⟩,v,hv=>by
   subst h1
   rcases List.mem_cons.1 hv with rfl | hv
   · exact h2.oneCell
   · exact VCs.all_one h3 v hv

theorem Hdr.weak {h:ILoc} {o n:Nat} {c:Option Nat} {nn:Bool} {v:Value}:Hdr h o n c nn v→Hdr h o n c false v
 | .inl h=>.inl ⟨rfl,h.2⟩
 | .inr h=>.inr h

theorem set_was {α : Type} {l:List α} {r:Nat} {x : α} (h:l[r]? = some x):l.set r x=l:=List.ext_getElem? fun j=>by
 by_cases hj:j=r
 · subst hj;rw [List.getElem?_set_self (List.getElem?_eq_some_iff.1 h).1,h]
 · rw [List.getElem?_set_ne (Ne.symm hj)]

theorem put3 (h:Rel B R w0 L H w) {r r2 sz i:Nat} {es:List (Option (ILoc×List (List FC)))} {rs:List (List FC)} {nn:Bool} {v:Value} (hr:H[r]? = some (.rows3 true sz es)) (hr2:H[r2]? = some (.rows false sz rs)) (hne:r≠r2) (hi:es[i]? = some none)
 (hv:w.cell? ((L r).h.at i 0)=some v) (hh:Hdr (L r2).h 0 rs.length none nn v):Rel B R w0 L ((H.set r (.rows3 true sz (es.set i (some ((L r2).h,rs))))).set r2 .gone) w:=by
 have hrl:=(List.getElem?_eq_some_iff.1 hr).1
 have hil:=(List.getElem?_eq_some_iff.1 hi).1
 obtain ⟨c1,c2,c3,c4⟩:=h.obj r _ hr
 have hget:∀ (j:Nat) (p:ILoc×List (List FC)),(es.set i (some ((L r2).h,rs)))[j]? = some (some p)→(j=i∧p=((L r2).h,rs))∨(j≠i∧es[j]? = some (some p)):=fun j p hj=>by
  by_cases e:j=i
  · subst e
    rw [List.getElem?_set_self hil] at hj
    exact .inl ⟨rfl,(Option.some.inj (Option.some.inj hj)).symm⟩
  · rw [List.getElem?_set_ne (Ne.symm e)] at hj
    exact .inr ⟨e,hj⟩
 have own2:(L r2).h.cap≠0→Own (.rows false sz rs) (L r2) (L r2).h.blk:=fun hc=>⟨hc,rfl⟩
 have apart:∀ b,Own (.rows3 true sz es) (L r) b→(L r2).h.cap≠0→b≠(L r2).h.blk:=fun b hb hc e=>by
  subst e
  exact hne ((h.own r2 _ _ hr2 (own2 hc)).2.2 r _ hr hb)
 refine h.seize (M:=[]) (L':=L) (w':=w) r [r2] (.rows3 true sz (es.set i (some ((L r2).h,rs)))) (by simp) (by rw [List.getElem?_set_ne (Ne.symm hne),List.getElem?_set_self hrl]) (fun j hj o ho=>?_) (fun _ _ _=>rfl) (fun _ _=>rfl) (Bel.refl _ _) (fun _ _=>.inl rfl) (fun b hb=>?_) (fun b hb=>hb.elim) ?_
 · by_cases e:j=r2
   · subst e
     have:((H.set r (.rows3 true sz (es.set i (some ((L j).h,rs))))).set j PO.gone)[j]? = some .gone:=List.getElem?_set_self (by simpa using (List.getElem?_eq_some_iff.1 hr2).1)
     rw [this] at ho
     exact .inl (Option.some.inj ho).symm
   · rw [List.getElem?_set_ne (Ne.symm e),List.getElem?_set_ne (Ne.symm hj)] at ho
     exact .inr ⟨by simpa using e,o,ho,(killO_nil o).symm⟩
 · rcases hb with hb | ⟨j,p,hj,hc,rfl⟩
   · obtain ⟨k1,k2,_⟩:=h.own r _ b hr (.inl hb)
     exact ⟨k1,k2,.inr ⟨r,_,.inl rfl,hr,.inl hb⟩⟩
   · rcases hget j p hj with ⟨rfl,rfl⟩ | ⟨_,hj⟩
     · obtain ⟨k1,k2,_⟩:=h.own r2 _ _ hr2 (own2 hc)
       exact ⟨k1,k2,.inr ⟨r2,_,.inr (by simp),hr2,own2 hc⟩⟩
     · have ho:Own (.rows3 true sz es) (L r) p.1.blk:=.inr ⟨j,p,hj,hc,rfl⟩
       obtain ⟨k1,k2,_⟩:=h.own r _ _ hr ho
       exact ⟨k1,k2,.inr ⟨r,_,.inl rfl,hr,ho⟩⟩
 · refine ⟨c1,by simpa using c2,c3,fun j p hj=>?_⟩
   rcases hget j p hj with ⟨rfl,rfl⟩ | ⟨hji,hj⟩
   · refine ⟨h.obj r2 _ hr2,⟨v,hv,hh.weak⟩,fun hc=>⟨fun hc2 e=>apart (L r).h.blk (.inl ⟨hc2,rfl⟩) hc e.symm,fun _ k q hk hq e=>?_⟩⟩
     rcases hget k q hk with ⟨rfl,_⟩ | ⟨_,hk⟩
     · rfl
     · exact absurd e (apart q.1.blk (.inr ⟨k,q,hk,hq,rfl⟩) hc)
   · obtain ⟨d1,d2,d3⟩:=c4 j p hj
     refine ⟨d1,d2,fun hc=>⟨(d3 hc).1,fun _ k q hk hq e=>?_⟩⟩
     rcases hget k q hk with ⟨_,rfl⟩ | ⟨_,hk⟩
     · exact absurd e.symm (apart p.1.blk (.inr ⟨j,p,hj,hc,rfl⟩) hq)
     · exact (d3 hc).2 rfl k q hk hq e

theorem store_sound (h:Rel B R w0 L H w) {t:TypeId} {x y:AV} {v u:Value} (hx:VA H.length L x v) (hy:VA H.length L y u) {K:List PO→Prop} (hs:storeA P H t x y K) :
 ∃ w' H',(Instr.storeAt t v u).run P w=.ok () w'∧H'.length=H.length∧Rel B R w0 L H' w'∧K H':=by
 unfold storeA at hs
 split at hs <;> try exact hs.elim
 rename_i y
 simp only [cond_eq_ite] at hs
 split at hs <;> try exact hs.elim
 rename_i hinfo
 split at hs <;> try exact hs.elim
 rename_i hlen
 have hlen:=lenIs_spec _ _ hlen
 have hvs:=VP.cells (N:=H.length) (L:=L) (x:=y) (v:=u) hy
 have hvlen:=hvs.length
 have hcz:u.cells.size=szOf P t:=by rw [←hlen,hvlen];simp
 have hrun:∀ ad:Addr,ad.spot=none→∀ w',(storeCells ⟨ad.block,ad.off,none⟩ u.cells.toList 0).run P w=.ok () w'→(Instr.storeAt t (.pointer (some ad)) u).run P w=.ok () w':=by
  intro ad hs w' hr
  have:ad = ⟨ad.block,ad.off,none⟩:=by cases ad;simp at hs;subst hs;rfl
  rw [←this] at hr
  simp [Instr.storeAt,Instr.sureAddr,storeVar,run_sizeOf_some hinfo,hcz,hr]
 split at hs <;> try exact hs.elim
 · rename_i r f
   obtain ⟨hr,rfl⟩:=hx
   rw [nth_eq] at hs
   split at hs <;> try exact hs.elim
   rename_i cs hcs
   obtain ⟨hle,hs⟩:=setsK_spec _ _ _ _ hs
   rw [setK_eq] at hs
   obtain ⟨ob,osz,opos,oc,ocell⟩:=h.obj r _ hcs
   rcases Nat.eq_zero_or_pos (cellsOf y).length with hz | hpos
   · -- nothing at all is laid
     have hnil:cellsOf y=[]:=List.length_eq_zero_iff.1 hz
     have hu:u.cells.toList=[]:=List.length_eq_zero_iff.1 (by omega)
     rw [hnil] at hs
     simp only [splice] at hs
     have hset:H.set r (.one cs)=H:=List.ext_getElem? fun j=>by
      by_cases hj:j=r
      · subst hj;rw [List.getElem?_set_self (List.getElem?_eq_some_iff.1 hcs).1,hcs]
      · rw [List.getElem?_set_ne (Ne.symm hj)]
     rw [hset] at hs
     exact ⟨w,H,hrun _ rfl w (by rw [hu];rfl),rfl,h,hs⟩
   have hle:f+(cellsOf y).length≤cs.length:=by
    rcases hle with hle | hle
    · exact hle
    · rw [hle] at hpos;simp at hpos
   obtain ⟨w',hr',hrel⟩:=store_cells (P:=P) h hcs (o':=.one (splice cs f (cellsOf y))) (b:=(L r).h.blk) (off:=f) (n:=cs.length) rfl (fun _=>Iff.rfl) (fun _=>Iff.rfl) oc u.cells.toList (VCs.all_one hvs) (by omega)
    (fun w' hk hcc hout hin=>by
      refine ⟨ob,by rw [splice_length];exact osz,by rw [splice_length];exact opos,by rw [splice_length];exact hcc,fun g z hg=>?_⟩
      rw [splice_get _ _ _ _ hle] at hg
      have hat:(L r).h.at 0 g = ⟨(L r).h.blk,g,none⟩:=by simp [ILoc.at,ob]
      rw [hat]
      split at hg
      · rename_i hgr
        obtain ⟨q,hq,hqr⟩:=hvs.get hg
        have:=hin _ _ hq
        rw [show f+(g-f)=g by omega] at this
        exact ⟨q,this,hqr⟩
      · rename_i hgr
        obtain ⟨q,hq,hqr⟩:=ocell g z hg
        rw [hat] at hq
        exact ⟨q,by rw [hout g (by omega)];exact hq,hqr⟩)
   refine ⟨w',_,hrun _ rfl w' ?_,by simp,hrel,hs⟩
   simpa [ILoc.at,ob] using hr'
 · rename_i r i f
   obtain ⟨hr,rfl⟩:=hx
   rw [nth_eq] at hs
   split at hs <;> try exact hs.elim
   rename_i sz rs hrs
   split at hs <;> try exact hs.elim
   rename_i ys hys
   obtain ⟨row,hrow,hs⟩:=hs
   split at hs <;> try exact hs.elim
   rename_i hle
   have hle:f+szOf P t≤row.length:=by simpa using hle
   have hs:=(setsK_spec _ _ _ _ hs).2
   rw [setK_eq] at hs
   obtain ⟨osz,opos,ocap,oown,ocell⟩:=h.obj r _ hrs
   have hi:i<rs.length:=(List.getElem?_eq_some_iff.1 hrow).1
   have hcap:(L r).h.cap≠0:=by omega
   obtain ⟨ob,nn,hnn,oc⟩:=oown rfl hcap
   have hfc:=fcs_spec hys
   have hyl:ys.length=szOf P t:=by rw [←hlen,hfc];simp
   have hrl:=(ocell i row hrow).1
   have hat:∀ i g,(L r).h.at i g = ⟨(L r).h.blk,i*sz+g,none⟩:=fun i g=>by simp [ILoc.at,ob,osz]
   obtain ⟨w',hr',hrel⟩:=store_cells (P:=P) h hrs (o':=.rows false sz (rs.set i (splice row f ys))) (b:=(L r).h.blk) (off:=i*sz+f) (n:=nn) ⟨hcap,rfl⟩ (fun _=>Iff.rfl) (fun _=>Iff.rfl) oc
    u.cells.toList (VCs.all_one hvs) (by
     have:i*sz+(f+u.cells.toList.length)≤(L r).h.cap*sz:=row_in (by omega) (by omega)
     omega)
    (fun w' hk hcc hout hin=>by
      refine ⟨osz,opos,by simpa using ocap,fun _ _=>⟨ob,nn,hnn,hcc⟩,fun i' r' hr'=>?_⟩
      have hold:∀ (g:Nat) (x':FC),i'<rs.length→(∃ r0,rs[i']? = some r0∧r0[g]? = some x')→(i'*sz+g<i*sz+f∨i*sz+f+u.cells.toList.length≤i'*sz+g) →
       w'.cell? ((L r).h.at i' g)=some x'.val:=by
       rintro g x' hi' ⟨r0,hr0,hg⟩ hap
       have:=(ocell i' r0 hr0).2 g x' hg
       rw [hat] at this ⊢
       rw [hout _ hap,this]
      by_cases hii:i'=i
      · subst hii
        rw [List.getElem?_set_self hi] at hr'
        cases hr'
        refine ⟨by rw [splice_length,hrl],fun g x' hg=>?_⟩
        rw [splice_get _ _ _ _ (by omega)] at hg
        split at hg
        · rename_i hgr
          obtain ⟨q,hq,hqr⟩:=hvs.get (i:=g-f) (x:=.f x') (by rw [hfc,List.getElem?_map,hg];rfl)
          have:=hin _ _ hq
          rw [show i'*sz+f+(g-f)=i'*sz+g by omega] at this
          rw [hat,this]
          exact congrArg some hqr
        · rename_i hgr
          exact hold g x' hi ⟨row,hrow,hg⟩ (by omega)
      · rw [List.getElem?_set_ne (Ne.symm hii)] at hr'
        refine ⟨(ocell i' r' hr').1,fun g x' hg=>?_⟩
        have hgl:g<sz:=by have:=(List.getElem?_eq_some_iff.1 hg).1;rw [(ocell i' r' hr').1] at this;exact this
        exact hold g x' (List.getElem?_eq_some_iff.1 hr').1 ⟨r',hr',hg⟩ (rows_apart hii hgl (by omega)))
   refine ⟨w',_,hrun _ rfl w' ?_,by simp,hrel,hs⟩
   simpa [hat] using hr'
   · rename_i sz es hrs
     split at hs <;> try exact hs.elim
     rename_i r2 n nn2 _
     rw [nth_eq] at hs
     split at hs <;> try exact hs.elim
     rename_i sz2 rs hr2
     split at hs <;> try exact hs.elim
     rename_i hb
     simp only [Bool.and_eq_true,Bool.not_eq_true'] at hb
     obtain ⟨⟨hz,hs1⟩,hne⟩:=hb
     obtain rfl:=Nat.eq_of_beq_eq_true hz
     have hne:r≠r2:=Nat.ne_of_beq_eq_false hne
     obtain ⟨rfl,hi,hs⟩:=hs
     obtain ⟨_,hh⟩:=hy
     obtain ⟨c1,c2,c3,c4⟩:=h.obj r _ hrs
     have hil:=(List.getElem?_eq_some_iff.1 hi).1
     have hcap:(L r).h.cap≠0:=by omega
     obtain ⟨ob,n0,hn0,oc⟩:=c3 hcap
     have hat:∀ i,(L r).h.at i 0 = ⟨(L r).h.blk,i,none⟩:=fun i=>by simp [ILoc.at,ob,c1]
     have huc:u.cells.toList=[u]:=by
      rcases hh with ⟨_,_,rfl,_⟩ | ⟨_,_,rfl,_⟩ <;> rfl
     obtain ⟨w',hr',hrel,hnew⟩:=store_cells2 (P:=P) h hrs (o':=.rows3 true sz2 es) (b:=(L r).h.blk) (off:=i) (n:=n0) (.inl ⟨hcap,rfl⟩) (fun _=>Iff.rfl) (fun _=>Iff.rfl) oc
      u.cells.toList (VCs.all_one hvs) (by rw [huc];show i+1≤n0;omega)
      (fun w' hk hcc hout hin=>by
        refine ⟨c1,c2,fun _=>⟨ob,n0,hn0,hcc⟩,fun j p hj=>?_⟩
        obtain ⟨d1,⟨v,dv,dh⟩,d3⟩:=c4 j p hj
        refine ⟨d1.mono fun hc=>hk _ ((d3 hc).1 hcap),⟨v,?_,dh⟩,d3⟩
        have hji:j≠i:=fun e=>by subst e;rw [hi] at hj;cases hj
        rw [hat] at dv ⊢
        rw [hout j (by rw [huc];show j<i∨i+1≤j;omega)]
        exact dv)
     rw [set_was hrs] at hrel
     have hv:w'.cell? ((L r).h.at i 0)=some u:=by
      rw [hat]
      exact hnew 0 u (by rw [huc];rfl)
     have hs:=hs (L r2).h
     rw [setK_eq,setK_eq] at hs
     refine ⟨w',_,hrun _ rfl w' ?_,by simp,put3 hrel hrs hr2 hne hi hv hh,hs⟩
     simpa [hat] using hr'

def upd (L:Nat→Loc) (i:Nat) (l:Loc):Nat→Loc:=fun j=>if j=i then l else L j

theorem upd_self (L:Nat→Loc) (i:Nat) (l:Loc):upd L i l i=l:=by simp [upd]
theorem upd_ne {L:Nat→Loc} {i j:Nat} {l:Loc} (h:j≠i):upd L i l j=L j:=by simp [upd,h]
theorem upd_agree (L:Nat→Loc) (l:Loc) (N:Nat) (M:List Nat):Agree N M L (upd L N l):=fun i hi _=>upd_ne (by omega)

theorem alloc_sound (h:Rel B R w0 L H w) (o:PO) (l:Loc) (c:Array Value) (t:TypeId) {fr:Nat×Nat}
 (hown:∀ b,Own o l b→b=w.heap.size) (hro:∀ b,¬Ro o l b)
 (hOR:OR (H.length+1) (upd L H.length l) (w.alloc (.cells c t fr)) o l) :
 Agree H.length [] L (upd L H.length l)∧Rel B R w0 (upd L H.length l) (H++[o]) (w.alloc (.cells c t fr)):=by
 refine ⟨upd_agree _ _ _ _,h.put (M:=[]) H.length o (by simp) (by simp) (fun j hj o1 ho1=>?_) (upd_agree _ _ _ _) (fun j hj=>upd_ne hj) ((Bel.refl B w).alloc h.size _)
  (fun b hb=>.inl (heap_alloc_lt _ _ _ hb)) (fun b hb=>?_) (fun b hb=>?_) ?_⟩
 · rcases Nat.lt_or_gt_of_ne hj with hl | hg
   · rw [List.getElem?_append_left hl] at ho1
     exact ⟨o1,ho1,(killO_nil o1).symm⟩
   · rw [List.getElem?_eq_none (by simp;omega)] at ho1
     cases ho1
 · rw [upd_self] at hb
   have:=hown b hb
   subst this
   exact ⟨fun hb=>Nat.lt_irrefl _ (h.size _ hb),by simp,.inl (Nat.le_refl _)⟩
 · rw [upd_self] at hb;exact absurd hb (hro b)
 · rw [upd_self];simpa using hOR

theorem box_sound (h:Rel B R w0 L H w) {x:AV} {v:Value} (hx:VA H.length L x v) (t:TypeId) {K:AV→List PO→Prop} (hb:boxA H x K) :
 ∃ u w' L' y H',(newVar t v).run P w=.ok u w'∧Agree H.length [] L L'∧H.length≤H'.length∧Rel B R w0 L' H' w'∧VA H'.length L' y (.pointer (some u))∧K y H':=by
 unfold boxA at hb
 split at hb <;> try exact hb.elim
 rename_i y
 split at hb <;> try exact hb.elim
 rename_i c0 cs hcs
 have hK:=snocK_spec hb
 have hvs:=VP.cells (N:=H.length) (L:=L) (x:=y) (v:=v) hx
 rw [hcs] at hvs
 have hlen:=hvs.length
 have hag:=upd_agree L ⟨⟨w.heap.size,0,1,(c0::cs).length⟩,fun _=>⟨0,0,0,0⟩⟩ H.length []
 obtain ⟨h1,h2⟩:=alloc_sound h (.one (c0::cs)) ⟨⟨w.heap.size,0,1,(c0::cs).length⟩,fun _=>⟨0,0,0,0⟩⟩ v.cells t (fun b hb=>hb) (fun b hb=>hb) (by
  have hblk:=heap_alloc_eq w (.cells v.cells t)
  refine ⟨rfl,rfl,by simp,⟨v.cells,t,(0,0),hblk,by rw [hlen];simp,by simp⟩,fun f z hz=>?_⟩
  obtain ⟨q,hq,hqr⟩:=hvs.get hz
  refine ⟨q,?_,?_⟩
  · simp only [World.cell?,ILoc.at,hblk]
    simpa using hq
  · have:=hqr.mono (M:=[]) (N':=H.length+1) (Nat.le_succ _) hag
    rwa [killC_nil] at this)
 refine ⟨⟨w.heap.size,0,none⟩,w.alloc (.cells v.cells t),_,_,_,rfl,h1,by simp,h2,?_,hK⟩
 refine ⟨by simp,?_⟩
 rw [upd_self]
 simp [ILoc.at]

end

end Go.Mac
