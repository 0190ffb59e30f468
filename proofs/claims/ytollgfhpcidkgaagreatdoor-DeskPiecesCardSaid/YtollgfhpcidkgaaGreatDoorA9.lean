/- Texts that belong together; the first of them:  -/
import Derived.Test.YtollgfhpcidkgaaGreatDoorA3
import Derived.Test.YtollgfhpcidkgaaGreatDoorA7
import Derived.Test.YtollgfhpcidkgaaGreatDoorA8

section
open Go Go.Proofs Go.Mac
set_option maxRecDepth 100000
namespace Go.Mac
section
structure EvZ where
 w:Int
 a:Int
 t:Int
 v:Int

abbrev rowEv (x:EvZ):List FC:=[.int .i64 x.w,.int .i64 x.a,.int .i64 x.t,.int .i64 x.v]

def oneZ (e:EvZ) (came gone:List Int):Int×List Int×List Int :=
 if e.a≠1∧e.a≠2 then (1,came,gone)
 else if e.t<0∨e.t≥came.length then (2,came,gone)
 else if e.a=1 then
  if came.getD e.t.toNat 0≠gone.getD e.t.toNat 0∨e.v≠came.getD e.t.toNat 0+1 then (10,came,gone) else (0,came.set e.t.toNat (came.getD e.t.toNat 0+1),gone)
 else if came.getD e.t.toNat 0=gone.getD e.t.toNat 0∨e.v≠came.getD e.t.toNat 0 then (10,came,gone)
 else if came.any fun c=>decide (c<e.v) then (13,came,gone) else (0,came,gone.set e.t.toNat (gone.getD e.t.toNat 0+1))

theorem gx {l:List Int} {i:Int} {x:Int} (h:l[i.toNat]? = some x):(l.map rowZ)[0+Int.toNat i]? = some (rowZ x):=by simp [h]

def smallL (b:Int) (l:List Int):Prop:=∀ x∈l,0≤x∧x≤b

section

variable {K:KP}

abbrev twoH (came gone:List Int):List PO:=[.rows false 1 (came.map rowZ),.rows false 1 (gone.map rowZ)]

theorem one (e:EvZ) {came gone:List Int} {n:Nat} {b:Int} {nn1 nn2:Bool} (hc:came.length=n) (hg:gone.length=n) (hn:n<4611686018427387904) (hb:b<4611686018427387904) (h1:smallL b came) (h2:smallL b gone)
 (h:K (i64 (oneZ e came gone).1) [] (twoH (oneZ e came gone).2.1 (oneZ e came gone).2.2)) :
 Does Tryz.prog 222 [.p (.agg [.f (.int .i64 e.w),.f (.int .i64 e.a),.f (.int .i64 e.t),.f (.int .i64 e.v)]),cv (.slc 0 0 n none nn1),cv (.slc 1 0 n none nn2)] (twoH came gone) K:=by
 obtain ⟨w,a,t,v⟩:=e
 refine does Tryz.func222 rfl (by decide) ?_
 refine SS.inlR ?_
 refine bZ (fun ha=>?_) (fun ha=>?_)
 · have ha:a≠1:=by simpa using ha
   refine bZ (fun ha'=>?_) (fun ha'=>?_)
   · rw [oneZ,if_pos ⟨ha,by simpa using ha'⟩] at h
     exact h
   · obtain rfl:a=2:=by simpa using ha'
     clear ha ha'
     rw [oneZ,if_neg (by simp)] at h
     refine bZ (fun ht=>?_) (fun ht=>?_)
     · rw [if_pos (.inl (oTr ht))] at h
       exact h
     have ht:¬t<0:=oFa ht
     refine bZ (fun ht'=>?_) (fun ht'=>?_)
     · rw [if_pos (.inr (by rw [hc];exact oTr ht'))] at h
       exact h
     have ht':¬t≥n:=oFa ht'
     dsimp only at h
     rw [if_neg (by rw [hc];omega),if_neg (by simp)] at h
     obtain ⟨c,hcv⟩ : ∃ c,came[t.toNat]? = some c:=⟨_,List.getElem?_eq_getElem (by omega)⟩
     obtain ⟨g,hgv⟩ : ∃ g,gone[t.toNat]? = some g:=⟨_,List.getElem?_eq_getElem (by omega)⟩
     have e1:came.getD t.toNat 0=c:=by rw [List.getD_eq_getElem?_getD,hcv];rfl
     have e2:gone.getD t.toNat 0=g:=by rw [List.getD_eq_getElem?_getD,hgv];rfl
     have hcb:=h1 c (List.mem_iff_getElem?.2 ⟨_,hcv⟩)
     have hgb:=h2 g (List.mem_iff_getElem?.2 ⟨_,hgv⟩)
     rw [e1,e2] at h
     refine SS.drawR follows (by decide) ?_
     refine at2 (a:=0≤t) (b:=t<(n:Int)) (by omega) (by omega) (rd1 (rowZ c) (.int .i64 c) (gx hcv) rfl ?_)
     refine at2 (a:=0≤t) (b:=t<(n:Int)) (by omega) (by omega) (rd1 (rowZ g) (.int .i64 g) (gx hgv) rfl ?_)
     refine bZ (fun h3=>?_) (fun h3=>?_)
     · rw [if_pos (.inl (by simpa using h3))] at h
       exact h
     refine at2 (a:=0≤t) (b:=t<(n:Int)) (by omega) (by omega) (rd1 (rowZ c) (.int .i64 c) (gx hcv) rfl ?_)
     refine bZ (fun h4=>?_) (fun h4=>?_)
     · rw [if_pos (.inr (by simpa using h4))] at h
       exact h
     have hcg:c≠g:=by simpa using h3
     obtain rfl:v=c:=by simpa using h4
     rw [if_neg (by simp [hcg])] at h
     refine SS.loop (fun i:Nat=>i≤n∧∀ (j:Nat) (x:Int),j<i→came[j]? = some x→¬x<v) (fun i=>[(2,cv (.slc 1 0 n none nn2)),(3,cv (.ptr 2 0)),(7,i64 t),(78,cv (.slc 0 0 n none nn1)),(79,i64 n),(80,i64 i)])
      (fun _=>twoH came gone++[.one [.f (.int .i64 w),.f (.int .i64 2),.f (.int .i64 t),.f (.int .i64 v)]]) (fun i=>n-i) [] (At.mk' [2,3,7,78,79,80] 0 (by simp) ⟨rfl,rfl⟩ rfl rfl (by simp) (by simp) (by simp)) ?_
     rintro i ⟨hi,hj⟩
     refine S_r ?_
     refine bZ (fun hlt=>?_) (fun hlt=>?_)
     · have hlt:i<n:=by have:=oTr hlt;omega
       obtain ⟨x,hx⟩ : ∃ x,came[i]? = some x:=⟨_,List.getElem?_eq_getElem (by omega)⟩
       refine SS.inlR ?_
       refine at2 (by omega) (by omega) (rd1 (rowZ x) (.int .i64 x) (by simp [hx]) rfl ?_)
       refine bZ (fun hxv=>?_) (fun hxv=>?_)
       · have hxv:x<v:=oTr hxv
         rw [if_pos (List.any_eq_true.2 ⟨x,List.mem_iff_getElem?.2 ⟨i,hx⟩,by simpa using hxv⟩)] at h
         exact h
       · have hxv:¬x<v:=oFa hxv
         refine At.mk' [2,3,7,78,79,80] (i+1) ⟨⟨hlt,fun j y hj' hy=>?_⟩,by omega⟩ ⟨?_,rfl⟩ rfl rfl (by simp) (by simp) (by simp)
         · rcases Nat.lt_succ_iff_lt_or_eq.1 hj' with hl | rfl
           · exact hj j y hl hy
           · rw [hx] at hy;cases hy;exact hxv
         · rw [wrap_i64 _ (by omega) (by omega)]
           rfl
     · have hlt:¬(i:Int)<n:=oFa hlt
       rw [if_neg (by
        rw [Bool.not_eq_true,List.any_eq_false]
        intro x hx
        obtain ⟨j,hj'⟩:=List.mem_iff_getElem?.1 hx
        have:=(List.getElem?_eq_some_iff.1 hj').1
        simpa using hj j x (by omega) hj')] at h
       refine at2 (a:=0≤t) (b:=t<(n:Int)) (by omega) (by omega) (rd1 (rowZ g) (.int .i64 g) (gx hgv) rfl ?_)
       refine at2 (a:=0≤t) (b:=t<(n:Int)) (by omega) (by omega) (wr1 (rowZ g) (gx hgv) ?_)
       rw [wrap_i64 (g+1) (by omega) (by omega),Nat.zero_add t.toNat]
       rw [twoH,List.map_set] at h
       exact h
 · obtain rfl:a=1:=by simpa using ha
   clear ha
   rw [oneZ,if_neg (by simp)] at h
   refine bZ (fun ht=>?_) (fun ht=>?_)
   · rw [if_pos (.inl (oTr ht))] at h
     exact h
   have ht:¬t<0:=oFa ht
   refine bZ (fun ht'=>?_) (fun ht'=>?_)
   · rw [if_pos (.inr (by rw [hc];exact oTr ht'))] at h
     exact h
   have ht':¬t≥n:=oFa ht'
   dsimp only at h
   rw [if_neg (by rw [hc];omega),if_pos rfl] at h
   obtain ⟨c,hcv⟩ : ∃ c,came[t.toNat]? = some c:=⟨_,List.getElem?_eq_getElem (by omega)⟩
   obtain ⟨g,hgv⟩ : ∃ g,gone[t.toNat]? = some g:=⟨_,List.getElem?_eq_getElem (by omega)⟩
   have e1:came.getD t.toNat 0=c:=by rw [List.getD_eq_getElem?_getD,hcv];rfl
   have e2:gone.getD t.toNat 0=g:=by rw [List.getD_eq_getElem?_getD,hgv];rfl
   have hcb:=h1 c (List.mem_iff_getElem?.2 ⟨_,hcv⟩)
   rw [e1,e2] at h
   refine SS.drawR follows (by decide) ?_
   refine at2 (a:=0≤t) (b:=t<(n:Int)) (by omega) (by omega) (rd1 (rowZ c) (.int .i64 c) (gx hcv) rfl ?_)
   refine at2 (a:=0≤t) (b:=t<(n:Int)) (by omega) (by omega) (rd1 (rowZ g) (.int .i64 g) (gx hgv) rfl ?_)
   refine bZ (fun h3=>?_) (fun h3=>?_)
   · rw [if_pos (.inl (by simpa using h3))] at h
     exact h
   refine at2 (a:=0≤t) (b:=t<(n:Int)) (by omega) (by omega) (rd1 (rowZ c) (.int .i64 c) (gx hcv) rfl ?_)
   have hwr:=wrap_i64 (c+1) (by omega) (by omega)
   refine bZ (fun h4=>?_) (fun h4=>?_)
   · have h4:(v != IntKind.i64.wrap (c+1))=true:=h4
     rw [hwr] at h4
     rw [if_pos (.inr (by simpa using h4))] at h
     exact h
   have h4:(v != IntKind.i64.wrap (c+1))=false:=h4
   rw [hwr] at h4
   have hcg:c=g:=by simpa using h3
   have hv:v=c+1:=by simpa using h4
   rw [if_neg (by simp [hcg,hv])] at h
   refine at2 (a:=0≤t) (b:=t<(n:Int)) (by omega) (by omega) (rd1 (rowZ c) (.int .i64 c) (gx hcv) rfl ?_)
   refine at2 (a:=0≤t) (b:=t<(n:Int)) (by omega) (by omega) (wr1 (rowZ c) (gx hcv) ?_)
   rw [wrap_i64 (c+1) (by omega) (by omega),Nat.zero_add t.toNat]
   rw [twoH,List.map_set] at h
   exact h

def runZ:List EvZ→Nat→List Int→List Int→Option (Int×Nat)
 | [],_,_,_=>none
 | e::l,i,c,g=>if (oneZ e c g).1=0 then runZ l (i+1) (oneZ e c g).2.1 (oneZ e c g).2.2 else some ((oneZ e c g).1,i)

def noughts (n:Nat):List Int:=List.replicate n 0
def checkZ (n:Nat) (l:List EvZ):Option (Int×Nat):=runZ l 0 (noughts n) (noughts n)

theorem oneZ_len (e:EvZ) (came gone:List Int):(oneZ e came gone).2.1.length=came.length∧(oneZ e came gone).2.2.length=gone.length:=by
 unfold oneZ
 split
 · exact ⟨rfl,rfl⟩
 split
 · exact ⟨rfl,rfl⟩
 split
 · split <;> simp
 split
 · exact ⟨rfl,rfl⟩
 split <;> simp

theorem noughts_small (n:Nat):smallL (0:Nat) (noughts n):=fun x hx=>by
 have:=List.eq_of_mem_replicate hx
 subst this
 exact ⟨Int.le_refl _,Int.le_refl _⟩

theorem noughts_rows (n:Nat):(noughts n).map rowZ=List.replicate n [.int .i64 0]:=by
 simp [noughts]

theorem small_set {b:Int} {l:List Int} {i:Nat} {x:Int} (h:smallL b l) (hx:0≤x∧x≤b+1):smallL (b+1) (l.set i x):=by
 intro y hy
 rcases List.mem_or_eq_of_mem_set hy with hy | rfl
 · have:=h y hy
   omega
 · exact hx

theorem small_more {b:Int} {l:List Int} (h:smallL b l):smallL (b+1) l:=fun y hy=>by
 have:=h y hy
 omega

theorem small_getD {b:Int} {l:List Int} (hb:0≤b) (h:smallL b l) (i:Nat):0≤l.getD i 0∧l.getD i 0≤b:=by
 rw [List.getD_eq_getElem?_getD]
 rcases hi:l[i]? with _ | x
 · exact ⟨Int.le_refl _,hb⟩
 · exact h x (List.mem_iff_getElem?.2 ⟨i,hi⟩)

theorem oneZ_small (e:EvZ) {b:Int} {came gone:List Int} (hb:0≤b) (h1:smallL b came) (h2:smallL b gone):smallL (b+1) (oneZ e came gone).2.1∧smallL (b+1) (oneZ e came gone).2.2:=by
 have g1:=small_getD hb h1 e.t.toNat
 have g2:=small_getD hb h2 e.t.toNat
 unfold oneZ
 split
 · exact ⟨small_more h1,small_more h2⟩
 split
 · exact ⟨small_more h1,small_more h2⟩
 split
 · split
   · exact ⟨small_more h1,small_more h2⟩
   · exact ⟨small_set h1 (by omega),small_more h2⟩
 split
 · exact ⟨small_more h1,small_more h2⟩
 split
 · exact ⟨small_more h1,small_more h2⟩
 · exact ⟨small_more h1,small_set h2 (by omega)⟩

theorem gev {l:List EvZ} {i:Nat} {x:EvZ} (h:l[i]? = some x):(l.map rowEv)[0+Int.toNat (i:Int)]? = some (rowEv x):=by simp [h]

section

variable {K:KP}

theorem check {all l:List EvZ} {k n:Nat} {ro nn:Bool} {c:Option Nat} (hk:l.length=k) (hall:∀ i,i<k→all[i]? = l[i]?) (hn:1≤n∧n≤16) (hkb:k<1000000)
 (h0:checkZ n l=none→K (cv .niliface) [] [.rows ro 4 (all.map rowEv)])
 (h1:∀ (e:Int) (i:Nat),checkZ n l=some (e,i)→K (cv (.iface 108 (.ptr 1 0))) [] [.rows ro 4 (all.map rowEv),.one [.f (.int .i64 e),.f (.int .i64 i)]]) :
 Does Tryz.prog 173 [cv (.slc 0 0 k c nn),i64 n] [.rows ro 4 (all.map rowEv)] K:=by
 refine Does.keep 1 rfl ?_
 refine does Tryz.func173 rfl (by decide) ?_
 refine bZ (fun h=>?_) (fun _=>?_)
 · have:=oTr h;omega
 refine bZ (fun h=>?_) (fun _=>?_)
 · have:=oTr h;omega
 refine SS.drawR follows (by decide) ?_
 have b1:(0:Int)≤(n:Int):=by omega
 have b2:(n:Int)≤(n:Int):=by omega
 have b3:((8:Nat):Int)*(n:Int)≤281474976710656:=by omega
 have b4:(n:Int)≤9223372036854775807:=by omega
 repeat' (first
  | refine And.intro rfl ?_
  | refine And.intro b1 (And.intro b2 (And.intro b3 (And.intro b4 ?_)))
  | refine And.intro ?_ ?_)
 all_goals first
  | (
    refine SS.loop (fun p:Nat×List Int×List Int=>p.1≤k∧p.2.1.length=n∧p.2.2.length=n∧smallL p.1 p.2.1∧smallL p.1 p.2.2∧checkZ n l=runZ (l.drop p.1) p.1 p.2.1 p.2.2)
     (fun p=>[(5,cv (.slc 1 0 n none true)),(6,cv (.slc 2 0 n none true)),(21,cv (.slc 0 0 k c nn)),(22,i64 k),(23,i64 p.1)]) (fun p=>[.rows ro 4 (all.map rowEv)]++twoH p.2.1 p.2.2) (fun p=>k-p.1) []
     (At.mk' [5,6,21,22,23] (0,noughts n,noughts n) ⟨by simp,by simp [noughts],by simp [noughts],noughts_small n,noughts_small n,rfl⟩ ⟨rfl,rfl⟩ (by
       show [PO.rows ro 4 (all.map rowEv),PO.rows false 1 (List.replicate n [.int .i64 0]),PO.rows false 1 (List.replicate n [.int .i64 0])]=_
       rw [←noughts_rows n]
       rfl) rfl (by simp) (by simp) (by simp)) ?_
    rintro ⟨i,came,gone⟩ ⟨hi,hc,hg,s1,s2,hrun⟩
    change i≤k at hi
    change came.length=n at hc
    change gone.length=n at hg
    change smallL i came at s1
    change smallL i gone at s2
    change checkZ n l=runZ (l.drop i) i came gone at hrun
    refine S_r ?_
    refine bZ (fun hlt=>?_) (fun hlt=>?_)
    · have hlt:i<k:=by
       have:=oTr hlt
       have:(i:Int)<(k:Int):=this
       omega
      obtain ⟨x,hx⟩ : ∃ x,l[i]? = some x:=⟨_,List.getElem?_eq_getElem (by omega)⟩
      have hax:=(hall i hlt).trans hx
      have hd:l.drop i=x::l.drop (i+1):=by
       rw [List.drop_eq_getElem_cons (by omega)]
       congr 1
       exact (List.getElem?_eq_some_iff.1 hx).2
      rw [hd,runZ] at hrun
      have hl:=oneZ_len x came gone
      have hs:=oneZ_small x (by omega) s1 s2
      refine SS.inlR ?_
      refine at2 (a:=(0:Int)≤(i:Int)) (b:=(i:Int)<(k:Int)) (by omega) (by omega) (rdA (rowEv x) (gev hax) ?_)
      change Does Tryz.prog 222 _ _ _
      refine Does.on 4 [1,2] _ _ (one x (came:=came) (gone:=gone) (n:=n) (b:=i) (nn1:=true) (nn2:=true) hc hg (by omega) (by omega) s1 s2 ?_)
      generalize oneZ x came gone=r at *
      obtain ⟨e,came',gone'⟩:=r
      refine bZ (fun he=>?_) (fun he=>?_)
      · have he:e≠0:=by simpa using he
        rw [if_neg he] at hrun
        exact ⟨5,[0,4],[.rows ro 4 (all.map rowEv),.one [.f (.int .i64 e),.f (.int .i64 i)]],cv (.iface 108 (.ptr 1 0)),rfl,rfl,by decide,by decide,rfl,rfl,rfl,rfl,rfl,h1 e i hrun⟩
      · have he:e=0:=by simpa using he
        rw [if_pos he] at hrun
        refine At.mk' [5,6,21,22,23] (i+1,came',gone') ⟨⟨by show i+1≤k;omega,hl.1.trans hc,hl.2.trans hg,hs.1,hs.2,hrun⟩,by show k-(i+1)<k-i;omega⟩ ⟨?_,rfl⟩ rfl rfl (by simp) (by simp) (by simp)
        rw [wrap_i64 _ (by omega) (by omega)]
        rfl
    · have hlt:¬(i:Int)<(k:Int):=oFa hlt
      have hd:l.drop i=[]:=List.drop_eq_nil_iff.2 (by omega)
      rw [hd] at hrun
      exact ⟨1,[0],[.rows ro 4 (all.map rowEv)],cv .niliface,rfl,rfl,by decide,by decide,rfl,rfl,rfl,rfl,rfl,h0 hrun⟩)
  | (
    refine SS.loop (fun p:Nat×List Int×List Int=>p.1≤k∧p.2.1.length=n∧p.2.2.length=n∧smallL p.1 p.2.1∧smallL p.1 p.2.2∧checkZ n l=runZ (l.drop p.1) p.1 p.2.1 p.2.2)
     (fun p=>[(5,cv (.slc 2 0 n none true)),(6,cv (.slc 1 0 n none true)),(21,cv (.slc 0 0 k c nn)),(22,i64 k),(23,i64 p.1)]) (fun p=>[.rows ro 4 (all.map rowEv)]++twoH p.2.2 p.2.1) (fun p=>k-p.1) []
     (At.mk' [5,6,21,22,23] (0,noughts n,noughts n) ⟨by simp,by simp [noughts],by simp [noughts],noughts_small n,noughts_small n,rfl⟩ ⟨rfl,rfl⟩ (by
       show [PO.rows ro 4 (all.map rowEv),PO.rows false 1 (List.replicate n [.int .i64 0]),PO.rows false 1 (List.replicate n [.int .i64 0])]=_
       rw [←noughts_rows n]
       rfl) rfl (by simp) (by simp) (by simp)) ?_
    rintro ⟨i,came,gone⟩ ⟨hi,hc,hg,s1,s2,hrun⟩
    change i≤k at hi
    change came.length=n at hc
    change gone.length=n at hg
    change smallL i came at s1
    change smallL i gone at s2
    change checkZ n l=runZ (l.drop i) i came gone at hrun
    refine S_r ?_
    refine bZ (fun hlt=>?_) (fun hlt=>?_)
    · have hlt:i<k:=by
       have:=oTr hlt
       have:(i:Int)<(k:Int):=this
       omega
      obtain ⟨x,hx⟩ : ∃ x,l[i]? = some x:=⟨_,List.getElem?_eq_getElem (by omega)⟩
      have hax:=(hall i hlt).trans hx
      have hd:l.drop i=x::l.drop (i+1):=by
       rw [List.drop_eq_getElem_cons (by omega)]
       congr 1
       exact (List.getElem?_eq_some_iff.1 hx).2
      rw [hd,runZ] at hrun
      have hl:=oneZ_len x came gone
      have hs:=oneZ_small x (by omega) s1 s2
      refine SS.inlR ?_
      refine at2 (a:=(0:Int)≤(i:Int)) (b:=(i:Int)<(k:Int)) (by omega) (by omega) (rdA (rowEv x) (gev hax) ?_)
      change Does Tryz.prog 222 _ _ _
      refine Does.on 4 [2,1] _ _ (one x (came:=came) (gone:=gone) (n:=n) (b:=i) (nn1:=true) (nn2:=true) hc hg (by omega) (by omega) s1 s2 ?_)
      generalize oneZ x came gone=r at *
      obtain ⟨e,came',gone'⟩:=r
      refine bZ (fun he=>?_) (fun he=>?_)
      · have he:e≠0:=by simpa using he
        rw [if_neg he] at hrun
        exact ⟨5,[0,4],[.rows ro 4 (all.map rowEv),.one [.f (.int .i64 e),.f (.int .i64 i)]],cv (.iface 108 (.ptr 1 0)),rfl,rfl,by decide,by decide,rfl,rfl,rfl,rfl,rfl,h1 e i hrun⟩
      · have he:e=0:=by simpa using he
        rw [if_pos he] at hrun
        refine At.mk' [5,6,21,22,23] (i+1,came',gone') ⟨⟨by show i+1≤k;omega,hl.1.trans hc,hl.2.trans hg,hs.1,hs.2,hrun⟩,by show k-(i+1)<k-i;omega⟩ ⟨?_,rfl⟩ rfl rfl (by simp) (by simp) (by simp)
        rw [wrap_i64 _ (by omega) (by omega)]
        rfl
    · have hlt:¬(i:Int)<(k:Int):=oFa hlt
      have hd:l.drop i=[]:=List.drop_eq_nil_iff.2 (by omega)
      rw [hd] at hrun
      exact ⟨1,[0],[.rows ro 4 (all.map rowEv)],cv .niliface,rfl,rfl,by decide,by decide,rfl,rfl,rfl,rfl,rfl,h0 hrun⟩)

end

end
end
section
def formZ (op:Int):List Int :=
 match op with
 | 1=>[1,3,0,0]
 | 2=>[1,1,0,0]
 | 3=>[1,1,3,0]
 | 4=>[1,1,1,0]
 | 5=>[1,1,6,7]
 | 6=>[1,2,0,0]
 | 7=>[2,1,5,0]
 | 8=>[1,2,3,0]
 | 9=>[1,2,1,1]
 | 10=>[4,0,0,0]
 | 11=>[1,3,4,0]
 | 12=>[1,1,4,0]
 | 13=>[1,1,4,0]
 | 14=>[2,1,0,0]
 | 15=>[2,3,5,0]
 | 16=>[3,1,0,0]
 | _=>[0,0,0,0]

def fitsZ (kind x cells size:Int):Bool :=
 if kind=0 then x == 0
 else if kind=1 then decide (0≤x∧x<8)
 else if kind=2 then decide (0≤x∧x<cells)
 else if kind=4 then decide (0≤x∧x<size)
 else if kind=5 then decide (-1≤x∧x<8)
 else if kind=6 then decide (0≤x∧x≤63)
 else if kind=7 then decide (1≤x∧x≤63)
 else true

def fo (op:Int) (k:Nat):Int:=(formZ op).getD k 0

abbrev pvF (op:Int):AV:=.p (.agg [.f (.int .i64 (fo op 0)),.f (.int .i64 (fo op 1)),.f (.int .i64 (fo op 2)),.f (.int .i64 (fo op 3))])

section

variable {K:KP}

theorem form (op:Int) (h0:0≤op∧op<17) (h:K (pvF op) [] []):Does Tryz.prog 99 [i64 op] [] K:=by
 refine does Tryz.func99 rfl (by decide) ?_
 refine at2 (a:=(0:Int)≤op) (b:=op<(17:Nat)) (by omega) (by omega) ?_
 refine Exists.intro [.f (.int .i64 (fo op 0)),.f (.int .i64 (fo op 1)),.f (.int .i64 (fo op 2)),.f (.int .i64 (fo op 3))] (And.intro ?_ h)
 rw [show szOf Tryz.prog 142=4 from rfl]
 have:op=0∨op=1∨op=2∨op=3∨op=4∨op=5∨op=6∨op=7∨op=8∨op=9∨op=10∨op=11∨op=12∨op=13∨op=14∨op=15∨op=16:=by omega
 rcases this with rfl | rfl | rfl | rfl | rfl | rfl | rfl | rfl | rfl | rfl | rfl | rfl | rfl | rfl | rfl | rfl | rfl <;> rfl

theorem fits (kind x cells size:Int) (h:K (bl (fitsZ kind x cells size)) [] []):Does Tryz.prog 100 [i64 kind,i64 x,i64 cells,i64 size] [] K:=by
 refine does Tryz.func100 rfl (by decide) ?_
 have fin0:∀ b:Bool,b=fitsZ kind x cells size→K (bl b) [] []:=fun b e=>e ▸ h
 refine bZ (fun h0=>?_) (fun h0=>?_)
 · exact fin0 (x == 0) (by simp only [beq_iff_eq] at h0;simp [fitsZ,h0])
 refine bZ (fun h1=>?_) (fun h1=>?_)
 · simp only [beq_iff_eq] at h1
   refine bZ (fun h2=>fin0 (decide (x<8)) ?_) (fun h2=>fin0 false ?_)
   · have:=oTr h2;simp [fitsZ,h1];omega
   · have:=oFa h2;simp [fitsZ,h1];omega
 refine bZ (fun h1=>?_) (fun h2=>?_)
 · simp only [beq_iff_eq] at h1
   refine bZ (fun h2=>fin0 (decide (x<cells)) ?_) (fun h2=>fin0 false ?_)
   · have:=oTr h2;simp [fitsZ,h1];omega
   · have:=oFa h2;simp [fitsZ,h1];omega
 refine bZ (fun h1=>?_) (fun h3=>?_)
 · simp only [beq_iff_eq] at h1
   refine bZ (fun h2=>fin0 (decide (x<size)) ?_) (fun h2=>fin0 false ?_)
   · have:=oTr h2;simp [fitsZ,h1];omega
   · have:=oFa h2;simp [fitsZ,h1];omega
 refine bZ (fun h1=>?_) (fun h4=>?_)
 · simp only [beq_iff_eq] at h1
   refine bZ (fun h2=>fin0 (decide (x<8)) ?_) (fun h2=>fin0 false ?_)
   · have:=oTr h2;simp [fitsZ,h1];omega
   · have:=oFa h2;simp [fitsZ,h1];omega
 refine bZ (fun h1=>?_) (fun h5=>?_)
 · simp only [beq_iff_eq] at h1
   refine bZ (fun h2=>fin0 (decide (x≤63)) ?_) (fun h2=>fin0 false ?_)
   · have:=oTr h2;simp [fitsZ,h1];omega
   · have:=oFa h2;simp [fitsZ,h1];omega
 refine bZ (fun h1=>?_) (fun h6=>?_)
 · simp only [beq_iff_eq] at h1
   refine bZ (fun h2=>fin0 (decide (x≤63)) ?_) (fun h2=>fin0 false ?_)
   · have:=oTr h2;simp [fitsZ,h1];omega
   · have:=oFa h2;simp [fitsZ,h1];omega
 refine fin0 true ?_
 simp only [beq_eq_false_iff_ne,ne_eq] at h0 h1 h2 h3 h4 h5 h6
 simp [fitsZ, *]

end
end
section
def argZ (i:InsZ) (k:Nat):Int:=[i.a,i.b,i.c,i.d].getD k 0

def okI (cells size:Int) (i:InsZ):Bool :=
 decide (0≤i.op∧i.op<17) && fitsZ (fo i.op 0) i.a cells size && fitsZ (fo i.op 1) i.b cells size && fitsZ (fo i.op 2) i.c cells size && fitsZ (fo i.op 3) i.d cells size

def lastOp (p:List InsZ):Int:=(p.getLast?.map (·.op)).getD 99

def rightZ (p:List InsZ) (cells:Int):Bool :=
 decide (0≤cells∧cells≤300) && decide (1≤p.length∧p.length≤600) && p.all (okI cells p.length) && (lastOp p == 0 || lastOp p == 10)

theorem okI_args {cells size:Int} {i:InsZ} (h:0≤i.op∧i.op<17) (hk:∀ k,k<4→fitsZ (fo i.op k) (argZ i k) cells size=true):okI cells size i=true:=by
 have h0:=hk 0 (by omega)
 have h1:=hk 1 (by omega)
 have h2:=hk 2 (by omega)
 have h3:=hk 3 (by omega)
 simp only [argZ,List.getD_cons_zero,List.getD_cons_succ] at h0 h1 h2 h3
 simp [okI,h,h0,h1,h2,h3]

theorem okI_not {cells size:Int} {i:InsZ} {k:Nat} (hk:k<4) (h:fitsZ (fo i.op k) (argZ i k) cells size=false):okI cells size i=false:=by
 have:k=0∨k=1∨k=2∨k=3:=by omega
 rcases this with rfl | rfl | rfl | rfl <;> simp only [argZ,List.getD_cons_zero,List.getD_cons_succ] at h <;> simp [okI,h]

theorem right_not {p:List InsZ} {cells:Int} {j:Nat} {x:InsZ} (hx:p[j]? = some x) (h:okI cells p.length x=false):rightZ p cells=false:=by
 have:p.all (okI cells p.length)=false:=by
  rw [List.all_eq_false]
  exact ⟨x,List.mem_of_getElem? hx,by simp [h]⟩
 simp [rightZ,this]

theorem notT {b:Bool} (h:(!b)=true):b=false:=by cases b <;> simp_all
theorem notF {b:Bool} (h:(!b)=false):b=true:=by cases b <;> simp_all

theorem gIns {l:List InsZ} {i:Nat} {x:InsZ} (h:l[i]? = some x):(l.map rowIns)[0+Int.toNat (i:Int)]? = some (rowIns x):=by simp [h]

section

variable {K:KP}

theorem right {p:List InsZ} {k:Nat} {ro nn:Bool} {c:Option Nat} (cells:Int) (hk:p.length=k) (hkb:k<1000000)
 (h0:rightZ p cells=true→K (cv .niliface) [] [.rows ro 5 (p.map rowIns)])
 (h1:rightZ p cells=false→∀ e:Int,K (cv (.iface 68 (.f (.int .i64 e)))) [] [.rows ro 5 (p.map rowIns)])
 (h2:rightZ p cells=false→∀ e i:Int,K (cv (.iface 108 (.ptr 1 0))) [] [.rows ro 5 (p.map rowIns),.one [.f (.int .i64 e),.f (.int .i64 i)]]) :
 Does Tryz.prog 45 [cv (.slc 0 0 k c nn),i64 cells] [.rows ro 5 (p.map rowIns)] K:=by
 refine Does.keep 1 rfl ?_
 refine does Tryz.func45 rfl (by decide) ?_
 refine SS.inlR ?_
 refine bZ (fun h=>?_) (fun hc0=>?_)
 · have:=oTr h
   exact ⟨1,[0],[.rows ro 5 (p.map rowIns)],cv (.iface 68 (.f (.int .i64 2))),rfl,rfl,by decide,by decide,rfl,rfl,rfl,rfl,rfl,h1 (by simp [rightZ];omega) 2⟩
 have hc0:=oFa hc0
 refine bZ (fun h=>?_) (fun hc1=>?_)
 · have:=oTr h
   exact ⟨1,[0],[.rows ro 5 (p.map rowIns)],cv (.iface 68 (.f (.int .i64 2))),rfl,rfl,by decide,by decide,rfl,rfl,rfl,rfl,rfl,h1 (by simp [rightZ];omega) 2⟩
 have hc1:=oFa hc1
 refine bZ (fun h=>?_) (fun hl0=>?_)
 · have:k=0:=by simpa using h
   exact ⟨1,[0],[.rows ro 5 (p.map rowIns)],cv (.iface 68 (.f (.int .i64 8))),rfl,rfl,by decide,by decide,rfl,rfl,rfl,rfl,rfl,h1 (by simp [rightZ];omega) 8⟩
 have hl0:k≠0:=by simpa using hl0
 refine bZ (fun h=>?_) (fun hl1=>?_)
 · have:=oTr h
   exact ⟨1,[0],[.rows ro 5 (p.map rowIns)],cv (.iface 68 (.f (.int .i64 4))),rfl,rfl,by decide,by decide,rfl,rfl,rfl,rfl,rfl,h1 (by simp [rightZ];omega) 4⟩
 have hl1:=oFa hl1
 refine SS.loop (fun i:Nat=>i≤k∧∀ (j:Nat) (x:InsZ),j<i→p[j]? = some x→okI cells k x=true) (fun i=>[(0,cv (.slc 0 0 k c nn)),(1,i64 cells),(29,cv (.slc 0 0 k c nn)),(30,i64 k),(31,i64 i)]) (fun _=>[.rows ro 5 (p.map rowIns)]) (fun i=>k-i) []
  (At.mk' [0,1,29,30,31] 0 ⟨by simp,fun j x hj=>absurd hj (by simp)⟩ ⟨rfl,rfl⟩ rfl rfl (by simp) (by simp) (by simp)) ?_
 rintro i ⟨hi,hok⟩
 change i≤k at hi
 refine S_r ?_
 refine bZ (fun hlt=>?_) (fun hlt=>?_)
 · have hlt:i<k:=by
    have:=oTr hlt
    have:(i:Int)<(k:Int):=this
    omega
   obtain ⟨x,hx⟩ : ∃ x,p[i]? = some x:=⟨_,List.getElem?_eq_getElem (by omega)⟩
   refine SS.inlR ?_
   refine at2 (a:=(0:Int)≤(i:Int)) (b:=(i:Int)<(k:Int)) (by omega) (by omega) (rdA (rowIns x) (gIns hx) ?_)
   refine bZ (fun h=>?_) (fun ho=>?_)
   · have:=oTr h
     exact ⟨3,[0,2],[.rows ro 5 (p.map rowIns),.one [.f (.int .i64 1),.f (.int .i64 i)]],cv (.iface 108 (.ptr 1 0)),rfl,rfl,by decide,by decide,rfl,rfl,rfl,rfl,rfl,h2 (right_not hx (by simp [okI];omega)) 1 i⟩
   have ho:=oFa ho
   refine bZ (fun h=>?_) (fun ho2=>?_)
   · have:=oTr h
     exact ⟨3,[0,2],[.rows ro 5 (p.map rowIns),.one [.f (.int .i64 1),.f (.int .i64 i)]],cv (.iface 108 (.ptr 1 0)),rfl,rfl,by decide,by decide,rfl,rfl,rfl,rfl,rfl,h2 (right_not hx (by simp [okI];omega)) 1 i⟩
   have ho2:=oFa ho2
   change Does Tryz.prog 99 _ _ _
   refine Does.alone 2 (form x.op (by omega) ?_)
   refine SS.loop (fun m:Nat=>m≤4∧∀ j,j<m→fitsZ (fo x.op j) (argZ x j) cells k=true)
    (fun m=>[(0,cv (.slc 0 0 k c nn)),(1,i64 cells),(29,cv (.slc 0 0 k c nn)),(30,i64 k),(31,i64 i),(5,i64 i),(7,cv (.ptr 2 0)),(59,.p (.agg [.f (.int .i64 x.a),.f (.int .i64 x.b),.f (.int .i64 x.c),.f (.int .i64 x.d)])),(60,i64 m)])
    (fun _=>[.rows ro 5 (p.map rowIns),.one [.f (.int .i64 x.op),.f (.int .i64 x.a),.f (.int .i64 x.b),.f (.int .i64 x.c),.f (.int .i64 x.d)],.one [.f (.int .i64 (fo x.op 0)),.f (.int .i64 (fo x.op 1)),.f (.int .i64 (fo x.op 2)),.f (.int .i64 (fo x.op 3))]]) (fun m=>4-m) []
    (At.mk' [0,1,29,30,31,5,7,59,60] 0 ⟨by simp,fun j hj=>absurd hj (by simp)⟩ ⟨rfl,rfl⟩ rfl rfl (by simp) (by simp) (by simp)) ?_
   rintro m ⟨hm,hfit⟩
   change m≤4 at hm
   refine S_r ?_
   refine bZ (fun hlt2=>?_) (fun hlt2=>?_)
   · have hlt2:m<4:=by
      have:=oTr hlt2
      have:(m:Int)<4:=this
      omega
     have key:∀ b:Bool,fitsZ (fo x.op m) (argZ x m) cells k=b→(b=true→∀ j,j<m+1→fitsZ (fo x.op j) (argZ x j) cells k=true)∧(b=false→rightZ p cells=false):=fun b hb=>⟨fun e j hj=>by
      subst e
      rcases Nat.lt_succ_iff_lt_or_eq.1 hj with h | rfl
      · exact hfit j h
      · exact hb,fun e=>by
      subst e
      exact right_not hx (okI_not hlt2 (by rw [hk];exact hb))⟩
     have hm4:m=0∨m=1∨m=2∨m=3:=by omega
     refine SS.inlR ?_
     refine at2 (a:=(0:Int)≤(m:Int)) (b:=(m:Int)<(4:Nat)) (by omega) (by omega) ?_
     refine Exists.intro (.f (.int .i64 (argZ x m))) (And.intro (by rcases hm4 with rfl | rfl | rfl | rfl <;> rfl) ?_)
     rcases hm4 with rfl | rfl | rfl | rfl
     all_goals
      refine at2 (by decide) (by decide) ?_
      change Does Tryz.prog 100 _ _ _
      refine Does.alone 3 (fits _ _ _ _ ?_)
      obtain ⟨key1,key2⟩:=key _ rfl
      refine bZ (fun h=>?_) (fun h=>?_)
      · have h':=notT h
        exact ⟨4,[0,3],[.rows ro 5 (p.map rowIns),.one [.f (.int .i64 2),.f (.int .i64 i)]],cv (.iface 108 (.ptr 1 0)),rfl,rfl,by decide,by decide,rfl,rfl,rfl,rfl,rfl,h2 (key2 h') 2 i⟩
      · have h':=notF h
        refine At.mk' [0,1,29,30,31,5,7,59,60] _ ⟨⟨hlt2,key1 h'⟩,by decide⟩ ⟨rfl,rfl⟩ rfl rfl (by simp) (by simp) (by simp)
   · have hlt2:¬(m:Int)<4:=oFa hlt2
     obtain rfl:m=4:=by omega
     refine At.mk' [0,1,29,30,31] (i+1) ⟨⟨hlt,fun j y hj hy=>?_⟩,by omega⟩ ⟨?_,rfl⟩ rfl rfl (by simp) (by simp) (by simp)
     · rcases Nat.lt_succ_iff_lt_or_eq.1 hj with h | rfl
       · exact hok j y h hy
       · rw [hx] at hy;cases hy
         exact okI_args (by omega) hfit
     · rw [wrap_i64 (i+1) (by omega) (by omega)]
       rfl
 · have hlt:¬(i:Int)<(k:Int):=oFa hlt
   obtain rfl:k=i:=by omega
   obtain ⟨x,hx⟩ : ∃ x,p[k-1]? = some x:=⟨_,List.getElem?_eq_getElem (by omega)⟩
   have hlast:lastOp p=x.op:=by
    rw [lastOp,List.getLast?_eq_getElem?,hk,hx]
    rfl
   have e0:IntKind.i64.wrap ((k:Int)-1)=((k-1:Nat):Int):=by rw [wrap_i64 _ (by omega) (by omega)];omega
   have hall:p.all (okI cells p.length)=true:=by
    rw [List.all_eq_true]
    intro y hy
    obtain ⟨j,hj⟩:=List.mem_iff_getElem?.1 hy
    rw [hk]
    exact hok j y (by have:=(List.getElem?_eq_some_iff.1 hj).1;omega) hj
   refine at2 (a:=(0:Int)≤IntKind.i64.wrap ((k:Int)-1)) (b:=IntKind.i64.wrap ((k:Int)-1)<(k:Int)) (by rw [e0];omega) (by rw [e0];omega) (rd1 (rowIns x) (.int .i64 x.op) (by rw [e0];exact gIns hx) rfl ?_)
   have key:x.op=0∨x.op=10→rightZ p cells=true:=fun h=>by
    simp only [rightZ,hall,hlast,Bool.and_true,Bool.and_eq_true,decide_eq_true_eq,Bool.or_eq_true,beq_iff_eq]
    exact ⟨⟨by omega,by omega⟩,h⟩
   have key2:x.op≠0→x.op≠10→rightZ p cells=false:=fun h h'=>by
    simp [rightZ,hlast,h,h']
   refine bZ (fun h=>?_) (fun h=>?_)
   · have h:=(bne_iff_ne).1 h
     refine bZ (fun h'=>?_) (fun h'=>?_)
     · have h':=(bne_iff_ne).1 h'
       exact ⟨2,[0,1],[.rows ro 5 (p.map rowIns),.one [.f (.int .i64 7),.f (.int .i64 (IntKind.i64.wrap ((k:Int)-1)))]],cv (.iface 108 (.ptr 1 0)),rfl,rfl,by decide,by decide,rfl,rfl,rfl,rfl,rfl,h2 (key2 h h') 7 _⟩
     · have h':=(bne_eq_false_iff_eq).1 h'
       exact ⟨1,[0],[.rows ro 5 (p.map rowIns)],cv .niliface,rfl,rfl,by decide,by decide,rfl,rfl,rfl,rfl,rfl,h0 (key (.inr h'))⟩
   · have h:=(bne_eq_false_iff_eq).1 h
     exact ⟨1,[0],[.rows ro 5 (p.map rowIns)],cv .niliface,rfl,rfl,by decide,by decide,rfl,rfl,rfl,rfl,rfl,h0 (key (.inl h))⟩

theorem rightRow {ps:List (List InsZ)} {p:List InsZ} {i:Nat} {ro:Bool} (cells:Int) (hp:(ps.map fun p=>p.map rowIns)[i]? = some (p.map rowIns)) (hkb:p.length<1000000)
 (h0:rightZ p cells=true→K (cv .niliface) [] [.rows2 ro 5 (ps.map fun p=>p.map rowIns)])
 (h1:rightZ p cells=false→∀ e:Int,K (cv (.iface 68 (.f (.int .i64 e)))) [] [.rows2 ro 5 (ps.map fun p=>p.map rowIns)])
 (h2:rightZ p cells=false→∀ e i:Int,K (cv (.iface 108 (.ptr 1 0))) [] [.rows2 ro 5 (ps.map fun p=>p.map rowIns),.one [.f (.int .i64 e),.f (.int .i64 i)]]) :
 Does Tryz.prog 45 [cv (.islc 0 i 0 (p.map rowIns).length none false),i64 cells] [.rows2 ro 5 (ps.map fun p=>p.map rowIns)] K:=by
 refine Does.row (args:=[i64 cells]) (Hl:=[]) (ro:=ro) (sz:=5) (p.map rowIns) hp rfl ?_
 refine right (p:=p) (ro:=true) cells (by simp) (by simpa using hkb) (fun h=>⟨by cases ro <;> rfl,h0 h⟩) (fun h e=>⟨by cases ro <;> rfl,h1 h e⟩) fun h e j=>⟨by cases ro <;> rfl,h2 h e j⟩

end
end
section
structure ThZ where
 pc:Nat
 rg:List Int
 dn:Bool

structure ActZ where
 w:Int
 t:Int
 o:Int
 c:Int
 x:Int
 y:Int

structure MZ where
 ps:List (List InsZ)
 ts:List ThZ
 ws:List Int
 ss:List Slp
 al:List ActZ
 el:List EvZ
 k:Nat
 nc:Nat

abbrev rowT (x:ThZ):List FC:=.int .i64 x.pc::(x.rg.map (FC.int .u64)++[.bool x.dn])
abbrev rowAct (x:ActZ):List FC:=[.int .i64 x.w,.int .i64 x.t,.int .i64 x.o,.int .i64 x.c,.int .u64 x.x,.int .u64 x.y]

abbrev u64m (x:Int):Int:=IntKind.u64.wrap x
def bitsZ (r c d:Int):Int:=IntKind.u64.wrap ((BitVec.ofInt 64 (r.fdiv (2 ^ (min c.toNat 64))) &&& BitVec.ofInt 64 (IntKind.u64.wrap (IntKind.u64.wrap (1*2 ^ (min d.toNat 64))-1))).toNat)
def rgZ (r:List Int) (j:Int):Int:=r.getD j.toNat 0
def rgS (r:List Int) (j v:Int):List Int:=r.set j.toNat v

def localZ (x:ThZ) (i:InsZ):Option ThZ :=
 if i.op=0 then some { x with dn:=true }
 else if i.op=1 then some { x with rg:=rgS x.rg i.a (u64m i.b) }
 else if i.op=2 then some { x with rg:=rgS x.rg i.a (rgZ x.rg i.b) }
 else if i.op=3 then some { x with rg:=rgS x.rg i.a (u64m (rgZ x.rg i.b+u64m i.c)) }
 else if i.op=4 then some { x with rg:=rgS x.rg i.a (u64m (rgZ x.rg i.b+rgZ x.rg i.c)) }
 else if i.op=5 then some { x with rg:=rgS x.rg i.a (bitsZ (rgZ x.rg i.b) i.c i.d) }
 else if i.op=10 then some { x with pc:=i.a.toNat }
 else if i.op=11 then some (if rgZ x.rg i.a=u64m i.b then { x with pc:=i.c.toNat } else x)
 else if i.op=12 then some (if rgZ x.rg i.a<rgZ x.rg i.b then { x with pc:=i.c.toNat } else x)
 else if i.op=13 then some (if rgZ x.rg i.a=rgZ x.rg i.b then { x with pc:=i.c.toNat } else x)
 else none

def MZ.th (m:MZ) (t:Nat) (x:ThZ):MZ:={ m with ts:=m.ts.set t x }
def MZ.act (m:MZ) (t o c x y:Int):MZ:={ m with al:=m.al++[⟨m.k,t,o,c,x,y⟩] }

def offZ (x:ThZ) (i:InsZ):Option Int :=
 if i.c<0 then some i.a else if 300≤rgZ x.rg i.c then none else some (i.a+rgZ x.rg i.c)

def farZ (m:MZ) (t:Nat) (x:ThZ) (i:InsZ):Option MZ :=
 if i.op=6 then some ((m.th t { x with rg:=rgS x.rg i.a (rgZ m.ws i.b) }).act t 6 i.b (rgZ m.ws i.b) (rgZ m.ws i.b))
 else if i.op=8 then some ({ m.th t { x with rg:=rgS x.rg i.a (rgZ m.ws i.b) } with ws:=rgS m.ws i.b (u64m (rgZ m.ws i.b+u64m i.c)) }.act t 8 i.b (rgZ m.ws i.b) (u64m (rgZ m.ws i.b+u64m i.c)))
 else if i.op=9 then
  if rgZ m.ws i.b=rgZ x.rg i.c then some ({ m.th t { x with rg:=rgS x.rg i.a 1 } with ws:=rgS m.ws i.b (rgZ x.rg i.d) }.act t 9 i.b (rgZ m.ws i.b) (rgZ x.rg i.d))
  else some ((m.th t { x with rg:=rgS x.rg i.a 0 }).act t 9 i.b (rgZ m.ws i.b) (rgZ m.ws i.b))
 else if i.op=14 then some (if rgZ m.ws i.a=rgZ x.rg i.b then { m with ss:=m.ss++[⟨t,i.a⟩] } else m)
 else if i.op=16 then some { m with el:=m.el++[⟨m.k,i.a,t,IntKind.i64.wrap (rgZ x.rg i.b)⟩] }
 else match offZ x i with
  | none=>none
  | some c=>if c<m.nc then
     if i.op=15 then some { m with ss:=(wakeL c i.b 0 m.ss).2 }
     else some ({ m with ws:=rgS m.ws c (rgZ x.rg i.b) }.act t i.op c (rgZ m.ws c) (rgZ x.rg i.b))
    else none

def insZ (m:MZ) (t:Nat) (pc:Nat):InsZ:=((m.ps.getD t []).getD pc ⟨0,0,0,0,0⟩)
def thZ (m:MZ) (t:Nat):ThZ:=m.ts.getD t ⟨0,[],true⟩

def onZ (m:MZ) (t:Nat):MZ:={ m with k:=m.k+1 }.th t { thZ m t with pc:=(thZ m t).pc+1 }

def doZ (m:MZ) (t:Nat) (x:ThZ) (i:InsZ):Int×MZ :=
 match localZ x i with
 | some x'=>(0,m.th t x')
 | none =>
   match farZ m t x i with
   | some m'=>(0,m')
   | none=>(13,m.th t { x with dn:=true })

def goZ (m:MZ) (t:Nat):Int×MZ:=doZ (onZ m t) t { thZ m t with pc:=(thZ m t).pc+1 } (insZ m t (thZ m t).pc)

def asleepZ (m:MZ) (t:Int):Bool:=m.ss.any fun s=>s.t == t

def stepZ (m:MZ) (t:Int):Int×MZ :=
 if t<0∨(m.ts.length:Int)≤t then (2,m)
 else if (thZ m t.toNat).dn then (6,m)
 else if asleepZ m t then (8,m)
 else if m.k=20000 then (4,m)
 else goZ m t.toNat

structure WF (m:MZ):Prop where
 ps:m.ps.length=m.ts.length
 n:m.ts.length≤16
 right:∀ p∈m.ps,rightZ p m.nc=true
 rg:∀ x∈m.ts,x.rg.length=8∧∀ v∈x.rg,0≤v∧v<18446744073709551616
 pc:∀ (t:Nat) (x:ThZ) (p:List InsZ),m.ts[t]? = some x→m.ps[t]? = some p→x.pc≤p.length∧(x.dn=false→x.pc<p.length)
 nc:m.ws.length=m.nc
 ws:m.ws.length≤300∧∀ v∈m.ws,0≤v∧v<18446744073709551616
 ss:(m.ss.map (·.t)).Nodup∧∀ s∈m.ss,0≤s.t∧s.t<m.ts.length∧0≤s.c∧s.c<m.nc
 al:m.al.length≤m.k
 el:m.el.length≤m.k
 k:m.k≤20000
 sl:m.ss.length≤m.k

structure VZ where
 np:Bool
 na:Bool
 ne:Bool
 nm:Bool
 nl:Bool
 ex:List Slp

def okV (v:VZ):Prop:=v.ex≠[]→v.nl=true

abbrev machH (m:MZ) (v:VZ):List PO :=
 [.one [.slc 1 0 m.ps.length none v.np,.slc 2 0 m.ps.length none true,.ptr 3 0,.ptr 5 0,.slc 7 0 m.al.length none v.na,.slc 8 0 m.el.length none v.ne,.f (.int .i64 m.k)],
  .rows2 false 5 (m.ps.map fun p=>p.map rowIns),.rows false 10 (m.ts.map rowT),.one [.slc 4 0 m.nc none v.nm],.rows false 1 (m.ws.map rowU),
  .one [.f (.int .i64 m.ps.length),.slc 6 0 m.ss.length none v.nl],.rows false 2 ((m.ss++v.ex).map rowS),.rows false 6 (m.al.map rowAct),.rows false 4 (m.el.map rowEv)]
end
end Go.Mac
end
