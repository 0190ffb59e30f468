import Derived.Test.YtollgfhpcidkgaaGreatDoorA24
open Go Go.Proofs Go.Mac
set_option maxRecDepth 100000

namespace Go.Mac

theorem cmp_ltM {x y:Int}:cmpZ x y<0↔x<y:=by
 rw [cmpZ]
 split
 · simp;assumption
 · split <;> simp <;> omega

abbrev halfZ (p q:Int):Int:=IntKind.i64.wrap ((IntKind.u64.wrap (IntKind.i64.wrap (p+q))).fdiv (2 ^ min (Int.toNat 1) IntKind.u64.bits))

theorem half_z {p q:Nat} (h:p+q<4611686018427387904):halfZ (p:Int) (q:Int)=(((p+q) / 2:Nat):Int):=by
 have e1:(2:Int) ^ min (Int.toNat 1) IntKind.u64.bits=2:=rfl
 rw [halfZ,e1,wrap_i64 ((p:Int)+(q:Int)) (by omega) (by omega),wrap_u64 _ (by omega) (by omega),Int.fdiv_eq_ediv_of_nonneg _ (by omega),wrap_i64 _ (by omega) (by omega)]
 omega

theorem rows_at {l:List PtZ} {j:Nat} {z:Int} {x:PtZ} (hz:z=(j:Int)) (h:l[j]? = some x):(l.map rowPt)[0+Int.toNat z]? = some (rowPt x):=by
 rw [hz,Nat.zero_add,Int.toNat_natCast,List.getElem?_map,h];rfl

theorem swap_a (P R:List PtZ) (x y:PtZ):((P++x::(y::R)).set P.length y).set (P.length+1) x=P++y::(x::R):=by
 simp

theorem swap_b (P R:List PtZ) (x y:PtZ):((P++x::(y::R)).set (P.length+1) x).set P.length y=P++y::(x::R):=by
 rw [List.set_append_right _ _ (by omega),show P.length+1-P.length=1 by omega,List.set_append_right _ _ (by omega),Nat.sub_self]
 rfl

theorem get_snd (P R:List PtZ) (x y:PtZ):(P++x::(y::R))[P.length+1]? = some y:=by
 rw [List.getElem?_append_right (by omega),show P.length+1-P.length=1 by omega];rfl

theorem rows_two {l l':List PtZ} {i j:Nat} {p q:Int} {x y:PtZ} (hp:p=(i:Int)) (hq:q=(j:Int)) (h:(l.set i x).set j y=l'):(((l.map rowPt).set (0+Int.toNat p) (rowPt x)).set (0+Int.toNat q) (rowPt y))=l'.map rowPt:=by
 rw [hp,hq,Nat.zero_add,Nat.zero_add,Int.toNat_natCast,Int.toNat_natCast,←List.map_set,←List.map_set,h]

theorem rows_aft {l:List PtZ} {i j:Nat} {p q:Int} {x y:PtZ} (hp:p=(i:Int)) (hq:q=(j:Int)) (hne:i≠j) (h:l[j]? = some y):((l.map rowPt).set (0+Int.toNat p) (rowPt x))[0+Int.toNat q]? = some (rowPt y):=by
 rw [hp,hq,Nat.zero_add,Nat.zero_add,Int.toNat_natCast,Int.toNat_natCast,List.getElem?_set_ne hne,List.getElem?_map,h];rfl

section

set_option maxHeartbeats 4000000 in
theorem symMerge:(N:Nat)→∀ {A X Y B:List PtZ} {k a m b:Nat} {nn:Bool} {K:KP},X.length+Y.length≤N→A.length=a→a+X.length=m→m+Y.length=b→0<X.length→0<Y.length→(A++(X++(Y++B))).length=k→k≤1000000→Srt X→Srt Y →
  (∀ Z,St (X++Y) Z→K undefA [] [.rows false 4 ((A++(Z++B)).map rowPt)]) →
  Does Tryz.prog 265 [cv (.slc 0 0 k none nn),i64 a,i64 m,i64 b,pfn] [.rows false 4 ((A++(X++(Y++B))).map rowPt)] K
 | 0,A,X,Y,B,k,a,m,b,nn,K,hN,ha,hm,hb,hX,hY,hk,hkb,hsx,hsy,h=>by omega
 | N+1,A,X,Y,B,k,a,m,b,nn,K,hN,ha,hm,hb,hX,hY,hk,hkb,hsx,hsy,h=>by
   refine does Tryz.func265 rfl (by decide) ?_
   have hkl:=hk
   simp only [List.length_append] at hkl
   have wma:IntKind.i64.wrap ((m:Int)-(a:Int))=(X.length:Int):=by rw [wrap_i64 _ (by omega) (by omega)];omega
   have wbm:IntKind.i64.wrap ((b:Int)-(m:Int))=(Y.length:Int):=by rw [wrap_i64 _ (by omega) (by omega)];omega
   refine bZ (fun h1=>?_) (fun h1=>?_)
   · have h1:X.length=1:=by
      have h1:(IntKind.i64.wrap ((m:Int)-(a:Int)) == 1)=true:=h1
      rw [wma] at h1
      have:=beq_iff_eq.1 h1
      omega
     obtain ⟨x,rfl⟩ : ∃ x,X=[x]:=List.length_eq_one_iff.1 h1
     clear hX h1 hsx
     refine SS.loop (fun s:Nat×Nat=>s.1≤s.2∧s.2≤Y.length∧(∀ q y,q<s.1→Y[q]? = some y→y.w<x.w)∧∀ q y,s.2≤q→Y[q]? = some y→x.w≤y.w)
      (fun s=>[(0,cv (.slc 0 0 k none nn)),(1,i64 a),(4,pfn),(10,i64 (m+s.1:Nat)),(11,i64 (m+s.2:Nat))]) (fun _=>[.rows false 4 ((A++([x]++(Y++B))).map rowPt)]) (fun s=>s.2-s.1) []
      (At.mk' [0,1,4,10,11] (0,Y.length) ⟨Nat.zero_le _,Nat.le_refl _,fun q y hq=>by omega,fun q y hq hy=>by have:=(List.getElem?_eq_some_iff.1 hy).1;omega⟩ ⟨by rw [hb];rfl,rfl⟩ rfl rfl (by simp) (by simp) (by simp)) ?_
     rintro ⟨u,v⟩ ⟨huv,hv,hlo,hhi⟩
     dsimp only at huv hv hlo hhi
     refine S_r ?_
     refine bZ (fun hlt=>?_) (fun hlt=>?_)
     · have hlt:u<v:=by
        have:=oTr hlt
        have:((m+u:Nat):Int)<((m+v:Nat):Int):=this
        omega
       have hw:(m+u+(m+v)) / 2=m+(u+v) / 2:=by omega
       obtain ⟨w,hwe⟩ : ∃ w,(u+v) / 2=w:=⟨_,rfl⟩
       have wh:halfZ ((m+u:Nat):Int) ((m+v:Nat):Int)=((m+w:Nat):Int):=by rw [half_z (by omega),hw,hwe]
       obtain ⟨y,hy⟩ : ∃ y,Y[w]? = some y:=⟨_,List.getElem?_eq_getElem (by omega)⟩
       have gh:(A++([x]++(Y++B)))[m+w]? = some y:=by
        rw [←List.append_assoc,List.getElem?_append_right (by rw [List.length_append,List.length_singleton];simp at hm;omega),show m+w-(A++[x]).length=w by rw [List.length_append,List.length_singleton];simp at hm;omega,List.getElem?_append_left (by omega)]
        exact hy
       have ga:(A++([x]++(Y++B)))[a]? = some x:=by rw [←ha];exact get_one _ _ _
       have c1:(0:Int)≤halfZ ((m+u:Nat):Int) ((m+v:Nat):Int)∧halfZ ((m+u:Nat):Int) ((m+v:Nat):Int)<(k:Int):=by rw [wh];omega
       have c2:(0:Int)≤(a:Int)∧(a:Int)<(k:Int):=by omega
       refine SS.drawR follows (by decide) ?_
       refine at2 c1.1 c1.2 (rdA (rowPt y) (rows_at wh gh) ?_)
       refine at2 c2.1 c2.2 (rdA (rowPt x) (rows_at rfl ga) ?_)
       change Does Tryz.prog 187 _ _ _
       refine Does.alone 1 (cmpPt y x ?_)
       refine bZ (fun hc=>?_) (fun hc=>?_)
       · have hc:y.w<x.w:=cmp_ltM.1 (oTr hc)
         refine At.mk' [0,1,4,10,11] (w+1,v) ⟨⟨by omega,hv,fun q z hq hz=>?_,hhi⟩,by dsimp only;omega⟩ ⟨?_,rfl⟩ rfl rfl (by simp) (by simp) (by simp)
         · have:=hsy.get (show q≤w by omega) hz hy
           omega
         · exact congrArg (fun z=>[(0,cv (.slc 0 0 k none nn)),(1,i64 a),(4,pfn),(10,i64 z),(11,i64 (m+v:Nat))]) (show IntKind.i64.wrap (halfZ ((m+u:Nat):Int) ((m+v:Nat):Int)+1)=((m+(w+1):Nat):Int) by rw [wh,wrap_i64 _ (by omega) (by omega)];omega)
       · have hc:¬y.w<x.w:=fun hh=>oFa hc (cmp_ltM.2 hh)
         refine At.mk' [0,1,4,10,11] (u,w) ⟨⟨by omega,by omega,hlo,fun q z hq hz=>?_⟩,by dsimp only;omega⟩ ⟨?_,rfl⟩ rfl rfl (by simp) (by simp) (by simp)
         · have:=hsy.get hq hy hz
           omega
         · exact congrArg (fun z=>[(0,cv (.slc 0 0 k none nn)),(1,i64 a),(4,pfn),(10,i64 (m+u:Nat)),(11,i64 z)]) wh
     · have hlt:¬u<v:=by
        have:=oFa hlt
        have:¬((m+u:Nat):Int)<((m+v:Nat):Int):=this
        omega
       obtain rfl:u=v:=by omega
       clear hlt
       simp only [List.length_singleton] at hm hkl
       refine SS.loop (fun c:Nat=>c≤u) (fun c=>[(0,cv (.slc 0 0 k none nn)),(10,i64 (m+u:Nat)),(13,i64 (a+c:Nat))]) (fun c=>[.rows false 4 ((A++(Y.take c++x::(Y.drop c++B))).map rowPt)]) (fun c=>u-c) []
        (At.mk' [0,10,13] 0 (Nat.zero_le _) ⟨rfl,rfl⟩ (by simp) rfl (by simp) (by simp) (by simp)) ?_
       intro c hcu
       change c≤u at hcu
       have wu:IntKind.i64.wrap (((m+u:Nat):Int)-1)=((a+u:Nat):Int):=by rw [wrap_i64 _ (by omega) (by omega)];omega
       have wc:IntKind.i64.wrap (((a+c:Nat):Int)+1)=((a+(c+1):Nat):Int):=by rw [wrap_i64 _ (by omega) (by omega)];omega
       refine S_r ?_
       refine bZ (fun hlt=>?_) (fun hlt=>?_)
       · have hlt:c<u:=by
          have hlt:=oTr hlt
          have hlt:((a+c:Nat):Int)<IntKind.i64.wrap (((m+u:Nat):Int)-1):=hlt
          rw [wu] at hlt
          omega
         obtain ⟨y,hy⟩ : ∃ y,Y[c]? = some y:=⟨_,List.getElem?_eq_getElem (by omega)⟩
         have hAl:(A++Y.take c).length=a+c:=by rw [List.length_append,List.length_take];omega
         have e1:A++(Y.take c++x::(Y.drop c++B))=(A++Y.take c)++x::(y::(Y.drop (c+1)++B)):=by
          obtain ⟨hy1,hy2⟩:=List.getElem?_eq_some_iff.1 hy
          rw [List.drop_eq_getElem_cons hy1,hy2];simp
         have e2:A++(Y.take (c+1)++x::(Y.drop (c+1)++B))=(A++Y.take c)++y::(x::(Y.drop (c+1)++B)):=by
          rw [List.take_add_one,hy];simp
         have g1:(A++(Y.take c++x::(Y.drop c++B)))[a+c]? = some x:=by rw [e1,←hAl];exact get_one _ _ _
         have g2:(A++(Y.take c++x::(Y.drop c++B)))[a+(c+1)]? = some y:=by rw [e1,show a+(c+1)=(A++Y.take c).length+1 by omega];exact get_snd _ _ _ _
         have hsw:((A++(Y.take c++x::(Y.drop c++B))).set (a+c) y).set (a+(c+1)) x=A++(Y.take (c+1)++x::(Y.drop (c+1)++B)):=by
          rw [e1,e2,show a+(c+1)=(A++Y.take c).length+1 by omega,←hAl];exact swap_a _ _ _ _
         clear e1 e2
         generalize A++(Y.take c++x::(Y.drop c++B))=l at g1 g2 hsw
         have c1:(0:Int)≤((a+c:Nat):Int)∧((a+c:Nat):Int)<(k:Int):=by omega
         have c2:(0:Int)≤IntKind.i64.wrap (((a+c:Nat):Int)+1)∧IntKind.i64.wrap (((a+c:Nat):Int)+1)<(k:Int):=by rw [wc];omega
         refine SS.drawR follows (by decide) ?_
         refine at2 c2.1 c2.2 (rdA (rowPt y) (rows_at wc g2) ?_)
         refine at2 c1.1 c1.2 (rdA (rowPt x) (rows_at rfl g1) ?_)
         refine at2 c1.1 c1.2 ?_
         refine wr1 (rowPt x) (rows_at rfl g1) ?_
         repeat' (first | refine And.intro rfl ?_ | refine And.intro (And.intro c1.1 (And.intro c1.2 rfl)) ?_ | refine And.intro (And.intro c2.1 (And.intro c2.2 rfl)) ?_ | fail)
         refine at2 c2.1 c2.2 ?_
         refine wr1 (rowPt y) (rows_aft rfl wc (by omega) g2) ?_
         repeat' (first | refine And.intro rfl ?_ | refine And.intro (And.intro c1.1 (And.intro c1.2 rfl)) ?_ | refine And.intro (And.intro c2.1 (And.intro c2.2 rfl)) ?_ | fail)
         refine At.mk' [0,10,13] (c+1) ⟨by show c+1≤u;omega,by omega⟩ ⟨?_,rfl⟩ ?_ rfl (by simp) (by simp) (by simp)
         · rw [wc]
         · show [PO.rows false 4 _]=[PO.rows false 4 _]
           rw [rows_two (l':=A++(Y.take (c+1)++x::(Y.drop (c+1)++B))) rfl wc hsw]
       · have hlt:¬c<u:=by
          have hlt:=oFa hlt
          have hlt:¬((a+c:Nat):Int)<IntKind.i64.wrap (((m+u:Nat):Int)-1):=hlt
          rw [wu] at hlt
          omega
         obtain rfl:c=u:=by omega
         have hfin:=h (Y.take c++([x]++Y.drop c)) (by
          have:=St.front (x:=x) (Y1:=Y.take c) (Y2:=Y.drop c) (by rw [List.take_append_drop];exact hsy) (fun z hz=>?_) fun z hz=>?_
          · rw [List.take_append_drop] at this
            exact this
          · obtain ⟨q,hq⟩:=List.mem_iff_getElem?.1 hz
            have hql:=(List.getElem?_eq_some_iff.1 hq).1
            rw [List.length_take] at hql
            rw [List.getElem?_take_of_lt (by omega)] at hq
            exact hlo q z (by omega) hq
          · obtain ⟨q,hq⟩:=List.mem_iff_getElem?.1 hz
            rw [List.getElem?_drop] at hq
            exact hhi (c+q) z (by omega) hq)
         rw [show A++((Y.take c++([x]++Y.drop c))++B)=A++(Y.take c++x::(Y.drop c++B)) by simp] at hfin
         exact hfin
   have h1:X.length≠1:=by
    have h1:(IntKind.i64.wrap ((m:Int)-(a:Int)) == 1)=false:=h1
    rw [wma] at h1
    have:=beq_eq_false_iff_ne.1 h1
    omega
   refine bZ (fun h2=>?_) (fun h2=>?_)
   · have h2:Y.length=1:=by
      have h2:(IntKind.i64.wrap ((b:Int)-(m:Int)) == 1)=true:=h2
      rw [wbm] at h2
      have:=beq_iff_eq.1 h2
      omega
     obtain ⟨y,rfl⟩ : ∃ y,Y=[y]:=List.length_eq_one_iff.1 h2
     clear hY h2 hsy
     simp only [List.length_singleton] at hb hkl
     refine SS.loop (fun s:Nat×Nat=>s.1≤s.2∧s.2≤X.length∧(∀ q x,q<s.1→X[q]? = some x→x.w≤y.w)∧∀ q x,s.2≤q→X[q]? = some x→y.w<x.w)
      (fun s=>[(0,cv (.slc 0 0 k none nn)),(2,i64 m),(4,pfn),(14,i64 (a+s.1:Nat)),(15,i64 (a+s.2:Nat))]) (fun _=>[.rows false 4 ((A++(X++([y]++B))).map rowPt)]) (fun s=>s.2-s.1) []
      (At.mk' [0,2,4,14,15] (0,X.length) ⟨Nat.zero_le _,Nat.le_refl _,fun q x hq=>by omega,fun q x hq hx=>by have:=(List.getElem?_eq_some_iff.1 hx).1;omega⟩ ⟨by rw [hm];rfl,rfl⟩ rfl rfl (by simp) (by simp) (by simp)) ?_
     rintro ⟨u,v⟩ ⟨huv,hv,hlo,hhi⟩
     dsimp only at huv hv hlo hhi
     refine S_r ?_
     refine bZ (fun hlt=>?_) (fun hlt=>?_)
     · have hlt:u<v:=by
        have:=oTr hlt
        have:((a+u:Nat):Int)<((a+v:Nat):Int):=this
        omega
       have hw:(a+u+(a+v)) / 2=a+(u+v) / 2:=by omega
       obtain ⟨w,hwe⟩ : ∃ w,(u+v) / 2=w:=⟨_,rfl⟩
       have wh:halfZ ((a+u:Nat):Int) ((a+v:Nat):Int)=((a+w:Nat):Int):=by rw [half_z (by omega),hw,hwe]
       obtain ⟨x,hx⟩ : ∃ x,X[w]? = some x:=⟨_,List.getElem?_eq_getElem (by omega)⟩
       have gh:(A++(X++([y]++B)))[a+w]? = some x:=by
        rw [List.getElem?_append_right (by omega),show a+w-A.length=w by omega,List.getElem?_append_left (by omega)]
        exact hx
       have ga:(A++(X++([y]++B)))[m]? = some y:=by
        rw [←List.append_assoc,show m=(A++X).length by rw [List.length_append];omega]
        exact get_one _ _ _
       have c1:(0:Int)≤halfZ ((a+u:Nat):Int) ((a+v:Nat):Int)∧halfZ ((a+u:Nat):Int) ((a+v:Nat):Int)<(k:Int):=by rw [wh];omega
       have c2:(0:Int)≤(m:Int)∧(m:Int)<(k:Int):=by omega
       refine SS.drawR follows (by decide) ?_
       refine at2 c2.1 c2.2 (rdA (rowPt y) (rows_at rfl ga) ?_)
       refine at2 c1.1 c1.2 (rdA (rowPt x) (rows_at wh gh) ?_)
       change Does Tryz.prog 187 _ _ _
       refine Does.alone 1 (cmpPt y x ?_)
       by_cases hc:y.w<x.w
       · have dc:decide (cmpZ y.w x.w<0)=true:=decide_eq_true (cmp_ltM.2 hc)
         refine bZ (fun hh=>?_) (fun _=>?_)
         · exfalso
           have hh:(!decide (cmpZ y.w x.w<0))=true:=hh
           rw [dc] at hh
           cases hh
         refine At.mk' [0,2,4,14,15] (u,w) ⟨⟨by omega,by omega,hlo,fun q z hq hz=>?_⟩,by dsimp only;omega⟩ ⟨?_,rfl⟩ rfl rfl (by simp) (by simp) (by simp)
         · have:=hsx.get hq hx hz
           omega
         · exact congrArg (fun z=>[(0,cv (.slc 0 0 k none nn)),(2,i64 m),(4,pfn),(14,i64 (a+u:Nat)),(15,i64 z)]) wh
       · have dc:decide (cmpZ y.w x.w<0)=false:=decide_eq_false fun hh=>hc (cmp_ltM.1 hh)
         refine bZ (fun _=>?_) (fun hh=>?_)
         rotate_left
         · exfalso
           have hh:(!decide (cmpZ y.w x.w<0))=false:=hh
           rw [dc] at hh
           cases hh
         refine At.mk' [0,2,4,14,15] (w+1,v) ⟨⟨by omega,hv,fun q z hq hz=>?_,hhi⟩,by dsimp only;omega⟩ ⟨?_,rfl⟩ rfl rfl (by simp) (by simp) (by simp)
         · have:=hsx.get (show q≤w by omega) hz hx
           omega
         · exact congrArg (fun z=>[(0,cv (.slc 0 0 k none nn)),(2,i64 m),(4,pfn),(14,i64 z),(15,i64 (a+v:Nat))]) (show IntKind.i64.wrap (halfZ ((a+u:Nat):Int) ((a+v:Nat):Int)+1)=((a+(w+1):Nat):Int) by rw [wh,wrap_i64 _ (by omega) (by omega)];omega)
     · have hlt:¬u<v:=by
        have:=oFa hlt
        have:¬((a+u:Nat):Int)<((a+v:Nat):Int):=this
        omega
       obtain rfl:u=v:=by omega
       clear hlt
       refine SS.loop (fun c:Nat=>u≤c∧c≤X.length) (fun c=>[(0,cv (.slc 0 0 k none nn)),(14,i64 (a+u:Nat)),(17,i64 (a+c:Nat))]) (fun c=>[.rows false 4 ((A++(X.take c++y::(X.drop c++B))).map rowPt)]) (fun c=>c-u) []
        (At.mk' [0,14,17] X.length ⟨hv,Nat.le_refl _⟩ ⟨by rw [hm],rfl⟩ (by simp) rfl (by simp) (by simp) (by simp)) ?_
       rintro c ⟨hcu,hcx⟩
       refine S_r ?_
       refine bZ (fun hlt=>?_) (fun hlt=>?_)
       · have hlt:u<c:=by
          have hlt:=oTr hlt
          have hlt:((a+c:Nat):Int) > ((a+u:Nat):Int):=hlt
          omega
         obtain ⟨d,rfl⟩ : ∃ d,c=d+1:=⟨c-1,by omega⟩
         have wc:IntKind.i64.wrap (((a+(d+1):Nat):Int)-1)=((a+d:Nat):Int):=by rw [wrap_i64 _ (by omega) (by omega)];omega
         obtain ⟨x,hx⟩ : ∃ x,X[d]? = some x:=⟨_,List.getElem?_eq_getElem (by omega)⟩
         have hAl:(A++X.take d).length=a+d:=by rw [List.length_append,List.length_take];omega
         have e1:A++(X.take (d+1)++y::(X.drop (d+1)++B))=(A++X.take d)++x::(y::(X.drop (d+1)++B)):=by
          rw [List.take_add_one,hx];simp
         have e2:A++(X.take d++y::(X.drop d++B))=(A++X.take d)++y::(x::(X.drop (d+1)++B)):=by
          obtain ⟨hx1,hx2⟩:=List.getElem?_eq_some_iff.1 hx
          rw [List.drop_eq_getElem_cons hx1,hx2];simp
         have g1:(A++(X.take (d+1)++y::(X.drop (d+1)++B)))[a+(d+1)]? = some y:=by rw [e1,show a+(d+1)=(A++X.take d).length+1 by omega];exact get_snd _ _ _ _
         have g2:(A++(X.take (d+1)++y::(X.drop (d+1)++B)))[a+d]? = some x:=by rw [e1,←hAl];exact get_one _ _ _
         have hsw:((A++(X.take (d+1)++y::(X.drop (d+1)++B))).set (a+(d+1)) x).set (a+d) y=A++(X.take d++y::(X.drop d++B)):=by
          rw [e1,e2,show a+(d+1)=(A++X.take d).length+1 by omega,←hAl];exact swap_b _ _ _ _
         clear e1 e2
         generalize A++(X.take (d+1)++y::(X.drop (d+1)++B))=l at g1 g2 hsw
         have c1:(0:Int)≤((a+(d+1):Nat):Int)∧((a+(d+1):Nat):Int)<(k:Int):=by omega
         have c2:(0:Int)≤IntKind.i64.wrap (((a+(d+1):Nat):Int)-1)∧IntKind.i64.wrap (((a+(d+1):Nat):Int)-1)<(k:Int):=by rw [wc];omega
         refine SS.drawR follows (by decide) ?_
         refine at2 c2.1 c2.2 (rdA (rowPt x) (rows_at wc g2) ?_)
         refine at2 c1.1 c1.2 (rdA (rowPt y) (rows_at rfl g1) ?_)
         refine at2 c1.1 c1.2 ?_
         refine wr1 (rowPt y) (rows_at rfl g1) ?_
         repeat' (first | refine And.intro rfl ?_ | refine And.intro (And.intro c1.1 (And.intro c1.2 rfl)) ?_ | refine And.intro (And.intro c2.1 (And.intro c2.2 rfl)) ?_ | fail)
         refine at2 c2.1 c2.2 ?_
         refine wr1 (rowPt x) (rows_aft rfl wc (by omega) g2) ?_
         repeat' (first | refine And.intro rfl ?_ | refine And.intro (And.intro c1.1 (And.intro c1.2 rfl)) ?_ | refine And.intro (And.intro c2.1 (And.intro c2.2 rfl)) ?_ | fail)
         refine At.mk' [0,14,17] d ⟨⟨by omega,by omega⟩,by omega⟩ ⟨?_,rfl⟩ ?_ rfl (by simp) (by simp) (by simp)
         · rw [wc]
         · show [PO.rows false 4 _]=[PO.rows false 4 _]
           rw [rows_two (l':=A++(X.take d++y::(X.drop d++B))) rfl wc hsw]
       · have hlt:¬u<c:=by
          have hlt:=oFa hlt
          have hlt:¬((a+c:Nat):Int) > ((a+u:Nat):Int):=hlt
          omega
         obtain rfl:u=c:=by omega
         have hfin:=h (X.take u++([y]++X.drop u)) (by
          have:=St.back (y:=y) (X1:=X.take u) (X2:=X.drop u) (by rw [List.take_append_drop];exact hsx) (fun z hz=>?_) fun z hz=>?_
          · rw [List.take_append_drop] at this
            exact this
          · obtain ⟨q,hq⟩:=List.mem_iff_getElem?.1 hz
            have hql:=(List.getElem?_eq_some_iff.1 hq).1
            rw [List.length_take] at hql
            rw [List.getElem?_take_of_lt (by omega)] at hq
            exact hlo q z (by omega) hq
          · obtain ⟨q,hq⟩:=List.mem_iff_getElem?.1 hz
            rw [List.getElem?_drop] at hq
            exact hhi (u+q) z (by omega) hq)
         rw [show A++((X.take u++([y]++X.drop u))++B)=A++(X.take u++y::(X.drop u++B)) by simp] at hfin
         exact hfin
   have h2:Y.length≠1:=by
    have h2:(IntKind.i64.wrap ((b:Int)-(m:Int)) == 1)=false:=h2
    rw [wbm] at h2
    have:=beq_eq_false_iff_ne.1 h2
    omega
   obtain ⟨mid,hmid⟩ : ∃ mid,(a+b) / 2=mid:=⟨_,rfl⟩
   have wmid:halfZ (a:Int) (b:Int)=(mid:Int):=by rw [half_z (by omega),hmid]
   have wn:IntKind.i64.wrap (halfZ (a:Int) (b:Int)+(m:Int))=((mid+m:Nat):Int):=by rw [wmid,wrap_i64 _ (by omega) (by omega)];omega
   have wn1:IntKind.i64.wrap (IntKind.i64.wrap (halfZ (a:Int) (b:Int)+(m:Int))-1)=((mid+m-1:Nat):Int):=by rw [wn,wrap_i64 _ (by omega) (by omega)];omega
   refine bZ (fun h3=>?_) (fun h3=>?_)
   all_goals first
    | (have h3:m > mid:=by
        have h3:=oTr h3
        have h3:(m:Int) > halfZ (a:Int) (b:Int):=h3
        rw [wmid] at h3
        omega
       have wn2:IntKind.i64.wrap (IntKind.i64.wrap (halfZ (a:Int) (b:Int)+(m:Int))-(b:Int))=((mid+m-b:Nat):Int):=by rw [wn,wrap_i64 _ (by omega) (by omega)];omega
       have hinit:[(0,cv (.slc 0 0 k none nn)),(1,i64 a),(2,i64 m),(3,i64 b),(4,pfn),(18,i64 (halfZ (a:Int) (b:Int))),(19,i64 (IntKind.i64.wrap (halfZ (a:Int) (b:Int)+(m:Int)))),(20,i64 (IntKind.i64.wrap (IntKind.i64.wrap (halfZ (a:Int) (b:Int)+(m:Int))-(b:Int)))),(21,i64 (halfZ (a:Int) (b:Int))),(22,i64 (IntKind.i64.wrap (IntKind.i64.wrap (halfZ (a:Int) (b:Int)+(m:Int))-1)))] =
         [(0,cv (.slc 0 0 k none nn)),(1,i64 a),(2,i64 m),(3,i64 b),(4,pfn),(18,i64 mid),(19,i64 (mid+m:Nat)),(20,i64 (mid+m-b:Nat)),(21,i64 mid),(22,i64 (mid+m-1:Nat))]:=by rw [wn2,wn1,wn,wmid]
       obtain ⟨s0,hs0e⟩ : ∃ s0,mid+m-b=s0:=⟨_,rfl⟩
       obtain ⟨r0,hr0e⟩ : ∃ r0,mid=r0:=⟨_,rfl⟩
       have hs1:s0≤r0:=by omega
       rw [hs0e] at hinit
       have hinit:=hinit.trans (show _=[(0,cv (.slc 0 0 k none nn)),(1,i64 a),(2,i64 m),(3,i64 b),(4,pfn),(18,i64 mid),(19,i64 (mid+m:Nat)),(20,i64 s0),(21,i64 r0),(22,i64 (mid+m-1:Nat))] by rw [←hr0e]))
    | (have h3:¬m > mid:=by
        have h3:=oFa h3
        have h3:¬(m:Int) > halfZ (a:Int) (b:Int):=h3
        rw [wmid] at h3
        omega
       have hinit:[(0,cv (.slc 0 0 k none nn)),(1,i64 a),(2,i64 m),(3,i64 b),(4,pfn),(18,i64 (halfZ (a:Int) (b:Int))),(19,i64 (IntKind.i64.wrap (halfZ (a:Int) (b:Int)+(m:Int)))),(20,i64 a),(21,i64 m),(22,i64 (IntKind.i64.wrap (IntKind.i64.wrap (halfZ (a:Int) (b:Int)+(m:Int))-1)))] =
         [(0,cv (.slc 0 0 k none nn)),(1,i64 a),(2,i64 m),(3,i64 b),(4,pfn),(18,i64 mid),(19,i64 (mid+m:Nat)),(20,i64 a),(21,i64 m),(22,i64 (mid+m-1:Nat))]:=by rw [wn1,wn,wmid]
       obtain ⟨s0,hs0e⟩ : ∃ s0,a=s0:=⟨_,rfl⟩
       obtain ⟨r0,hr0e⟩ : ∃ r0,m=r0:=⟨_,rfl⟩
       have hs1:s0≤r0:=by omega
       have hinit:=hinit.trans (show _=[(0,cv (.slc 0 0 k none nn)),(1,i64 a),(2,i64 m),(3,i64 b),(4,pfn),(18,i64 mid),(19,i64 (mid+m:Nat)),(20,i64 s0),(21,i64 r0),(22,i64 (mid+m-1:Nat))] by rw [←hs0e,←hr0e]))
   all_goals (
    refine SS.loop (fun s:Nat×Nat=>s0≤s.1∧s.1≤s.2∧s.2≤r0∧(∀ q x y,s0≤q→q<s.1→X[q-a]? = some x→Y[mid+m-1-q-m]? = some y→x.w≤y.w)∧∀ q x y,s.2≤q→q<r0→X[q-a]? = some x→Y[mid+m-1-q-m]? = some y→y.w<x.w)
     (fun s=>[(0,cv (.slc 0 0 k none nn)),(1,i64 a),(2,i64 m),(3,i64 b),(4,pfn),(18,i64 mid),(19,i64 (mid+m:Nat)),(20,i64 s.1),(21,i64 s.2),(22,i64 (mid+m-1:Nat))]) (fun _=>[.rows false 4 ((A++(X++(Y++B))).map rowPt)]) (fun s=>s.2-s.1) []
     (At.mk' [0,1,2,3,4,18,19,20,21,22] (s0,r0) ⟨Nat.le_refl _,hs1,Nat.le_refl _,fun q x y h1 h2=>by omega,fun q x y h1 h2=>by omega⟩ ⟨hinit,rfl⟩ rfl rfl (by simp) (by simp) (by simp)) ?_
    rintro ⟨s,r⟩ ⟨hs0,hsr,hr,hf1,hf2⟩
    dsimp only at hs0 hsr hr hf1 hf2
    refine S_r ?_
    refine bZ (fun hlt=>?_) (fun hlt=>?_)
    · have hlt:s<r:=by
       have:=oTr hlt
       have:(s:Int)<(r:Int):=this
       omega
      obtain ⟨c,hce⟩ : ∃ c,(s+r) / 2=c:=⟨_,rfl⟩
      have wh:halfZ (s:Int) (r:Int)=(c:Int):=by rw [half_z (by omega),hce]
      have wp:IntKind.i64.wrap (((mid+m-1:Nat):Int)-halfZ (s:Int) (r:Int))=((mid+m-1-c:Nat):Int):=by rw [wh,wrap_i64 _ (by omega) (by omega)];omega
      obtain ⟨x,hx⟩ : ∃ x,X[c-a]? = some x:=⟨_,List.getElem?_eq_getElem (by omega)⟩
      obtain ⟨y,hy⟩ : ∃ y,Y[mid+m-1-c-m]? = some y:=⟨_,List.getElem?_eq_getElem (by omega)⟩
      have g1:(A++(X++(Y++B)))[c]? = some x:=by
       rw [List.getElem?_append_right (by omega),ha,List.getElem?_append_left (by omega)]
       exact hx
      have g2:(A++(X++(Y++B)))[mid+m-1-c]? = some y:=by
       rw [List.getElem?_append_right (by omega),ha,List.getElem?_append_right (by omega),show mid+m-1-c-a-X.length=mid+m-1-c-m by omega,List.getElem?_append_left (by omega)]
       exact hy
      have c1:(0:Int)≤halfZ (s:Int) (r:Int)∧halfZ (s:Int) (r:Int)<(k:Int):=by rw [wh];omega
      have c2:(0:Int)≤IntKind.i64.wrap (((mid+m-1:Nat):Int)-halfZ (s:Int) (r:Int))∧IntKind.i64.wrap (((mid+m-1:Nat):Int)-halfZ (s:Int) (r:Int))<(k:Int):=by rw [wp];omega
      refine SS.drawR follows (by decide) ?_
      refine at2 c2.1 c2.2 (rdA (rowPt y) (rows_at wp g2) ?_)
      refine at2 c1.1 c1.2 (rdA (rowPt x) (rows_at wh g1) ?_)
      change Does Tryz.prog 187 _ _ _
      refine Does.alone 1 (cmpPt y x ?_)
      by_cases hc:y.w<x.w
      · have dc:decide (cmpZ y.w x.w<0)=true:=decide_eq_true (cmp_ltM.2 hc)
        refine bZ (fun hh=>?_) (fun _=>?_)
        · exfalso
          have hh:(!decide (cmpZ y.w x.w<0))=true:=hh
          rw [dc] at hh
          cases hh
        refine At.mk' [0,1,2,3,4,18,19,20,21,22] (s,c) ⟨⟨hs0,by omega,by omega,hf1,fun q x' y' h1 h2 hx' hy'=>?_⟩,by dsimp only;omega⟩ ⟨?_,rfl⟩ rfl rfl (by simp) (by simp) (by simp)
        · have e1:=hsx.get (show c-a≤q-a by omega) hx hx'
          have e2:=hsy.get (show mid+m-1-q-m≤mid+m-1-c-m by omega) hy' hy
          omega
        · exact congrArg (fun z=>[(0,cv (.slc 0 0 k none nn)),(1,i64 a),(2,i64 m),(3,i64 b),(4,pfn),(18,i64 mid),(19,i64 (mid+m:Nat)),(20,i64 s),(21,i64 z),(22,i64 (mid+m-1:Nat))]) wh
      · have dc:decide (cmpZ y.w x.w<0)=false:=decide_eq_false fun hh=>hc (cmp_ltM.1 hh)
        refine bZ (fun _=>?_) (fun hh=>?_)
        rotate_left
        · exfalso
          have hh:(!decide (cmpZ y.w x.w<0))=false:=hh
          rw [dc] at hh
          cases hh
        refine At.mk' [0,1,2,3,4,18,19,20,21,22] (c+1,r) ⟨⟨by omega,by omega,hr,fun q x' y' h1 h2 hx' hy'=>?_,hf2⟩,by dsimp only;omega⟩ ⟨?_,rfl⟩ rfl rfl (by simp) (by simp) (by simp)
        · have e1:=hsx.get (show q-a≤c-a by omega) hx' hx
          have e2:=hsy.get (show mid+m-1-c-m≤mid+m-1-q-m by omega) hy hy'
          omega
        · exact congrArg (fun z=>[(0,cv (.slc 0 0 k none nn)),(1,i64 a),(2,i64 m),(3,i64 b),(4,pfn),(18,i64 mid),(19,i64 (mid+m:Nat)),(20,i64 z),(21,i64 r),(22,i64 (mid+m-1:Nat))]) (show IntKind.i64.wrap (halfZ (s:Int) (r:Int)+1)=((c+1:Nat):Int) by rw [wh,wrap_i64 _ (by omega) (by omega)];omega)
    · have hlt:¬s<r:=by
       have:=oFa hlt
       have:¬(s:Int)<(r:Int):=this
       omega
      obtain rfl:s=r:=by omega
      obtain ⟨e,he⟩ : ∃ e,mid+m-s=e:=⟨_,rfl⟩
      have wsub:IntKind.i64.wrap (((mid+m:Nat):Int)-(s:Int))=(e:Int):=by rw [wrap_i64 _ (by omega) (by omega)];omega
      have hXs:=List.take_append_drop (s-a) X
      have hYs:=List.take_append_drop (e-m) Y
      have l1:(X.take (s-a)).length=s-a:=by rw [List.length_take];omega
      have l2:(X.drop (s-a)).length=m-s:=by rw [List.length_drop];omega
      have l3:(Y.take (e-m)).length=e-m:=by rw [List.length_take];omega
      have l4:(Y.drop (e-m)).length=b-e:=by rw [List.length_drop];omega
      have k1:∀ x∈X.drop (s-a),∀ y∈Y.take (e-m),y.w<x.w:=fun x hx y hy=>by
       obtain ⟨i,hi⟩:=List.mem_iff_getElem?.1 hx
       obtain ⟨j,hj⟩:=List.mem_iff_getElem?.1 hy
       have hjl:=(List.getElem?_eq_some_iff.1 hj).1
       have hil:=(List.getElem?_eq_some_iff.1 hi).1
       rw [List.getElem?_drop] at hi
       rw [List.getElem?_take_of_lt (by omega)] at hj
       obtain ⟨x0,hx0⟩ : ∃ x0,X[s-a]? = some x0:=⟨_,List.getElem?_eq_getElem (by omega)⟩
       obtain ⟨y0,hy0⟩ : ∃ y0,Y[mid+m-1-s-m]? = some y0:=⟨_,List.getElem?_eq_getElem (by omega)⟩
       have e1:=hf2 s x0 y0 (Nat.le_refl _) (by omega) hx0 hy0
       have e2:=hsx.get (show s-a≤s-a+i by omega) hx0 hi
       have e3:=hsy.get (show j≤mid+m-1-s-m by omega) hj hy0
       omega
      have k2:∀ x∈X.take (s-a),∀ y∈Y.drop (e-m),x.w≤y.w:=fun x hx y hy=>by
       obtain ⟨i,hi⟩:=List.mem_iff_getElem?.1 hx
       obtain ⟨j,hj⟩:=List.mem_iff_getElem?.1 hy
       have hjl:=(List.getElem?_eq_some_iff.1 hj).1
       have hil:=(List.getElem?_eq_some_iff.1 hi).1
       rw [List.getElem?_drop] at hj
       rw [List.getElem?_take_of_lt (by omega)] at hi
       obtain ⟨x0,hx0⟩ : ∃ x0,X[s-1-a]? = some x0:=⟨_,List.getElem?_eq_getElem (by omega)⟩
       obtain ⟨y0,hy0⟩ : ∃ y0,Y[mid+m-1-(s-1)-m]? = some y0:=⟨_,List.getElem?_eq_getElem (by omega)⟩
       have e1:=hf1 (s-1) x0 y0 (by omega) (by omega) hx0 hy0
       have e2:=hsx.get (show i≤s-1-a by omega) hi hx0
       have e3:=hsy.get (show mid+m-1-(s-1)-m≤e-m+j by omega) hy0 hj
       omega
      have hsx':=hsx
      have hsy':=hsy
      rw [←hXs] at hsx'
      rw [←hYs] at hsy'
      have hd0:A++(X++(Y++B))=A++X.take (s-a)++(X.drop (s-a)++(Y.take (e-m)++(Y.drop (e-m)++B))):=by
       rw [List.append_assoc A,←List.append_assoc (X.take _),hXs,←List.append_assoc (Y.take _),hYs]
      have fin:∀ L R,St (X.take (s-a)++Y.take (e-m)) L→St (X.drop (s-a)++Y.drop (e-m)) R→K undefA [] [.rows false 4 ((A++L++(R++B)).map rowPt)]:=fun L R hL hR=>by
       have:=h (L++R) (by
        have:=St.cross hsx' hsy' k1 k2 hL hR
        rw [hXs,hYs] at this
        exact this)
       rw [show A++(L++R++B)=A++L++(R++B) by simp] at this
       exact this
      have hsX1:=hsx'.left
      have hsX2:=hsx'.right
      have hsY1:=hsy'.left
      have hsY2:=hsy'.right
      clear hf1 hf2 hXs hYs k1 k2 hsx' hsy' h
      generalize X.take (s-a)=X1 at *
      generalize X.drop (s-a)=X2 at *
      generalize Y.take (e-m)=Y1 at *
      generalize Y.drop (e-m)=Y2 at *
      refine bZ (fun d1=>?_) (fun d1=>?_)
      all_goals first
       | (have d1:s<m:=by
           have d1:=oTr d1
           have d1:(s:Int)<(m:Int):=d1
           omega
          refine bZ (fun d2=>?_) (fun d2=>?_)
          all_goals first
           | (have d2:m<e:=by
               have d2:=oTr d2
               have d2:(m:Int)<IntKind.i64.wrap (((mid+m:Nat):Int)-(s:Int)):=d2
               rw [wsub] at d2
               omega
              change Does Tryz.prog 277 _ _ _
              rw [wsub,hd0]
              refine rotate (A:=A++X1) (X:=X2) (Y:=Y1) (B:=Y2++B) (a:=s) (m:=m) (b:=e) (by rw [List.length_append];omega) (by omega) (by omega) (by omega) (by omega) (by rw [←hd0];exact hk) hkb ?_)
           | (have d2:¬m<e:=by
               have d2:=oFa d2
               have d2:¬(m:Int)<IntKind.i64.wrap (((mid+m:Nat):Int)-(s:Int)):=d2
               rw [wsub] at d2
               omega
              rw [wsub,hd0,show A++X1++(X2++(Y1++(Y2++B)))=A++X1++(Y1++(X2++(Y2++B))) by
               rcases (show X2.length=0∨Y1.length=0 by omega) with e0 | e0
               · rw [List.length_eq_zero_iff.1 e0];simp
               · rw [List.length_eq_zero_iff.1 e0];simp]))
       | (have d1:¬s<m:=by
           have d1:=oFa d1
           have d1:¬(s:Int)<(m:Int):=d1
           omega
          rw [wsub,hd0,show A++X1++(X2++(Y1++(Y2++B)))=A++X1++(Y1++(X2++(Y2++B))) by
           rcases (show X2.length=0∨Y1.length=0 by omega) with e0 | e0
           · rw [List.length_eq_zero_iff.1 e0];simp
           · rw [List.length_eq_zero_iff.1 e0];simp])
      all_goals (
       refine bZ (fun c3=>?_) (fun c3=>?_)
       all_goals first
        | (have c3:a<s:=by
            have c3:=oTr c3
            have c3:(a:Int)<(s:Int):=c3
            omega
           refine bZ (fun c4=>?_) (fun c4=>?_)
           all_goals first
            | (have c4:s<mid:=by
                have c4:=oTr c4
                have c4:(s:Int)<((mid:Nat):Int):=c4
                omega
               change Does Tryz.prog 265 _ _ _
               rw [show A++X1++(Y1++(X2++(Y2++B)))=A++(X1++(Y1++(X2++(Y2++B)))) from List.append_assoc ..]
               refine symMerge N (A:=A) (X:=X1) (Y:=Y1) (B:=X2++(Y2++B)) (a:=a) (m:=s) (b:=mid) (by omega) ha (by omega) (by omega) (by omega) (by omega) (by simp only [List.length_append];omega) hkb hsX1 hsY1 (fun L hL=>?_)
               rw [show A++(L++(X2++(Y2++B)))=(A++L)++(X2++(Y2++B)) from (List.append_assoc ..).symm])
            | (have c4:¬s<mid:=by
                have c4:=oFa c4
                have c4:¬(s:Int)<((mid:Nat):Int):=c4
                omega
               have hL:St (X1++Y1) (X1++Y1):=St.refl (by
                rcases (show X1.length=0∨Y1.length=0 by omega) with e0 | e0
                · rw [List.length_eq_zero_iff.1 e0];exact hsY1
                · rw [List.length_eq_zero_iff.1 e0,List.append_nil];exact hsX1)
               rw [show A++X1++(Y1++(X2++(Y2++B)))=(A++(X1++Y1))++(X2++(Y2++B)) by simp]
               obtain ⟨L,hLe⟩ : ∃ L,X1++Y1=L:=⟨_,rfl⟩
               rw [hLe]
               have hL:St (X1++Y1) L:=by rw [←hLe];exact hL))
        | (have c3:¬a<s:=by
            have c3:=oFa c3
            have c3:¬(a:Int)<(s:Int):=c3
            omega
           have hL:St (X1++Y1) (X1++Y1):=St.refl (by
            rcases (show X1.length=0∨Y1.length=0 by omega) with e0 | e0
            · rw [List.length_eq_zero_iff.1 e0];exact hsY1
            · rw [List.length_eq_zero_iff.1 e0,List.append_nil];exact hsX1)
           rw [show A++X1++(Y1++(X2++(Y2++B)))=(A++(X1++Y1))++(X2++(Y2++B)) by simp]
           obtain ⟨L,hLe⟩ : ∃ L,X1++Y1=L:=⟨_,rfl⟩
           rw [hLe]
           have hL:St (X1++Y1) L:=by rw [←hLe];exact hL)
       all_goals (
        refine bZ (fun c5=>?_) (fun c5=>?_)
        all_goals first
         | (have c5:mid<e:=by
             have c5:=oTr c5
             have c5:((mid:Nat):Int)<(e:Int):=c5
             omega
            refine bZ (fun c6=>?_) (fun c6=>?_)
            all_goals first
             | (have c6:e<b:=by
                 have c6:=oTr c6
                 have c6:(e:Int)<(b:Int):=c6
                 omega
                change Does Tryz.prog 265 _ _ _
                refine symMerge N (A:=A++L) (X:=X2) (Y:=Y2) (B:=B) (a:=mid) (m:=e) (b:=b) (by omega) (by rw [List.length_append,hL.len,List.length_append];omega) (by omega) (by omega) (by omega) (by omega) (by simp only [List.length_append,hL.len];omega) hkb hsX2 hsY2 (fun R hR=>?_)
                exact fin L R hL hR)
             | (have c6:¬e<b:=by
                 have c6:=oFa c6
                 have c6:¬(e:Int)<(b:Int):=c6
                 omega
                have hR:St (X2++Y2) (X2++Y2):=St.refl (by
                 rcases (show X2.length=0∨Y2.length=0 by omega) with e0 | e0
                 · rw [List.length_eq_zero_iff.1 e0];exact hsY2
                 · rw [List.length_eq_zero_iff.1 e0,List.append_nil];exact hsX2)
                have:=fin L (X2++Y2) hL hR
                rw [List.append_assoc X2] at this
                exact this))
         | (have c5:¬mid<e:=by
             have c5:=oFa c5
             have c5:¬((mid:Nat):Int)<(e:Int):=c5
             omega
            have hR:St (X2++Y2) (X2++Y2):=St.refl (by
             rcases (show X2.length=0∨Y2.length=0 by omega) with e0 | e0
             · rw [List.length_eq_zero_iff.1 e0];exact hsY2
             · rw [List.length_eq_zero_iff.1 e0,List.append_nil];exact hsX2)
            have:=fin L (X2++Y2) hL hR
            rw [List.append_assoc X2] at this
            exact this))))

end

end Go.Mac
