/- Texts that belong together; the first of them:  -/
import Derived.Test.YtollgfhpcidkgaaGreatDoorA22

section
open Go Go.Proofs Go.Mac
set_option maxRecDepth 100000
namespace Go.Mac
section
theorem set_two (P Q R:List PtZ) (x y:PtZ):((P++x::(Q++y::R)).set P.length y).set (P.length+1+Q.length) x=P++y::(Q++x::R):=by
 rw [List.set_append_right _ _ (by omega),Nat.sub_self,List.set_cons_zero,List.set_append_right _ _ (by omega),show P.length+1+Q.length-P.length=Q.length+1 by omega,List.set_cons_succ,List.set_append_right _ _ (by omega),Nat.sub_self,List.set_cons_zero]

theorem get_one (P R:List PtZ) (x:PtZ):(P++x::R)[P.length]? = some x:=by
 rw [List.getElem?_append_right (by omega),Nat.sub_self];rfl

theorem get_two (P Q R:List PtZ) (x y:PtZ):(P++x::(Q++y::R))[P.length+1+Q.length]? = some y:=by
 rw [List.getElem?_append_right (by omega),show P.length+1+Q.length-P.length=Q.length+1 by omega,List.getElem?_cons_succ,List.getElem?_append_right (by omega),Nat.sub_self];rfl

def swS (A X M Y B:List PtZ) (i:Nat):List PtZ:=A++(Y.take i++(X.drop i++(M++(X.take i++(Y.drop i++B)))))

theorem swS_at {A X M Y B:List PtZ} {i:Nat} {x y:PtZ} (hx:X[i]? = some x) (hy:Y[i]? = some y) :
  swS A X M Y B i=(A++Y.take i)++x::((X.drop (i+1)++(M++X.take i))++y::(Y.drop (i+1)++B)) ∧
  swS A X M Y B (i+1)=(A++Y.take i)++y::((X.drop (i+1)++(M++X.take i))++x::(Y.drop (i+1)++B)):=by
 obtain ⟨hx1,hx2⟩:=List.getElem?_eq_some_iff.1 hx
 obtain ⟨hy1,hy2⟩:=List.getElem?_eq_some_iff.1 hy
 constructor
 · rw [swS,List.drop_eq_getElem_cons hx1,hx2,List.drop_eq_getElem_cons hy1,hy2]
   simp
 · rw [swS,List.take_add_one,List.take_add_one,hx,hy]
   simp

section

variable {K:KP}

theorem isNan (x:Int) (h:K (bl false) [] []):Does Tryz.prog 230 [i64 x] [] K:=by
 refine does Tryz.func230 rfl (by decide) ?_
 exact eqb (K:=fun b=>K (bl b) [] []) h (by simp)

def cmpZ (x y:Int):Int:=if x<y then -1 else if x > y then 1 else 0

theorem cmpInt (x y:Int) (h:K (i64 (cmpZ x y)) [] []):Does Tryz.prog 188 [i64 x,i64 y] [] K:=by
 refine does Tryz.func188 rfl (by decide) ?_
 change Does Tryz.prog 230 _ _ _
 refine Does.alone 0 (isNan _ ?_)
 change Does Tryz.prog 230 _ _ _
 refine Does.alone 0 (isNan _ ?_)
 rw [cmpZ] at h
 refine bZ (fun h1=>?_) (fun h1=>?_)
 · rw [if_pos (oTr h1)] at h
   exact h
 have h1:¬x<y:=oFa h1
 rw [if_neg h1] at h
 refine bZ (fun h2=>?_) (fun h2=>?_)
 · rw [if_pos (oTr h2)] at h
   exact h
 · have h2:¬x > y:=oFa h2
   rw [if_neg h2] at h
   exact h

theorem cmpPt (x y:PtZ) (h:K (i64 (cmpZ x.w y.w)) [] []):Does Tryz.prog 187 [.p (.agg [.f (.int .i64 x.w),.f (.int .i64 x.t),.f (.int .i64 x.k),.f (.bool x.l)]),.p (.agg [.f (.int .i64 y.w),.f (.int .i64 y.t),.f (.int .i64 y.k),.f (.bool y.l)])] [] K:=by
 refine does Tryz.func187 rfl (by decide) ?_
 change Does Tryz.prog 188 _ _ _
 refine Does.alone 2 (cmpInt _ _ ?_)
 exact h

abbrev pfn:AV:=cv (.func 187 [])

set_option maxHeartbeats 1000000 in
theorem swapRange {A X M Y B:List PtZ} {n k a b:Nat} {nn:Bool} (ha:A.length=a) (hX:X.length=n) (hY:Y.length=n) (hb:a+n+M.length=b) (hk:(A++(X++(M++(Y++B)))).length=k) (hkb:k≤1000000)
  (h:K undefA [] [.rows false 4 ((A++(Y++(M++(X++B)))).map rowPt)]) :
  Does Tryz.prog 282 [cv (.slc 0 0 k none nn),i64 a,i64 b,i64 n,pfn] [.rows false 4 ((A++(X++(M++(Y++B)))).map rowPt)] K:=by
 refine does Tryz.func282 rfl (by decide) ?_
 have h0:swS A X M Y B 0=A++(X++(M++(Y++B))):=by simp [swS]
 have hn:swS A X M Y B n=A++(Y++(M++(X++B))):=by rw [swS,List.take_of_length_le (by omega),List.drop_of_length_le (by omega),List.take_of_length_le (by omega),List.drop_of_length_le (by omega)];simp
 have hlen:∀ i,i≤n→(swS A X M Y B i).length=k:=fun i hi=>by
  rw [←hk]
  simp [swS,hX,hY]
  omega
 rw [←h0]
 simp only [List.length_append] at hk
 refine SS.loop (fun i:Nat=>i≤n) (fun i=>[(0,cv (.slc 0 0 k none nn)),(1,i64 a),(2,i64 b),(3,i64 n),(10,i64 i)]) (fun i=>[.rows false 4 ((swS A X M Y B i).map rowPt)]) (fun i=>n-i) []
  (At.mk' [0,1,2,3,10] 0 (by simp) ⟨rfl,rfl⟩ rfl rfl (by simp) (by simp) (by simp)) ?_
 intro i hi
 change i≤n at hi
 refine S_r ?_
 refine bZ (fun hlt=>?_) (fun hlt=>?_)
 · have hlt:i<n:=by
    have:=oTr hlt
    have:(i:Int)<(n:Int):=this
    omega
   obtain ⟨x,hx⟩ : ∃ x,X[i]? = some x:=⟨_,List.getElem?_eq_getElem (by omega)⟩
   obtain ⟨y,hy⟩ : ∃ y,Y[i]? = some y:=⟨_,List.getElem?_eq_getElem (by omega)⟩
   obtain ⟨e1,e2⟩:=swS_at (A:=A) (M:=M) (B:=B) hx hy
   have wa:IntKind.i64.wrap ((a:Int)+(i:Int))=((a+i:Nat):Int):=wrap_i64 _ (by omega) (by omega)
   have wb:IntKind.i64.wrap ((b:Int)+(i:Int))=((b+i:Nat):Int):=wrap_i64 _ (by omega) (by omega)
   have wi:IntKind.i64.wrap ((i:Int)+1)=((i+1:Nat):Int):=wrap_i64 _ (by omega) (by omega)
   have hP:(A++Y.take i).length=a+i:=by simp [ha,hY];omega
   have hQ:(A++Y.take i).length+1+(X.drop (i+1)++(M++X.take i)).length=b+i:=by simp [ha,hY,hX];omega
   have g1:(swS A X M Y B i)[a+i]? = some x:=by rw [e1,←hP];exact get_one _ _ _
   have g2:(swS A X M Y B i)[b+i]? = some y:=by rw [e1,←hQ];exact get_two _ _ _ _ _
   have hs:((swS A X M Y B i).set (a+i) y).set (b+i) x=swS A X M Y B (i+1):=by rw [e1,e2,←hQ,←hP];exact set_two _ _ _ _ _
   have hl:=hlen i (by omega)
   clear e1 e2 hP hQ h0 hn hlen
   generalize swS A X M Y B i=l at g1 g2 hs hl
   have r1:(l.map rowPt)[0+Int.toNat (IntKind.i64.wrap ((a:Int)+(i:Int)))]? = some (rowPt x):=by rw [wa,Nat.zero_add,Int.toNat_natCast,List.getElem?_map,g1];rfl
   have r2:(l.map rowPt)[0+Int.toNat (IntKind.i64.wrap ((b:Int)+(i:Int)))]? = some (rowPt y):=by rw [wb,Nat.zero_add,Int.toNat_natCast,List.getElem?_map,g2];rfl
   have c1:(0:Int)≤IntKind.i64.wrap ((a:Int)+(i:Int)):=by rw [wa];omega
   have c2:IntKind.i64.wrap ((a:Int)+(i:Int))<(k:Int):=by rw [wa];omega
   have c3:(0:Int)≤IntKind.i64.wrap ((b:Int)+(i:Int)):=by rw [wb];omega
   have c4:IntKind.i64.wrap ((b:Int)+(i:Int))<(k:Int):=by rw [wb];omega
   refine SS.drawR follows (by decide) ?_
   refine at2 c3 c4 (rdA (rowPt y) r2 ?_)
   refine at2 c1 c2 (rdA (rowPt x) r1 ?_)
   refine at2 c1 c2 ?_
   refine wr1 (rowPt x) r1 ?_
   repeat' (first | refine And.intro rfl ?_ | refine And.intro (And.intro c1 (And.intro c2 rfl)) ?_ | refine And.intro (And.intro c3 (And.intro c4 rfl)) ?_ | fail)
   refine at2 c3 c4 ?_
   refine wr1 (rowPt y) (show ((l.map rowPt).set (0+Int.toNat (IntKind.i64.wrap ((a:Int)+(i:Int)))) (rowPt y))[0+Int.toNat (IntKind.i64.wrap ((b:Int)+(i:Int)))]? = some (rowPt y) by rw [List.getElem?_set_ne (by rw [wa,wb];omega)];exact r2) ?_
   repeat' (first | refine And.intro rfl ?_ | refine And.intro (And.intro c1 (And.intro c2 rfl)) ?_ | refine And.intro (And.intro c3 (And.intro c4 rfl)) ?_ | fail)
   refine At.mk' [0,1,2,3,10] (i+1) ⟨hlt,by omega⟩ ⟨?_,rfl⟩ ?_ rfl (by simp) (by simp) (by simp)
   · rw [wi]
   · show [PO.rows false 4 (((l.map rowPt).set (0+Int.toNat (IntKind.i64.wrap ((a:Int)+(i:Int)))) (rowPt y)).set (0+Int.toNat (IntKind.i64.wrap ((b:Int)+(i:Int)))) (rowPt x))]=_
     rw [wa,wb,Nat.zero_add,Nat.zero_add,Int.toNat_natCast,Int.toNat_natCast,←List.map_set,←List.map_set,hs]
 · have hlt:¬(i:Int)<(n:Int):=oFa hlt
   obtain rfl:i=n:=by omega
   rw [hn]
   exact h

set_option maxHeartbeats 1000000 in
theorem rotate {A X Y B:List PtZ} {k a m b:Nat} {nn:Bool} (ha:A.length=a) (hm:a+X.length=m) (hb:m+Y.length=b) (hX:0<X.length) (hY:0<Y.length) (hk:(A++(X++(Y++B))).length=k) (hkb:k≤1000000)
  (h:K undefA [] [.rows false 4 ((A++(Y++(X++B))).map rowPt)]) :
  Does Tryz.prog 277 [cv (.slc 0 0 k none nn),i64 a,i64 m,i64 b,pfn] [.rows false 4 ((A++(X++(Y++B))).map rowPt)] K:=by
 refine does Tryz.func277 rfl (by decide) ?_
 have hkl:=hk
 simp only [List.length_append] at hkl
 have w1:IntKind.i64.wrap ((m:Int)-(a:Int))=(X.length:Int):=by rw [wrap_i64 _ (by omega) (by omega)];omega
 have w2:IntKind.i64.wrap ((b:Int)-(m:Int))=(Y.length:Int):=by rw [wrap_i64 _ (by omega) (by omega)];omega
 refine SS.loop (fun s:List PtZ×List PtZ×List PtZ×List PtZ=>s.1.length+s.2.1.length=m∧0<s.2.1.length∧0<s.2.2.1.length∧(s.1++(s.2.1++(s.2.2.1++s.2.2.2))).length=k∧s.1++(s.2.2.1++(s.2.1++s.2.2.2))=A++(Y++(X++B)))
  (fun s=>[(0,cv (.slc 0 0 k none nn)),(2,i64 m),(4,pfn),(10,i64 s.2.1.length),(11,i64 s.2.2.1.length)]) (fun s=>[.rows false 4 ((s.1++(s.2.1++(s.2.2.1++s.2.2.2))).map rowPt)]) (fun s=>s.2.1.length+s.2.2.1.length) []
  (At.mk' [0,2,4,10,11] (A,X,Y,B) ⟨by dsimp only;omega,hX,hY,hk,rfl⟩ ⟨by rw [w1,w2],rfl⟩ rfl rfl (by simp) (by simp) (by simp)) ?_
 rintro ⟨A',X',Y',B'⟩ ⟨hm',hX',hY',hk',hF⟩
 dsimp only at hm' hX' hY' hk' hF
 have hkl':=hk'
 simp only [List.length_append] at hkl'
 have wa:IntKind.i64.wrap ((m:Int)-(X'.length:Int))=(A'.length:Int):=by rw [wrap_i64 _ (by omega) (by omega)];omega
 refine S_r ?_
 refine bZ (fun hne=>?_) (fun hne=>?_)
 · have hne:X'.length≠Y'.length:=by
    have hne:((X'.length:Int) != (Y'.length:Int))=true:=hne
    have:=bne_iff_ne.1 hne
    omega
   refine bZ (fun hgt=>?_) (fun hgt=>?_)
   · have hgt:Y'.length<X'.length:=by
      have:=oTr hgt
      have:(X'.length:Int) > (Y'.length:Int):=this
      omega
     have hd1:(X'.take Y'.length).length=Y'.length:=by rw [List.length_take];omega
     have hd2:(X'.drop Y'.length).length=X'.length-Y'.length:=List.length_drop ..
     have hsplit:A'++(X'++(Y'++B'))=A'++(X'.take Y'.length++(X'.drop Y'.length++(Y'++B'))):=by rw [←List.append_assoc (X'.take _),List.take_append_drop]
     have wd:IntKind.i64.wrap ((X'.length:Int)-(Y'.length:Int))=((X'.drop Y'.length).length:Int):=by rw [wrap_i64 _ (by omega) (by omega)];omega
     change Does Tryz.prog 282 _ _ _
     rw [wa]
     dsimp only
     rw [hsplit]
     refine swapRange (A:=A') (X:=X'.take Y'.length) (M:=X'.drop Y'.length) (Y:=Y') (B:=B') (a:=A'.length) (b:=m) (n:=Y'.length) rfl hd1 rfl (by omega) (by rw [←hsplit];exact hk') hkb ?_
     refine At.mk' [0,2,4,10,11] (A'++Y',X'.drop Y'.length,X'.take Y'.length,B') ⟨⟨by simp only [List.length_append];omega,by dsimp only;omega,by dsimp only;omega,?_,?_⟩,by dsimp only;omega⟩ ⟨?_,rfl⟩ ?_ rfl (by simp) (by simp) (by simp)
     · simp only [List.length_append];omega
     · rw [←hF]
       dsimp only
       rw [List.append_assoc,←List.append_assoc (X'.take _),List.take_append_drop]
     · rw [wd,hd1]
     · dsimp only
       rw [List.append_assoc]
       rfl
   · have hgt:X'.length<Y'.length:=by
      have:=oFa hgt
      have:¬(X'.length:Int) > (Y'.length:Int):=this
      omega
     have hd1:(Y'.drop (Y'.length-X'.length)).length=X'.length:=by rw [List.length_drop];omega
     have hd2:(Y'.take (Y'.length-X'.length)).length=Y'.length-X'.length:=by rw [List.length_take];omega
     have hsplit:A'++(X'++(Y'++B'))=A'++(X'++(Y'.take (Y'.length-X'.length)++(Y'.drop (Y'.length-X'.length)++B'))):=by rw [←List.append_assoc (Y'.take _),List.take_append_drop]
     have wd:IntKind.i64.wrap ((Y'.length:Int)-(X'.length:Int))=((Y'.take (Y'.length-X'.length)).length:Int):=by rw [wrap_i64 _ (by omega) (by omega)];omega
     have wb:IntKind.i64.wrap (IntKind.i64.wrap ((m:Int)+(Y'.length:Int))-(X'.length:Int))=((m+Y'.length-X'.length:Nat):Int):=by rw [wrap_i64 ((m:Int)+_) (by omega) (by omega),wrap_i64 _ (by omega) (by omega)];omega
     change Does Tryz.prog 282 _ _ _
     rw [wa,wb]
     dsimp only
     rw [hsplit]
     refine swapRange (A:=A') (X:=X') (M:=Y'.take (Y'.length-X'.length)) (Y:=Y'.drop (Y'.length-X'.length)) (B:=B') (a:=A'.length) (b:=m+Y'.length-X'.length) (n:=X'.length) rfl rfl hd1 (by omega) (by rw [←hsplit];exact hk') hkb ?_
     refine At.mk' [0,2,4,10,11] (A',Y'.drop (Y'.length-X'.length),Y'.take (Y'.length-X'.length),X'++B') ⟨⟨by dsimp only;omega,by dsimp only;omega,by dsimp only;omega,?_,?_⟩,by dsimp only;omega⟩ ⟨?_,rfl⟩ rfl rfl (by simp) (by simp) (by simp)
     · simp only [List.length_append];omega
     · rw [←hF]
       dsimp only
       rw [←List.append_assoc (Y'.take _),List.take_append_drop]
     · rw [wd,hd1]
 · have hne:X'.length=Y'.length:=by
    have hne:((X'.length:Int) != (Y'.length:Int))=false:=hne
    have:=bne_eq_false_iff_eq.1 hne
    omega
   change Does Tryz.prog 282 _ _ _
   rw [wa]
   dsimp only
   have e0:A'++(X'++(Y'++B'))=A'++(X'++([]++(Y'++B'))):=rfl
   rw [e0]
   refine swapRange (A:=A') (X:=X') (M:=[]) (Y:=Y') (B:=B') (a:=A'.length) (b:=m) (n:=X'.length) rfl rfl hne.symm (by simp;omega) (by rw [←e0];exact hk') hkb ?_
   rw [show A'++(Y'++([]++(X'++B')))=A++(Y++(X++B)) from hF]
   exact h

end
end
section
section

variable {P:Program} {nt:Nat} {all:List Oper} {E S:List Nat} {T:Tm} {M:List Nat} {H:List PO} {K:KT}

theorem draw_known {n i:Nat} {o:Oper} {T1 T2:Tm} {v:AV} (hn:nextQ E numbers all=some (i,o)) (hg:∀ k,guarded all T o k=k T1 true)
  (ha:∀ K':KP,aop P T1 H K' o.op=K' v [] H) (hp:∀ k,putT nt T1 o.dst v k=k T2) (h:drawnR P nt all n (i::E) S T2 M H K):drawnR P nt all (n+1) E S T M H K:=by
 show drawStep P nt all (drawnR P nt all n) E S T M H K
 unfold drawStep
 rw [hn]
 dsimp only
 rw [hg]
 dsimp only
 rw [ha,hp]
 exact h

theorem draw_skip {n i:Nat} {o:Oper} {T1 T2:Tm} (hn:nextQ E numbers all=some (i,o)) (hg:∀ k,guarded all T o k=k T1 false)
  (hp:∀ k,putT nt T1 o.dst undefA k=k T2) (h:drawnR P nt all n (i::E) S T2 M H K):drawnR P nt all (n+1) E S T M H K:=by
 show drawStep P nt all (drawnR P nt all n) E S T M H K
 unfold drawStep
 rw [hn]
 dsimp only
 rw [hg]
 dsimp only
 rw [hp]
 exact h

theorem draw_cond {n i:Nat} {o:Oper} {T1 T2:Tm} {v:AV} {C:Prop} (hn:nextQ E numbers all=some (i,o)) (hg:∀ k,guarded all T o k=k T1 true)
  (ha:∀ K':KP,C→K' v [] H→aop P T1 H K' o.op) (hp:∀ k,putT nt T1 o.dst v k=k T2) (hc:C) (h:drawnR P nt all n (i::E) S T2 M H K):drawnR P nt all (n+1) E S T M H K:=by
 show drawStep P nt all (drawnR P nt all n) E S T M H K
 unfold drawStep
 rw [hn]
 dsimp only
 rw [hg]
 dsimp only
 refine ha _ hc ?_
 rw [hp]
 exact h

noncomputable def effR (P:Program) (nt:Nat) (all:List Oper) (n:Nat) (E S:List Nat) (T:Tm) (M:List Nat) (H:List PO) (K:KT) (x:Nat×Oper):Prop :=
 guarded all T x.2 fun T' b =>
  match b with
  | true=>aop P T' H (fun v M' H'=>killT M' T' fun T1=>putT nt T1 x.2.dst v fun T2=>addM M' M fun M2 =>
     checksR P all E (ahead all 1000 [x.1] S) T2 H' (drawnR P nt all n (x.1::E) (ahead all 1000 [x.1] S) T2 M2 H' K) numbers all) x.2.op
  | false=>putT nt T' x.2.dst undefA fun T2 =>
     checksR P all E (ahead all 1000 [x.1] S) T2 H (drawnR P nt all n (x.1::E) (ahead all 1000 [x.1] S) T2 M H K) numbers all

theorem draw_eff {n:Nat} {R:List (Nat×Oper)} {x:Nat×Oper} {R':List (Nat×Oper)} (hn:nextQ E numbers all=none) (he:effs E numbers all=R) (hR:R=x::R') (h:∀ y∈R,effR P nt all n E S T M H K y):drawnR P nt all (n+1) E S T M H K:=by
 show drawStep P nt all (drawnR P nt all n) E S T M H K
 unfold drawStep
 rw [hn,he]
 subst hR
 have key:∀ l:List (Nat×Oper),(∀ y∈l,effR P nt all n E S T M H K y)→allR (effR P nt all n E S T M H K) l:=by
  intro l
  induction l with
  | nil=>intro _;trivial
  | cons a l ih =>
    intro hl
    cases l with
    | nil=>exact hl a (by simp)
    | cons b l=>exact ⟨hl a (by simp),ih fun y hy=>hl y (by simp [hy])⟩
 exact key _ h

theorem draw_eff1 {n:Nat} {x:Nat×Oper} (hn:nextQ E numbers all=none) (he:effs E numbers all=[x]) (h:effR P nt all n E S T M H K x):drawnR P nt all (n+1) E S T M H K :=
 draw_eff hn he rfl fun y hy=>by obtain rfl:=List.mem_singleton.1 hy;exact h

theorem draw_end {n:Nat} (hn:nextQ E numbers all=none) (he:effs E numbers all=[]) (hE:hasAll E (numbers.take all.length)=true) (h:K T M H):drawnR P nt all (n+1) E S T M H K:=by
 show drawStep P nt all (drawnR P nt all n) E S T M H K
 unfold drawStep
 rw [hn,he]
 dsimp only
 rw [hE]
 exact h

theorem eff_known {n i:Nat} {o:Oper} {T1 T2:Tm} {v:AV} {H':List PO} (hg:∀ k,guarded all T o k=k T1 true)
  (ha:∀ K':KP,aop P T1 H K' o.op=K' v [] H') (hp:∀ k,putT nt T1 o.dst v k=k T2)
  (h:checksR P all E (ahead all 1000 [i] S) T2 H' (drawnR P nt all n (i::E) (ahead all 1000 [i] S) T2 M H' K) numbers all):effR P nt all n E S T M H K (i,o):=by
 unfold effR
 dsimp only
 rw [hg]
 dsimp only
 rw [ha]
 rw [show ∀ k,killT [] T1 k=k T1 from fun _=>rfl,hp]
 exact h

theorem eff_skip {n i:Nat} {o:Oper} {T1 T2:Tm} (hg:∀ k,guarded all T o k=k T1 false) (hp:∀ k,putT nt T1 o.dst undefA k=k T2)
  (h:checksR P all E (ahead all 1000 [i] S) T2 H (drawnR P nt all n (i::E) (ahead all 1000 [i] S) T2 M H K) numbers all):effR P nt all n E S T M H K (i,o):=by
 unfold effR
 dsimp only
 rw [hg]
 dsimp only
 rw [hp]
 exact h

theorem eff_run {n i:Nat} {o:Oper} {T1:Tm} (hg:∀ k,guarded all T o k=k T1 true)
  (h:aop P T1 H (fun v M' H'=>killT M' T1 fun T2=>putT nt T2 o.dst v fun T3=>addM M' M fun M2 =>
     checksR P all E (ahead all 1000 [i] S) T3 H' (drawnR P nt all n (i::E) (ahead all 1000 [i] S) T3 M2 H' K) numbers all) o.op):effR P nt all n E S T M H K (i,o):=by
 unfold effR
 dsimp only
 rw [hg]
 exact h

end
end
section
attribute [local irreducible] drawnR

theorem set_next (P R:List PtZ) (x y:PtZ):((P++y::(x::R)).set (P.length+1) y).set P.length x=P++x::(y::R):=by
 rw [List.set_append_right _ _ (by omega),show P.length+1-P.length=1 by omega,List.set_append_right _ _ (by omega),Nat.sub_self]
 rfl

theorem get_next (P R:List PtZ) (x y:PtZ):(P++y::(x::R))[P.length+1]? = some x:=by
 rw [List.getElem?_append_right (by omega),show P.length+1-P.length=1 by omega];rfl

theorem cmp_lt {x y:Int}:cmpZ x y<0↔x<y:=by
 rw [cmpZ]
 split
 · simp;assumption
 · split <;> simp <;> omega

section

variable {K:KP}

set_option maxHeartbeats 4000000 in
theorem insertion {A S B:List PtZ} {k a b:Nat} {nn:Bool} (ha:A.length=a) (hb:a+S.length=b) (hk:(A++(S++B)).length=k) (hkb:k≤1000000)
  (h:∀ S',St S S'→K undefA [] [.rows false 4 ((A++(S'++B)).map rowPt)]) :
  Does Tryz.prog 264 [cv (.slc 0 0 k none nn),i64 a,i64 b,pfn] [.rows false 4 ((A++(S++B)).map rowPt)] K:=by
 refine does Tryz.func264 rfl (by decide) ?_
 have hkl:=hk
 simp only [List.length_append] at hkl
 have wa1:IntKind.i64.wrap ((a:Int)+1)=((a+1:Nat):Int):=wrap_i64 _ (by omega) (by omega)
 refine SS.loop (fun s:List PtZ×List PtZ=>Srt s.1∧Keys S (s.1++s.2)∧(S=[]∧s.1=[]∨0<s.1.length))
  (fun s=>[(0,cv (.slc 0 0 k none nn)),(1,i64 a),(2,i64 b),(3,pfn),(8,i64 (a+max 1 s.1.length:Nat))]) (fun s=>[.rows false 4 ((A++((s.1++s.2)++B)).map rowPt)]) (fun s=>s.2.length) []
  (At.mk' [0,1,2,3,8] (S.take 1,S.drop 1) ⟨?_,?_,?_⟩ ⟨?_,rfl⟩ ?_ rfl (by simp) (by simp) (by simp)) ?_
 · cases S with
   | nil=>exact List.Pairwise.nil
   | cons s S=>exact List.pairwise_singleton _ _
 · rw [List.take_append_drop];exact .refl _
 · cases S with
   | nil=>exact .inl ⟨rfl,rfl⟩
   | cons s S=>exact .inr (by simp)
 · rw [wa1,show max 1 (S.take 1).length=1 by rw [List.length_take];omega]
 · rw [List.take_append_drop];rfl
 rintro ⟨P,R⟩ ⟨hs,hkey,hne⟩
 dsimp only at hs hkey hne
 have hkeyl:=hkey.len
 rw [List.length_append] at hkeyl
 refine S_r ?_
 refine bZ (fun hlt=>?_) (fun hlt=>?_)
 · have hlt:a+max 1 P.length<b:=by
    have:=oTr hlt
    have:((a+max 1 P.length:Nat):Int)<(b:Int):=this
    omega
   have hP:0<P.length:=by
    rcases hne with ⟨rfl,_⟩ | hne
    · simp at hb;omega
    · exact hne
   have hmx:max 1 P.length=P.length:=by omega
   obtain ⟨x,R',rfl⟩ : ∃ x R',R=x::R':=by
    cases R with
    | nil=>simp at hkeyl;omega
    | cons x R'=>exact ⟨x,R',rfl⟩
   rw [List.length_cons] at hkeyl
   refine SS.loop (fun s:List PtZ×List PtZ=>s.1++s.2=P∧∀ y∈s.2,x.w<y.w)
    (fun s=>[(0,cv (.slc 0 0 k none nn)),(1,i64 a),(2,i64 b),(3,pfn),(8,i64 (a+P.length:Nat)),(9,i64 (a+s.1.length:Nat))]) (fun s=>[.rows false 4 ((A++(s.1++x::(s.2++(R'++B)))).map rowPt)]) (fun s=>s.1.length) []
    (At.mk' [0,1,2,3,8,9] (P,[]) ⟨List.append_nil _,fun y hy=>by cases hy⟩ ⟨?_,rfl⟩ ?_ rfl (by simp) (by simp) (by simp)) ?_
   · dsimp only
     rw [hmx]
   · simp
   rintro ⟨P1,P2⟩ ⟨hPe,hP2⟩
   dsimp only at hPe hP2
   have hPl:=congrArg List.length hPe
   rw [List.length_append] at hPl
   refine S_r ?_
   refine SS.drawR follows (by decide) ?_
   have fin:(∀ y∈P1,y.w≤x.w)→Srt (P1++([x]++P2))∧Keys S ((P1++([x]++P2))++R')∧(S=[]∧P1++([x]++P2)=[]∨0<(P1++([x]++P2)).length):=fun hle=>by
    obtain ⟨s1,s2⟩:=St.back (y:=x) (X1:=P1) (X2:=P2) (by rw [hPe];exact hs) hle hP2
    refine ⟨s1,?_,.inr (by rw [List.length_append,List.length_append,List.length_singleton];omega)⟩
    refine hkey.trans ?_
    rw [←hPe,show P1++P2++x::R'=(P1++P2++[x])++R' by simp]
    exact s2.app (.refl R')
   have hnl:(P1++([x]++P2)).length=P.length+1:=by simp;omega
   have wi:IntKind.i64.wrap (((a+P.length:Nat):Int)+1)=((a+max 1 (P1++([x]++P2)).length:Nat):Int):=by rw [wrap_i64 _ (by omega) (by omega),hnl];omega
   by_cases hP0:P1=[]
   · subst hP0
     have dj:decide (((a+([]:List PtZ).length:Nat):Int) > (a:Int))=false:=decide_eq_false (by simp)
     repeat' (first | refine draw_known (v:=bl false) rfl (fun _=>rfl) (fun K'=>congrArg (fun z=>K' (bl z) [] _) dj) (fun _=>rfl) ?_ | refine draw_known rfl (fun _=>rfl) (fun _=>rfl) (fun _=>rfl) ?_ | refine draw_skip rfl (fun _=>rfl) (fun _=>rfl) ?_ | refine draw_end rfl rfl rfl ?_ | refine draw_eff1 rfl rfl ?_ | refine eff_skip (fun _=>rfl) (fun _=>rfl) ?_ | refine And.intro rfl ?_ | fail)
     refine At.mk' [0,1,2,3,8] ([]++([x]++P2),R') ⟨fin (fun y hy=>by cases hy),by dsimp only;simp⟩ ⟨?_,rfl⟩ ?_ rfl (by simp) (by simp) (by simp)
     · dsimp only
       rw [wi]
     · simp
   obtain ⟨Q1,y,rfl⟩ : ∃ Q1 y,P1=Q1++[y]:=⟨_,_,(List.dropLast_concat_getLast hP0).symm⟩
   have hql:(Q1++[y]).length=Q1.length+1:=by simp
   have dj:decide (((a+(Q1++[y]).length:Nat):Int) > (a:Int))=true:=decide_eq_true (by rw [hql];omega)
   have wj:IntKind.i64.wrap (((a+(Q1++[y]).length:Nat):Int)-1)=((a+Q1.length:Nat):Int):=by rw [hql,wrap_i64 _ (by omega) (by omega)];omega
   have hdata:A++((Q1++[y])++x::(P2++(R'++B)))=(A++Q1)++y::(x::(P2++(R'++B))):=by simp
   have hAQ:(A++Q1).length=a+Q1.length:=by rw [List.length_append,ha]
   have r1:((A++((Q1++[y])++x::(P2++(R'++B)))).map rowPt)[0+Int.toNat ((a+(Q1++[y]).length:Nat):Int)]? = some (rowPt x):=by
    rw [Nat.zero_add,Int.toNat_natCast,List.getElem?_map,hdata,hql,show a+(Q1.length+1)=(A++Q1).length+1 by omega,get_next];rfl
   have r2:((A++((Q1++[y])++x::(P2++(R'++B)))).map rowPt)[0+Int.toNat (IntKind.i64.wrap (((a+(Q1++[y]).length:Nat):Int)-1))]? = some (rowPt y):=by
    rw [wj,Nat.zero_add,Int.toNat_natCast,List.getElem?_map,hdata,←hAQ,get_one];rfl
   have hcl:a+(Q1++[y]).length<k:=by
    rw [hql] at hPl ⊢
    omega
   have c1:(0:Int)≤((a+(Q1++[y]).length:Nat):Int)∧((a+(Q1++[y]).length:Nat):Int)<(k:Int):=by omega
   have c2:(0:Int)≤IntKind.i64.wrap (((a+(Q1++[y]).length:Nat):Int)-1)∧IntKind.i64.wrap (((a+(Q1++[y]).length:Nat):Int)-1)<(k:Int):=by rw [wj];omega
   have hs2:(((A++((Q1++[y])++x::(P2++(R'++B)))).map rowPt).set (0+Int.toNat ((a+(Q1++[y]).length:Nat):Int)) (rowPt y)).set (0+Int.toNat (IntKind.i64.wrap (((a+(Q1++[y]).length:Nat):Int)-1))) (rowPt x)=(A++(Q1++x::((y::P2)++(R'++B)))).map rowPt:=by
    rw [wj,Nat.zero_add,Nat.zero_add,Int.toNat_natCast,Int.toNat_natCast,←List.map_set,←List.map_set,hdata,hql,show a+(Q1.length+1)=(A++Q1).length+1 by omega,←hAQ,set_next]
    simp
   repeat' (first | refine draw_known (v:=bl true) rfl (fun _=>rfl) (fun K'=>congrArg (fun z=>K' (bl z) [] _) dj) (fun _=>rfl) ?_ | refine draw_cond (v:=cv (.rptr 0 (0+Int.toNat ((a+(Q1++[y]).length:Nat):Int)) 0)) (C:=(0:Int)≤((a+(Q1++[y]).length:Nat):Int)∧((a+(Q1++[y]).length:Nat):Int)<(k:Int)) rfl (fun _=>rfl) (by intro _ c k;exact ⟨c.1,c.2,k⟩) (by intro _;rfl) c1 ?_ | refine draw_cond (v:=cv (.rptr 0 (0+Int.toNat (IntKind.i64.wrap (((a+(Q1++[y]).length:Nat):Int)-1))) 0)) (C:=(0:Int)≤IntKind.i64.wrap (((a+(Q1++[y]).length:Nat):Int)-1)∧IntKind.i64.wrap (((a+(Q1++[y]).length:Nat):Int)-1)<(k:Int)) rfl (fun _=>rfl) (by intro _ c k;exact ⟨c.1,c.2,k⟩) (by intro _;rfl) c2 ?_ | refine draw_cond (v:=.p (.agg [.f (.int .i64 x.w),.f (.int .i64 x.t),.f (.int .i64 x.k),.f (.bool x.l)])) (C:=_) rfl (fun _=>rfl) (by intro _ c k;exact ⟨rowPt x,c,k⟩) (by intro _;rfl) r1 ?_ | refine draw_cond (v:=.p (.agg [.f (.int .i64 y.w),.f (.int .i64 y.t),.f (.int .i64 y.k),.f (.bool y.l)])) (C:=_) rfl (fun _=>rfl) (by intro _ c k;exact ⟨rowPt y,c,k⟩) (by intro _;rfl) r2 ?_ | refine draw_known rfl (fun _=>rfl) (fun _=>rfl) (fun _=>rfl) ?_ | refine draw_skip rfl (fun _=>rfl) (fun _=>rfl) ?_ | refine draw_end rfl rfl rfl ?_ | fail)
   refine draw_eff1 rfl rfl ?_
   refine eff_run (fun _=>rfl) ?_
   change Does Tryz.prog 187 _ _ _
   refine Does.alone 1 (cmpPt x y ?_)
   repeat' (first | refine And.intro rfl ?_ | refine And.intro (And.intro c1.1 (And.intro c1.2 rfl)) ?_ | refine And.intro (And.intro c2.1 (And.intro c2.2 rfl)) ?_ | refine And.intro (Exists.intro _ (And.intro r1 rfl)) ?_ | refine And.intro (Exists.intro _ (And.intro r2 rfl)) ?_ | fail)
   change drawnR _ _ _ _ _ _ _ _ _ _
   by_cases hxy:x.w<y.w
   · have dx:decide (cmpZ x.w y.w<0)=true:=decide_eq_true (cmp_lt.2 hxy)
     repeat' (first | refine draw_known (v:=bl true) rfl (fun _=>rfl) (fun K'=>congrArg (fun z=>K' (bl z) [] _) dx) (fun _=>rfl) ?_ | refine draw_known rfl (fun _=>rfl) (fun _=>rfl) (fun _=>rfl) ?_ | refine draw_skip rfl (fun _=>rfl) (fun _=>rfl) ?_ | refine draw_end rfl rfl rfl ?_ | fail)
     refine SS.drawR follows (by decide) ?_
     repeat' (first | refine draw_cond (v:=cv (.rptr 0 (0+Int.toNat ((a+(Q1++[y]).length:Nat):Int)) 0)) (C:=(0:Int)≤((a+(Q1++[y]).length:Nat):Int)∧((a+(Q1++[y]).length:Nat):Int)<(k:Int)) rfl (fun _=>rfl) (by intro _ c k;exact ⟨c.1,c.2,k⟩) (by intro _;rfl) c1 ?_ | refine draw_cond (v:=cv (.rptr 0 (0+Int.toNat (IntKind.i64.wrap (((a+(Q1++[y]).length:Nat):Int)-1))) 0)) (C:=(0:Int)≤IntKind.i64.wrap (((a+(Q1++[y]).length:Nat):Int)-1)∧IntKind.i64.wrap (((a+(Q1++[y]).length:Nat):Int)-1)<(k:Int)) rfl (fun _=>rfl) (by intro _ c k;exact ⟨c.1,c.2,k⟩) (by intro _;rfl) c2 ?_ | refine draw_cond (v:=.p (.agg [.f (.int .i64 x.w),.f (.int .i64 x.t),.f (.int .i64 x.k),.f (.bool x.l)])) (C:=_) rfl (fun _=>rfl) (by intro _ c k;exact ⟨rowPt x,c,k⟩) (by intro _;rfl) r1 ?_ | refine draw_cond (v:=.p (.agg [.f (.int .i64 y.w),.f (.int .i64 y.t),.f (.int .i64 y.k),.f (.bool y.l)])) (C:=_) rfl (fun _=>rfl) (by intro _ c k;exact ⟨rowPt y,c,k⟩) (by intro _;rfl) r2 ?_ | refine draw_known rfl (fun _=>rfl) (fun _=>rfl) (fun _=>rfl) ?_ | refine draw_skip rfl (fun _=>rfl) (fun _=>rfl) ?_ | refine draw_end rfl rfl rfl ?_ | fail)
     refine draw_eff1 rfl rfl ?_
     refine eff_run (fun _=>rfl) ?_
     refine wr1 (rowPt x) r1 ?_
     repeat' (first | refine And.intro rfl ?_ | refine And.intro (And.intro c1.1 (And.intro c1.2 rfl)) ?_ | refine And.intro (And.intro c2.1 (And.intro c2.2 rfl)) ?_ | refine And.intro (Exists.intro _ (And.intro r1 rfl)) ?_ | refine And.intro (Exists.intro _ (And.intro r2 rfl)) ?_ | fail)
     change drawnR _ _ _ _ _ _ _ _ _ _
     repeat' (first | refine draw_cond (v:=cv (.rptr 0 (0+Int.toNat (IntKind.i64.wrap (((a+(Q1++[y]).length:Nat):Int)-1))) 0)) (C:=(0:Int)≤IntKind.i64.wrap (((a+(Q1++[y]).length:Nat):Int)-1)∧IntKind.i64.wrap (((a+(Q1++[y]).length:Nat):Int)-1)<(k:Int)) rfl (fun _=>rfl) (by intro _ c k;exact ⟨c.1,c.2,k⟩) (by intro _;rfl) c2 ?_ | refine draw_known rfl (fun _=>rfl) (fun _=>rfl) (fun _=>rfl) ?_ | refine draw_skip rfl (fun _=>rfl) (fun _=>rfl) ?_ | refine draw_end rfl rfl rfl ?_ | fail)
     refine draw_eff1 rfl rfl ?_
     refine eff_run (fun _=>rfl) ?_
     refine wr1 (rowPt y) (show (((A++((Q1++[y])++x::(P2++(R'++B)))).map rowPt).set (0+Int.toNat ((a+(Q1++[y]).length:Nat):Int)) (rowPt y))[0+Int.toNat (IntKind.i64.wrap (((a+(Q1++[y]).length:Nat):Int)-1))]? = some (rowPt y) by rw [List.getElem?_set_ne (by rw [wj,hql];omega)];exact r2) ?_
     repeat' (first | refine And.intro rfl ?_ | refine And.intro (And.intro c1.1 (And.intro c1.2 rfl)) ?_ | refine And.intro (And.intro c2.1 (And.intro c2.2 rfl)) ?_ | refine And.intro (Exists.intro _ (And.intro r1 rfl)) ?_ | refine And.intro (Exists.intro _ (And.intro r2 rfl)) ?_ | fail)
     change drawnR _ _ _ _ _ _ _ _ _ _
     refine draw_end rfl rfl rfl ?_
     refine At.mk' [0,1,2,3,8,9] (Q1,y::P2) ⟨⟨by rw [←hPe];simp,fun z hz=>?_⟩,by dsimp only;rw [hql];omega⟩ ⟨?_,rfl⟩ ?_ rfl (by simp) (by simp) (by simp)
     · rcases List.mem_cons.1 hz with rfl | hz
       · exact hxy
       · exact hP2 z hz
     · rw [wj]
     · show [PO.rows false 4 _]=[PO.rows false 4 _]
       rw [hs2]
   · have dx:decide (cmpZ x.w y.w<0)=false:=decide_eq_false fun h=>hxy (cmp_lt.1 h)
     repeat' (first | refine draw_known (v:=bl false) rfl (fun _=>rfl) (fun K'=>congrArg (fun z=>K' (bl z) [] _) dx) (fun _=>rfl) ?_ | refine draw_known rfl (fun _=>rfl) (fun _=>rfl) (fun _=>rfl) ?_ | refine draw_skip rfl (fun _=>rfl) (fun _=>rfl) ?_ | refine draw_end rfl rfl rfl ?_ | fail)
     refine At.mk' [0,1,2,3,8] ((Q1++[y])++([x]++P2),R') ⟨fin (fun z hz=>?_),by dsimp only;simp⟩ ⟨?_,rfl⟩ ?_ rfl (by simp) (by simp) (by simp)
     · have hsl:Srt (Q1++[y]):=Srt.left (Y:=P2) (by rw [hPe];exact hs)
       rcases List.mem_append.1 hz with hz | hz
       · have:=hsl.le z hz y (by simp)
         omega
       · rw [List.mem_singleton.1 hz]
         omega
     · dsimp only
       rw [wi]
     · simp
 · have hlt:¬a+max 1 P.length<b:=by
    have:=oFa hlt
    have:¬((a+max 1 P.length:Nat):Int)<(b:Int):=this
    omega
   have hR:R=[]:=by
    rcases hne with ⟨rfl,rfl⟩ | hne
    · exact List.length_eq_zero_iff.1 (by simpa using hkeyl)
    · exact List.length_eq_zero_iff.1 (by omega)
   subst hR
   rw [List.append_nil] at hkey ⊢
   exact h P ⟨hs,hkey⟩

end
end
end Go.Mac
end
