/- Texts that belong together; the first of them:  -/
import Derived.Test.YtollgfhpcidkgaaGreatDoorMacDraw

section
namespace Go.Mac
open Go

abbrev KT:=Tm→List Nat→List PO→Prop

def opR (P:Program) (nt:Nat) (all:List Oper) (o:Oper) (ih:Tm→List Nat→List PO→KT→Prop) (T:Tm) (M:List Nat) (H:List PO) (K:KT):Prop :=
 match o.guard with
 | none=>aopX P T H (fun v M' H'=>killT M' T fun T'=>putT nt T' o.dst v fun T''=>addM M' M fun M''=>ih T'' M'' H' K) o.op
 | some (j,want) =>
   match (nth all j).bind (·.dst) with
   | some d =>
     match lk T d with
     | .p (.c (.f (.bool b))) =>
       brc b
        (match want with
          | true=>aopX P ((d,bl true)::T) H (fun v M' H'=>killT M' ((d,bl true)::T) fun T'=>putT nt T' o.dst v fun T''=>addM M' M fun M''=>ih T'' M'' H' K) o.op
          | false=>putT nt ((d,bl true)::T) o.dst undefA fun T''=>ih T'' M H K)
        (match want with
          | false=>aopX P ((d,bl false)::T) H (fun v M' H'=>killT M' ((d,bl false)::T) fun T'=>putT nt T' o.dst v fun T''=>addM M' M fun M''=>ih T'' M'' H' K) o.op
          | true=>putT nt ((d,bl false)::T) o.dst undefA fun T''=>ih T'' M H K)
     | .tup []=>putT nt T o.dst undefA fun T''=>ih T'' M H K
     | _=>False
   | none=>False

noncomputable def opsR (P:Program) (nt:Nat) (all:List Oper) (ops:List Oper):Tm→List Nat→List PO→KT→Prop :=
 @List.rec Oper (fun _=>Tm→List Nat→List PO→KT→Prop) (fun T M H K=>K T M H) (fun o _ ih=>opR P nt all o ih) ops

theorem opsR_eq (P:Program) (nt:Nat) (all:List Oper):∀ (ops:List Oper),opsR P nt all ops=runOps P nt all ops
 | []=>rfl
 | o::rest=>by
   have ih:=opsR_eq P nt all rest
   funext T M H K
   show opR P nt all o (opsR P nt all rest) T M H K=_
   rw [ih]
   rfl

abbrev QT:=Ex→Tm→List Nat→List PO→Prop
abbrev CT:=Tm→List Nat→List PO→QT→Prop

def regionR (P:Program) (nt N0:Nat) (id:Nat) (ops:Array Oper) (draw:Bool):CT:=fun T M H Q =>
 match draw with
 | false=>opsR P nt ops.toList ops.toList T M H fun T' M' H'=>Q .normal T' M' H'
 | true=>SS P nt N0 (.region id ops true) T M H Q

def seqR (P:Program) (nt N0:Nat) (a b:Code) (ia ib:CT):CT:=fun T M H Q =>
 match joins a with
 | false=>ia T M H fun e T' M' H'=>match e with
   | .normal=>ib T' M' H' Q
   | e=>Q e T' M' H'
 | true=>SS P nt N0 (.seq a b) T M H Q

def condR (c:Operand) (ia ib:CT):CT:=fun T M H Q =>
 match ev T c with
 | .p (.c (.f (.bool t)))=>brc t (ia (setC c true T) M H Q) (ib (setC c false T) M H Q)
 | _=>False

def blockR (id:Nat) (ic:CT):CT:=fun T M H Q =>
 ic T M H fun e T' M' H'=>match e with
  | .exit j=>match Nat.beq j id with
    | true=>Q .normal T' M' H'
    | false=>Q (.exit j) T' M' H'
  | e=>Q e T' M' H'

noncomputable def SR (P:Program) (nt N0:Nat) (c:Code):CT :=
 @Code.rec (fun _=>CT) (fun T M H Q=>Q .normal T M H) (fun id ops draw=>regionR P nt N0 id ops draw) (fun a b ia ib=>seqR P nt N0 a b ia ib) (fun c _ _ ia ib=>condR c ia ib) (fun id _ ic=>blockR id ic)
  (fun c _=>fun T M H Q=>SS P nt N0 (.loop c) T M H Q) (fun _ _ _ _ _ _=>fun _ _ _ _=>False) (fun id=>fun T M H Q=>Q (.exit id) T M H) (fun _ _=>fun _ _ _ _=>False) (fun _=>fun T M H Q=>Q .normal T M H)
  (fun _=>fun _ _ _ _=>False) (fun T M H Q=>Q .ret T M H) (fun _=>fun _ _ _ _=>False) c

theorem SR_eq (P:Program) (nt N0:Nat):∀ (c:Code),SR P nt N0 c=S P nt N0 c
 | .skip=>rfl
 | .region id ops draw=>by
   funext T M H Q
   show regionR P nt N0 id ops draw T M H Q=_
   unfold regionR S
   rw [opsR_eq]
   cases draw <;> rfl
 | .seq a b=>by
   funext T M H Q
   show seqR P nt N0 a b (SR P nt N0 a) (SR P nt N0 b) T M H Q=_
   rw [SR_eq P nt N0 a,SR_eq P nt N0 b]
   conv=>rhs;unfold S
   unfold seqR
   rfl
 | .cond c a b=>by
   funext T M H Q
   show condR c (SR P nt N0 a) (SR P nt N0 b) T M H Q=_
   rw [SR_eq P nt N0 a,SR_eq P nt N0 b]
   conv=>rhs;unfold S
   unfold condR
   rfl
 | .block id c=>by
   funext T M H Q
   show blockR id (SR P nt N0 c) T M H Q=_
   rw [SR_eq P nt N0 c]
   conv=>rhs;unfold S
   unfold blockR
   rfl
 | .loop c=>rfl
 | .rangeFunc _ _ _ _=>rfl
 | .exit _=>rfl
 | .scope _=>rfl
 | .label _=>rfl
 | .goto _=>rfl
 | .ret=>rfl
 | .refuse _=>rfl

def FnR (P:Program) (fn:Func) (c:Code) (args:List AV) (H:List PO) (K:KP):Prop :=
 lenK H numbers fun N0=>startK args numbers fun T=>SR P fn.ntmps N0 c T [] H fun e T' M' H' =>
  match e with
  | .exit _=>False
  | _=>resK P T' H' fn.results.toList fun vs=>tupA vs fun v=>endK N0 v M' H' K

theorem does {P:Program} {f:FuncId} {fn:Func} {c:Code} {args:List AV} {H:List PO} {K:KP} (hf:P.funcs[f]? = some fn) (hc:fn.body=some c) (hn:fn.name ≠ "runtime.NumGoroutine")
 (h:FnR P fn c args H K):Does P f args H K:=by
 refine does_of hf hc hn ?_
 unfold FnR at h
 simp only [SR_eq] at h
 exact h

theorem S_r {P:Program} {nt N0:Nat} {c:Code} {T:Tm} {M:List Nat} {H:List PO} {Q:QT} (h:SR P nt N0 c T M H Q):SS P nt N0 c T M H Q:=by
 rw [SR_eq] at h
 exact S_ok _ _ _ _ _ h

theorem SS.inlR {P:Program} {nt N0:Nat} {x y:Code} {T:Tm} {M:List Nat} {H:List PO} {Q:QT} (h:SR P nt N0 x T M H fun e T' M' H'=>match e with
 | .normal=>SR P nt N0 y T' M' H' Q
 | e=>Q e T' M' H'):SS P nt N0 (.seq x y) T M H Q:=by
 refine SS.inl ?_
 rw [SR_eq,SR_eq] at h
 exact h

abbrev DT:=List Nat→List Nat→Tm→List Nat→List PO→KT→Prop

def checkR (P:Program) (all:List Oper) (E S:List Nat) (T:Tm) (H:List PO) (k:Prop) (i:Nat) (ih:List Oper→Prop) (os:List Oper):Prop :=
 match os with
 | o::os=>bif quiet o.op && has E i && !has S i then again P all T H o∧ih os else ih os
 | []=>k

noncomputable def checksR (P:Program) (all:List Oper) (E S:List Nat) (T:Tm) (H:List PO) (k:Prop) (is:List Nat):List Oper→Prop :=
 @List.rec Nat (fun _=>List Oper→Prop) (fun _=>k) (fun i _ ih=>checkR P all E S T H k i ih) is

theorem checksR_eq (P:Program) (all:List Oper) (E S:List Nat) (T:Tm) (H:List PO) (k:Prop):∀ (is:List Nat) (os:List Oper),checksR P all E S T H k is os=checks P all E S T H k is os
 | [],os=>by cases os <;> rfl
 | i::is,[]=>rfl
 | i::is,o::os=>by
   show checkR P all E S T H k i (checksR P all E S T H k is) (o::os)=_
   rw [funext (checksR_eq P all E S T H k is)]
   rfl

def drawStep (P:Program) (nt:Nat) (all:List Oper) (ih:DT):DT:=fun E S T M H K =>
    match nextQ E numbers all with
    | some (i,o)=>guarded all T o fun T' b =>
      match b with
      | true=>aop P T' H (fun v _ _=>putT nt T' o.dst v fun T''=>ih (i::E) S T'' M H K) o.op
      | false=>putT nt T' o.dst undefA fun T''=>ih (i::E) S T'' M H K
    | none =>
      match effs E numbers all with
      | []=>bif hasAll E (numbers.take all.length) then K T M H else False
      | R=>allR (fun (x:Nat×Oper)=>guarded all T x.2 fun T' b =>
        match b with
        | true=>aop P T' H (fun v M' H'=>killT M' T' fun T1=>putT nt T1 x.2.dst v fun T2=>addM M' M fun M2 =>
           checksR P all E (ahead all 1000 [x.1] S) T2 H' (ih (x.1::E) (ahead all 1000 [x.1] S) T2 M2 H' K) numbers all) x.2.op
        | false=>putT nt T' x.2.dst undefA fun T2 =>
           checksR P all E (ahead all 1000 [x.1] S) T2 H (ih (x.1::E) (ahead all 1000 [x.1] S) T2 M H K) numbers all) R

noncomputable def drawnR (P:Program) (nt:Nat) (all:List Oper) (n:Nat):DT :=
 @Nat.rec (fun _=>DT) (fun _ _ _ _ _ _=>False) (fun _ ih=>drawStep P nt all ih) n

theorem drawnR_eq (P:Program) (nt:Nat) (all:List Oper):∀ (n:Nat),drawnR P nt all n=drawn P nt all n
 | 0=>by funext E S T M H K;rfl
 | n+1=>by
   have ih:=drawnR_eq P nt all n
   funext E S T M H K
   show drawStep P nt all (drawnR P nt all n) E S T M H K=_
   rw [ih]
   unfold drawStep
   simp only [checksR_eq]
   rfl

theorem SS.drawR {P:Program} {nt N0:Nat} {id:Nat} {ops:Array Oper} {T:Tm} {M:List Nat} {H:List PO} {Q:QT} (hf:P.follows .mixedOrders=true) (hs:ssa ops.toList=true)
 (h:drawnR P nt ops.toList 400 [] [] T M H fun T' M' H'=>Q .normal T' M' H'):SS P nt N0 (.region id ops true) T M H Q :=
 SS.draw hf hs (by rw [drawnR_eq] at h;exact h)

section

variable {P:Program} {H:List PO} {f:FuncId} {args:List AV} {K:KP}

theorem Does.alone (m:Nat) (h:Does P f args [] fun x M Hl'=>mapM (gmap [] m) M fun Mg=>killHK Mg H fun H0=>setAllK (gmap [] m) H0 [] Hl' fun H'=>renAK (gmap [] m) x fun y=>K y Mg H')
 (hm:H.length=m:=by rfl) (hla:lowAs 0 args=true:=by rfl) (ha:args=args.map (renA (gmap [] m)):=by rfl):Does P f args H K :=
 Does.frame m [] [] args h hm (by simp) (by simp) rfl rfl hla rfl ha

theorem Does.on (m:Nat) (ids:List Nat) (Hl:List PO) (argsl:List AV) (h:Does P f argsl Hl fun x M Hl'=>mapM (gmap ids m) M fun Mg=>killHK Mg H fun H0=>setAllK (gmap ids m) H0 ids Hl' fun H'=>renAK (gmap ids m) x fun y=>K y Mg H')
 (hm:H.length=m:=by rfl) (hn:ids.Nodup:=by decide) (hlt:∀ i∈ids,i<m:=by decide) (hl:Hl.length=ids.length:=by rfl) (hlo:lowH ids.length Hl=true:=by rfl) (hla:lowAs ids.length argsl=true:=by rfl)
 (hH:(ids.map fun i=>H[i]?)=Hl.map fun o=>some (renO (gmap ids m) o):=by rfl) (ha:args=argsl.map (renA (gmap ids m)):=by rfl):Does P f args H K :=
 Does.frame m ids Hl argsl h hm hn hlt hl hlo hla hH ha

end

theorem wrap_i64 (n:Int) (h0 : -9223372036854775808≤n) (h1:n≤9223372036854775807):IntKind.i64.wrap n=n:=by
 simp only [IntKind.wrap,IntKind.bits,IntKind.signed]
 simp
 omega

theorem wrap_u64 (n:Int) (h0:0≤n) (h1:n<18446744073709551616):IntKind.u64.wrap n=n:=by
 simp only [IntKind.wrap,IntKind.bits,IntKind.signed]
 simp
 omega

theorem eqb {K:Bool→Prop} {a b:Bool} (h:K a) (e:a=b):K b:=e ▸ h
theorem eqz {K:Int→Prop} {a b:Int} (h:K a) (e:a=b):K b:=e ▸ h
theorem eqx {α : Type} {K : α→Prop} {a b : α} (h:K a) (e:a=b):K b:=e ▸ h

theorem SS.nil {P:Program} {nt N0:Nat} {c:Code} {T:Tm} {M:List Nat} {H:List PO} {Q:QT} (d sz:Nat) (hsz:0<sz) (hd:lk T d=cv .nilslc)
 (h:SS P nt N0 c ((d,cv (.slc H.length 0 0 none false))::T) M (H++[.rows false sz []]) Q):SS P nt N0 c T M H Q:=by
 refine ⟨fun B R w0 L0 L w a R0 h1 h2 h3 h4 h5=>?_⟩
 obtain ⟨g1,g2⟩:=none_sound h3 sz hsz
 refine h.run B R w0 L0 _ w a R0 (by simp;omega) ?_ g2 ⟨fun i=>?_,h4.defers,h4.room⟩ h5
 · intro i hi hm
   rw [upd_ne (by omega)]
   exact h2 i hi hm
 · rw [lk_cons]
   split
   · rename_i e
     subst e
     have:=h4.get d
     rw [hd] at this
     have hv:a.tmps.getD d undef=.slice none 0 0:=this
     exact ⟨by simp,.inl ⟨rfl,rfl,hv,fun c' hc'=>by cases hc'⟩⟩
   · have:=(h4.get i).mono (M:=[]) (N':=(H++[PO.rows false sz []]).length) (by simp) g1
     rwa [killA_nil] at this

theorem Rel.weaken {B R:Nat→Prop} {w0:World} {L:Nat→Loc} {H:List PO} {w:World} (h:Rel B R w0 L H w) {i:Nat} {cs cs':List CV} (hi:H[i]? = some (.one cs)) (hl:cs'.length=cs.length)
 (hv:∀ (f:Nat) (x':CV),cs'[f]? = some x'→∃ x,cs[f]? = some x∧∀ v,VC H.length L x v→VC H.length L x' v):Rel B R w0 L (H.set i (.one cs')) w:=by
 have hlt:=(List.getElem?_eq_some_iff.1 hi).1
 have hback:∀ (j:Nat) (o:PO),(H.set i (.one cs'))[j]? = some o→∃ o0,H[j]? = some o0∧(∀ b,Own o (L j) b→Own o0 (L j) b)∧(∀ b,Ro o (L j) b→Ro o0 (L j) b)∧(j≠i→o=o0):=fun j o hj=>by
  by_cases hji:j=i
  · subst hji
    rw [List.getElem?_set_self hlt] at hj
    obtain rfl:=Option.some.inj hj
    exact ⟨_,hi,fun b hb=>hb,fun b hb=>hb,fun hh=>absurd rfl hh⟩
  · rw [List.getElem?_set_ne (Ne.symm hji)] at hj
    exact ⟨o,hj,fun _ hb=>hb,fun _ hb=>hb,fun _=>rfl⟩
 refine ⟨h.below,h.start,fun j o hj=>?_,fun j o b hj hb=>?_,fun j o b hj hb=>?_,h.sub⟩
 · rw [List.length_set]
   by_cases hji:j=i
   · subst hji
     rw [List.getElem?_set_self hlt] at hj
     obtain rfl:=Option.some.inj hj
     obtain ⟨h1,h2,h3,h4,h5⟩:=h.obj j _ hi
     refine ⟨h1,by rw [hl];exact h2,by rw [hl];exact h3,by rw [hl];exact h4,fun f x' hx'=>?_⟩
     obtain ⟨x,hx,hvx⟩:=hv f x' hx'
     obtain ⟨v,hv1,hv2⟩:=h5 f x hx
     exact ⟨v,hv1,hvx v hv2⟩
   · obtain ⟨o0,h0,_,_,he⟩:=hback j o hj
     rw [he hji]
     exact h.obj j o0 h0
 · obtain ⟨o0,h0,ho,_,_⟩:=hback j o hj
   obtain ⟨k1,k2,k3⟩:=h.own j o0 b h0 (ho b hb)
   refine ⟨k1,k2,fun k o' hk hb'=>?_⟩
   obtain ⟨o1,h1,ho1,_,_⟩:=hback k o' hk
   exact k3 k o1 h1 (ho1 b hb')
 · obtain ⟨o0,h0,_,hro,_⟩:=hback j o hj
   exact h.ro j o0 b h0 (hro b hb)

theorem SS.nil2 {P:Program} {nt N0:Nat} {c:Code} {T:Tm} {M:List Nat} {H:List PO} {Q:QT} (d sz:Nat) (hd:lk T d=cv .nilslc)
 (h:SS P nt N0 c ((d,cv (.slc H.length 0 0 none false))::T) M (H++[.rows2 false sz []]) Q):SS P nt N0 c T M H Q:=by
 refine ⟨fun B R w0 L0 L w a R0 h1 h2 h3 h4 h5=>?_⟩
 obtain ⟨g1,g2⟩:=none2_sound h3 sz
 refine h.run B R w0 L0 _ w a R0 (by simp;omega) ?_ g2 ⟨fun i=>?_,h4.defers,h4.room⟩ h5
 · intro i hi hm
   rw [upd_ne (by omega)]
   exact h2 i hi hm
 · rw [lk_cons]
   split
   · rename_i e
     subst e
     have:=h4.get d
     rw [hd] at this
     have hv:a.tmps.getD d undef=.slice none 0 0:=this
     exact ⟨by simp,.inl ⟨rfl,rfl,hv,fun c' hc'=>by cases hc'⟩⟩
   · have:=(h4.get i).mono (M:=[]) (N':=(H++[PO.rows2 false sz []]).length) (by simp) g1
     rwa [killA_nil] at this

theorem SS.nilH2 {P:Program} {nt N0:Nat} {c:Code} {T:Tm} {M:List Nat} {H:List PO} {Q:QT} (i f sz:Nat) {cs:List CV} (hi:H[i]? = some (.one cs)) (hf:cs[f]? = some .nilslc)
 (h:SS P nt N0 c T M ((H++[PO.rows2 false sz []]).set i (PO.one (cs.set f (CV.slc H.length 0 0 none false)))) Q):SS P nt N0 c T M H Q:=by
 refine ⟨fun B R w0 L0 L w a R0 h1 h2 h3 h4 h5=>?_⟩
 obtain ⟨g1,g2⟩:=none2_sound h3 sz
 have hlt:=(List.getElem?_eq_some_iff.1 hi).1
 have g3:=g2.weaken (i:=i) (cs:=cs) (cs':=cs.set f (.slc H.length 0 0 none false)) (by rw [List.getElem?_append_left hlt];exact hi) (by simp) fun g x' hx'=>by
  by_cases hg:f=g
  · subst hg
    rw [List.getElem?_set_self (List.getElem?_eq_some_iff.1 hf).1] at hx'
    obtain rfl:=Option.some.inj hx'
    exact ⟨_,hf,fun v hv=>⟨by simp,.inl ⟨rfl,rfl,hv,fun c' hc'=>by cases hc'⟩⟩⟩
  · rw [List.getElem?_set_ne hg] at hx'
    exact ⟨x',hx',fun _ hv=>hv⟩
 refine h.run B R w0 L0 _ w a R0 (by simp;omega) ?_ g3 ⟨fun j=>?_,h4.defers,h4.room⟩ h5
 · intro j hj hm
   rw [upd_ne (by omega)]
   exact h2 j hj hm
 · have:=(h4.get j).mono (M:=[]) (N':=(H++[PO.rows2 false sz []]).length) (by simp) g1
   rw [killA_nil] at this
   simpa using this

theorem Does.nilH {P:Program} {f:FuncId} {args:List AV} {H:List PO} {K:KP} (i g sz:Nat) (hsz:0<sz) {cs:List CV} (hi:H[i]? = some (.one cs)) (hg:cs[g]? = some .nilslc)
 (h:Does P f args ((H++[PO.rows false sz []]).set i (PO.one (cs.set g (CV.slc H.length 0 0 none false)))) K):Does P f args H K:=by
 refine ⟨h.fn,fun B R w0 L w vs hrel hvs=>?_⟩
 obtain ⟨g1,g2⟩:=none_sound hrel sz hsz
 have hlt:=(List.getElem?_eq_some_iff.1 hi).1
 have g3:=g2.weaken (i:=i) (cs:=cs) (cs':=cs.set g (.slc H.length 0 0 none false)) (by rw [List.getElem?_append_left hlt];exact hi) (by simp) fun j x' hx'=>by
  by_cases hj:g=j
  · subst hj
    rw [List.getElem?_set_self (List.getElem?_eq_some_iff.1 hg).1] at hx'
    obtain rfl:=Option.some.inj hx'
    exact ⟨_,hg,fun v hv=>⟨by simp,.inl ⟨rfl,rfl,hv,fun c' hc'=>by cases hc'⟩⟩⟩
  · rw [List.getElem?_set_ne hj] at hx'
    exact ⟨x',hx',fun _ hv=>hv⟩
 refine (h.run B R w0 _ w vs g3 ?_).mono ?_
 · rw [List.length_set]
   clear h
   induction args generalizing vs with
   | nil=>exact hvs
   | cons x xs ih =>
     obtain ⟨y,ys,h1,h2,h3⟩:=hvs
     refine ⟨y,ys,h1,?_,ih _ h3⟩
     have:=h2.mono (M:=[]) (N':=(H++[PO.rows false sz []]).length) (by simp) g1
     rwa [killA_nil] at this
 · rintro e w' ⟨u,he,L',x,M,H',k1,k2,k3,k4,k5⟩
   rw [List.length_set] at k1 k2
   refine ⟨u,he,L',x,M,H',fun i hi hm=>?_,?_,k3,k4,k5⟩
   · rw [k1 i (by simp;omega) hm,upd_ne (by omega)]
   · simp at k2;omega

theorem Does.nilOut {P:Program} {f:FuncId} {args:List AV} {H:List PO} {K:KP} (i g sz:Nat) (hsz:0<sz)
 (h:Does P f args H fun x M H'=>∃ cs,H'[i]? = some (PO.one cs)∧cs[g]? = some CV.nilslc∧K x M ((H'++[PO.rows false sz []]).set i (PO.one (cs.set g (CV.slc H'.length 0 0 none false))))):Does P f args H K:=by
 refine ⟨h.fn,fun B R w0 L w vs hrel hvs=>(h.run B R w0 L w vs hrel hvs).mono ?_⟩
 rintro e w' ⟨u,he,L',x,M,H',k1,k2,k3,k4,cs,hi,hg,hk⟩
 obtain ⟨g1,g2⟩:=none_sound k4 sz hsz
 have hlt:=(List.getElem?_eq_some_iff.1 hi).1
 have g3:=g2.weaken (i:=i) (cs:=cs) (cs':=cs.set g (.slc H'.length 0 0 none false)) (by rw [List.getElem?_append_left hlt];exact hi) (by simp) fun j x' hx'=>by
  by_cases hj:g=j
  · subst hj
    rw [List.getElem?_set_self (List.getElem?_eq_some_iff.1 hg).1] at hx'
    obtain rfl:=Option.some.inj hx'
    exact ⟨_,hg,fun v hv=>⟨by simp,.inl ⟨rfl,rfl,hv,fun c' hc'=>by cases hc'⟩⟩⟩
  · rw [List.getElem?_set_ne hj] at hx'
    exact ⟨x',hx',fun _ hv=>hv⟩
 refine ⟨u,he,_,x,M,_,fun j hj hm=>?_,by simp;omega,?_,g3,hk⟩
 · rw [upd_ne (by omega),k1 j hj hm]
 · have:=k3.mono (M:=[]) (N':=(H'++[PO.rows false sz []]).length) (by simp) g1
   rw [killA_nil] at this
   simpa using this

theorem Does.moved {P:Program} {f:FuncId} {args:List AV} {H:List PO} {K:KP} (M0:List Nat) (h:Does P f args H fun x M H'=>(∀ i∈M,i∈M0)∧K x M0 H'):Does P f args H K :=
 ⟨h.fn,fun B R w0 L w vs hrel hvs=>(h.run B R w0 L w vs hrel hvs).mono fun _ _ ⟨v,he,L',x,_M,H',h1,h2,h3,h4,h5,h6⟩ =>
  ⟨v,he,L',x,M0,H',h1.sup fun i hi _=>h5 i hi,h2,h3,h4,h6⟩⟩

theorem Does.cut {P:Program} {f:FuncId} {args:List AV} {H:List PO} {K:KP} (n:Nat) (h:Does P f args H fun x M H'=>H.length≤n∧n≤H'.length∧lowH n (H'.take n)=true∧lowA n x=true∧K x M (H'.take n)):Does P f args H K :=
 ⟨h.fn,fun B R w0 L w vs hrel hvs=>(h.run B R w0 L w vs hrel hvs).mono fun _ _ ⟨v,he,L',x,M,H',h1,_,h3,h4,n1,n2,hl,ha,hk⟩ =>
  have e:(H'.take n).length=n:=by rw [List.length_take];omega
  ⟨v,he,L',x,M,H'.take n,h1,by rw [e];exact n1,by rw [e];exact VA.low ha h3,h4.take hl n2,hk⟩⟩

theorem Rel.keep {B R:Nat→Prop} {w0:World} {L:Nat→Loc} {H:List PO} {w:World} (h:Rel B R w0 L H w) (ids:List Nat) (hnd:ids.Nodup) (hlt:∀ i∈ids,i<H.length) (Hl:List PO) (hl:Hl.length=ids.length) (hlo:lowH ids.length Hl=true)
 (hH:∀ (k j:Nat) (o:PO),ids[k]? = some j→Hl[k]? = some o→H[j]? = some (renO (gmap ids H.length) o)):Rel B R w0 (fun i=>L (gmap ids H.length i)) Hl w:=by
 have hgl:∀ i,i<ids.length→∃ j,ids[i]? = some j∧gmap ids H.length i=j∧j<H.length:=fun i hi=>by
  have h1:ids[i]? = some ids[i]:=by simp [hi]
  exact ⟨_,h1,gmap_some h1,hlt _ (List.getElem_mem hi)⟩
 have key:∀ (i:Nat) (o:PO),Hl[i]? = some o→∃ j,ids[i]? = some j∧gmap ids H.length i=j∧H[j]? = some (renO (gmap ids H.length) o):=fun i o ho=>by
  obtain ⟨j,h1,h2,_⟩:=hgl i (by rw [←hl];exact (List.getElem?_eq_some_iff.1 ho).1)
  exact ⟨j,h1,h2,hH i j o h1 ho⟩
 refine ⟨h.below,h.start,fun i o ho=>?_,fun i o b ho hb=>?_,fun i o b ho hb=>?_,h.sub⟩
 · obtain ⟨j,hj,hgj,hoj⟩:=key i o ho
   rw [hl]
   simp only [hgj]
   exact OR.unren (fun k hk=>by obtain ⟨_,_,e,hh⟩:=hgl k hk;omega) (lowH_spec hlo o (List.mem_of_getElem? ho)) (h.obj j _ hoj)
 · obtain ⟨j,hj,hgj,hoj⟩:=key i o ho
   simp only [hgj] at hb
   obtain ⟨h1,h2,h3⟩:=h.own j _ b hoj (Own_ren.2 hb)
   refine ⟨h1,h2,fun i' o' ho' hb'=>?_⟩
   obtain ⟨j',hj',hgj',hoj'⟩:=key i' o' ho'
   simp only [hgj'] at hb'
   have:=h3 j' _ hoj' (Own_ren.2 hb')
   subst this
   exact nodup_inj hnd hj' hj
 · obtain ⟨j,hj,hgj,hoj⟩:=key i o ho
   simp only [hgj] at hb
   exact h.ro j _ b hoj (Ro_ren.2 hb)

theorem Does.keep {P:Program} {f:FuncId} {args:List AV} {H:List PO} {K:KP} (N:Nat) (hN:H.length=N)
 (h:Does P f args H fun x M H'=>∃ (m:Nat) (ids:List Nat) (Hl:List PO) (xl:AV),H'.length=m∧ids.take N=List.range N∧ids.Nodup∧(∀ i∈ids,i<m)∧Hl.length=ids.length∧lowH ids.length Hl=true∧lowA ids.length xl=true ∧
   (ids.map fun i=>H'[i]?)=(Hl.map fun o=>some (renO (gmap ids m) o))∧x=renA (gmap ids m) xl∧K xl M Hl):Does P f args H K:=by
 refine ⟨h.fn,fun B R w0 L w vs hrel hvs=>(h.run B R w0 L w vs hrel hvs).mono ?_⟩
 rintro e w' ⟨v,he,L',x,M,H',h1,_,h3,h4,m,ids,Hl,xl,hm,hr,hnd,hlt,hl,hlo,hla,hH,rfl,hk⟩
 subst hm
 have hlen:N≤ids.length:=by
  have:=congrArg List.length hr
  simp at this
  omega
 refine ⟨v,he,fun i=>L' (gmap ids H'.length i),xl,M,Hl,fun i hi hm=>?_,by omega,?_,h4.keep ids hnd hlt Hl hl hlo fun k j o hk ho=>?_,hk⟩
 · rw [←h1 i hi hm]
   have:ids[i]? = some i:=by
    have h5:=congrArg (·[i]?) hr
    simp only [List.getElem?_take_of_lt (show i<N by omega),List.getElem?_range (show i<N by omega)] at h5
    exact h5
   show L' (gmap ids H'.length i)=_
   rw [gmap_some this]
 · rw [hl]
   refine VA.unren (fun i hi=>?_) hla h3
   rw [gmap_some (j:=ids[i]) (by simp [hi])]
   exact hlt _ (List.getElem_mem hi)
 · have:=congrArg (·[k]?) hH
   simp only [List.getElem?_map,hk,ho,Option.map_some,Option.some.injEq] at this
   exact this

theorem at2 {a b r:Prop} (h1:a) (h2:b) (h3:r):a∧b∧r:=⟨h1,h2,h3⟩

theorem rd1 {rs:List (List FC)} {i f:Nat} {K:FC→Prop} (row:List FC) (x:FC) (h1:rs[i]? = some row) (h2:row[f]? = some x) (h:K x):∃ row x,rs[i]? = some row∧row[f]? = some x∧K x:=⟨row,x,h1,h2,h⟩

theorem wr1 {rs:List (List FC)} {i:Nat} {K:List FC→Prop} (row:List FC) (h1:rs[i]? = some row) (h:K row):∃ row,rs[i]? = some row∧K row:=⟨row,h1,h⟩

theorem rdA {rs:List (List FC)} {i:Nat} {K:List FC→Prop} (row:List FC) (h1:rs[i]? = some row) (h:K row):∃ row,rs[i]? = some row∧K row:=⟨row,h1,h⟩

end Go.Mac
end

section
namespace Go.Mac
open Go

def snocC {α : Type}:List α→α→(List α→Prop)→Prop
 | [],x,k=>k [x]
 | y::ys,x,k=>snocC ys x fun l=>k (y::l)

theorem snocC_eq {α : Type}:∀ (l:List α) (x : α) (k:List α→Prop),snocC l x k=k (l++[x])
 | [],_,_=>rfl
 | y::ys,x,k=>by simp [snocC,snocC_eq ys]

def smMakeA (H:List PO) (K:AV→List PO→Prop):Prop:=snocK H numbers (.smap [] []) fun r H'=>K (cv (.map r)) H'

def smPutA (H:List PO) (r:Nat) (ks:List (List UInt8)) (cs:List CV) (i y:AV) (K:List PO→Prop):Prop :=
 match i,y with
 | .p (.c (.f (.str s))),.p (.c c)=>bif smHas ks s then False else snocC ks s fun ks'=>snocC cs c fun cs'=>setK H r (.smap ks' cs') K
 | _,_=>False

section

variable {B R:Nat→Prop} {w0:World} {N:Nat} {L:Nat→Loc} {H:List PO} {P:Program} {w:World}

theorem smMake_sound (h:Rel B R w0 L H w) {t:TypeId} {K:AV→List PO→Prop} (hs:smMakeA H K) :
 ∃ u w' L' y H',(Instr.makeMap t none).run P w=.ok u w'∧Agree H.length [] L L'∧H.length≤H'.length∧Rel B R w0 L' H' w'∧VA H'.length L' y u∧K y H':=by
 have hK:=snocK_spec hs
 have hag:=upd_agree L ⟨⟨w.heap.size,0,0,0⟩,fun _=>⟨0,0,0,0⟩⟩ H.length []
 refine ⟨.map (some w.heap.size),w.alloc (.map #[] 0),upd L H.length ⟨⟨w.heap.size,0,0,0⟩,fun _=>⟨0,0,0,0⟩⟩,_,_,?_,hag,?_,?_,?_,hK⟩
 · simp [Instr.makeMap,Result.andThen]
 · simp
 · refine h.put (M:=[]) H.length (.smap [] []) (by simp) (by simp) (fun j hj o1 ho1=>?_) hag (fun j hj=>upd_ne hj) ((Bel.refl B w).alloc h.size _)
    (fun b hb=>.inl (heap_alloc_lt _ _ _ hb)) (fun b hb=>?_) (fun b (hb:False)=>hb.elim) ?_
   · rcases Nat.lt_or_gt_of_ne hj with hl | hg
     · rw [List.getElem?_append_left hl] at ho1
       exact ⟨o1,ho1,(killO_nil o1).symm⟩
     · rw [List.getElem?_eq_none (by simp;omega)] at ho1
       cases ho1
   · rw [upd_self] at hb
     obtain rfl:b=w.heap.size:=hb
     exact ⟨fun hb=>Nat.lt_irrefl _ (h.size _ hb),by simp,.inl (Nat.le_refl _)⟩
   · rw [upd_self]
     exact ⟨[],heap_alloc_eq _ _,rfl,rfl⟩
 · refine ⟨by simp,?_⟩
   rw [upd_self]

theorem entS_snoc:∀ {ks:List (List UInt8)} {vs:List Value} {n:Nat} (k:List UInt8) (v:Value),ks.length=vs.length→entS (ks++[k]) (vs++[v]) n=entS ks vs n++[⟨.string ⟨k.toArray⟩,v,n+ks.length⟩]
 | [],[],n,k,v,_=>by simp [entS]
 | k0::ks,v0::vs,n,k,v,h=>by
   have:=entS_snoc (ks:=ks) (vs:=vs) (n:=n+1) k v (by simpa using h)
   simp only [List.cons_append,entS,this,List.length_cons]
   rw [show n+1+ks.length=n+(ks.length+1) by omega]
 | [],_::_,_,_,_,h=>by cases h
 | _::_,[],_,_,_,h=>by cases h

theorem VCs.snoc {x:CV} {v:Value} (hx:VC N L x v):∀ {xs:List CV} {vs:List Value},VCs N L xs vs→VCs N L (xs++[x]) (vs++[v])
 | [],_,h=>by
   simp only [VCs] at h
   subst h
   exact ⟨v,[],rfl,hx,rfl⟩
 | y::ys,_,⟨u,us,rfl,h2,h3⟩=>⟨u,us++[v],rfl,h2,VCs.snoc hx h3⟩

theorem smPut_sound (h:Rel B R w0 L H w) {t e:TypeId} {r:Nat} {ks:List (List UInt8)} {cs:List CV} {i y:AV} {u z:Value} (ht:smT P t=some e) (hr:H[r]? = some (.smap ks cs)) (hi:VA H.length L i u) (hy:VA H.length L y z) {K:List PO→Prop} (hs:smPutA H r ks cs i y K) :
 ∃ w' H',(Instr.mapUpdate t (.map (some (L r).h.blk)) u z).run P w=.ok () w'∧H'.length=H.length∧Rel B R w0 L H' w'∧K H':=by
 obtain ⟨k,hu,hk⟩:=smT_spec ht
 unfold smPutA at hs
 split at hs <;> try exact hs.elim
 rename_i s c
 simp only [cond_eq_ite] at hs
 split at hs <;> try exact hs.elim
 rename_i hno
 have hno:smHas ks s=false:=by simpa using hno
 rw [snocC_eq,snocC_eq,setK_eq] at hs
 obtain rfl:u=.string ⟨s.toArray⟩:=hi
 have hy:VC H.length L c z:=hy
 obtain ⟨vs,hb,hl,hv⟩:=h.obj r _ hr
 have hlv:=hv.length
 have hkey:MapKept.IsKey .string (.string ⟨s.toArray⟩):=by simp [MapKept.IsKey]
 have hck:(Instr.checkKey false 10000 k (.string ⟨s.toArray⟩)).run P w=.ok () w:=MapKept.run_checkKey (P:=P) (w:=w) hk hkey false 9999
 have hf:(Instr.findKey k (.string ⟨s.toArray⟩) (entS ks vs 0).toArray.toList).run P w=.ok none w:=by
  rcases findNow_entS (s:=s) (ks:=ks) (vs:=vs) (n:=0) (i:=0) (by omega) with ⟨_,h2⟩ | ⟨j,v,h1,_⟩
  · simp only [Instr.findKey,Sem.run_bind,run_underlying_some hk,Result.andThen_ok]
    rw [h2]
    rfl
  · rw [hno] at h1;cases h1
 obtain ⟨hB,hlt,_⟩:=h.own r _ (L r).h.blk hr rfl
 have hk2:=MapKept.heap_set (o':=.map ((entS ks vs 0).toArray.push ⟨.string ⟨s.toArray⟩,z,ks.length⟩) (ks.length+1)) hb
 obtain ⟨k1,k2⟩:=hk2
 refine ⟨{ w with heap:=w.heap.setIfInBounds (L r).h.blk (.map ((entS ks vs 0).toArray.push ⟨.string ⟨s.toArray⟩,z,ks.length⟩) (ks.length+1)) },_,?_,by simp,?_,hs⟩
 · simp [Instr.mapUpdate,run_underlying_some hu,MapKept.run_getObj_map hb,hck,hf,MapKept.run_setObj_map _ hb]
 · refine h.put (M:=[]) r _ (by simp) (List.getElem?_set_self (List.getElem?_eq_some_iff.1 hr).1) (fun j hj o1 ho1=>?_) (Agree.refl _ _ _) (fun _ _=>rfl) ⟨rfl,rfl,rfl,by simp,fun q hq=>k2 q fun e=>hB (by rw [←e];exact hq)⟩ (fun q hq=>?_) (fun q hq=>?_) (fun q hq=>hq.elim)
    ⟨vs++[z],?_,by simp [hl],?_⟩
   · rw [List.getElem?_set_ne (Ne.symm hj)] at ho1
     exact ⟨o1,ho1,(killO_nil o1).symm⟩
   · by_cases hqb:q=(L r).h.blk
     · exact .inr ⟨_,hr,hqb⟩
     · exact .inl (k2 q hqb)
   · obtain rfl:q=(L r).h.blk:=hq
     exact ⟨hB,by simpa using hlt,.inr ⟨_,hr,rfl⟩⟩
   · rw [k1,entS_snoc _ _ (by omega)]
     simp
   · simpa using hv.snoc hy

end

end Go.Mac
end
