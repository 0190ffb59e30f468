import Derived.Test.YtollgfhpcidkgaaGreatDoorMacFrame
import Derived.Orders

namespace Go.Mac
open Go

def predsL:List Edge→List Nat
 | []=>[]
 | e::es =>
   match e.ground with
   | .textOnly _=>predsL es
   | .gcOnly _=>predsL es
   | _=>e.on::predsL es

def preds (o:Oper):List Nat:=predsL o.after.toList

theorem mem_preds {o:Oper} {j:Nat}:j∈preds o↔∃ e∈o.after,Region.binds .any e=true∧e.on=j:=by
 have:∀ es:List Edge,j∈predsL es↔∃ e∈es,Region.binds .any e=true∧e.on=j:=by
  intro es
  induction es with
  | nil=>simp [predsL]
  | cons e es ih =>
    obtain ⟨on,g⟩:=e
    have e1:(j=on)↔(on=j):=eq_comm
    cases g <;> simp [predsL,Region.binds,ih,e1]
 simpa [preds] using this o.after.toList

def quiet:Op→Bool
 | .move _ | .pick _ _ _ | .build _ _ | .load _ _ | .nilCheck _ | .binOp _ _ _ _ _ | .unOp _ _ _ | .convert _ _ _ | .makeInterface _ _ | .fieldAddr _ _ _ | .field _ _ _ | .extract _ _
 | .indexAddr _ _ _ | .index _ _ _ | .slice _ _ _ _ _ | .lookup _ _ _ _=>true
 | .call c=>match c.callee with
   | .builtin .len=>true
   | _=>false
 | _=>false

def hasAll (E:List Nat):List Nat→Bool
 | []=>true
 | i::is=>bif has E i then hasAll E is else false

theorem hasAll_spec {E:List Nat}:∀ {is:List Nat},hasAll E is=true↔∀ i∈is,i∈E
 | []=>by simp [hasAll]
 | i::is=>by
   simp only [hasAll,cond_eq_ite,List.mem_cons,forall_eq_or_imp,←has_iff]
   by_cases h:has E i=true
   · simp [h,hasAll_spec (is:=is),has_iff]
   · simp [h]

def nextQ (E:List Nat):List Nat→List Oper→Option (Nat×Oper)
 | i::is,o::os=>bif quiet o.op && !has E i && hasAll E (preds o) then some (i,o) else nextQ E is os
 | _,_=>none

def effs (E:List Nat):List Nat→List Oper→List (Nat×Oper)
 | i::is,o::os=>bif !quiet o.op && !has E i && hasAll E (preds o) then (i,o)::effs E is os else effs E is os
 | _,_=>[]

def ahead (ops:List Oper):Nat→List Nat→List Nat→List Nat
 | 0,_,acc=>acc
 | _,[],acc=>acc
 | n+1,i::is,acc =>
   bif has acc i then ahead ops n is acc else
    match nth ops i with
    | some o=>ahead ops n (preds o++is) (i::acc)
    | none=>ahead ops n is acc

def valIs (T:Tm) (o:Oper) (v:AV):Prop :=
 match o.dst with
 | some d=>v=lk T d
 | none=>True

def guarded (all:List Oper) (T:Tm) (o:Oper) (k:Tm→Bool→Prop):Prop :=
 match o.guard with
 | none=>k T true
 | some (j,want) =>
   match (nth all j).bind (·.dst) with
   | some d =>
     match lk T d with
     | .p (.c (.f (.bool b))) =>
       brc b
        (match want with
          | true=>k ((d,bl true)::T) true
          | false=>k ((d,bl true)::T) false)
        (match want with
          | false=>k ((d,bl false)::T) true
          | true=>k ((d,bl false)::T) false)
     | .tup []=>k T false
     | _=>False
   | none=>False

def again (P:Program) (all:List Oper) (T:Tm) (H:List PO) (o:Oper):Prop :=
 guarded all T o fun T' b =>
  match b with
  | true=>aop P T' H (fun v _ _=>valIs T o v) o.op
  | false=>valIs T o undefA

def checks (P:Program) (all:List Oper) (E S:List Nat) (T:Tm) (H:List PO) (k:Prop):List Nat→List Oper→Prop
 | i::is,o::os=>bif quiet o.op && has E i && !has S i then again P all T H o∧checks P all E S T H k is os else checks P all E S T H k is os
 | _,_=>k

def allR {α : Type} (k : α→Prop):List α→Prop
 | []=>True
 | [x]=>k x
 | x::xs=>k x∧allR k xs

theorem allR_spec {α : Type} {k : α→Prop}:∀ {l:List α},allR k l→∀ x∈l,k x
 | [],_,x,hx=>by simp at hx
 | [y],h,x,hx=>by simp at hx;subst hx;exact h
 | y::z::l,h,x,hx=>by
   rcases List.mem_cons.1 hx with rfl | hx
   · exact h.1
   · exact allR_spec h.2 x hx

def drawn (P:Program) (nt:Nat) (all:List Oper):Nat→List Nat→List Nat→Tm→List Nat→List PO→(Tm→List Nat→List PO→Prop)→Prop
 | 0,_,_,_,_,_,_=>False
 | fuel+1,E,S,T,M,H,K =>
   match nextQ E numbers all with
   | some (i,o)=>guarded all T o fun T' b =>
     match b with
     | true=>aop P T' H (fun v _ _=>putT nt T' o.dst v fun T''=>drawn P nt all fuel (i::E) S T'' M H K) o.op
     | false=>putT nt T' o.dst undefA fun T''=>drawn P nt all fuel (i::E) S T'' M H K
   | none =>
     match effs E numbers all with
     | []=>bif hasAll E (numbers.take all.length) then K T M H else False
     | R=>allR (fun (x:Nat×Oper)=>guarded all T x.2 fun T' b =>
       match b with
       | true=>aop P T' H (fun v M' H'=>killT M' T' fun T1=>putT nt T1 x.2.dst v fun T2=>addM M' M fun M2 =>
          checks P all E (ahead all 1000 [x.1] S) T2 H' (drawn P nt all fuel (x.1::E) (ahead all 1000 [x.1] S) T2 M2 H' K) numbers all) x.2.op
       | false=>putT nt T' x.2.dst undefA fun T2 =>
          checks P all E (ahead all 1000 [x.1] S) T2 H (drawn P nt all fuel (x.1::E) (ahead all 1000 [x.1] S) T2 M H K) numbers all) R

def ssa (all:List Oper):Bool :=
 Nat.blt all.length 100 &&
 all.zipIdx.all fun (o,i)=>((preds o).all fun p=>Nat.blt p i) && (match o.op with | .select _ _=>false | _=>true) &&
  (!quiet o.op || match o.dst with
    | none=>true
    | some d=>(!has (o.looksAt all.toArray) d) && all.zipIdx.all fun (o',j)=>Nat.beq j i || (!(o'.dst == some d) && (!has (o'.looksAt all.toArray) d || has (preds o') i)))

section

variable {B R:Nat→Prop} {w0:World} {P:Program}

theorem ev_congr {T T':Tm} {x:Operand} (h:∀ t,x=.tmp t→lk T t=lk T' t):ev T x=ev T' x:=by
 cases x <;> simp [ev]
 exact h _ rfl

theorem evs_congr {T T':Tm}:∀ {xs:List Operand} {k:List AV→Prop},(∀ x∈xs,ev T x=ev T' x)→evs T xs k→evs T' xs k
 | [],_,_,h=>h
 | x::xs,k,he,h=>by
   simp only [evs,fA_eq] at h ⊢
   rw [←he x (by simp)]
   exact evs_congr (xs:=xs) (fun y hy=>he y (by simp [hy])) h

theorem aop_congr {T T':Tm} {H:List PO} {K:KP} {op:Op} (he:∀ x∈op.operands,ev T x=ev T' x) (h:aop P T H K op):aop P T' H K op:=by
 cases op <;> simp only [Op.operands] at he <;> simp only [aop,fA_eq] at h ⊢ <;> try exact h
 case build t ps =>
  have:(ps.toList.map fun p=>(p.1,ev T' p.2))=ps.toList.map fun p=>(p.1,ev T p.2):=List.map_congr_left fun p hp=>by
   rw [he p.2 (by simp;exact ⟨p.1,by simpa using hp⟩)]
  rwa [this]
 case buildSlice t n ps =>
  have:(ps.toList.map fun p=>(p.1,ev T' p.2))=ps.toList.map fun p=>(p.1,ev T p.2):=List.map_congr_left fun p hp=>by
   rw [he p.2 (by simp;exact ⟨p.1,by simpa using hp⟩)]
  rwa [this]
 case slice t x lo hi mx =>
  have h1:∀ y:Option Operand,(∀ z∈y.toArray,ev T z=ev T' z)→y.map (ev T')=y.map (ev T):=fun y hy=>by
   cases y with
   | none=>rfl
   | some z=>simp [hy z (by simp)]
  rw [←he x (by simp),h1 lo fun z hz=>he z (by simp [hz]),h1 hi fun z hz=>he z (by simp [hz]),h1 mx fun z hz=>he z (by simp [hz])]
  exact h
 case makeFunc f first caps =>
  split at h <;> try exact h.elim
  · exact evs_congr (fun x hx=>he x (by simp [Array.mem_def.2 hx])) h
  · rename_i hf
    rw [←he _ (by simp [show first = #[_] from by apply Array.ext';simpa using hf])]
    exact h
 case next x s =>
  cases s with
  | true=>exact h
  | false =>
    have hx:=he x (by simp)
    dsimp only at h ⊢
    rw [←hx]
    exact h
 case call c =>
  obtain ⟨callee,args,tys⟩:=c
  dsimp only at h ⊢
  cases callee with
  | value f =>
    simp only [Call.operands] at he
    dsimp only at h ⊢
    rw [←he f (by simp)]
    split at h <;> try exact h.elim
    exact evs_congr (fun x hx=>he x (by simp [Array.mem_def.2 hx])) h
  | builtin b =>
    simp only [Call.operands] at he
    exact evs_congr (fun x hx=>he x (by simp [Array.mem_def.2 hx])) h
  | invoke r m=>exact h
 all_goals simp at he
 all_goals simp only [he] at h
 all_goals exact h

theorem quiet_aop {T:Tm} {H:List PO} {K:KP} {op:Op} (hq:quiet op=true) (h:aop P T H K op):aop P T H (fun v M H'=>M=[]∧H'=H∧K v M H') op:=by
 cases op <;> simp only [quiet,Bool.false_eq_true] at hq <;> simp only [aop,fA_eq,true_and] at h ⊢ <;> try exact h
 case call c =>
  obtain ⟨callee,args,tys⟩:=c
  dsimp only at h hq ⊢
  split at hq
  · dsimp only at h ⊢
    have h2:=evs_spec h
    clear h
    have:∀ {xs:List Operand} {k:List AV→Prop},k (xs.map (ev T))→evs T xs k:=by
     intro xs
     induction xs with
     | nil=>intro k hk;exact hk
     | cons x xs ih=>intro k hk;simp only [evs,fA_eq];exact ih hk
    refine this ?_
    clear this
    generalize args.toList.map (ev T)=l at h2 ⊢
    rcases l with _ | ⟨x,_ | ⟨y,l⟩⟩ <;> simp only [builtinA] at h2 ⊢
    split at h2 <;> try exact h2.elim
    simpa using h2
  · cases hq

theorem guarded_congr {all:List Oper} {T T':Tm} {o:Oper} {k k':Tm→Bool→Prop} (he:∀ t∈o.looksAt all.toArray,lk T t=lk T' t) (hk:∀ b U U',(∀ i,lk U i=lk T i)→(∀ i,lk U' i=lk T' i)→k U b→k' U' b)
 (h:guarded all T o k):guarded all T' o k':=by
 unfold guarded at h ⊢
 cases hg:o.guard with
 | none=>rw [hg] at h;exact hk _ _ _ (fun _=>rfl) (fun _=>rfl) h
 | some jw =>
   obtain ⟨j,want⟩:=jw
   rw [hg] at h
   dsimp only at h ⊢
   split at h <;> try exact h.elim
   rename_i d hd
   have hl:lk T d=lk T' d:=he d (by
    unfold Oper.looksAt
    rw [hg]
    rw [nth_eq] at hd
    simp only [List.mem_append]
    right
    have h9:((all[j]?).bind (·.dst)).toList=[d]:=by rw [hd];rfl
    simp only [List.getElem?_toArray]
    rw [h9];simp)
   rw [←hl]
   split at h <;> try exact h.elim
   · rename_i b hb
     have h1:∀ (U:Tm),lk U d=bl b→∀ i,lk ((d,bl b)::U) i=lk U i:=fun U hU i=>by
      rw [lk_cons];split
      · rename_i hh;subst hh;exact hU.symm
      · rfl
     have h2:=h1 T hb
     have h3:=h1 T' (by rw [←hl];exact hb)
     replace h:=brc_elim h
     cases b <;> cases want <;> simp only [Bool.false_eq_true,if_false,if_true] at h <;> simp only [brc] <;> exact hk _ _ _ h2 h3 h
   · exact hk _ _ _ (fun _=>rfl) (fun _=>rfl) h

def Det {α : Type} (f:(α→Prop)→Prop):Prop:=∀ K,f K→∃ v,K v∧∀ K' : α→Prop,K' v→f K'

theorem takeK_det {α β : Type} {g:List α→β}:∀ (l:List α) (f n:Nat),Det fun K : β→Prop=>takeK l f n fun x=>K (g x)
 | l,0,0,K,h=>by cases l <;> exact ⟨_,h,fun _ hk=>hk⟩
 | [],f+1,n,K,h=>by cases n <;> exact h.elim
 | [],0,n+1,K,h=>h.elim
 | x::xs,0,n+1,K,h=>takeK_det (g:=fun l=>g (x::l)) xs 0 n K h
 | x::xs,f+1,0,K,h=>takeK_det (g:=g) xs f 0 K h
 | x::xs,f+1,n+1,K,h=>takeK_det (g:=g) xs f (n+1) K h

theorem setsK_k {k k':List CV→Prop}:∀ {row:List CV} {f:Nat} {ys:List CV},setsK row f ys k→(k (splice row f ys)→k' (splice row f ys))→setsK row f ys k'
 | row,f,[],h,hk=>by cases row <;> exact hk (by simpa [setsK,splice] using h)
 | [],f,y::ys,h,hk=>by cases f <;> exact h.elim
 | x::xs,0,y::ys,h,hk=>by
   simp only [setsK] at h ⊢
   refine setsK_k h fun h2=>?_
   simp only [splice,List.set_cons_zero] at hk
   rw [splice_cons] at hk
   exact hk h2
 | x::xs,f+1,y::ys,h,hk=>by
   simp only [setsK] at h ⊢
   refine setsK_k h fun h2=>?_
   rw [splice_cons] at hk
   exact hk h2

theorem fillK_det {place:Nat→Option (Nat×Nat)} {β : Type} {g:List CV→β}:∀ (parts:List (Nat×AV)) (cells:List CV),Det fun K : β→Prop=>fillK place cells (fun x=>K (g x)) parts
 | [],cells,K,h=>⟨_,h,fun _ hk=>hk⟩
 | (i,x)::parts,cells,K,h=>by
   simp only [fillK] at h ⊢
   split at h <;> try exact h.elim
   rename_i off size v hp
   simp only [cond_eq_ite] at h
   split at h
   · exact h.elim
   rename_i h1
   split at h <;> try exact h.elim
   rename_i h2
   obtain ⟨_,h3⟩:=setsK_spec _ _ _ _ h
   obtain ⟨v0,hv,hk⟩:=fillK_det (g:=g) parts _ K h3
   refine ⟨v0,hv,fun K' hK'=>?_⟩
   simp only [cond_eq_ite,if_neg h1,if_pos h2]
   exact setsK_k h fun _=>hk K' hK'

theorem det_false {α : Type} {f:(α→Prop)→Prop} (h:∀ K,¬f K):Det f:=fun K hf=>absurd hf (h K)

theorem bif_det {α : Type} {b:Bool} {f:(α→Prop)→Prop} (h:Det f):Det fun K=>bif b then f K else False:=by
 cases b
 · exact det_false fun K=>id
 · exact h

theorem loadA_det {H:List PO} {t:TypeId} {x:AV}:Det (loadA P H t x):=by
 intro K h
 unfold loadA at h ⊢
 split at h <;> try exact h.elim
 · split at h <;> try exact h.elim
   rename_i cs hcs
   try simp only [hcs]
   split at h
   · rename_i ha
     try simp only [ha]
     revert K h
     exact bif_det (takeK_det (g:=PV.agg) _ _ _)
   · rename_i ha
     try simp only [ha]
     split at h <;> try exact h.elim
     rename_i y hy
     try simp only [hy]
     exact ⟨_,h,fun _ hk=>hk⟩
   · exact h.elim
 · split at h <;> try exact h.elim
   · rename_i hcs
     try simp only [hcs]
     split at h <;> try exact h.elim
     · rename_i ha;try simp only [ha]
       revert K h
       refine bif_det fun K h=>?_
       simp only [fmapK_eq] at h ⊢
       obtain ⟨row,h1,h⟩:=h
       obtain ⟨v,hv,hk⟩:=takeK_det (g:=fun l=>PV.agg (l.map .f)) _ _ _ K h
       exact ⟨v,hv,fun K' hK'=>⟨row,h1,hk K' hK'⟩⟩
     · rename_i ha;try simp only [ha]
       obtain ⟨row,y,h1,h2,h4⟩:=h
       exact ⟨_,h4,fun _ hk=>⟨row,y,h1,h2,hk⟩⟩
   · rename_i hcs
     try simp only [hcs]
     split at h <;> try exact h.elim
     rename_i ha;try simp only [ha]
     obtain ⟨rs,h1,h2⟩:=h
     exact ⟨_,h2,fun _ hk=>⟨rs,h1,hk⟩⟩
   · rename_i hcs
     try simp only [hcs]
     split at h <;> try exact h.elim
     rename_i ha;try simp only [ha]
     obtain ⟨l,rs,h1,h2⟩:=h
     exact ⟨_,h2,fun _ hk=>⟨l,rs,h1,hk⟩⟩
 · split at h <;> try exact h.elim
   rename_i hcs
   try simp only [hcs]
   split at h <;> try exact h.elim
   · rename_i ha;try simp only [ha]
     revert K h
     refine bif_det fun K h=>?_
     simp only [fmapK_eq] at h ⊢
     obtain ⟨rs,row,h0,h1,h⟩:=h
     obtain ⟨v,hv,hk⟩:=takeK_det (g:=fun l=>PV.agg (l.map .f)) _ _ _ K h
     exact ⟨v,hv,fun K' hK'=>⟨rs,row,h0,h1,hk K' hK'⟩⟩
   · rename_i ha;try simp only [ha]
     obtain ⟨rs,row,y,h0,h1,h2,h4⟩:=h
     exact ⟨_,h4,fun _ hk=>⟨rs,row,y,h0,h1,h2,hk⟩⟩
 · split at h <;> try exact h.elim
   rename_i hcs
   try simp only [hcs]
   split at h <;> try exact h.elim
   · rename_i ha;try simp only [ha]
     revert K h
     refine bif_det fun K h=>?_
     simp only [fmapK_eq] at h ⊢
     exact takeK_det (g:=fun l=>PV.agg (l.map .f)) _ _ _ K h
   · rename_i ha;try simp only [ha]
     obtain ⟨y,h1,h2⟩:=h
     exact ⟨_,h2,fun _ hk=>⟨y,h1,hk⟩⟩

theorem intBin_det {op:BinOp} {k:IntKind} {a b:Int}:Det (intBin op k a b):=by
 intro K h
 cases op <;> simp only [intBin,nonneg_iff,nonzero_iff] at h ⊢ <;> first | exact ⟨_,h,fun _ hk=>hk⟩ | exact ⟨_,h.2,fun _ hk=>⟨h.1,hk⟩⟩

theorem strBin_det {op:BinOp} {a b:List UInt8}:Det (strBin op a b):=by
 intro K h
 cases op <;> simp only [strBin] at h ⊢ <;> first | exact h.elim | exact ⟨_,h,fun _ hk=>hk⟩ | exact ⟨_,h.2,fun _ hk=>⟨h.1,hk⟩⟩

theorem boolBin_det {op:BinOp} {t:TypeId} {a b:Bool}:Det (boolBin P op t a b):=by
 intro K h
 unfold boolBin at h ⊢
 split at h <;> try exact h.elim
 all_goals
  rename_i hu
  try simp only [hu]
  exact ⟨_,h,fun _ hk=>hk⟩

theorem eqK_det {op:BinOp} {o:Option Bool}:Det fun K:AV→Prop=>match op,o with
 | .eql,some b=>K (bl b)
 | .neq,some b=>K (bl (!b))
 | _,_=>False:=by
 cases o with
 | none=>exact det_false fun K=>by cases op <;> exact id
 | some b=>cases op <;> first | exact fun K h=>⟨_,h,fun _ hk=>hk⟩ | exact det_false fun K=>id

theorem and_det {α : Type} {p:Prop} {f:(α→Prop)→Prop} (hf:Det f):Det fun K=>p∧f K:=fun K h =>
 let ⟨v,hv,hk⟩:=hf K h.2
 ⟨v,hv,fun K' hK'=>⟨h.1,hk K' hK'⟩⟩

theorem binA_det {op:BinOp} {t:TypeId} {c:Bool} {x y:AV}:Det (binA P op t c x y):=by
 cases x with
 | u=>exact det_false fun K=>by simp [binA]
 | tup _=>exact det_false fun K=>by simp [binA]
 | p x =>
   cases y with
   | u=>exact det_false fun K=>by simp [binA]
   | tup _=>exact det_false fun K=>by simp [binA]
   | p y =>
     cases x with
     | agg xs =>
       cases y with
       | c y=>exact det_false fun K=>by simp [binA]
       | agg ys =>
         intro K h
         simp only [binA] at h ⊢
         split at h <;> try exact h.elim
         rename_i hx hy
         try simp only [hx,hy]
         exact and_det (bif_det eqK_det) K h
     | c x =>
       cases y with
       | agg ys=>exact det_false fun K=>by simp [binA]
       | c y =>
         intro K h
         unfold binA at h ⊢
         simp only at h ⊢
         split at h
         · split at h
           · exact intBin_det K h
           · exact intBin_det K h
           · rename_i h1 h2
             obtain ⟨v,hv,hk⟩:=bif_det intBin_det K h
             refine ⟨v,hv,fun K' hK'=>?_⟩
             cases op <;> first | exact absurd rfl h1 | exact absurd rfl h2 | exact hk K' hK'
         · exact strBin_det K h
         · exact boolBin_det K h
         · rename_i n1 n2 n3
           obtain ⟨v,hv,hk⟩:=bif_det eqK_det K h
           exact ⟨v,hv,fun K' hK'=>hk K' hK'⟩

theorem unA_det {op:UnOp} {x:AV}:Det (unA op x):=by
 intro K h
 unfold unA at h ⊢
 split at h <;> first | exact h.elim | exact ⟨_,h,fun _ hk=>hk⟩

theorem convA_det {s d:TypeId} {x:AV}:Det (convA P s d x):=by
 refine bif_det fun K h=>?_
 split at h <;> first | exact h.elim | exact ⟨_,h,fun _ hk=>hk⟩

theorem buildA_det {t:TypeId} {parts:List (Nat×AV)}:Det (buildA P t parts):=by
 intro K h
 unfold buildA at h ⊢
 split at h <;> try exact h.elim
 exact fillK_det (g:=fun cs=>AV.p (.agg cs)) parts _ K h

theorem extractA_det {x:AV} {i:Nat}:Det (extractA x i):=by
 intro K h
 unfold extractA at h ⊢
 split at h <;> try exact h.elim
 split at h <;> first | exact h.elim | exact ⟨_,h,fun _ hk=>hk⟩

theorem fieldAddrA_det {t:TypeId} {x:AV} {i:Nat}:Det (fieldAddrA P t x i):=by
 intro K h
 unfold fieldAddrA at h ⊢
 split at h <;> try exact h.elim
 simp only [cond_eq_ite] at h ⊢
 split at h <;> try exact h.elim
 rename_i hc
 simp only [if_neg hc]
 split at h <;> first | exact h.elim | exact ⟨_,h,fun _ hk=>hk⟩

theorem mkIfaceA_det {t:TypeId} {x:AV}:Det (mkIfaceA P t x):=by
 intro K h
 unfold mkIfaceA at h ⊢
 split at h <;> try exact h.elim
 split at h <;> first | exact h.elim | exact ⟨_,h,fun _ hk=>hk⟩

theorem rowsSz_det {α : Type} {e:TypeId} {sz:Nat} {f:(α→Prop)→Prop} (hf:Det f):Det fun K=>rowsSz P e sz (f K):=by
 intro K h
 obtain ⟨h1,h2,h3⟩:=rowsSz_spec h
 obtain ⟨v,hv,hk⟩:=hf K h3
 refine ⟨v,hv,fun K' hK'=>?_⟩
 subst h2
 simp [rowsSz,h1,hk K' hK']

theorem k_det {α : Type} {v : α}:Det fun K : α→Prop=>K v:=fun _ h=>⟨v,h,fun _ hk=>hk⟩

theorem indexAddrA_det {H:List PO} {t:TypeId} {x i:AV}:Det (indexAddrA P H t x i):=by
 intro K h
 unfold indexAddrA at h ⊢
 split at h <;> try exact h.elim
 split at h
 · split at h <;> try exact h.elim
   · split at h <;> try exact h.elim
     · exact rowsSz_det (and_det (and_det k_det)) K h
     · exact rowsSz_det (and_det (and_det k_det)) K h
     · exact rowsSz_det (and_det (and_det k_det)) K h
   · split at h <;> try exact h.elim
     exact rowsSz_det (and_det (and_det (and_det k_det))) K h
 · split at h <;> try exact h.elim
   simp only [cond_eq_ite] at h ⊢
   split at h <;> try exact h.elim
   rename_i hc
   simp only [if_pos hc]
   split at h <;> try exact h.elim
   · exact (and_det (and_det k_det)) K h
   · exact (and_det (and_det k_det)) K h
   · exact (and_det (and_det k_det)) K h

theorem fieldA_det {t:TypeId} {x:AV} {i:Nat}:Det (fieldA P t x i):=by
 intro K h
 unfold fieldA at h ⊢
 split at h <;> try exact h.elim
 split at h <;> try exact h.elim
 split at h <;> try exact h.elim
 split at h <;> try exact h.elim
 exact ⟨_,h,fun _ hk=>hk⟩

theorem indexA_det {t:TypeId} {x i:AV}:Det (indexA P t x i):=by
 intro K h
 unfold indexA at h ⊢
 split at h <;> try exact h.elim
 · split at h <;> try exact h.elim
   obtain ⟨h0,b,hb,hk⟩:=h
   exact ⟨_,hk,fun _ hk=>⟨h0,b,hb,hk⟩⟩
 · split at h <;> try exact h.elim
   split at h <;> try exact h.elim
   all_goals
    simp only [cond_eq_ite] at h ⊢
    split at h <;> try exact h.elim
    rename_i hi
    obtain ⟨h0,h1,b,hb,hk⟩:=h
    exact ⟨_,hk,fun _ hk=>by rw [if_pos hi];exact ⟨h0,h1,b,hb,hk⟩⟩

theorem boundsA_det {n:Nat} {lo hi:Option AV} {g:Nat→Nat→AV}:Det fun K:AV→Prop=>boundsA n lo hi fun l h=>K (g l h):=by
 intro K h
 unfold boundsA at h ⊢
 split at h <;> try exact h.elim
 · exact k_det K h
 · exact (and_det (and_det k_det)) K h
 · exact (and_det (and_det k_det)) K h
 · exact (and_det (and_det (and_det k_det))) K h

theorem boundsUpA_det {n:Nat} {lo hi:Option AV} {g:Nat→Nat→AV}:Det fun K:AV→Prop=>boundsUpA n lo hi fun l h=>K (g l h):=by
 intro K h
 unfold boundsUpA at h ⊢
 split at h <;> try exact h.elim
 · exact (and_det (and_det k_det)) K h
 · exact (and_det (and_det (and_det k_det))) K h

theorem or_det {α : Type} {f g:(α→Prop)→Prop} (hf:Det f) (hg:Det g):Det fun K=>f K∨g K:=fun K h=>by
 rcases h with h | h
 · obtain ⟨v,hv,hk⟩:=hf K h
   exact ⟨v,hv,fun K' hK'=>.inl (hk K' hK')⟩
 · obtain ⟨v,hv,hk⟩:=hg K h
   exact ⟨v,hv,fun K' hK'=>.inr (hk K' hK')⟩

theorem cut3A_det {H:List PO} {e:TypeId} {r o n:Nat} {nn:Bool} {l h m:Int}:Det (cut3A P H e r o n nn l h m):=by
 intro K hh
 unfold cut3A at hh ⊢
 split at hh
 · simp only [cond_eq_ite] at hh ⊢
   split at hh
   · rename_i hc
     simp only [if_pos hc]
     exact k_det K hh
   · rename_i hc
     simp only [if_neg hc]
     exact k_det K hh
 · exact k_det K hh

theorem slice3A_det {H:List PO} {t:TypeId} {x lo hi mx:AV}:Det (slice3A P H t x lo hi mx):=by
 intro K h
 unfold slice3A at h ⊢
 split at h <;> try exact h.elim
 split at h <;> try exact h.elim
 exact bif_det (and_det (and_det (and_det (and_det cut3A_det)))) K h

theorem sliceA_det {H:List PO} {t:TypeId} {x:AV} {lo hi mx:Option AV}:Det (sliceA P H t x lo hi mx):=by
 intro K h
 unfold sliceA at h ⊢
 split at h
 · split at h <;> try exact h.elim
   exact slice3A_det K h
 split at h <;> try exact h.elim
 · split at h <;> try exact h.elim
   exact boundsA_det K h
 · split at h <;> try exact h.elim
   · exact rowsSz_det (or_det boundsA_det (and_det (and_det (and_det boundsUpA_det)))) K h
   · exact rowsSz_det boundsA_det K h
   · exact rowsSz_det boundsA_det K h
 · split at h <;> try exact h.elim
   exact rowsSz_det (and_det boundsA_det) K h
 · split at h <;> try exact h.elim
   exact rowsSz_det boundsA_det K h

theorem lenA_det {t:TypeId} {x:AV}:Det (lenA P t x):=by
 intro K h
 unfold lenA at h ⊢
 split at h <;> try exact h.elim
 all_goals (split at h <;> first | exact h.elim | exact ⟨_,h,fun _ hk=>hk⟩)

theorem lookupA_det {H:List PO} {t:TypeId} {x i:AV} {ok:Bool}:Det (lookupA P H t x i ok):=by
 intro K h
 unfold lookupA at h ⊢
 split at h <;> try exact h.elim
 split at h <;> try exact h.elim
 · split at h <;> try exact h.elim
   unfold smLookA at h ⊢
   split at h <;> try exact h.elim
   cases ok
   · exact ⟨_,h.h,fun _ hk=>⟨hk⟩⟩
   · exact ⟨_,h.h,fun _ hk=>⟨hk⟩⟩

theorem lenH_det {H:List PO} {t:TypeId} {x:AV}:Det (lenH P H t x):=by
 intro K h
 unfold lenH at h ⊢
 split at h
 · split at h <;> try exact h.elim
 · exact lenA_det K h

theorem det_aop {T:Tm} {H:List PO} {K:KP} {op:Op} {f:(AV→Prop)→Prop} (hf:Det f) (he:∀ K',aop P T H K' op=f fun v=>K' v [] H) (h:aop P T H K op) :
 ∃ v,K v [] H∧∀ K',K' v [] H→aop P T H K' op:=by
 rw [he] at h
 obtain ⟨v,hv,hk⟩:=hf _ h
 exact ⟨v,hv,fun K' hK'=>by rw [he];exact hk _ hK'⟩

theorem quiet_det {T:Tm} {H:List PO} {K:KP} {op:Op} (hq:quiet op=true) (h:aop P T H K op):∃ v,K v [] H∧∀ K',K' v [] H→aop P T H K' op:=by
 cases op <;> simp only [quiet,Bool.false_eq_true] at hq
 case move x=>exact det_aop (f:=fun K=>K (ev T x)) k_det (fun K'=>by simp only [aop,fA_eq]) h
 case pick c x y =>
  simp only [aop,fA_eq] at h ⊢
  split at h <;> try exact h.elim
  rename_i t _
  cases t
  · exact ⟨_,h,fun _ hk=>hk⟩
  · exact ⟨_,h,fun _ hk=>hk⟩
 case build t ps=>exact det_aop buildA_det (fun _=>rfl) h
 case load t x =>
  obtain ⟨v,hv,hk⟩:=loadA_det (fun x=>K (.p x) [] H) h
  exact ⟨.p v,hv,fun K' hK'=>hk (fun x=>K' (.p x) [] H) hK'⟩
 case nilCheck x =>
  simp only [aop] at h ⊢
  split at h <;> first | exact h.elim | exact ⟨_,h,fun _ hk=>hk⟩
 case binOp op t x y ty=>exact det_aop binA_det (fun _=>rfl) h
 case unOp op t x=>exact det_aop unA_det (fun _=>rfl) h
 case convert s d x=>exact det_aop convA_det (fun _=>rfl) h
 case makeInterface t x=>exact det_aop mkIfaceA_det (fun _=>rfl) h
 case fieldAddr t x i=>exact det_aop fieldAddrA_det (fun _=>rfl) h
 case extract x i=>exact det_aop extractA_det (fun _=>rfl) h
 case field t x i=>exact det_aop fieldA_det (fun _=>rfl) h
 case indexAddr t x i=>exact det_aop indexAddrA_det (fun _=>rfl) h
 case index t x i=>exact det_aop indexA_det (fun _=>rfl) h
 case slice t x lo hi mx=>exact det_aop sliceA_det (fun _=>rfl) h
 case lookup t x i ok=>exact det_aop lookupA_det (fun _=>rfl) h
 case call c =>
  obtain ⟨callee,args,tys⟩:=c
  dsimp only at hq
  split at hq
  · have e:∀ {xs:List Operand} {k:List AV→Prop},evs T xs k↔k (xs.map (ev T)):=by
     intro xs
     induction xs with
     | nil=>intro k;exact Iff.rfl
     | cons x xs ih=>intro k;simp only [evs,fA_eq];exact ih
    simp only [aop,e] at h ⊢
    generalize args.toList.map (ev T)=l at h ⊢
    rcases l with _ | ⟨x,_ | ⟨y,l⟩⟩ <;> simp only [builtinA] at h ⊢
    split at h <;> try exact h.elim
    obtain ⟨v,hv,hk⟩:=lenH_det _ h
    exact ⟨v,hv,fun K' hK'=>hk (fun x=>K' x [] H) hK'⟩
  · cases hq

theorem nextQ_spec {E:List Nat}:∀ {os:List Oper} {m s i:Nat} {o:Oper},nextQ E (List.range' s m) os=some (i,o)→s≤i∧os[i-s]? = some o∧quiet o.op=true∧i∉E∧∀ p∈preds o,p∈E
 | [],m,s,i,o,h=>by cases m <;> simp [nextQ,List.range'_succ] at h
 | x::os,0,s,i,o,h=>by simp [nextQ] at h
 | x::os,m+1,s,i,o,h=>by
   simp only [List.range'_succ,nextQ,cond_eq_ite] at h
   split at h
   · rename_i hc
     simp only [Option.some.injEq,Prod.mk.injEq] at h
     obtain ⟨rfl,rfl⟩:=h
     simp only [Bool.and_eq_true,Bool.not_eq_true'] at hc
     exact ⟨Nat.le_refl _,by simp,hc.1.1,has_false hc.1.2,hasAll_spec.1 hc.2⟩
   · obtain ⟨h1,h2,h3⟩:=nextQ_spec h
     refine ⟨by omega,?_,h3⟩
     rw [show i-s=(i-(s+1))+1 by omega]
     simpa using h2

theorem nextQ_none {E:List Nat}:∀ {os:List Oper} {m s:Nat},os.length≤m→nextQ E (List.range' s m) os=none→∀ (i:Nat) (o:Oper),os[i]? = some o→quiet o.op=true→(∀ p∈preds o,p∈E)→s+i∈E
 | [],m,s,_,_,i,o,ho,_,_=>by simp at ho
 | x::os,0,s,hl,_,_,_,_,_,_=>by simp at hl
 | x::os,m+1,s,hl,h,i,o,ho,hq,hp=>by
   simp only [List.range'_succ,nextQ,cond_eq_ite] at h
   split at h
   · cases h
   · rename_i hc
     cases i with
     | zero =>
       simp at ho;subst ho
       refine Classical.byContradiction fun hn=>hc ?_
       have:has E s=false:=by cases hh:has E s with
        | false=>rfl
        | true=>exact absurd (has_iff.1 hh) hn
       simp [hq,this,hasAll_spec.2 hp]
     | succ i =>
       have:=nextQ_none (by simpa using hl) h i o (by simpa using ho) hq hp
       rwa [show s+1+i=s+(i+1) by omega] at this

theorem effs_spec {E:List Nat}:∀ {os:List Oper} {m s:Nat},os.length≤m→∀ (i:Nat) (o:Oper),os[i]? = some o→quiet o.op=false→s+i∉E→(∀ p∈preds o,p∈E)→(s+i,o)∈effs E (List.range' s m) os
 | [],m,s,_,i,o,ho,_,_,_=>by simp at ho
 | x::os,0,s,hl,_,_,_,_,_,_=>by simp at hl
 | x::os,m+1,s,hl,i,o,ho,hq,hn,hp=>by
   simp only [List.range'_succ,effs,cond_eq_ite]
   cases i with
   | zero =>
     simp at ho;subst ho
     have:has E s=false:=by cases hh:has E s with
      | false=>rfl
      | true=>exact absurd (has_iff.1 hh) hn
     rw [if_pos (by simp [hq,this,hasAll_spec.2 hp])]
     simp
   | succ i =>
     have:=effs_spec (E:=E) (s:=s+1) (m:=m) (by simpa using hl) i o (by simpa using ho) hq (by rwa [show s+1+i=s+(i+1) by omega]) hp
     rw [show s+1+i=s+(i+1) by omega] at this
     split
     · exact List.mem_cons_of_mem _ this
     · exact this

theorem checks_spec {all:List Oper} {E S:List Nat} {T:Tm} {H:List PO} {k:Prop}:∀ {os:List Oper} {m s:Nat},os.length≤m→checks P all E S T H k (List.range' s m) os →
 k∧∀ (i:Nat) (o:Oper),os[i]? = some o→quiet o.op=true→s+i∈E→s+i∉S→again P all T H o
 | [],m,s,_,h=>by
   refine ⟨by cases m <;> simpa [checks,List.range'_succ] using h,fun i o ho=>by simp at ho⟩
 | x::os,0,s,hl,_=>by simp at hl
 | x::os,m+1,s,hl,h=>by
   simp only [List.range'_succ,checks,cond_eq_ite] at h
   have rest:checks P all E S T H k (List.range' (s+1) m) os→∀ (i:Nat) (o:Oper),os[i]? = some o→quiet o.op=true→s+(i+1)∈E→s+(i+1)∉S→again P all T H o:=fun hh i o ho hq h1 h2 =>
    (checks_spec (by simpa using hl) hh).2 i o ho hq (by rwa [show s+1+i=s+(i+1) by omega]) (by rwa [show s+1+i=s+(i+1) by omega])
   split at h
   · obtain ⟨h1,h2⟩:=h
     refine ⟨(checks_spec (by simpa using hl) h2).1,fun i o ho hq he hs=>?_⟩
     cases i with
     | zero=>simp at ho;subst ho;exact h1
     | succ i=>exact rest h2 i o (by simpa using ho) hq he hs
   · rename_i hc
     refine ⟨(checks_spec (by simpa using hl) h).1,fun i o ho hq he hs=>?_⟩
     cases i with
     | zero =>
       simp at ho;subst ho
       have:has S s=false:=by cases hh:has S s with
        | false=>rfl
        | true=>exact absurd (has_iff.1 hh) hs
       exact absurd (by simp [hq,this,has_iff.2 (show s∈E from he)]) hc
     | succ i=>exact rest h i o (by simpa using ho) hq he hs

theorem ahead_spec {all:List Oper} {D:Nat→Prop} (hd:∀ (i:Nat) (o:Oper),D i→all[i]? = some o→∀ p∈preds o,D p):∀ (n:Nat) (is acc:List Nat),(∀ i∈is,D i)→(∀ i∈acc,D i)→∀ i∈ahead all n is acc,D i
 | 0,is,acc,_,h2=>by simpa [ahead] using h2
 | n+1,[],acc,_,h2=>by simpa [ahead] using h2
 | n+1,i::is,acc,h1,h2=>by
   simp only [ahead,cond_eq_ite]
   split
   · exact ahead_spec hd n is acc (fun j hj=>h1 j (by simp [hj])) h2
   · split
     · rename_i o ho
       rw [nth_eq] at ho
       refine ahead_spec hd n _ _ (fun j hj=>?_) (fun j hj=>?_)
       · rcases List.mem_append.1 hj with hj | hj
         · exact hd i o (h1 i (by simp)) ho j hj
         · exact h1 j (by simp [hj])
       · rcases List.mem_cons.1 hj with rfl | hj
         · exact h1 _ (by simp)
         · exact h2 j hj
     · exact ahead_spec hd n is acc (fun j hj=>h1 j (by simp [hj])) h2

structure SSA (all:List Oper):Prop where
 small:all.length<100
 back:∀ (i:Nat) (o:Oper),all[i]? = some o→∀ p∈preds o,p<i
 once:∀ (i:Nat) (o:Oper) (d:Nat),all[i]? = some o→quiet o.op=true→o.dst=some d→d∉o.looksAt all.toArray ∧
  ∀ (j:Nat) (o':Oper),all[j]? = some o'→j≠i→o'.dst≠some d∧(d∈o'.looksAt all.toArray→i∈preds o')

theorem ssa_spec {all:List Oper} (h:ssa all=true):SSA all:=by
 simp only [ssa,Bool.and_eq_true,List.all_eq_true] at h
 obtain ⟨h1,h2⟩:=h
 have hz:∀ (i:Nat) (o:Oper),all[i]? = some o→(o,i)∈all.zipIdx:=fun i o ho=>List.mem_zipIdx_iff_getElem?.2 (by simpa using ho)
 refine ⟨by simpa [Nat.blt_eq] using h1,fun i o ho p hp=>?_,fun i o d ho hq hd=>?_⟩
 · obtain ⟨⟨h3,_⟩,_⟩:=h2 _ (hz i o ho)
   have:=h3 p hp
   simpa [Nat.blt_eq] using this
 · obtain ⟨_,h4⟩:=h2 _ (hz i o ho)
   simp only [hq,hd,Bool.not_true,Bool.false_or,Bool.and_eq_true,Bool.not_eq_true',List.all_eq_true] at h4
   refine ⟨has_false h4.1,fun j o' ho' hji=>?_⟩
   have:=h4.2 _ (hz j o' ho')
   have hb:Nat.beq j i=false:=by cases hb:Nat.beq j i with
    | false=>rfl
    | true=>exact absurd (Nat.eq_of_beq_eq_true hb) hji
   simp only [hb,Bool.false_or,Bool.and_eq_true,Bool.not_eq_true',beq_eq_false_iff_ne,Bool.or_eq_true] at this
   exact ⟨this.1,fun hm=>by
    rcases this.2 with h5 | h5
    · exact absurd hm (has_false h5)
    · exact has_iff.1 h5⟩

structure Inv (P:Program) (nt N0:Nat) (L0:Nat→Loc) (B R:Nat→Prop) (w0:World) (all:List Oper) (E S:List Nat) (T:Tm) (M:List Nat) (H:List PO) (listed:Array Bool) (L:Nat→Loc) (w:World) (a:Act):Prop where
 size:listed.size=all.length
 sub:∀ i,listed.getD i false=true→i∈E
 down:∀ (i:Nat) (o:Oper),listed.getD i false=true→all[i]? = some o→∀ p∈preds o,listed.getD p false=true
 edown:∀ (i:Nat) (o:Oper),i∈E→all[i]? = some o→∀ p∈preds o,p∈E
 eff:∀ (i:Nat) (o:Oper),i∈E→all[i]? = some o→quiet o.op=false→listed.getD i false=true
 sure:∀ i∈S,listed.getD i false=true
 tr:∀ t,(∃ (i:Nat) (o:Oper),i∈E∧listed.getD i false=false∧all[i]? = some o∧o.dst=some t)∨VA H.length L (lk T t) (a.tmps.getD t undef)
 bound:∀ (i:Nat) (o:Oper) (d:Nat),i∈E→all[i]? = some o→o.dst=some d→d<nt
 defers:a.defers=[]
 room:nt≤a.tmps.size
 pend:∀ (i:Nat) (o:Oper),i∈E→listed.getD i false=false→all[i]? = some o→again P all T H o
 hN:N0≤H.length
 hag:Agree N0 M L0 L
 rel:Rel B R w0 L H w

theorem lk_looks (l:List Nat) (T:Tm) (t:Nat):lk (l.map fun t=>(t,lk T t)) t=if t∈l then lk T t else .u:=by
 induction l with
 | nil=>simp [lk]
 | cons x l ih =>
   rw [List.map_cons,lk_cons,ih]
   by_cases h:x=t
   · subst h;simp
   · by_cases h2:t∈l
     · simp [h,h2]
     · have h3:¬(t=x):=fun e=>h e.symm
       simp [h,h2,h3]

section

variable {nt N0:Nat} {L0:Nat→Loc} {all:List Oper} {E S:List Nat} {T:Tm} {M:List Nat} {H:List PO} {listed:Array Bool} {L:Nat→Loc} {w:World} {a:Act}

theorem Inv.looks (hs:SSA all) (h:Inv P nt N0 L0 B R w0 all E S T M H listed L w a) {i:Nat} {o:Oper} (hi:all[i]? = some o) (hp:∀ p∈preds o,listed.getD p false=true) :
 TR H.length L nt ((o.looksAt all.toArray).map fun t=>(t,lk T t)) a:=by
 refine ⟨fun t=>?_,h.defers,h.room⟩
 rw [lk_looks]
 split
 · rename_i ht
   rcases h.tr t with ⟨j,oj,hj,hjl,hoj,hd⟩ | hv
   · exfalso
     have hq:quiet oj.op=true:=by
      cases hq:quiet oj.op with
      | true=>rfl
      | false=>rw [h.eff j oj hj hoj hq] at hjl;cases hjl
     obtain ⟨h1,h2⟩:=hs.once j oj t hoj hq hd
     by_cases hij:i=j
     · subst hij;rw [hi] at hoj;cases hoj;exact h1 ht
     · have:=hp j ((h2 i o hi hij).2 ht)
       rw [this] at hjl;cases hjl
   · exact hv
 · trivial

theorem guarded_wanted {o:Oper} {U:Tm} (ht:TR H.length L nt U a) {k:Tm→Bool→Prop} (h:guarded all U o k) :
 ∃ U' b,(∀ i,lk U' i=lk U i)∧Region.wanted o (yielded all.toArray a.tmps)=b∧k U' b:=by
 unfold guarded at h
 cases hg:o.guard with
 | none=>rw [hg] at h;exact ⟨U,true,fun _=>rfl,by simp [Region.wanted,hg],h⟩
 | some jw =>
   obtain ⟨j,want⟩:=jw
   rw [hg] at h
   dsimp only at h
   split at h <;> try exact h.elim
   rename_i d hd
   obtain ⟨hw1,hw2⟩:=wanted_sound ht (ops:=all.toArray) hg (by simpa using hd)
   split at h <;> try exact h.elim
   · rename_i b hb
     have h1:∀ i,lk ((d,bl b)::U) i=lk U i:=fun i=>by
      rw [lk_cons];split
      · rename_i hh;subst hh;exact hb.symm
      · rfl
     have hw:=hw1 b hb
     replace h:=brc_elim h
     cases b <;> cases want <;> simp only [Bool.false_eq_true,if_false,if_true] at h <;> exact ⟨_,_,h1,hw,by simpa using h⟩
   · rename_i hb
     exact ⟨U,false,fun _=>rfl,hw2 hb,h⟩

theorem count_set {l:List Bool}:∀ {i:Nat},l[i]? = some false→(l.set i true).count false+1=l.count false:=by
 induction l with
 | nil=>intro i h;simp at h
 | cons x l ih =>
   intro i h
   cases i with
   | zero=>simp at h;subst h;simp
   | succ i =>
     have:=ih (i:=i) (by simpa using h)
     cases x <;> simp at this ⊢ <;> omega

theorem valIs_congr {T T':Tm} {o:Oper} {v:AV} (h:∀ d,o.dst=some d→lk T d=lk T' d) (hv:valIs T o v):valIs T' o v:=by
 unfold valIs at *
 split at hv
 · rename_i d hd;rw [←h d hd];exact hv
 · trivial

theorem again_congr {T T':Tm} {o:Oper} (h1:∀ t∈o.looksAt all.toArray,lk T t=lk T' t) (h2:∀ d,o.dst=some d→lk T d=lk T' d) (h:again P all T H o):again P all T' H o:=by
 unfold again at *
 refine guarded_congr h1 (fun b U U' hU hU' hk=>?_) h
 cases b with
 | true =>
   have e:(fun v (_:List Nat) (_:List PO)=>valIs T' o v)=fun v _ _=>valIs T o v:=by
    funext v _ _
    exact propext ⟨valIs_congr fun d hd=>(h2 d hd).symm,valIs_congr h2⟩
   dsimp only at hk ⊢
   rw [e]
   refine aop_congr (fun x hx=>ev_congr fun t ht=>?_) hk
   rw [hU,hU']
   refine h1 t ?_
   unfold Oper.looksAt
   refine List.mem_append_left _ (List.mem_filterMap.2 ⟨x,by simpa using hx,by rw [ht]⟩)
 | false=>exact valIs_congr h2 hk

theorem op_congr {U T:Tm} {o:Oper} {K:KP} (h:∀ t∈o.looksAt all.toArray,lk U t=lk T t) (ha:aop P U H K o.op):aop P T H K o.op :=
 aop_congr (fun x hx=>ev_congr fun t ht=>h t (by
  unfold Oper.looksAt
  exact List.mem_append_left _ (List.mem_filterMap.2 ⟨x,by simpa using hx,by rw [ht]⟩))) ha

end

theorem putT_at {nt:Nat} {T:Tm} {d:Option Tmp} {x:AV} {k:Tm→Prop} (h:putT nt T d x k):∃ T',k T'∧(∀ t,lk T' t=if d=some t then x else lk T t)∧∀ d0,d=some d0→d0<nt:=by
 cases d with
 | none=>exact ⟨T,h,fun t=>by simp,by simp⟩
 | some d =>
   simp only [putT,cond_eq_ite] at h
   split at h <;> try exact h.elim
   rename_i hd
   refine ⟨_,h,fun t=>by rw [lk_cons];simp,fun d0 h0=>?_⟩
   cases h0
   simpa [Nat.blt_eq] using hd

theorem killT_at {M:List Nat} {T:Tm} {k:Tm→Prop} (h:killT M T k):∃ T',k T'∧∀ t,lk T' t=killA M (lk T t):=by
 cases M with
 | nil=>exact ⟨T,h,fun t=>(killA_nil _).symm⟩
 | cons m M=>exact ⟨_,h,fun t=>lk_map _ _ _⟩

theorem guarded_det {all:List Oper} {T:Tm} {o:Oper} {k:Tm→Bool→Prop} (h:guarded all T o k):∃ U b,(∀ i,lk U i=lk T i)∧k U b∧∀ k',k' U b→guarded all T o k':=by
 unfold guarded at h ⊢
 cases hg:o.guard with
 | none=>rw [hg] at h;exact ⟨T,true,fun _=>rfl,h,fun k' hk=>hk⟩
 | some jw =>
   obtain ⟨j,want⟩:=jw
   rw [hg] at h
   dsimp only at h ⊢
   split at h <;> try exact h.elim
   rename_i d hd
   split at h <;> try exact h.elim
   · rename_i b hb
     have h1:∀ i,lk ((d,bl b)::T) i=lk T i:=fun i=>by
      rw [lk_cons];split
      · rename_i hh;subst hh;exact hb.symm
      · rfl
     cases b <;> cases want <;> simp only [brc] at h ⊢ <;> exact ⟨_,_,h1,h,fun k' hk=>hk⟩
   · exact ⟨T,false,fun _=>rfl,h,fun k' hk=>hk⟩

section

variable {nt N0:Nat} {L0:Nat→Loc} {all:List Oper} {E S:List Nat} {T:Tm} {M:List Nat} {H:List PO} {listed:Array Bool} {L:Nat→Loc} {w:World} {a:Act}

theorem Inv.extend (hs:SSA all) (h:Inv P nt N0 L0 B R w0 all E S T M H listed L w a) {i:Nat} {o:Oper} (hi:all[i]? = some o) (hq:quiet o.op=true) (hn:i∉E) (hp:∀ p∈preds o,p∈E) {k:Tm→Prop}
 (hg:guarded all T o fun T' b=>match b with
   | true=>aop P T' H (fun v _ _=>putT nt T' o.dst v k) o.op
   | false=>putT nt T' o.dst undefA k):∃ T',k T'∧Inv P nt N0 L0 B R w0 all (i::E) S T' M H listed L w a:=by
 obtain ⟨U,b,hU,hk,hall⟩:=guarded_det hg
 have key:∀ v T'',(∀ d0,o.dst=some d0→d0<nt)→(∀ t,lk T'' t=if o.dst=some t then v else lk U t)→again P all T'' H o→Inv P nt N0 L0 B R w0 all (i::E) S T'' M H listed L w a:=by
  intro v T'' hlt hT hag
  have hni:listed.getD i false=false:=by
   cases hh:listed.getD i false with
   | false=>rfl
   | true=>exact absurd (h.sub i hh) hn
  refine ⟨h.size,fun j hj=>List.mem_cons_of_mem _ (h.sub j hj),h.down,fun j o' hj ho' p hp'=>?_,fun j o' hj ho' hq'=>?_,h.sure,fun t=>?_,fun j o' d hj ho' hd=>?_,h.defers,h.room,fun j o' hj hjl ho'=>?_,h.hN,h.hag,h.rel⟩
  · rcases List.mem_cons.1 hj with rfl | hj
    · rw [hi] at ho';cases ho';exact List.mem_cons_of_mem _ (hp p hp')
    · exact List.mem_cons_of_mem _ (h.edown j o' hj ho' p hp')
  · rcases List.mem_cons.1 hj with rfl | hj
    · rw [hi] at ho';cases ho';rw [hq] at hq';cases hq'
    · exact h.eff j o' hj ho' hq'
  · by_cases ht:o.dst=some t
    · exact .inl ⟨i,o,by simp,hni,hi,ht⟩
    · rcases h.tr t with ⟨j,oj,h1,h2,h3,h4⟩ | hv
      · exact .inl ⟨j,oj,List.mem_cons_of_mem _ h1,h2,h3,h4⟩
      · right;rw [hT,if_neg ht,hU];exact hv
  · rcases List.mem_cons.1 hj with rfl | hj
    · rw [hi] at ho';cases ho';exact hlt d hd
    · exact h.bound j o' d hj ho' hd
  · rcases List.mem_cons.1 hj with rfl | hj
    · rw [hi] at ho';cases ho';exact hag
    · have hji:j≠i:=fun e=>hn (e ▸ hj)
      have hsame:∀ t,(∀ d,o.dst=some d→t≠d)→lk T t=lk T'' t:=fun t ht=>by
       rw [hT,if_neg (fun e=>ht t e rfl),hU]
      refine again_congr (fun t ht=>hsame t fun d hd e=>?_) (fun t ht=>hsame t fun d hd e=>?_) (h.pend j o' hj hjl ho')
      · subst e
        obtain ⟨_,h2⟩:=hs.once i o t hi hq hd
        have:=h.edown j o' hj ho' i ((h2 j o' ho' hji).2 ht)
        exact hn this
      · subst e
        obtain ⟨_,h2⟩:=hs.once i o t hi hq hd
        exact (h2 j o' ho' hji).1 ht
 have looks:∀ v T'',(∀ t,lk T'' t=if o.dst=some t then v else lk U t)→∀ t∈o.looksAt all.toArray,lk T t=lk T'' t:=fun v T'' hT t ht=>by
  rw [hT,if_neg (fun e=>(hs.once i o t hi hq e).1 ht),hU]
 cases b with
 | true =>
   obtain ⟨v,hv,hdet⟩:=quiet_det hq hk
   obtain ⟨T'',hk',hT,hb⟩:=putT_at hv
   refine ⟨T'',hk',key v T'' hb hT ?_⟩
   unfold again
   refine guarded_congr (looks v T'' hT) (fun b V V' hV hV' hh=>?_) (hall (fun V b=>match b with | true=>aop P V H (fun v' _ _=>v'=v) o.op | false=>False) (hdet _ rfl))
   cases b with
   | false=>exact hh.elim
   | true =>
     have hh2:=op_congr (all:=all) (T:=V') (fun t ht=>by rw [hV,hV',looks v T'' hT t ht]) hh
     have:(fun v' (_:List Nat) (_:List PO)=>valIs T'' o v')=fun v' _ _=>v'=v∨valIs T'' o v':=by
      funext v' _ _
      refine propext ⟨.inr,fun hv'=>?_⟩
      rcases hv' with rfl | hv'
      · unfold valIs;split
        · rename_i d hd;rw [hT,if_pos hd]
        · trivial
      · exact hv'
     obtain ⟨v2,hv2,hdet2⟩:=quiet_det hq hh2
     exact hdet2 _ (by
      subst hv2
      unfold valIs;split
      · rename_i d hd;rw [hT,if_pos hd]
      · trivial)
 | false =>
   obtain ⟨T'',hk',hT,hb⟩:=putT_at hk
   refine ⟨T'',hk',key undefA T'' hb hT ?_⟩
   unfold again
   refine guarded_congr (looks undefA T'' hT) (fun b V V' hV hV' hh=>?_) (hall (fun V b=>match b with | true=>False | false=>True) trivial)
   cases b with
   | true=>exact hh.elim
   | false =>
     show valIs T'' o undefA
     unfold valIs;split
     · rename_i d hd;rw [hT,if_pos hd]
     · trivial

theorem getD_set {l:Array Bool} {i:Nat} (hi:i<l.size) (j:Nat):(l.setIfInBounds i true).getD j false=if j=i then true else l.getD j false:=by
 by_cases h:j=i
 · subst h;simp [hi]
 · rw [if_neg h];exact getD_set_ne false (Ne.symm h)

variable {Q:Exit→Act→World→Prop} {K:Tm→List Nat→List PO→Prop}

theorem Inv.quiet_step (hs:SSA all) (h:Inv P nt N0 L0 B R w0 all E S T M H listed L w a) {i:Nat} {o:Oper} (hi:all[i]? = some o) (hiE:i∈E) (hni:listed.getD i false=false) (hp:∀ p∈preds o,listed.getD p false=true)
 {k:Act→World→Prop} (hk:∀ a' w' L',Inv P nt N0 L0 B R w0 all E S T M H (listed.setIfInBounds i true) L' w' a'→k a' w'):wpOp P all.toArray Q i k a w:=by
 have hq:quiet o.op=true:=by
  cases hq:quiet o.op with
  | true=>rfl
  | false=>rw [h.eff i o hiE hi hq] at hni;cases hni
 have hlt:i<listed.size:=by rw [h.size];exact (List.getElem?_eq_some_iff.1 hi).1
 have htr:=h.looks hs hi hp
 have hag:=h.pend i o hiE hni hi
 unfold again at hag
 -- what holds behind it
 have after:∀ (v:Value) (w':World) (L':Nat→Loc) (x:AV),valIs T o x→VA H.length L' x v→Agree H.length [] L L'→Rel B R w0 L' H w'→Inv P nt N0 L0 B R w0 all E S T M H (listed.setIfInBounds i true) L' w' (a.put o.dst v):=by
  intro v w' L' x hx hxv hL hrel
  refine ⟨by simpa using h.size,fun j hj=>?_,fun j o' hj ho' p hp'=>?_,h.edown,fun j o' hj ho' hq'=>?_,fun j hj=>?_,fun t=>?_,h.bound,?_,?_,fun j o' hj hjl ho'=>?_,h.hN,?_,hrel⟩
  · rw [getD_set hlt] at hj
    split at hj
    · rename_i e;rw [e];exact hiE
    · exact h.sub j hj
  · rw [getD_set hlt] at hj ⊢
    split
    · rfl
    · split at hj
      · rename_i e;subst e;rw [hi] at ho';cases ho';exact hp p hp'
      · exact h.down j o' hj ho' p hp'
  · rw [getD_set hlt];split
    · rfl
    · exact h.eff j o' hj ho' hq'
  · rw [getD_set hlt];split
    · rfl
    · exact h.sure j hj
  · by_cases ht:o.dst=some t
    · right
      unfold valIs at hx
      rw [ht] at hx
      dsimp only at hx
      rw [←hx,ht]
      have htl:t<a.tmps.size:=Nat.lt_of_lt_of_le (h.bound i o t hiE hi ht) h.room
      simpa [Act.put,Array.getD_eq_getD_getElem?,htl] using hxv
    · rcases h.tr t with ⟨j,oj,h1,h2,h3,h4⟩ | hv
      · left
        refine ⟨j,oj,h1,?_,h3,h4⟩
        rw [getD_set hlt,if_neg (fun e=>by subst e;rw [hi] at h3;cases h3;exact ht h4)]
        exact h2
      · right
        have:(a.put o.dst v).tmps.getD t undef=a.tmps.getD t undef:=by
         cases hd:o.dst with
         | none=>rfl
         | some d =>
           have hne:d≠t:=fun e=>ht (by rw [hd,e])
           simp [Act.put,Array.getElem?_setIfInBounds_ne hne]
        rw [this]
        have:=hv.mono (Nat.le_refl _) hL
        rwa [killA_nil] at this
  · cases o.dst <;> exact h.defers
  · cases hd:o.dst with
    | none=>exact h.room
    | some d=>have:=h.room;simpa [Act.put] using this
  · rw [getD_set hlt] at hjl
    split at hjl
    · cases hjl
    · exact h.pend j o' hj hjl ho'
  · have:=h.hag.trans h.hN hL;rwa [List.nil_append] at this
 have hag2:=guarded_congr (all:=all) (T':=(o.looksAt all.toArray).map fun t=>(t,lk T t)) (k':=fun U b=>match b with
  | true=>aop P U H (fun v _ _=>valIs T o v) o.op
  | false=>valIs T o undefA) (fun t ht=>by rw [lk_looks,if_pos ht]) (fun b U U' hU hU' hh=>by
  cases b with
  | true=>exact op_congr (all:=all) (fun t ht=>by rw [hU,hU',lk_looks,if_pos ht]) hh
  | false=>exact hh) hag
 obtain ⟨U,b,hU,hw,hb⟩:=guarded_wanted htr hag2
 have htU:TR H.length L nt U a:=⟨fun t=>by rw [hU];exact htr.get t,htr.defers,htr.room⟩
 have hio:(all.toArray)[i]? = some o:=by simpa using hi
 unfold wpOp
 simp only [hio,hw]
 cases b with
 | false =>
   rw [if_neg (by simp)]
   exact hk _ _ L (after undef w L undefA hb ⟨[],rfl,rfl⟩ (Agree.refl _ _ _) h.rel)
 | true =>
   rw [if_pos rfl]
   left
   have hout:=aop_sound h.rel htU o (quiet_aop hq hb)
   have next:∀ v w',Left B R w0 H.length L (fun v M H'=>M=[]∧H'=H∧valIs T o v) v w'→k (a.put o.dst v) w':=by
    rintro v w' ⟨L',x,M',H',h1,h2,h3,h4,rfl,rfl,h5⟩
    exact hk _ _ L' (after v w' L' x h5 h3 h1 h4)
   unfold Oper.wp
   rcases hout with ⟨v,w',hr,hleft⟩ | ⟨f,args,hr,hcall⟩
   · rcases hr with hr | ⟨hr,rfl⟩
     · rw [hr];exact next v w' hleft
     · rw [hr];exact next undef w' hleft
   · rw [hr]
     simp only [Oper.upon]
     refine hcall.mono ?_
     rintro e w' ⟨v,rfl,hleft⟩
     exact next v w' hleft

theorem Inv.eff_step (hs:SSA all) (h:Inv P nt N0 L0 B R w0 all E S T M H listed L w a) {i:Nat} {o:Oper} (hi:all[i]? = some o) (hq:quiet o.op=false) (hni:listed.getD i false=false) (hp:∀ p∈preds o,listed.getD p false=true)
 {D:Tm→List Nat→List PO→Prop}
 (hg:guarded all T o fun T' b=>match b with
     | true=>aop P T' H (fun v M' H'=>killT M' T' fun T1=>putT nt T1 o.dst v fun T2=>addM M' M fun M2=>checks P all E (ahead all 1000 [i] S) T2 H' (D T2 M2 H') numbers all) o.op
     | false=>putT nt T' o.dst undefA fun T2=>checks P all E (ahead all 1000 [i] S) T2 H (D T2 M H) numbers all)
 {k:Act→World→Prop} (hk:∀ a' w' L' T' M' H',D T' M' H'→Inv P nt N0 L0 B R w0 all (i::E) (ahead all 1000 [i] S) T' M' H' (listed.setIfInBounds i true) L' w' a'→k a' w'):wpOp P all.toArray Q i k a w:=by
 have hlt:i<listed.size:=by rw [h.size];exact (List.getElem?_eq_some_iff.1 hi).1
 have htr:=h.looks hs hi hp
 have hiE:i∉E:=fun he=>by rw [h.eff i o he hi hq] at hni;cases hni
 have hlen:all.length≤100:=Nat.le_of_lt hs.small
 have hdown:∀ (j:Nat) (o':Oper),(listed.setIfInBounds i true).getD j false=true→all[j]? = some o'→∀ p∈preds o',(listed.setIfInBounds i true).getD p false=true:=by
  intro j o' hj ho' p hp'
  rw [getD_set hlt] at hj ⊢
  split
  · rfl
  · split at hj
    · rename_i e;subst e;rw [hi] at ho';cases ho';exact hp p hp'
    · exact h.down j o' hj ho' p hp'
 have hsure:∀ j∈ahead all 1000 [i] S,(listed.setIfInBounds i true).getD j false=true :=
  ahead_spec (D:=fun j=>(listed.setIfInBounds i true).getD j false=true) hdown 1000 [i] S (fun j hj=>by simp at hj;rw [hj,getD_set hlt,if_pos rfl]) (fun j hj=>by
   rw [getD_set hlt];split
   · rfl
   · exact h.sure j hj)
 have after:∀ (v:Value) (w':World) (L':Nat→Loc) (x:AV) (T2:Tm) (M1 M2:List Nat) (H':List PO),(∀ d0,o.dst=some d0→d0<nt)→(∀ t,lk T2 t=if o.dst=some t then x else killA M1 (lk T t))→VA H'.length L' x v→Agree H.length M1 L L'→H.length≤H'.length →
  Rel B R w0 L' H' w'→Agree N0 M2 L0 L'→checks P all E (ahead all 1000 [i] S) T2 H' (D T2 M2 H') numbers all →
  D T2 M2 H'∧Inv P nt N0 L0 B R w0 all (i::E) (ahead all 1000 [i] S) T2 M2 H' (listed.setIfInBounds i true) L' w' (a.put o.dst v):=by
  intro v w' L' x T2 M1 M2 H' hbd hT hxv hL hle hrel hag hch
  rw [numbers_eq] at hch
  obtain ⟨hD,hc⟩:=checks_spec hlen hch
  refine ⟨hD,by simpa using h.size,fun j hj=>?_,hdown,fun j o' hj ho' p hp'=>?_,fun j o' hj ho' hq'=>?_,hsure,fun t=>?_,fun j o' d hj ho' hd=>?_,?_,?_,fun j o' hj hjl ho'=>?_,by have:=h.hN;omega,hag,hrel⟩
  · rw [getD_set hlt] at hj
    split at hj
    · rename_i e;rw [e];simp
    · exact List.mem_cons_of_mem _ (h.sub j hj)
  · rcases List.mem_cons.1 hj with rfl | hj
    · rw [hi] at ho';cases ho';exact List.mem_cons_of_mem _ (h.sub p (hp p hp'))
    · exact List.mem_cons_of_mem _ (h.edown j o' hj ho' p hp')
  · rw [getD_set hlt];split
    · rfl
    · rename_i hne
      rcases List.mem_cons.1 hj with rfl | hj
      · exact absurd rfl hne
      · exact h.eff j o' hj ho' hq'
  · by_cases ht:o.dst=some t
    · right
      rw [hT,if_pos ht,ht]
      have htl:t<a.tmps.size:=Nat.lt_of_lt_of_le (hbd t ht) h.room
      simpa [Act.put,Array.getD_eq_getD_getElem?,htl] using hxv
    · rcases h.tr t with ⟨j,oj,h1,h2,h3,h4⟩ | hv
      · left
        refine ⟨j,oj,List.mem_cons_of_mem _ h1,?_,h3,h4⟩
        rw [getD_set hlt,if_neg (show ¬j=i from fun e=>hiE (by rw [←e];exact h1))]
        exact h2
      · right
        have:(a.put o.dst v).tmps.getD t undef=a.tmps.getD t undef:=by
         cases hd:o.dst with
         | none=>rfl
         | some d =>
           have hne:d≠t:=fun e=>ht (by rw [hd,e])
           simp [Act.put,Array.getElem?_setIfInBounds_ne hne]
        rw [this,hT,if_neg ht]
        exact hv.mono hle hL
  · rcases List.mem_cons.1 hj with rfl | hj
    · rw [hi] at ho';cases ho';exact hbd d hd
    · exact h.bound j o' d hj ho' hd
  · cases o.dst <;> exact h.defers
  · cases hd:o.dst with
    | none=>exact h.room
    | some d=>have:=h.room;simpa [Act.put] using this
  · have hjl':=hjl
    rw [getD_set hlt] at hjl
    split at hjl
    · cases hjl
    · rename_i hne
      rcases List.mem_cons.1 hj with rfl | hj
      · exact absurd rfl hne
      · have hqj:quiet o'.op=true:=by
         cases hqj:quiet o'.op with
         | true=>rfl
         | false=>rw [h.eff j o' hj ho' hqj] at hjl;cases hjl
        have:=hc j o' ho' hqj (by simpa using hj) (fun hS=>by rw [Nat.zero_add] at hS;rw [hsure j hS] at hjl';cases hjl')
        exact this
 obtain ⟨U0,b0,hU0,hk0,hall⟩:=guarded_det hg
 -- the same,with the operands alone
 have hg2:=guarded_congr (all:=all) (T':=(o.looksAt all.toArray).map fun t=>(t,lk T t)) (k':=fun U b=>b=b0) (fun t ht=>by rw [lk_looks,if_pos ht]) (fun b U U' hU hU' hh=>hh) (hall (fun U b=>b=b0) rfl)
 obtain ⟨U,b,hU,hw,rfl⟩:=guarded_wanted htr hg2
 have hio:(all.toArray)[i]? = some o:=by simpa using hi
 unfold wpOp
 simp only [hio,hw]
 cases b with
 | false =>
   rw [if_neg (by simp)]
   obtain ⟨T2,hc,hT,hbd⟩:=putT_at hk0
   obtain ⟨hD,hI⟩:=after undef w L undefA T2 [] M H hbd (fun t=>by rw [hT,hU0,killA_nil]) ⟨[],rfl,rfl⟩ (Agree.refl _ _ _) (Nat.le_refl _) h.rel h.hag hc
   exact hk _ _ L T2 M H hD hI
 | true =>
   rw [if_pos rfl]
   left
   have haop:=op_congr (all:=all) (T:=(o.looksAt all.toArray).map fun t=>(t,lk T t)) (fun t ht=>by rw [hU0,lk_looks,if_pos ht]) hk0
   have hout:=aop_sound h.rel htr o haop
   have next:∀ v w',Left B R w0 H.length L (fun v M' H'=>killT M' U0 fun T1=>putT nt T1 o.dst v fun T2=>addM M' M fun M2=>checks P all E (ahead all 1000 [i] S) T2 H' (D T2 M2 H') numbers all) v w'→k (a.put o.dst v) w':=by
    rintro v w' ⟨L',x,M',H',h1,h2,h3,h4,h5⟩
    obtain ⟨T1,h5,hT1⟩:=killT_at h5
    obtain ⟨T2,h5,hT2,hbd⟩:=putT_at h5
    rw [addM_eq] at h5
    obtain ⟨hD,hI⟩:=after v w' L' x T2 M' (M'++M) H' hbd (fun t=>by rw [hT2,hT1,hU0]) h3 h1 h2 h4 (h.hag.trans h.hN h1) h5
    exact hk _ _ L' T2 _ H' hD hI
   unfold Oper.wp
   rcases hout with ⟨v,w',hr,hleft⟩ | ⟨f,args,hr,hcall⟩
   · rcases hr with hr | ⟨hr,rfl⟩
     · rw [hr];exact next v w' hleft
     · rw [hr];exact next undef w' hleft
   · rw [hr]
     simp only [Oper.upon]
     refine hcall.mono ?_
     rintro e w' ⟨v,rfl,hleft⟩
     exact next v w' hleft

theorem effs_mem {E:List Nat}:∀ {os:List Oper} {m s i:Nat} {o:Oper},(i,o)∈effs E (List.range' s m) os→i∉E∧s≤i∧i-s<os.length
 | [],m,s,i,o,h=>by cases m <;> simp [effs,List.range'_succ] at h
 | x::os,0,s,i,o,h=>by simp [effs] at h
 | x::os,m+1,s,i,o,h=>by
   simp only [List.range'_succ,effs,cond_eq_ite] at h
   split at h
   · rename_i hc
     rcases List.mem_cons.1 h with hh | hh
     · cases hh
       simp only [Bool.and_eq_true,Bool.not_eq_true'] at hc
       exact ⟨has_false hc.1.2,Nat.le_refl _,by simp⟩
     · obtain ⟨h1,h2,h3⟩:=effs_mem hh
       exact ⟨h1,by omega,by simp;omega⟩
   · obtain ⟨h1,h2,h3⟩:=effs_mem h
     exact ⟨h1,by omega,by simp;omega⟩

theorem Inv.done (hs:SSA all) (h:Inv P nt N0 L0 B R w0 all E S T M H listed L w a) (hr:Region.ready .any all.toArray listed=[]):(∀ i,i<all.length→listed.getD i false=true)∧effs E numbers all=[]∧TR H.length L nt T a:=by
 have hall:∀ i,i<all.length→listed.getD i false=true:=by
  intro i
  induction i using Nat.strongRecOn with
  | _ i ih =>
    intro hi
    cases hl:listed.getD i false with
    | true=>rfl
    | false =>
      have hil:i<listed.size:=by rw [h.size];exact hi
      have ho:all[i]? = some all[i]:=by simp [hi]
      have:i∈Region.ready .any all.toArray listed:=mem_ready.2 ⟨by simpa [hil] using hl,all[i],by simp,fun e he hb=>by
       have hp:=hs.back i _ ho e.on (mem_preds.2 ⟨e,he,hb,rfl⟩)
       exact ih e.on hp (by omega)⟩
      rw [hr] at this;cases this
 refine ⟨hall,?_,fun t=>?_,h.defers,h.room⟩
 · cases he:effs E numbers all with
   | nil=>rfl
   | cons x xs =>
     obtain ⟨i,o⟩:=x
     have:(i,o)∈effs E (List.range' 0 100) all:=by rw [←numbers_eq,he];simp
     obtain ⟨h1,_,h3⟩:=effs_mem this
     exact absurd (h.sub i (hall i h3)) h1
 · rcases h.tr t with ⟨j,oj,h1,h2,h3,_⟩ | hv
   · rw [hall j (List.getElem?_eq_some_iff.1 h3).1] at h2;cases h2
   · exact hv

theorem drawn_sound (hs:SSA all) (hQ:∀ L' T' M' H' w' a',N0≤H'.length→Agree N0 M' L0 L'→Rel B R w0 L' H' w'→TR H'.length L' nt T' a'→K T' M' H'→Q .normal a' w') :
 ∀ (fuel:Nat) (E S:List Nat) (T:Tm) (M:List Nat) (H:List PO),drawn P nt all fuel E S T M H K→∀ (m:Nat) (listed:Array Bool) (L:Nat→Loc) (w:World) (a:Act),listed.toList.count false=m →
   Inv P nt N0 L0 B R w0 all E S T M H listed L w a→wpAny P .any all.toArray Q m listed a w:=by
 have hlen:all.length≤100:=Nat.le_of_lt hs.small
 intro fuel
 induction fuel with
 | zero=>intro E S T M H h;exact h.elim
 | succ fuel ih =>
   intro E S T M H h
   simp only [drawn] at h
   split at h
   · rename_i i o hnx
     rw [numbers_eq] at hnx
     obtain ⟨_,hi,hq,hn,hp⟩:=nextQ_spec hnx
     simp only [Nat.sub_zero] at hi
     intro m listed L w a hm hI
     obtain ⟨T',hd,hI'⟩:=hI.extend hs hi hq hn hp h
     exact ih _ _ _ _ _ hd m listed L w a hm hI'
   · rename_i hnx
     rw [numbers_eq] at hnx
     have hclosed:=nextQ_none hlen hnx
     simp only [Nat.zero_add] at hclosed
     intro m
     induction m with
     | zero =>
       intro listed L w a hm hI
       have hready:Region.ready .any all.toArray listed=[]:=by
        cases hr:Region.ready .any all.toArray listed with
        | nil=>rfl
        | cons j js =>
          have hj:j∈Region.ready .any all.toArray listed:=by rw [hr];simp
          obtain ⟨h0,o,ho,_⟩:=mem_ready.1 hj
          have hjl:j<listed.size:=by rw [hI.size];simpa using (Array.getElem?_eq_some_iff.1 ho).1
          have:listed.toList[j]? = some false:=by simpa [hjl] using h0
          have:=List.count_pos_iff.2 (List.mem_of_getElem? this)
          omega
       refine ⟨hready,?_⟩
       obtain ⟨_,he,ht⟩:=hI.done hs hready
       rw [he] at h
       simp only [cond_eq_ite] at h
       split at h
       · exact hQ L T M H w a hI.hN hI.hag hI.rel ht h
       · exact h.elim
     | succ m ihm =>
       intro listed L w a hm hI
       refine ⟨fun hready=>?_,fun i hi=>?_⟩
       · obtain ⟨_,he,ht⟩:=hI.done hs hready
         rw [he] at h
         simp only [cond_eq_ite] at h
         split at h
         · exact hQ L T M H w a hI.hN hI.hag hI.rel ht h
         · exact h.elim
       · obtain ⟨h0,o,ho,hedge⟩:=mem_ready.1 hi
         have hio:all[i]? = some o:=by simpa using ho
         have hil:i<listed.size:=by rw [hI.size];exact (List.getElem?_eq_some_iff.1 hio).1
         have hni:listed.getD i false=false:=by simpa [hil] using h0
         have hp:∀ p∈preds o,listed.getD p false=true:=fun p hp=>by
          obtain ⟨e,he,hb,rfl⟩:=mem_preds.1 hp
          exact hedge e he hb
         have hcnt:(listed.setIfInBounds i true).toList.count false=m:=by
          have:=count_set (l:=listed.toList) (i:=i) (by simpa [hil] using h0)
          simp only [Array.toList_setIfInBounds]
          omega
         cases hq:quiet o.op with
         | true =>
           exact hI.quiet_step hs hio (hclosed i o hio hq fun p hp'=>hI.sub p (hp p hp')) hni hp fun a' w' L' hI'=>ihm _ L' w' a' hcnt hI'
         | false =>
           have hiE:i∉E:=fun he=>by rw [hI.eff i o he hio hq] at hni;cases hni
           have hmem:=effs_spec (E:=E) (s:=0) hlen i o hio hq (by simpa using hiE) fun p hp'=>hI.sub p (hp p hp')
           rw [←numbers_eq,Nat.zero_add] at hmem
           split at h
           · rename_i he;rw [he] at hmem;cases hmem
           · have hb:=allR_spec h _ hmem
             exact hI.eff_step hs hio hq hni hp hb fun a' w' L' T' M' H' hD hI'=>ih _ _ _ _ _ hD m _ L' w' a' hcnt hI'

end

theorem SS.draw {nt N0:Nat} {id:Nat} {ops:Array Oper} {T:Tm} {M:List Nat} {H:List PO} {Q:Ex→Tm→List Nat→List PO→Prop} (hf:P.follows .mixedOrders=true) (hs:ssa ops.toList=true)
 (h:drawn P nt ops.toList 400 [] [] T M H fun T' M' H'=>Q .normal T' M' H'):SS P nt N0 (.region id ops true) T M H Q:=by
 refine ⟨fun B R w0 L0 L w a R0 h1 h2 h3 h4 h5=>wp_region_any hf ?_⟩
 have hc:(Array.replicate ops.size false).toList.count false=ops.size:=by simp
 have:=drawn_sound (P:=P) (B:=B) (R:=R) (w0:=w0) (nt:=nt) (N0:=N0) (L0:=L0) (Q:=R0) (ssa_spec hs) (fun L' T' M' H' w' a' k1 k2 k3 k4 k5=>h5 .normal L' T' M' H' w' a' k1 k2 k3 k4 k5) 400 [] [] T M H h
  ops.size (Array.replicate ops.size false) L { w with drawn:=w.drawn+1 } a hc
 have hop:ops.toList.toArray=ops:=by simp
 rw [hop] at this
 refine this ?_
 have hno:∀ i,(Array.replicate ops.size false).getD i false=false:=fun i=>by
  simp only [Array.getD_eq_getD_getElem?,Array.getElem?_replicate]
  split <;> rfl
 exact ⟨(by simp),fun i hi=>(by rw [hno] at hi;cases hi),fun i o hi=>(by rw [hno] at hi;cases hi),fun i o hi=>(by simp at hi),fun i o hi=>(by simp at hi),fun i hi=>(by simp at hi),fun t=>.inr (h4.get t),fun i o d hi=>(by simp at hi),
  h4.defers,h4.room,fun i o hi=>(by simp at hi),h1,h2,h3.drew⟩

end

end Go.Mac
