import Derived.Test.YtollgfhpcidkgaaGreatDoorMacBase

namespace Go.Mac
open Go

abbrev Tm:=List (Nat×AV)

abbrev fcv (x:FC):AV:=.p (.c (.f x))
abbrev bl (b:Bool):AV:=.p (.c (.f (.bool b)))
abbrev i64 (n:Int):AV:=.p (.c (.f (.int .i64 n)))
abbrev u64 (n:Int):AV:=.p (.c (.f (.int .u64 n)))
abbrev st (s:List UInt8):AV:=.p (.c (.f (.str s)))
abbrev cv (x:CV):AV:=.p (.c x)
def undefA:AV:=.tup []

def brc (b:Bool) (A B:Prop):Prop :=
 match b with
 | true=>A
 | false=>B

theorem bZ {b:Bool} {A B:Prop} (h1:b=true→A) (h2:b=false→B):brc b A B:=by cases b <;> simp_all [brc]
theorem brc_elim {b:Bool} {A B:Prop} (h:brc b A B):if b=true then A else B:=by cases b <;> simpa [brc] using h

def nth {α : Type}:List α→Nat→Option α
 | [],_=>none
 | x::_,0=>some x
 | _::xs,n+1=>nth xs n

theorem nth_eq {α : Type}:∀ (l:List α) (n:Nat),nth l n=l[n]?
 | [],n=>by simp [nth]
 | x::xs,0=>rfl
 | x::xs,n+1=>by simp [nth,nth_eq xs n]

def setK {α : Type}:List α→Nat→α→(List α→Prop)→Prop
 | [],_,_,k=>k []
 | _::xs,0,y,k=>k (y::xs)
 | x::xs,n+1,y,k=>setK xs n y fun l=>k (x::l)

theorem setK_eq {α : Type}:∀ (l:List α) (n:Nat) (y : α) (k:List α→Prop),setK l n y k=k (l.set n y)
 | [],_,_,_=>rfl
 | _::_,0,_,_=>rfl
 | x::xs,n+1,y,k=>by simp [setK,setK_eq xs n y]

def takeK {α : Type}:List α→Nat→Nat→(List α→Prop)→Prop
 | _,0,0,k=>k []
 | [],_,_,_=>False
 | x::xs,0,n+1,k=>takeK xs 0 n fun l=>k (x::l)
 | _::xs,f+1,n,k=>takeK xs f n k

theorem takeK_spec {α : Type}:∀ (l:List α) (f n:Nat) (k:List α→Prop),takeK l f n k→(f+n≤l.length∨n=0)∧k ((l.drop f).take n)
 | l,0,0,k,h=>by cases l <;> exact ⟨.inr rfl,by simpa [takeK] using h⟩
 | [],f+1,n,k,h=>by cases n <;> exact h.elim
 | [],0,n+1,k,h=>h.elim
 | x::xs,0,n+1,k,h=>by
   have:=takeK_spec xs 0 n _ h
   refine ⟨.inl (by simp;omega),by simpa using this.2⟩
 | x::xs,f+1,0,k,h=>by
   have:=takeK_spec xs f 0 k h
   exact ⟨.inr rfl,by simpa using this.2⟩
 | x::xs,f+1,n+1,k,h=>by
   have:=takeK_spec xs f (n+1) k h
   refine ⟨.inl (by simp;omega),by simpa using this.2⟩

def splice {α : Type} (row:List α) (f:Nat):List α→List α
 | []=>row
 | x::xs=>splice (row.set f x) (f+1) xs

def setsK {α : Type}:List α→Nat→List α→(List α→Prop)→Prop
 | xs,_,[],k=>k xs
 | [],_,_::_,_=>False
 | _::xs,0,y::ys,k=>setsK xs 0 ys fun l=>k (y::l)
 | x::xs,f+1,y::ys,k=>setsK xs f (y::ys) fun l=>k (x::l)

theorem splice_cons {α : Type} (x : α):∀ (ys row:List α) (f:Nat),splice (x::row) (f+1) ys=x::splice row f ys
 | [],_,_=>rfl
 | y::ys,row,f=>by simp [splice,splice_cons x ys]

theorem setsK_spec {α : Type}:∀ (row:List α) (f:Nat) (ys:List α) (k:List α→Prop),setsK row f ys k→(f+ys.length≤row.length∨ys=[])∧k (splice row f ys)
 | row,f,[],k,h=>⟨.inr rfl,by cases row <;> simpa [setsK,splice] using h⟩
 | [],f,y::ys,k,h=>by cases f <;> exact h.elim
 | x::xs,0,y::ys,k,h=>by
   have:=setsK_spec xs 0 ys _ h
   refine ⟨.inl (by rcases this.1 with h | h <;> (simp_all;try omega)),?_⟩
   have h2:=this.2
   simp only [splice,List.set_cons_zero]
   rw [splice_cons]
   exact h2
 | x::xs,f+1,y::ys,k,h=>by
   have:=setsK_spec xs f (y::ys) _ h
   refine ⟨.inl (by rcases this.1 with h | h <;> (simp_all;try omega)),?_⟩
   rw [splice_cons]
   exact this.2

def numbers:List Nat:=[0,1,2,3,4,5,6,7,8,9,10,11,12,13,14,15,16,17,18,19,20,21,22,23,24,25,26,27,28,29,30,31,32,33,34,35,36,37,38,39,
 40,41,42,43,44,45,46,47,48,49,50,51,52,53,54,55,56,57,58,59,60,61,62,63,64,65,66,67,68,69,70,71,72,73,74,75,76,77,78,79,80,81,82,83,84,85,86,87,88,89,90,91,92,93,94,95,96,97,98,99]

theorem numbers_eq:numbers=List.range' 0 100:=by decide

def snocK {α : Type}:List α→List Nat→α→(Nat→List α→Prop)→Prop
 | _,[],_,_=>False
 | [],n::_,o,k=>k n [o]
 | x::xs,_::ns,o,k=>snocK xs ns o fun m l=>k m (x::l)

theorem snocK_spec' {α : Type} (o : α):∀ (l:List α) (m s:Nat) (k:Nat→List α→Prop),snocK l (List.range' s m) o k→k (s+l.length) (l++[o])
 | [],0,_,_,h=>h.elim
 | [],m+1,s,k,h=>by simpa [List.range'_succ,snocK] using h
 | _::_,0,_,_,h=>h.elim
 | x::xs,m+1,s,k,h=>by
   simp only [List.range'_succ,snocK] at h
   have:=snocK_spec' o xs m (s+1) _ h
   simpa [Nat.add_assoc,Nat.add_comm 1] using this

theorem snocK_spec {α : Type} {l:List α} {o : α} {k:Nat→List α→Prop} (h:snocK l numbers o k):k l.length (l++[o]):=by
 rw [numbers_eq] at h
 simpa using snocK_spec' o l 100 0 k h

def cvOf:Value→Option CV
 | .bool b=>some (.f (.bool b))
 | .int k n=>some (.f (.int k n))
 | .string s=>some (.f (.str s.data.toList))
 | .pointer none=>some .nilptr
 | .slice none 0 0=>some .nilslc
 | .map none=>some .nilmap
 | .nilFunc=>some .nilfunc
 | .nilIface=>some .niliface
 | _=>none

def cvsOf:List Value→Option (List CV)
 | []=>some []
 | v::vs =>
   match cvOf v,cvsOf vs with
   | some x,some xs=>some (x::xs)
   | _,_=>none

def avOf:Value→AV
 | .agg cs =>
   match cvsOf cs.toList with
   | some l=>.p (.agg l)
   | none=>.u
 | v =>
   match cvOf v with
   | some x=>.p (.c x)
   | none=>.u

def lk:Tm→Nat→AV
 | [],_=>.u
 | (j,x)::T,i=>bif Nat.beq j i then x else lk T i

def ev (T:Tm):Operand→AV
 | .tmp t=>lk T t
 | .const v=>avOf v
 | .global g=>.p (.c (.gpt g 0))
 | .func f=>.p (.c (.func f []))

def fA (x:AV) (k:AV→Prop):Prop :=
 match x with
 | .u=>k .u
 | .p y=>k (.p y)
 | .tup ys=>k (.tup ys)

theorem fA_eq (x:AV) (k:AV→Prop):fA x k=k x:=by cases x <;> rfl

def putT (nt:Nat) (T:Tm) (d:Option Tmp) (x:AV) (k:Tm→Prop):Prop :=
 match d with
 | none=>k T
 | some d=>bif Nat.blt d nt then k ((d,x)::T) else False

def szOf (P:Program) (t:TypeId):Nat:=((P.info? t).map (·.size)).getD 0

def aggT (P:Program) (t:TypeId):Option Bool :=
 (P.underlying t).map fun | .struct _ | .array _ _=>true | _=>false

def zval (P:Program) (t:TypeId):AV :=
 match (P.info? t).bind (·.zero) with
 | some z=>avOf z
 | none=>.u

def fieldT (P:Program) (t:TypeId) (i:Nat):Option (Nat×TypeId) :=
 match P.underlying t with
 | some (.struct fs)=>(nth fs.toList i).map fun f=>(f.offset,f.type)
 | _=>none

def elemT (P:Program) (t:TypeId):Option TypeId :=
 match P.underlying t with
 | some (.slice e)=>some e
 | _=>none

def fmapK:List FC→(List CV→Prop)→Prop
 | [],k=>k []
 | x::xs,k=>fmapK xs fun l=>k (.f x::l)

theorem fmapK_eq:∀ (l:List FC) (k:List CV→Prop),fmapK l k=k (l.map .f)
 | [],_=>rfl
 | x::xs,k=>by simp [fmapK,fmapK_eq xs]

def tabOf:List PO→Nat→Option (List FC)
 | [],_=>none
 | .tab a vs::H,g=>bif Nat.beq a g then some vs else tabOf H g
 | _::H,g=>tabOf H g

def loadA (P:Program) (H:List PO) (t:TypeId) (x:AV) (K:PV→Prop):Prop :=
 match x with
 | .p (.c (.ptr r f)) =>
   match nth H r with
   | some (.one cs) =>
     match aggT P t with
     | some true=>bif (P.info? t).isSome then takeK cs f (szOf P t) fun l=>K (.agg l) else False
     | some false =>
       match nth cs f with
       | some x=>K (.c x)
       | none=>False
     | none=>False
   | _=>False
 | .p (.c (.rptr r i f)) =>
   match nth H r with
   | some (.rows _ _ rs) =>
     match aggT P t with
     | some true=>bif (P.info? t).isSome then ∃ row,rs[i]? = some row∧takeK row f (szOf P t) fun l=>fmapK l fun cs=>K (.agg cs) else False
     | some false=>∃ row x,rs[i]? = some row∧row[f]? = some x∧K (.c (.f x))
     | none=>False
   | some (.rows2 _ _ rss) =>
     match aggT P t,f with
     | some false,0=>∃ rs,rss[i]? = some rs∧K (.c (.islc r i 0 rs.length none false))
     | _,_=>False
   | some (.rows3 _ _ es) =>
     match aggT P t,f with
     | some false,0=>∃ l rs,es[i]? = some (some (l,rs))∧K (.c (.hslc r i l rs.length))
     | _,_=>False
   | _=>False
 | .p (.c (.iptr r i j f)) =>
   match nth H r with
   | some (.rows2 _ _ rss) =>
     match aggT P t with
     | some true=>bif (P.info? t).isSome then ∃ rs row,rss[i]? = some rs∧rs[j]? = some row∧takeK row f (szOf P t) fun l=>fmapK l fun cs=>K (.agg cs) else False
     | some false=>∃ rs row x,rss[i]? = some rs∧rs[j]? = some row∧row[f]? = some x∧K (.c (.f x))
     | none=>False
   | _=>False
 | .p (.c (.gpt g i)) =>
   match tabOf H g with
   | some vs =>
     match aggT P t with
     | some true=>bif (P.info? t).isSome then takeK vs i (szOf P t) fun l=>fmapK l fun cs=>K (.agg cs) else False
     | some false=>∃ x,vs[i]? = some x∧K (.c (.f x))
     | none=>False
   | none=>False
 | _=>False

def fcs:List CV→Option (List FC)
 | []=>some []
 | .f x::xs =>
   match fcs xs with
   | some l=>some (x::l)
   | none=>none
 | _::_=>none

def lenIs {α : Type}:List α→Nat→Bool
 | [],0=>true
 | _::xs,n+1=>lenIs xs n
 | _,_=>false

theorem lenIs_spec {α : Type}:∀ (l:List α) (n:Nat),lenIs l n=true→l.length=n
 | [],0,_=>rfl
 | [],n+1,h=>by simp [lenIs] at h
 | x::xs,0,h=>by simp [lenIs] at h
 | x::xs,n+1,h=>by simp [lenIs_spec xs n h]

def storeA (P:Program) (H:List PO) (t:TypeId) (x y:AV) (K:List PO→Prop):Prop :=
 match y with
 | .p y =>
   bif (P.info? t).isSome then
    bif lenIs (cellsOf y) (szOf P t) then
     match x with
     | .p (.c (.ptr r f)) =>
       match nth H r with
       | some (.one cs)=>setsK cs f (cellsOf y) fun cs'=>setK H r (.one cs') K
       | _=>False
     | .p (.c (.rptr r i f)) =>
       match nth H r with
       | some (.rows false sz rs) =>
         match fcs (cellsOf y) with
         | some ys=>∃ row,rs[i]? = some row∧bif Nat.ble (f+szOf P t) row.length then setsK row f ys fun row'=>setK H r (.rows false sz (rs.set i row')) K else False
         | none=>False
       | some (.rows3 true sz es) =>
         match f,y with
         | 0,.c (.slc r2 0 n none _) =>
           match nth H r2 with
           | some (.rows false sz2 rs)=>bif Nat.beq sz2 sz && Nat.beq (szOf P t) 1 && !Nat.beq r r2 then
              n=rs.length∧es[i]? = some none∧∀ l:ILoc,setK H r (.rows3 true sz (es.set i (some (l,rs)))) fun H1=>setK H1 r2 .gone K
             else False
           | _=>False
         | _,_=>False
       | _=>False
     | _=>False
    else False
   else False
 | _=>False

def boxA (H:List PO) (x:AV) (K:AV→List PO→Prop):Prop :=
 match x with
 | .p y =>
   match cellsOf y with
   | []=>False
   | c::cs=>snocK H numbers (.one (c::cs)) fun r H'=>K (cv (.ptr r 0)) H'
 | _=>False

def bldT (P:Program) (t:TypeId):Option TypeId :=
 match P.underlying t with
 | some (.struct fs) =>
   match fs.toList with
   | [f,g] =>
     match P.underlying f.type,elemT P g.type,zval P t with
     | some (.pointer u),some e,.p (.agg [.nilptr,.nilslc])=>bif Nat.beq u t then some e else none
     | _,_,_=>none
   | _=>none
 | _=>none

def nonneg (b:Int) (k:Prop):Prop :=
 match b with
 | .ofNat _=>k
 | .negSucc _=>False

theorem nonneg_iff {b:Int} {k:Prop}:nonneg b k↔0≤b∧k:=by
 cases b <;> simp [nonneg]

theorem nonneg_intro {b:Int} {k:Prop} (h:0≤b) (hk:k):nonneg b k:=nonneg_iff.2 ⟨h,hk⟩

def nonzero (b:Int) (k:Prop):Prop :=
 match b with
 | .ofNat 0=>False
 | .ofNat (_+1)=>k
 | .negSucc _=>k

theorem nonzero_iff {b:Int} {k:Prop}:nonzero b k↔b≠0∧k:=by
 rcases b with (_ | n) | n <;> simp [nonzero]
 omega

theorem nonzero_intro {b:Int} {k:Prop} (h:b≠0) (hk:k):nonzero b k:=nonzero_iff.2 ⟨h,hk⟩

def intBin (op:BinOp) (k:IntKind) (a b:Int) (K:AV→Prop):Prop :=
 match op with
 | .add=>K (fcv (.int k (k.wrap (a+b))))
 | .sub=>K (fcv (.int k (k.wrap (a-b))))
 | .mul=>K (fcv (.int k (k.wrap (a*b))))
 | .quo=>nonzero b (K (fcv (.int k (k.wrap (a.tdiv b)))))
 | .rem=>nonzero b (K (fcv (.int k (a.tmod b))))
 | .and=>K (fcv (.int k (k.wrap ((BitVec.ofInt k.bits a &&& BitVec.ofInt k.bits b).toNat))))
 | .or=>K (fcv (.int k (k.wrap ((BitVec.ofInt k.bits a ||| BitVec.ofInt k.bits b).toNat))))
 | .xor=>K (fcv (.int k (k.wrap ((BitVec.ofInt k.bits a ^^^ BitVec.ofInt k.bits b).toNat))))
 | .andNot=>K (fcv (.int k (k.wrap ((BitVec.ofInt k.bits a &&& ~~~ BitVec.ofInt k.bits b).toNat))))
 | .eql=>K (bl (a == b))
 | .neq=>K (bl (a != b))
 | .lss=>K (bl (decide (a<b)))
 | .leq=>K (bl (decide (a≤b)))
 | .gtr=>K (bl (decide (a > b)))
 | .geq=>K (bl (decide (a≥b)))
 | .shl=>nonneg b (K (fcv (.int k (k.wrap (a*2 ^ (min b.toNat k.bits))))))
 | .shr=>nonneg b (K (fcv (.int k (a.fdiv (2 ^ (min b.toNat k.bits))))))

def isConst:Operand→Bool
 | .const _=>true
 | _=>false

def eqA (consts:Bool):CV→CV→Option Bool
 | .niliface,.niliface=>bif consts then some true else none
 | .niliface,.iface _ _=>some false
 | .iface _ _,.niliface=>some false
 | .nilptr,.nilptr=>some true
 | .nilptr,.ptr _ _=>some false
 | .ptr _ _,.nilptr=>some false
 | .nilslc,.nilslc=>some true
 | .nilslc,.slc _ _ _ _ true=>some false
 | .slc _ _ _ _ true,.nilslc=>some false
 | .nilfunc,.nilfunc=>some true
 | .nilfunc,.func _ _=>some false
 | .func _ _,.nilfunc=>some false
 | _,_=>none

def eqFC:FC→FC→Option Bool
 | .bool a,.bool b=>some (a == b)
 | .int k a,.int k' b=>if k=k' then some (a == b) else none
 | .str a,.str b=>some (a == b)
 | _,_=>none

def eqFCs:List FC→List FC→Option Bool
 | [],[]=>some true
 | x::xs,y::ys =>
   match eqFC x y,eqFCs xs ys with
   | some a,some b=>some (a && b)
   | _,_=>none
 | _,_=>none

def kindOf:FC→Nat
 | .bool _=>0
 | .int _ _=>1
 | .str _=>2

def kindT (P:Program) (t:TypeId):Nat :=
 match P.underlying t with
 | some .bool=>0
 | some (.int _)=>1
 | some .string=>2
 | _=>8

def plainFrom (P:Program):List Field→Nat→Bool
 | [],_=>true
 | f::fs,n=>f.offset == n && f.name != "_" && decide (kindT P f.type≠8) && plainFrom P fs (n+1)

def fieldsT (P:Program) (t:TypeId):List Field :=
 match P.underlying t with | some (.struct fs)=>fs.toList | _=>[]

def plainT (P:Program) (t:TypeId):Bool :=
 (match P.underlying t with | some (.struct _)=>true | _=>false) && plainFrom P (fieldsT P t) 0 && !P.eqGuardType P.depth t && !P.stoodInHeld t

def kindsT (P:Program) (t:TypeId):List Nat:=(fieldsT P t).map fun f=>kindT P f.type

def strBin (op:BinOp) (x y:List UInt8) (K:AV→Prop):Prop :=
 match op with
 | .add=>x.length+y.length≤9223372036854775807∧K (st (x++y))
 | .eql=>K (bl (x == y))
 | .neq=>K (bl (!(x == y)))
 | .lss=>K (bl (Op.bytesLess x y))
 | .gtr=>K (bl (!(Op.bytesLess x y || x == y)))
 | .leq=>K (bl (Op.bytesLess x y || x == y))
 | .geq=>K (bl (!Op.bytesLess x y))
 | _=>False

def eqTy (P:Program) (t:TypeId):CV→Bool
 | .niliface=>(match P.underlying t with | some (.interface _)=>true | _=>false)
 | .iface _ _=>(match P.underlying t with | some (.interface _)=>true | _=>false)
 | .nilptr=>(match P.underlying t with | some (.pointer _)=>true | _=>false)
 | .ptr _ _=>(match P.underlying t with | some (.pointer _)=>true | _=>false)
 | .nilslc=>(match P.underlying t with | some (.slice _)=>true | _=>false)
 | .slc _ _ _ _ _=>(match P.underlying t with | some (.slice _)=>true | _=>false)
 | .nilfunc=>(match P.underlying t with | some (.func _ _ _)=>true | _=>false)
 | .func _ _=>(match P.underlying t with | some (.func _ _ _)=>true | _=>false)
 | _=>false

def boolBin (P:Program) (op:BinOp) (t:TypeId) (a b:Bool) (K:AV→Prop):Prop :=
 match P.underlying t,op with
 | some .bool,.eql=>K (bl (a == b))
 | some .bool,.neq=>K (bl (!(a == b)))
 | _,_=>False

def binA (P:Program) (op:BinOp) (t:TypeId) (consts:Bool) (x y:AV) (K:AV→Prop):Prop :=
 match x,y with
 | .p (.c x),.p (.c y) =>
   match x,y with
   | .f (.int k a),.f (.int k' b) =>
     match op with
     | .shl=>intBin .shl k a b K
     | .shr=>intBin .shr k a b K
     | op=>bif decide (k=k') then intBin op k a b K else False
   | .f (.str a),.f (.str b)=>strBin op a b K
   | .f (.bool a),.f (.bool b)=>boolBin P op t a b K
   | x,y =>
     bif eqTy P t x then
      match op,eqA consts x y with
      | .eql,some b=>K (bl b)
      | .neq,some b=>K (bl (!b))
      | _,_=>False
     else False
 | .p (.agg xs),.p (.agg ys) =>
   match fcs xs,fcs ys with
   | some xs,some ys =>
     plainT P t=true∧bif decide (xs.map kindOf=kindsT P t) then
      match op,eqFCs xs ys with
      | .eql,some b=>K (bl b)
      | .neq,some b=>K (bl (!b))
      | _,_=>False
     else False
   | _,_=>False
 | _,_=>False

def unA (op:UnOp) (x:AV) (K:AV→Prop):Prop :=
 match op,x with
 | .not,.p (.c (.f (.bool b)))=>K (bl (!b))
 | .neg,.p (.c (.f (.int k n)))=>K (fcv (.int k (k.wrap (0-n))))
 | _,_=>False

def convA (P:Program) (src dst:TypeId) (x:AV) (K:AV→Prop):Prop :=
 bif (P.underlying src).isSome then
  match P.underlying dst,x with
  | some (.int k),.p (.c (.f (.int _ n)))=>K (fcv (.int k (k.wrap n)))
  | some .string,.p (.c (.f (.str s)))=>K (st s)
  | _,_=>False
 else False

def fillK (place:Nat→Option (Nat×Nat)) (cells:List CV) (k:List CV→Prop):List (Nat×AV)→Prop
 | []=>k cells
 | (i,v)::rest =>
   match place i,v with
   | some (off,size),.p v=>bif Nat.beq size 0 then False else bif lenIs (cellsOf v) size then setsK cells off (cellsOf v) fun cells'=>fillK place cells' k rest else False
   | _,_=>False

def placeT (P:Program) (t:TypeId):Option (Nat→Option (Nat×Nat)) :=
 match P.underlying t with
 | some (.struct fs)=>bif fs.toList.all (fun f=>(P.info? f.type).isSome) then some fun i=>(nth fs.toList i).map fun f=>(f.offset,szOf P f.type) else none
 | some (.array _ e)=>bif (P.info? e).isSome then some fun i=>some (i*szOf P e,szOf P e) else none
 | _=>none

def buildA (P:Program) (t:TypeId) (parts:List (Nat×AV)) (K:AV→Prop):Prop :=
 match zval P t,placeT P t with
 | .p (.agg z),some place=>fillK place z (fun cs=>K (.p (.agg cs))) parts
 | _,_=>False

def extractA (x:AV) (i:Nat) (K:AV→Prop):Prop :=
 match x with
 | .tup vs =>
   match nth vs i with
   | some v=>K (.p v)
   | none=>False
 | _=>False

def fieldAddrA (P:Program) (t:TypeId) (x:AV) (i:Nat) (K:AV→Prop):Prop :=
 match fieldT P t i with
 | some (off,ft) =>
   bif Nat.beq (szOf P ft) 0 then False else
    match x with
    | .p (.c (.ptr r f))=>K (cv (.ptr r (f+off)))
    | .p (.c (.rptr r i f))=>K (cv (.rptr r i (f+off)))
    | .p (.c (.iptr r i j f))=>K (cv (.iptr r i j (f+off)))
    | _=>False
 | none=>False

def fieldA (P:Program) (t:TypeId) (x:AV) (i:Nat) (K:AV→Prop):Prop :=
 match fieldT P t i with
 | some (off,ft) =>
   match aggT P ft with
   | some false =>
     match x with
     | .p (.agg cs) =>
       match nth cs off with
       | some y=>K (.p (.c y))
       | none=>False
     | _=>False
   | _=>False
 | none=>False

def mkIfaceA (P:Program) (t:TypeId) (x:AV) (K:AV→Prop):Prop :=
 match P.underlying t with
 | some (.interface _)=>False
 | none=>False
 | _ =>
   match x with
   | .p (.c y)=>K (cv (.iface t y))
   | .p (.agg [y])=>K (cv (.ifs t y))
   | _=>False

def arrT (P:Program) (t:TypeId):Option (Nat×TypeId) :=
 match P.underlying t with
 | some (.array n e)=>some (n,e)
 | _=>none

def killHK (M:List Nat) (H:List PO) (k:List PO→Prop):Prop :=
 match M with
 | []=>k H
 | M=>k (H.map (killO M))

def rowsSz (P:Program) (e:TypeId) (sz:Nat) (k:Prop):Prop :=
 bif (P.info? e).isSome then bif Nat.beq sz (szOf P e) then k else False else False

def indexAddrA (P:Program) (H:List PO) (t:TypeId) (x i:AV) (K:AV→Prop):Prop :=
 match i with
 | .p (.c (.f (.int _ j))) =>
   match elemT P t with
   | some e =>
     match x with
     | .p (.c (.slc r o n _ _)) =>
       match nth H r with
       | some (.rows _ sz _)=>rowsSz P e sz (0≤j∧j<n∧K (cv (.rptr r (o+j.toNat) 0)))
       | some (.rows2 _ _ _)=>rowsSz P e 1 (0≤j∧j<n∧K (cv (.rptr r (o+j.toNat) 0)))
       | some (.rows3 _ _ _)=>rowsSz P e 1 (0≤j∧j<n∧K (cv (.rptr r (o+j.toNat) 0)))
       | _=>False
     | .p (.c (.islc r i o n _ _)) =>
       match nth H r with
       | some (.rows2 _ sz rss)=>rowsSz P e sz (i<rss.length∧0≤j∧j<n∧K (cv (.iptr r i (o+j.toNat) 0)))
       | _=>False
     | _=>False
   | none =>
     match arrT P t with
     | some (n,e) =>
       bif (P.info? e).isSome then
        match x with
        | .p (.c (.ptr r f))=>0≤j∧j<n∧K (cv (.ptr r (f+j.toNat*szOf P e)))
        | .p (.c (.rptr r i f))=>0≤j∧j<n∧K (cv (.rptr r i (f+j.toNat*szOf P e)))
        | .p (.c (.gpt g f))=>0≤j∧j<n∧K (cv (.gpt g (f+j.toNat*szOf P e)))
        | _=>False
       else False
     | none=>False
 | _=>False

def boundsA (n:Nat) (lo hi:Option AV) (k:Nat→Nat→Prop):Prop :=
 match lo,hi with
 | none,none=>k 0 n
 | some (.p (.c (.f (.int _ l)))),none=>0≤l∧l≤n∧k l.toNat n
 | none,some (.p (.c (.f (.int _ h))))=>0≤h∧h≤n∧k 0 h.toNat
 | some (.p (.c (.f (.int _ l)))),some (.p (.c (.f (.int _ h))))=>0≤l∧l≤h∧h≤n∧k l.toNat h.toNat
 | _,_=>False

def boundsUpA (m:Nat) (lo hi:Option AV) (k:Nat→Nat→Prop):Prop :=
 match lo,hi with
 | none,some (.p (.c (.f (.int _ h))))=>0≤h∧h≤m∧k 0 h.toNat
 | some (.p (.c (.f (.int _ l)))),some (.p (.c (.f (.int _ h))))=>0≤l∧l≤h∧h≤m∧k l.toNat h.toNat
 | _,_=>False

def cut3A (P:Program) (H:List PO) (e:TypeId) (r o n:Nat) (nn:Bool) (l h m:Int) (K:AV→Prop):Prop :=
 match nth H r with
 | some (.rows _ sz _)=>bif Nat.beq sz (szOf P e) then K (cv (.slc r (o+l.toNat) (h.toNat-l.toNat) (some (m.toNat-l.toNat)) (nn || Nat.blt 0 n))) else K .u
 | _=>K .u

def slice3A (P:Program) (H:List PO) (t:TypeId) (x lo hi mx:AV) (K:AV→Prop):Prop :=
 match x,lo,hi,mx with
 | .p (.c (.slc r o n _ nn)),.p (.c (.f (.int _ l))),.p (.c (.f (.int _ h))),.p (.c (.f (.int _ m))) =>
   match elemT P t with
   | some e=>bif (P.info? e).isSome then 0≤l∧l≤h∧h≤m∧m≤n∧cut3A P H e r o n nn l h m K else False
   | none=>False
 | _,_,_,_=>False

def sliceA (P:Program) (H:List PO) (t:TypeId) (x:AV) (lo hi mx:Option AV) (K:AV→Prop):Prop :=
 match mx with
 | some m =>
   match lo,hi with
   | some l,some h=>slice3A P H t x l h m K
   | _,_=>False
 | none =>
   match x with
   | .p (.c (.f (.str s))) =>
     match P.underlying t with
     | some .string=>boundsA s.length lo hi fun l h=>K (st ((s.drop l).take (h-l)))
     | _=>False
   | .p (.c (.slc r o n c nn)) =>
     match elemT P t,nth H r with
     | some e,some (.rows _ sz rs)=>rowsSz P e sz ((boundsA n lo hi fun l h=>K (cv (.slc r (o+l) (h-l) (c.map (· - l)) (nn || Nat.blt 0 n)))) ∨
        (c=none∧nn=true∧o≤rs.length∧boundsUpA (rs.length-o) lo hi fun l h=>K (cv (.slc r (o+l) (h-l) none true))))
     | some e,some (.rows2 _ _ _)=>rowsSz P e 1 (boundsA n lo hi fun l h=>K (cv (.slc r (o+l) (h-l) (c.map (· - l)) (nn || Nat.blt 0 n))))
     | some e,some (.rows3 _ _ _)=>rowsSz P e 1 (boundsA n lo hi fun l h=>K (cv (.slc r (o+l) (h-l) (c.map (· - l)) (nn || Nat.blt 0 n))))
     | _,_=>False
   | .p (.c (.islc r i o n c nn)) =>
     match elemT P t,nth H r with
     | some e,some (.rows2 _ sz rss)=>rowsSz P e sz (i<rss.length∧boundsA n lo hi fun l h=>K (cv (.islc r i (o+l) (h-l) (c.map (· - l)) (nn || Nat.blt 0 n))))
     | _,_=>False
   | .p (.c .nilslc) =>
     match elemT P t with
     | some e=>rowsSz P e (szOf P e) (boundsA 0 lo hi fun _ _=>K (cv .nilslc))
     | none=>False
   | _=>False

def lenA (P:Program) (t:TypeId) (x:AV) (K:AV→Prop):Prop :=
 match x with
 | .p (.c (.f (.str s)))=>match P.underlying t with
   | some .string=>K (i64 s.length)
   | _=>False
 | .p (.c (.slc _ _ n _ _))=>match P.underlying t with
   | some (.slice _)=>K (i64 n)
   | _=>False
 | .p (.c (.islc _ _ _ n _ _))=>match P.underlying t with
   | some (.slice _)=>K (i64 n)
   | _=>False
 | .p (.c (.hslc _ _ _ n))=>match P.underlying t with
   | some (.slice _)=>K (i64 n)
   | _=>False
 | .p (.c .nilslc)=>match P.underlying t with
   | some (.slice _)=>K (i64 0)
   | _=>False
 | .p (.c (.dslc n))=>match P.underlying t with
   | some (.slice _)=>K (i64 n)
   | _=>False
 | _=>False

def indexA (P:Program) (t:TypeId) (x i:AV) (K:AV→Prop):Prop :=
 match x,i with
 | .p (.c (.f (.str s))),.p (.c (.f (.int _ j))) =>
   match P.underlying t with
   | some .string=>0≤j∧∃ b,s[j.toNat]? = some b∧K (fcv (.int .u8 b.toNat))
   | _=>False
 | .p (.agg cs),.p (.c (.f (.int _ j))) =>
   match arrT P t with
   | some (n,e) =>
     match aggT P e with
     | some true=>bif (P.info? e).isSome then 0≤j∧j<n∧∃ xs,(cs.drop (j.toNat*szOf P e)).take (szOf P e)=xs∧K (.p (.agg xs)) else False
     | some false=>bif (P.info? e).isSome then 0≤j∧j<n∧∃ x,cs[j.toNat*szOf P e]? = some x∧K (.p (.c x)) else False
     | none=>False
   | none=>False
 | _,_=>False

def reps {α : Type}:Nat→List α→List α
 | 0,_=>[]
 | n+1,z=>z++reps n z

def chopK (sz:Nat):Nat→List FC→(List (List FC)→Prop)→Prop
 | 0,_,k=>k []
 | n+1,l,k=>takeK l 0 sz fun r=>chopK sz n (l.drop sz) fun rs=>k (r::rs)

def buildSliceA (P:Program) (H:List PO) (t:TypeId) (n:Nat) (parts:List (Nat×AV)) (K:AV→List PO→Prop):Prop :=
 match elemT P t with
 | some e =>
   match zval P e with
   | .p z =>
     bif (P.info? e).isSome && Nat.blt 0 (szOf P e) && Nat.ble (n*szOf P e) 16777216 && lenIs (cellsOf z) (szOf P e) then
      fillK (fun i=>some (i*szOf P e,szOf P e)) (reps n (cellsOf z)) (fun cs =>
       match fcs cs with
       | some l=>chopK (szOf P e) n l fun rs=>snocK H numbers (.rows false (szOf P e) rs) fun r H'=>K (cv (.slc r 0 n none true)) H'
       | none=>False) parts
     else False
   | _=>False
 | none=>False

def slc2 (P:Program) (t:TypeId):Option Nat :=
 match elemT P t with
 | some e =>
   match elemT P e with
   | some e2=>some (szOf P e2)
   | none=>none
 | none=>none

def absorbK (sz:Nat):List PO→List CV→(List Nat→List PO→List (List (List FC))→Prop)→Prop
 | H,[],k=>k [] H []
 | H,.nilslc::cs,k=>absorbK sz H cs fun M H' rss=>k M H' ([]::rss)
 | H,.slc r 0 n none _::cs,k =>
   match nth H r with
   | some (.rows false s rs)=>bif Nat.beq s sz then n=rs.length∧setK H r .gone fun H1=>absorbK sz H1 cs fun M H' rss=>k (r::M) H' (rs::rss) else False
   | _=>False
 | _,_::_,_=>False

def allRo (H:List PO):List CV→Bool
 | []=>true
 | .slc r 0 _ none _::cs =>
   match nth H r with
   | some (.rows true _ _)=>allRo H cs
   | _=>false
 | _=>false

def oneRo (H:List PO) (cs:List CV):Bool :=
 match cs with
 | []=>false
 | cs=>allRo H cs

def roK (H:List PO) (sz:Nat):List CV→(List (List (List FC))→Prop)→Prop
 | [],k=>k []
 | .slc r 0 m none _::cs,k =>
   match nth H r with
   | some (.rows true s rs)=>bif Nat.beq s sz then m=rs.length∧roK H sz cs (fun l=>k (rs::l)) else False
   | _=>False
 | _,_=>False

def oneRoK (H:List PO) (sz n:Nat) (cs:List CV) (K:KP):Prop :=
 roK H sz cs fun rss=>snocK H numbers (.rows2m sz rss) fun r' H'=>K (cv (.slc r' 0 n none true)) [] H'

def build2A (P:Program) (H:List PO) (t:TypeId) (sz n:Nat) (parts:List (Nat×AV)) (K:KP):Prop :=
 match elemT P t with
 | some e =>
   match zval P e with
   | .p z =>
     bif (P.info? e).isSome && Nat.beq (szOf P e) 1 && Nat.ble n 16777216 && lenIs (cellsOf z) 1 && Nat.blt 0 sz then
      fillK (fun i=>some (i*szOf P e,szOf P e)) (reps n (cellsOf z)) (fun cs=>bif oneRo H cs then oneRoK H sz n cs K else absorbK sz H cs fun M H1 rss =>
       killHK M H1 fun H2=>snocK H2 numbers (.rows2 false sz rss) fun r H'=>K (cv (.slc r 0 n none true)) M H') parts
     else False
   | _=>False
 | none=>False

def makeSliceA (P:Program) (H:List PO) (t:TypeId) (l c:AV) (K:AV→List PO→Prop):Prop :=
 match l,c with
 | .p (.c (.f (.int _ l))),.p (.c (.f (.int _ c))) =>
   match elemT P t with
   | some e =>
     match P.info? e,zval P e with
     | some i,.p z =>
       bif Nat.blt 0 i.size && lenIs (cellsOf z) i.size then
        match fcs (cellsOf z) with
        | some z=>0≤l∧l≤c∧i.bytes*c≤281474976710656∧c≤9223372036854775807 ∧
           snocK H numbers (.rows false i.size (List.replicate l.toNat z)) fun r H'=>K (cv (.slc r 0 l.toNat none true)) H'
        | none =>
          match z,elemT P e with
          | .c .nilslc,some e2 =>
            bif Nat.beq i.size 1 && Nat.blt 0 (szOf P e2) then
             0≤l∧l≤c∧i.bytes*c≤281474976710656∧c≤9223372036854775807 ∧
               snocK H numbers (.rows3 true (szOf P e2) (List.replicate l.toNat (some (⟨0,0,0,szOf P e2⟩,[])))) fun r H'=>K (cv (.slc r 0 l.toNat none true)) H'
            else False
          | _,_=>False
       else False
     | _,_=>False
   | none=>False
 | _,_=>False

def rowsOfA (P:Program) (H:List PO) (e:TypeId) (x:AV) (k:List (List FC)→Prop):Prop :=
 match x with
 | .p (.c .nilslc)=>k []
 | .p (.c (.slc r o n _ _)) =>
   match nth H r with
   | some (.rows _ sz rs)=>bif Nat.beq sz (szOf P e) then o+n≤rs.length∧k ((rs.drop o).take n) else False
   | _=>False
 | .p (.c (.islc r i o n _ _)) =>
   match nth H r with
   | some (.rows2 _ sz rss)=>bif Nat.beq sz (szOf P e) then ∃ rs,rss[i]? = some rs∧o+n≤rs.length∧k ((rs.drop o).take n) else False
   | _=>False
 | _=>False

def isU8 (P:Program) (e:TypeId):Bool :=
 match P.underlying e with
 | some (.int .u8)=>true
 | _=>false

def srcA (P:Program) (H:List PO) (e u:TypeId) (x:AV) (k:List (List FC)→Prop):Prop :=
 match elemT P u with
 | some _=>rowsOfA P H e x k
 | none =>
   match P.underlying u,x with
   | some .string,.p (.c (.f (.str s)))=>bif isU8 P e && Nat.beq (szOf P e) 1 then k (s.map fun b=>[.int .u8 b.toNat]) else False
   | _,_=>False

def appendA (P:Program) (H:List PO) (ts:List TypeId) (s x:AV) (K:KP):Prop :=
 match ts with
 | [t,u] =>
   match elemT P t with
   | some e =>
     match P.info? e,zval P e with
     | some i,.p z =>
       bif Nat.blt 0 i.size && lenIs (cellsOf z) i.size then
        srcA P H e u x fun xs =>
         match s with
         | .p (.c .nilslc)=>xs.length*i.bytes≤140737488355328∧xs.length≤9223372036854775807 ∧
            snocK H numbers (.rows false i.size xs) fun r H'=>K (cv (.slc r 0 xs.length none false)) [] H'
         | .p (.c (.slc r o n c nn)) =>
           match nth H r with
           | some (.rows false sz rs) =>
             bif Nat.beq sz i.size then
              (o=0∧n=rs.length∧(n+xs.length)*i.bytes≤140737488355328∧n+xs.length≤9223372036854775807 ∧
                killHK [r] H fun H0=>setK H0 r (.rows false sz (rs++xs)) fun H'=>K (cv (.slc r 0 (n+xs.length) none nn)) [r] H') ∨
              (match c with
                | some c'=>c'=n∧0<xs.length∧o+n≤rs.length∧(n+xs.length)*i.bytes≤140737488355328∧n+xs.length≤9223372036854775807 ∧
                  snocK H numbers (.rows false i.size ((rs.drop o).take n++xs)) fun r' H'=>K (cv (.slc r' 0 (n+xs.length) none true)) [] H'
                | none=>c=none∧nn=true∧o+n+xs.length≤rs.length ∧
                  setK H r (.rows false sz (rs.take (o+n)++xs++rs.drop (o+n+xs.length))) fun H'=>K (cv (.slc r o (n+xs.length) none nn)) [] H')
             else False
           | _=>False
         | _=>False
       else False
     | _,_=>False
   | none=>False
 | _=>False

def append3A (P:Program) (H:List PO) (ts:List TypeId) (r i:Nat) (l:ILoc) (n:Nat) (x:AV) (K:KP):Prop :=
 match nth H r with
 | some (.rows3 true sz es)=>∃ rs,es[i]? = some (some (l,rs))∧n=rs.length∧setK H r (.rows3 true sz (es.set i none)) fun H0=>snocK H0 numbers (.rows false sz rs) fun r2 H1=>appendA P H1 ts (cv (.slc r2 0 n none false)) x K
 | _=>False

def append2A (P:Program) (H:List PO) (ts:List TypeId) (s x:AV) (K:KP):Prop :=
 match ts with
 | [t,u] =>
   match elemT P t,elemT P u with
   | some e,some _ =>
     match P.info? e,zval P e with
     | some i,.p z =>
       bif Nat.beq i.size 1 && lenIs (cellsOf z) 1 then
        match x with
        | .p (.c (.slc r2 0 m none _)) =>
          match nth H r2 with
          | some (.rows2 false sz xs) =>
            match s with
            | .p (.c (.slc r 0 n none nn)) =>
              bif Nat.beq r r2 then False else
               match nth H r with
               | some (.rows2 false sz' rs) =>
                 bif Nat.beq sz' sz then
                  m=xs.length∧n=rs.length∧(n+m)*i.bytes≤140737488355328∧n+m≤9223372036854775807 ∧
                    killHK [r,r2] H fun H0=>setK H0 r (.rows2 false sz' (rs++xs)) fun H1=>setK H1 r2 .gone fun H'=>K (cv (.slc r 0 (n+m) none nn)) [r,r2] H'
                 else False
               | _=>False
            | _=>False
          | _=>False
        | _=>False
       else False
     | _,_=>False
   | _,_=>False
 | _=>False

def mpFind (k:List Int):List (List Int×Int×Nat)→Option (Int×Nat)
 | []=>none
 | e::es=>if e.1=k then some e.2 else mpFind k es

def mpHas (es:List (List Int×Int×Nat)) (k:List Int):Bool:=(mpFind k es).isSome
def mpGet (es:List (List Int×Int×Nat)) (k:List Int):Int:=((mpFind k es).map (·.1)).getD 0
def mpBorn (es:List (List Int×Int×Nat)) (k:List Int) (clk:Nat):Nat:=((mpFind k es).map (·.2)).getD clk
def mpClk (es:List (List Int×Int×Nat)) (k:List Int) (clk:Nat):Nat:=if mpHas es k=true then clk else clk+1

def mpSet (k:List Int) (v:Int):List (List Int×Int×Nat)→List (List Int×Int×Nat)
 | []=>[]
 | e::es=>if e.1=k then (k,v,e.2.2)::es else e::mpSet k v es

def mpPut (es:List (List Int×Int×Nat)) (k:List Int) (v:Int) (clk:Nat):List (List Int×Int×Nat):=if mpHas es k=true then mpSet k v es else es++[(k,v,clk)]
def mpEnt (es:List (List Int×Int×Nat)) (k:List Int) (clk:Nat):List (List Int×Int×Nat):=if mpHas es k=true then es else es++[(k,0,clk)]

def mpAt (b:Nat) (v:Int):List (List Int×Int×Nat)→List (List Int×Int×Nat)
 | []=>[]
 | e::es=>if e.2.2=b then (e.1,v,b)::es else e::mpAt b v es

def mpDel (k:List Int):List (List Int×Int×Nat)→List (List Int×Int×Nat)
 | []=>[]
 | e::es=>if e.1=k then es else e::mpDel k es

def keyT (P:Program) (t:TypeId):Option Nat :=
 match P.underlying t with
 | some (.int .i64)=>some 0
 | some (.array n e) =>
   match P.underlying e with
   | some (.int .i64)=>bif Nat.beq n 2 && ((P.info? e).isSome && Nat.beq (szOf P e) 1) then some 2 else none
   | _=>none
 | _=>none

def elmT (P:Program) (t:TypeId):Option Bool :=
 match P.underlying t with
 | some (.int .i64) =>
   match zval P t with
   | .p (.c (.f (.int .i64 n)))=>bif decide (n=0) then some false else none
   | _=>none
 | some .bool =>
   match zval P t with
   | .p (.c (.f (.bool b)))=>bif b then none else some true
   | _=>none
 | _=>none

def mapT (_P:Program) (_t:TypeId) (_kn:Nat) (_vb:Bool) (_K:Prop):Prop:=False

def intsOf:List CV→Option (List Int)
 | []=>some []
 | .f (.int .i64 n)::xs =>
   match intsOf xs with
   | some l=>some (n::l)
   | none=>none
 | _::_=>none

def keyK (kn:Nat) (x:AV) (K:List Int→Prop):Prop :=
 match kn,x with
 | 0,.p (.c (.f (.int .i64 n)))=>K [n]
 | m+1,.p (.agg cs) =>
   match intsOf cs with
   | some l=>bif lenIs l (m+1) then K l else False
   | none=>False
 | _,_=>False

def elmK (vb:Bool) (x:AV) (K:Int→Prop):Prop :=
 match vb,x with
 | false,.p (.c (.f (.int .i64 n)))=>K n
 | true,.p (.c (.f (.bool b)))=>K (bif b then 1 else 0)
 | _,_=>False

def makeMapA (_H:List PO) (_P:Program) (_t:TypeId) (_r:Option Operand) (_K:AV→List PO→Prop):Prop:=False

def sameS:List UInt8→List UInt8→Bool
 | [],[]=>true
 | x::xs,y::ys=>bif Nat.beq x.toNat y.toNat then sameS xs ys else false
 | _,_=>false

def smHas:List (List UInt8)→List UInt8→Bool
 | [],_=>false
 | k::ks,s=>bif sameS s k then true else smHas ks s

def smGet:List (List UInt8)→List CV→List UInt8→CV→CV
 | k::ks,c::cs,s,z=>bif sameS s k then c else smGet ks cs s z
 | _,_,_,z=>z

def smT (P:Program) (t:TypeId):Option TypeId :=
 match P.underlying t with
 | some (.map k e)=>match P.underlying k with
   | some .string=>some e
   | _=>none
 | _=>none

structure tellK (b:Bool) (c:CV) (K:Bool→CV→Prop):Prop where
 h:K b c

theorem tellK_intro {b b':Bool} {c c':CV} {K:Bool→CV→Prop} (hb:b=b') (hc:c=c') (h:K b' c'):tellK b c K:=by
 subst hb hc
 exact ⟨h⟩

def smLookA (P:Program) (e:TypeId) (ks:List (List UInt8)) (cs:List CV) (i:AV) (ok:Bool) (K:AV→Prop):Prop :=
 match i,zval P e with
 | .p (.c (.f (.str s))),.p (.c z)=>tellK (smHas ks s) (smGet ks cs s z) fun b c =>
   match ok with
   | true=>K (.tup [.c c,.c (.f (.bool b))])
   | false=>K (cv c)
 | _,_=>False

def lookupA (P:Program) (H:List PO) (t:TypeId) (x i:AV) (ok:Bool) (K:AV→Prop):Prop :=
 match x with
 | .p (.c (.map r)) =>
   match nth H r with
   | some (.mp kn vb es _)=>mapT P t kn vb (keyK kn i fun k =>
     match ok with
     | true=>K (.tup [.c (.f (elmF vb (mpGet es k))),.c (.f (.bool (mpHas es k)))])
     | false=>K (.p (.c (.f (elmF vb (mpGet es k))))))
   | some (.smap ks cs) =>
     match smT P t with
     | some e=>smLookA P e ks cs i ok K
     | none=>False
   | _=>False
 | _=>False

def updateA (_P:Program) (_H:List PO) (_t:TypeId) (_x _i _y:AV) (_K:List PO→Prop):Prop:=False

def entryA (_P:Program) (_H:List PO) (_t:TypeId) (_x _i:AV) (_K:AV→List PO→Prop):Prop:=False

def entryStoreA (_H:List PO) (_x _b _y:AV) (_K:List PO→Prop):Prop:=False

def deleteA (_P:Program) (_H:List PO) (_ts:List TypeId) (_x _i:AV) (_K:List PO→Prop):Prop:=False

def rangeA (_P:Program) (_H:List PO) (_t:TypeId) (_x:AV) (_K:AV→List PO→Prop):Prop:=False

def keyP (kn:Nat) (k:List Int):PV :=
 match kn with
 | 0=>.c (.f (.int .i64 (k.headD 0)))
 | _=>.agg (k.map fun n=>.f (.int .i64 n))

def leftE (es:List (List Int×Int×Nat)) (seen:List Nat):List (List Int×Int×Nat):=es.filter fun e=>!seen.contains e.2.2

def nextA (_H:List PO) (_x:AV) (_K:AV→List PO→Prop):Prop:=False

def entAtA (_H:List PO) (_x:AV) (_K:AV→Prop):Prop:=False

def lenH (P:Program) (H:List PO) (t:TypeId) (x:AV) (K:AV→Prop):Prop :=
 match x with
 | .p (.c (.map r)) =>
   match nth H r with
   | some (.mp kn vb es _)=>mapT P t kn vb (K (i64 es.length))
   | _=>False
 | x=>lenA P t x K

def capsOf:List AV→Option (List Nat)
 | []=>some []
 | .p (.c (.ptr r 0))::xs =>
   match capsOf xs with
   | some l=>some (r::l)
   | none=>none
 | _::_=>none

def zrowA (P:Program) (e:TypeId) (k:TypeInfo→List FC→Prop):Prop :=
 match P.info? e,zval P e with
 | some i,.p z =>
   bif Nat.blt 0 i.size && lenIs (cellsOf z) i.size then
    match fcs (cellsOf z) with
    | some zf=>k i zf
    | none=>False
   else False
 | _,_=>False

def clearA (P:Program) (H:List PO) (ts:List TypeId) (x:AV) (K:List PO→Prop):Prop :=
 match ts with
 | [t] =>
   match elemT P t with
   | some e=>zrowA P e fun i zf =>
     match x with
     | .p (.c .nilslc)=>K H
     | .p (.c (.slc r o n _ _)) =>
       match nth H r with
       | some (.rows false sz rs)=>bif Nat.beq sz i.size then o+n≤rs.length∧setK H r (.rows false sz (rs.take o++List.replicate n zf++rs.drop (o+n))) K else False
       | _=>False
     | _=>False
   | none=>False
 | _=>False

def byteOf:List FC→UInt8
 | [.int _ n]=>UInt8.ofNat n.toNat
 | _=>0

def over {α : Type} (xs:List α) (o:Nat) (ys:List α):List α:=xs.take o++ys++xs.drop (o+ys.length)

def copyA (_P:Program) (_H:List PO) (_ts:List TypeId) (_d _s:AV) (_K:KP):Prop:=False

def growA (P:Program) (H:List PO) (ts:List TypeId) (m:Int) (K:KP):Prop :=
 match ts with
 | [t,u] =>
   match elemT P t,P.underlying u with
   | some e,some (.int _)=>zrowA P e fun i zf=>0<m∧m.toNat*i.bytes≤140737488355328∧m≤9223372036854775807 ∧
      snocK H numbers (.rows false i.size (List.replicate m.toNat zf)) fun r H'=>K (cv (.slc r 0 m.toNat none true)) [] H'
   | _,_=>False
 | _=>False

theorem isU8_spec {P:Program} {e:TypeId} (h:isU8 P e=true):P.underlying e=some (.int .u8):=by
 unfold isU8 at h
 split at h
 · assumption
 · cases h

def convX (P:Program) (H:List PO) (s d:TypeId) (x:AV) (K:AV→List PO→Prop):Prop :=
 match elemT P d,x with
 | some e,.p (.c (.f (.str t))) =>
   bif (P.underlying s).isSome && isU8 P e then
    snocK H numbers (.rows false 1 (t.map fun b=>[.int .u8 b.toNat])) fun r H'=>K (cv (.slc r 0 t.length none true)) H'
   else False
 | none,.p (.c (.slc r o n c nn)) =>
   match P.underlying d,elemT P s with
   | some .string,some e =>
     bif isU8 P e && Nat.beq (szOf P e) 1 && (P.info? e).isSome then
      rowsOfA P H e (cv (.slc r o n c nn)) fun xs=>(∀ y∈xs,∃ m,y=[.int .u8 m])∧K (st (xs.map byteOf)) H
     else False
   | _,_=>False
 | none,.p (.c .nilslc) =>
   match P.underlying d,elemT P s with
   | some .string,some e=>bif isU8 P e then K (st []) H else False
   | _,_=>False
 | _,x=>convA P s d x fun v=>K v H

def builtinA (P:Program) (H:List PO) (b:Builtin) (ts:List TypeId) (args:List AV) (K:KP):Prop :=
 match b,args with
 | .len,[x]=>match ts with
   | [t]=>lenH P H t x fun v=>K v [] H
   | _=>False
 | .append,[s,x] =>
   match ts.head?.bind (slc2 P) with
   | some _=>append2A P H ts s x K
   | none =>
     match s,x with
     | .p (.c (.hslc r i l n)),x=>append3A P H ts r i l n x K
     | .p (.c .nilslc),.p (.c (.f (.int _ m)))=>growA P H ts m K
     | s,x=>appendA P H ts s x K
 | .cap,[x] =>
   match ts,x with
   | [t],.p (.c .nilslc)=>bif (elemT P t).isSome then K (i64 0) [] H else False
   | _,_=>False
 | .clear,[x]=>clearA P H ts x fun H'=>K undefA [] H'
 | .delete,[x,i]=>deleteA P H ts x i fun H'=>K undefA [] H'
 | .copy,[d,s]=>copyA P H ts d s K
 | .max,[x,y] =>
   match x,y with
   | .p (.c (.f (.int k a))),.p (.c (.f (.int _ b)))=>K (fcv (.int k (if b > a then b else a))) [] H
   | _,_=>False
 | .min,[x,y] =>
   match x,y with
   | .p (.c (.f (.int k a))),.p (.c (.f (.int _ b)))=>K (fcv (.int k (if b<a then b else a))) [] H
   | _,_=>False
 | _,_=>False

def Left (B R:Nat→Prop) (w0:World) (N:Nat) (L:Nat→Loc) (K:KP) (v:Value) (w':World):Prop :=
 ∃ L' x M H',Agree N M L L'∧N≤H'.length∧VA H'.length L' x v∧Rel B R w0 L' H' w'∧K x M H'

structure Does (P:Program) (f:FuncId) (args:List AV) (H:List PO) (K:KP):Prop where
 fn:∃ fn,P.funcs[f]? = some fn∧fn.name ≠ "runtime.NumGoroutine" ∧ fn.body.isSome=true
 run:∀ B R w0 L w vs,Rel B R w0 L H w→VAs H.length L args vs→Calls P f vs.toArray w fun e w'=>∃ v,e=.returned v∧Left B R w0 H.length L K v w'

def evs (T:Tm):List Operand→(List AV→Prop)→Prop
 | [],k=>k []
 | x::xs,k=>fA (ev T x) fun v=>evs T xs fun vs=>k (v::vs)

def capsK:List Nat→(List AV→Prop)→Prop
 | [],k=>k []
 | r::rs,k=>capsK rs fun vs=>k (cv (.ptr r 0)::vs)

def addK:List AV→List AV→(List AV→Prop)→Prop
 | [],ys,k=>k ys
 | x::xs,ys,k=>addK xs ys fun l=>k (x::l)

def aop (P:Program) (T:Tm) (H:List PO) (K:KP):Op→Prop
 | .move x=>fA (ev T x) fun v=>K v [] H
 | .assign x=>fA (ev T x) fun v=>K v [] H
 | .pick c a b =>
   match ev T c with
   | .p (.c (.f (.bool t)))=>brc t (fA (ev T a) fun v=>K v [] H) (fA (ev T b) fun v=>K v [] H)
   | _=>False
 | .alloc t =>
   match bldT P t with
   | some e=>∀ k:Nat,snocK H numbers (.bld t e k []) fun _ H'=>K (cv (.hptr k)) [] H'
   | none=>boxA H (zval P t) fun v H'=>K v [] H'
 | .box _ x=>boxA H (ev T x) fun v H'=>K v [] H'
 | .build t parts=>buildA P t (parts.toList.map fun p=>(p.1,ev T p.2)) fun x=>K x [] H
 | .load t a=>loadA P H t (ev T a) fun x=>K (.p x) [] H
 | .store t a x=>storeA P H t (ev T a) (ev T x) fun H'=>K undefA [] H'
 | .nilCheck x =>
   match ev T x with
   | .p (.c (.ptr r f))=>K (cv (.ptr r f)) [] H
   | .p (.c (.rptr r i f))=>K (cv (.rptr r i f)) [] H
   | .p (.c (.iptr r i j f))=>K (cv (.iptr r i j f)) [] H
   | _=>False
 | .binOp op t x y _=>binA P op t (isConst x || isConst y) (ev T x) (ev T y) fun z=>K z [] H
 | .unOp op _ x=>unA op (ev T x) fun z=>K z [] H
 | .convert s d x=>convA P s d (ev T x) fun z=>K z [] H
 | .makeInterface t x=>mkIfaceA P t (ev T x) fun z=>K z [] H
 | .fieldAddr t x i=>fieldAddrA P t (ev T x) i fun z=>K z [] H
 | .field t x i=>fieldA P t (ev T x) i fun z=>K z [] H
 | .extract x i=>extractA (ev T x) i fun z=>K z [] H
 | .call c =>
   match c.callee with
   | .value f =>
     match ev T f with
     | .p (.c (.func g caps))=>evs T c.args.toList fun as=>capsK caps fun cs=>addK as cs fun l=>Does P g l H K
     | _=>False
   | .builtin b=>evs T c.args.toList fun as=>builtinA P H b c.argTypes.toList as K
   | _=>False
 | .indexAddr t x i=>indexAddrA P H t (ev T x) (ev T i) fun z=>K z [] H
 | .index t x i=>indexA P t (ev T x) (ev T i) fun z=>K z [] H
 | .slice t x lo hi mx=>sliceA P H t (ev T x) (lo.map (ev T)) (hi.map (ev T)) (mx.map (ev T)) fun z=>K z [] H
 | .buildSlice t n parts =>
   match slc2 P t with
   | some sz=>build2A P H t sz n (parts.toList.map fun p=>(p.1,ev T p.2)) K
   | none=>buildSliceA P H t n (parts.toList.map fun p=>(p.1,ev T p.2)) fun v H'=>K v [] H'
 | .makeSlice t l c=>makeSliceA P H t (ev T l) (ev T c) fun v H'=>K v [] H'
 | .makeMap t r=>makeMapA H P t r fun v H'=>K v [] H'
 | .lookup t x i ok=>lookupA P H t (ev T x) (ev T i) ok fun z=>K z [] H
 | .mapUpdate t x i y=>updateA P H t (ev T x) (ev T i) (ev T y) fun H'=>K undefA [] H'
 | .mapEntry t x i=>entryA P H t (ev T x) (ev T i) fun v H'=>K v [] H'
 | .entryStore _ x b y=>entryStoreA H (ev T x) (ev T b) (ev T y) fun H'=>K undefA [] H'
 | .range t x=>rangeA P H t (ev T x) fun v H'=>K v [] H'
 | .next x false=>nextA H (ev T x) fun v H'=>K v [] H'
 | .entry x=>entAtA H (ev T x) fun v=>K v [] H
 | .makeFunc f first caps =>
   match f,first.toList with
   | .func f,[]=>evs T caps.toList fun as =>
     match capsOf as with
     | some l=>K (cv (.func f l)) [] H
     | none=>False
   | .func f,[x] =>
     match caps.toList,ev T x with
     | [],.p (.c (.ptr r 0))=>K (cv (.bfn f r)) [] H
     | _,_=>False
   | _,_=>False
 | _=>False

def aopX (P:Program) (T:Tm) (H:List PO) (K:KP) (op:Op):Prop :=
 match op with
 | .convert s d x=>convX P H s d (ev T x) fun v H'=>K v [] H'
 | op=>aop P T H K op

def killT (M:List Nat) (T:Tm) (k:Tm→Prop):Prop :=
 match M with
 | []=>k T
 | M=>k (T.map fun e=>(e.1,killA M e.2))

def addM (M' M:List Nat) (k:List Nat→Prop):Prop :=
 match M' with
 | []=>k M
 | M'=>k (M'++M)

def runOps (P:Program) (nt:Nat) (all:List Oper):List Oper→Tm→List Nat→List PO→(Tm→List Nat→List PO→Prop)→Prop
 | [],T,M,H,K=>K T M H
 | o::rest,T,M,H,K =>
   match o.guard with
   | none=>aopX P T H (fun v M' H'=>killT M' T fun T'=>putT nt T' o.dst v fun T''=>addM M' M fun M''=>runOps P nt all rest T'' M'' H' K) o.op
   | some (j,want) =>
     match (nth all j).bind (·.dst) with
     | some d =>
       match lk T d with
       | .p (.c (.f (.bool b))) =>
         brc b
          (match want with
            | true=>aopX P ((d,bl true)::T) H (fun v M' H'=>killT M' ((d,bl true)::T) fun T'=>putT nt T' o.dst v fun T''=>addM M' M fun M''=>runOps P nt all rest T'' M'' H' K) o.op
            | false=>putT nt ((d,bl true)::T) o.dst undefA fun T''=>runOps P nt all rest T'' M H K)
          (match want with
            | false=>aopX P ((d,bl false)::T) H (fun v M' H'=>killT M' ((d,bl false)::T) fun T'=>putT nt T' o.dst v fun T''=>addM M' M fun M''=>runOps P nt all rest T'' M'' H' K) o.op
            | true=>putT nt ((d,bl false)::T) o.dst undefA fun T''=>runOps P nt all rest T'' M H K)
       | .tup []=>putT nt T o.dst undefA fun T''=>runOps P nt all rest T'' M H K
       | _=>False
     | none=>False

inductive Ex where
 | normal
 | exit (id:Nat)
 | ret

def Ex.real:Ex→Exit
 | .normal=>.normal
 | .exit id=>.exit id
 | .ret=>.ret

structure TR (N:Nat) (L:Nat→Loc) (nt:Nat) (T:Tm) (a:Act):Prop where
 get:∀ i,VA N L (lk T i) (a.tmps.getD i undef)
 defers:a.defers=[]
 room:nt≤a.tmps.size

structure SS (P:Program) (nt N0:Nat) (c:Code) (T:Tm) (M:List Nat) (H:List PO) (Q:Ex→Tm→List Nat→List PO→Prop):Prop where
 run:∀ B R w0 L0 L w a R0,N0≤H.length→Agree N0 M L0 L→Rel B R w0 L H w→TR H.length L nt T a →
  (∀ e L' T' M' H' w' a',N0≤H'.length→Agree N0 M' L0 L'→Rel B R w0 L' H' w'→TR H'.length L' nt T' a'→Q e T' M' H'→R0 (Ex.real e) a' w')→c.wp P R0 a w

def falls:Code→Bool
 | .exit _=>false
 | .ret=>false
 | .seq a b=>falls a && falls b
 | .cond _ a b=>falls a || falls b
 | _=>true

def joins:Code→Bool
 | .cond _ a b=>falls a && falls b
 | .block _ c=>falls c && hasCond c
 | _=>false
where
 hasCond:Code→Bool
 | .cond _ _ _=>true
 | .seq a b=>hasCond a || hasCond b
 | .block _ c=>hasCond c
 | _=>false

def setC (c:Operand) (b:Bool) (T:Tm):Tm :=
 match c with
 | .tmp d=>(d,bl b)::T
 | _=>T

def S (P:Program) (nt N0:Nat):Code→Tm→List Nat→List PO→(Ex→Tm→List Nat→List PO→Prop)→Prop
 | .skip,T,M,H,Q=>Q .normal T M H
 | .label _,T,M,H,Q=>Q .normal T M H
 | .region id ops draw,T,M,H,Q =>
   match draw with
   | false=>runOps P nt ops.toList ops.toList T M H fun T' M' H'=>Q .normal T' M' H'
   | true=>SS P nt N0 (.region id ops true) T M H Q
 | .seq a b,T,M,H,Q =>
   match joins a with
   | false=>S P nt N0 a T M H fun e T' M' H'=>match e with
     | .normal=>S P nt N0 b T' M' H' Q
     | e=>Q e T' M' H'
   | true=>SS P nt N0 (.seq a b) T M H Q
 | .cond c a b,T,M,H,Q=>match ev T c with
   | .p (.c (.f (.bool t)))=>brc t (S P nt N0 a (setC c true T) M H Q) (S P nt N0 b (setC c false T) M H Q)
   | _=>False
 | .block id c,T,M,H,Q=>S P nt N0 c T M H fun e T' M' H'=>match e with
   | .exit j=>match Nat.beq j id with
     | true=>Q .normal T' M' H'
     | false=>Q (.exit j) T' M' H'
   | e=>Q e T' M' H'
 | .loop c,T,M,H,Q=>SS P nt N0 (.loop c) T M H Q
 | .exit id,T,M,H,Q=>Q (.exit id) T M H
 | .ret,T,M,H,Q=>Q .ret T M H
 | _,_,_,_,_=>False

def resK (P:Program) (T:Tm) (H:List PO):List ResultVar→(List AV→Prop)→Prop
 | [],K=>K []
 | .tmp t::rs,K=>fA (lk T t) fun v=>resK P T H rs fun vs=>K (v::vs)
 | .cell a t::rs,K=>loadA P H t (lk T a) fun v=>resK P T H rs fun vs=>K (.p v::vs)

def pvs:List AV→Option (List PV)
 | []=>some []
 | .p x::xs =>
   match pvs xs with
   | some l=>some (x::l)
   | none=>none
 | _::_=>none

def tupA (vs:List AV) (K:AV→Prop):Prop :=
 match vs with
 | [v]=>K v
 | vs =>
   match pvs vs with
   | some l=>K (.tup l)
   | none=>False

def lowC (n:Nat):CV→Bool
 | .ptr r _=>Nat.blt r n
 | .rptr r _ _=>Nat.blt r n
 | .iptr r _ _ _=>Nat.blt r n
 | .slc r _ _ _ _=>Nat.blt r n
 | .islc r _ _ _ _ _=>Nat.blt r n
 | .map r=>Nat.blt r n
 | .func _ cs=>lows cs
 | .iface _ x=>lowC n x
 | .ifs _ x=>lowC n x
 | .bfn _ r=>Nat.blt r n
 | _=>true
where
 lows:List Nat→Bool
 | []=>true
 | r::rs=>bif Nat.blt r n then lows rs else false

def lowCs (n:Nat):List CV→Bool
 | []=>true
 | x::xs=>bif lowC n x then lowCs n xs else false

def lowP (n:Nat):PV→Bool
 | .c x=>lowC n x
 | .agg cs=>lowCs n cs

def lowPs (n:Nat):List PV→Bool
 | []=>true
 | x::xs=>bif lowP n x then lowPs n xs else false

def lowA (n:Nat):AV→Bool
 | .u=>true
 | .p x=>lowP n x
 | .tup xs=>lowPs n xs

def lowO (n:Nat):PO→Bool
 | .one cs=>lowCs n cs
 | .it d m _ _ _=>bif d then true else Nat.blt m n
 | .smap _ cs=>lowCs n cs
 | _=>true

def lowH (n:Nat):List PO→Bool
 | []=>true
 | o::os=>bif lowO n o then lowH n os else false

def lowT (n:Nat):Tm→Bool
 | []=>true
 | e::es=>bif lowA n e.2 then lowT n es else false

def lenK {α : Type}:List α→List Nat→(Nat→Prop)→Prop
 | _,[],_=>False
 | [],n::_,k=>k n
 | _::xs,_::ns,k=>lenK xs ns k

theorem lenK_spec' {α : Type}:∀ (l:List α) (m s:Nat) (k:Nat→Prop),lenK l (List.range' s m) k→k (s+l.length)
 | [],0,_,_,h=>h.elim
 | [],m+1,s,k,h=>by simpa [List.range'_succ,lenK] using h
 | _::_,0,_,_,h=>h.elim
 | x::xs,m+1,s,k,h=>by
   simp only [List.range'_succ,lenK] at h
   have:=lenK_spec' xs m (s+1) _ h
   simpa [Nat.add_assoc,Nat.add_comm 1] using this

theorem lenK_spec {α : Type} {l:List α} {k:Nat→Prop} (h:lenK l numbers k):k l.length:=by
 rw [numbers_eq] at h
 simpa using lenK_spec' l 100 0 k h

def ltM (n:Nat):List Nat→List Nat
 | []=>[]
 | r::rs=>bif Nat.blt r n then r::ltM n rs else ltM n rs

def endK (N0:Nat) (v:AV) (M:List Nat) (H:List PO) (K:KP):Prop :=
 takeK H 0 N0 fun H0 =>
  match lowA N0 v,lowH N0 H0 with
  | true,true=>K v (ltM N0 M) H0
  | _,_=>K v (ltM N0 M) H

def startK:List AV→List Nat→(Tm→Prop)→Prop
 | [],_,k=>k []
 | _::_,[],_=>False
 | x::xs,n::ns,k=>startK xs ns fun T=>k ((n,x)::T)

def FnB (P:Program) (fn:Func) (c:Code) (args:List AV) (H:List PO) (K:KP):Prop :=
 lenK H numbers fun N0=>startK args numbers fun T=>S P fn.ntmps N0 c T [] H fun e T' M' H' =>
  match e with
  | .exit _=>False
  | _=>resK P T' H' fn.results.toList fun vs=>tupA vs fun v=>endK N0 v M' H' K

end Go.Mac
