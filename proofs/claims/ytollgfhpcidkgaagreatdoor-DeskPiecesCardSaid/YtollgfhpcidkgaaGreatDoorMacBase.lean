import Derived.Calls
import Derived.Laws.World
import Derived.Laws.Sem
import Derived.Laws.AppendOwn

namespace Go.Mac
open Go

inductive FC where
 | bool (b:Bool)
 | int (k:IntKind) (n:Int)
 | str (s:List UInt8)

def FC.val:FC→Value
 | .bool b=>.bool b
 | .int k n=>.int k n
 | .str s=>.string ⟨s.toArray⟩

structure ILoc where
 blk:Nat
 base:Nat
 cap:Nat
 sz:Nat

inductive CV where
 | junk
 | f (x:FC)
 | nilptr
 | ptr (r f:Nat)
 | rptr (r i f:Nat)
 | iptr (r i j f:Nat)
 | nilslc
 | slc (r o n:Nat) (c:Option Nat) (nn:Bool)
 | islc (r i o n:Nat) (c:Option Nat) (nn:Bool)
 | dslc (n:Nat)
   | hslc (r i:Nat) (l:ILoc) (n:Nat)
   | hptr (b:Nat)
   | gpt (g i:Nat)
 | nilmap
 | map (r:Nat)
 | nilfunc
 | func (f:FuncId) (cs:List Nat)
 | niliface
 | iface (t:TypeId) (x:CV)
   | ifs (t:TypeId) (x:CV)
   | yld (l:Nat)
   | bfn (f:FuncId) (r:Nat)

inductive PV where
 | c (x:CV)
 | agg (cs:List CV)

inductive AV where
 | u
 | p (x:PV)
 | tup (xs:List PV)

structure Loc where
 h:ILoc
 inn:Nat→ILoc

def ILoc.at (l:ILoc) (row fld:Nat):Addr:=⟨l.blk,l.base+row*l.sz+fld,none⟩

def OneCell:Value→Bool
 | .agg _ | .tuple _=>false
 | _=>true

def Hdr (h:ILoc) (o n:Nat) (c:Option Nat) (nn:Bool) (v:Value):Prop :=
 (nn=false∧n=0∧v=.slice none 0 0∧(∀ c',c=some c'→c'=0)) ∨
 ∃ a k,v=.slice (some a) n k∧n≤k∧(∀ c',c=some c'→k=c')∧o+k≤h.cap∧(c=none→o+k=h.cap)∧(k≠0→a=h.at o 0)

def Len (n:Nat) (v:Value):Prop:=(n=0∧v=.slice none 0 0)∨∃ a k,v=.slice (some a) n k

theorem Hdr.len {h:ILoc} {o n:Nat} {c:Option Nat} {nn:Bool} {v:Value}:Hdr h o n c nn v→Len n v
 | .inl h=>.inl ⟨h.2.1,h.2.2.1⟩
 | .inr ⟨a,k,h,_⟩=>.inr ⟨a,k,h⟩

def VC (N:Nat) (L:Nat→Loc):CV→Value→Prop
 | .junk,v=>OneCell v=true
 | .f x,v=>v=x.val
 | .nilptr,v=>v=.pointer none
 | .ptr r f,v=>r<N∧v=.pointer (some ((L r).h.at 0 f))
 | .rptr r i f,v=>r<N∧v=.pointer (some ((L r).h.at i f))
 | .iptr r i j f,v=>r<N∧v=.pointer (some (((L r).inn i).at j f))
 | .nilslc,v=>v=.slice none 0 0
 | .slc r o n c nn,v=>r<N∧Hdr (L r).h o n c nn v
 | .islc r i o n c nn,v=>r<N∧Hdr ((L r).inn i) o n c nn v
 | .dslc n,v=>Len n v
 | .hslc _ _ l n,v=>Hdr l 0 n none false v
 | .hptr b,v=>v=.pointer (some ⟨b,0,none⟩)
 | .yld l,v=>v=.func (.yield l) #[] #[]
 | .gpt g i,v=>v=.pointer (some ⟨g,i,none⟩)
 | .nilmap,v=>v=.map none
 | .map r,v=>r<N∧v=.map (some (L r).h.blk)
 | .nilfunc,v=>v=.nilFunc
 | .func f cs,v=>(∀ r∈cs,r<N)∧v=.func (.func f) #[] (cs.map fun r=>Value.pointer (some ((L r).h.at 0 0))).toArray
 | .niliface,v=>v=.nilIface
 | .iface t x,v=>∃ y,v=.iface t y∧VC N L x y
 | .ifs t x,v=>∃ y,v=.iface t (.agg #[y])∧VC N L x y
 | .bfn f r,v=>r<N∧v=.func (.func f) #[.pointer (some ((L r).h.at 0 0))] #[]

def VCs (N:Nat) (L:Nat→Loc):List CV→List Value→Prop
 | [],l=>l=[]
 | x::xs,l=>∃ y ys,l=y::ys∧VC N L x y∧VCs N L xs ys

def VP (N:Nat) (L:Nat→Loc):PV→Value→Prop
 | .c x,v=>VC N L x v
 | .agg cs,v=>∃ vs:List Value,v=.agg vs.toArray∧VCs N L cs vs

def VPs (N:Nat) (L:Nat→Loc):List PV→List Value→Prop
 | [],l=>l=[]
 | x::xs,l=>∃ y ys,l=y::ys∧VP N L x y∧VPs N L xs ys

def VA (N:Nat) (L:Nat→Loc):AV→Value→Prop
 | .u,_=>True
 | .p x,v=>VP N L x v
 | .tup xs,v=>∃ vs:List Value,v=.tuple vs.toArray∧VPs N L xs vs

def VAs (N:Nat) (L:Nat→Loc):List AV→List Value→Prop
 | [],l=>l=[]
 | x::xs,l=>∃ y ys,l=y::ys∧VA N L x y∧VAs N L xs ys

def has:List Nat→Nat→Bool
 | [],_=>false
 | x::xs,r=>bif Nat.beq x r then true else has xs r

def hasAny (M:List Nat):List Nat→Bool
 | []=>false
 | r::rs=>bif has M r then true else hasAny M rs

theorem has_iff {M:List Nat} {r:Nat}:has M r=true↔r∈M:=by
 induction M with
 | nil=>simp [has]
 | cons x xs ih =>
   simp only [has,cond_eq_ite,List.mem_cons]
   by_cases h:x=r
   · simp [h]
   · simp [h,ih,Ne.symm h]

theorem has_false {M:List Nat} {r:Nat} (h:has M r=false):r∉M:=fun hm=>by rw [has_iff.2 hm] at h;cases h

theorem hasAny_false {M:List Nat}:∀ {rs:List Nat},hasAny M rs=false→∀ r∈rs,r∉M
 | [],_,r,hr=>by simp at hr
 | x::xs,h,r,hr=>by
   simp only [hasAny] at h
   cases hx:has M x with
   | true=>rw [hx] at h;cases h
   | false =>
     rw [hx] at h
     rcases List.mem_cons.1 hr with rfl | hr
     · exact has_false hx
     · exact hasAny_false h r hr

def killC (M:List Nat):CV→CV
 | .ptr r f=>bif has M r then .junk else .ptr r f
 | .rptr r i f=>bif has M r then .junk else .rptr r i f
 | .iptr r i j f=>bif has M r then .junk else .iptr r i j f
 | .slc r o n c nn=>bif has M r then .dslc n else .slc r o n c nn
 | .islc r i o n c nn=>bif has M r then .junk else .islc r i o n c nn
 | .map r=>bif has M r then .junk else .map r
 | .func f cs=>bif hasAny M cs then .junk else .func f cs
 | .iface t x=>.iface t (killC M x)
 | .ifs t x=>.ifs t (killC M x)
 | .bfn f r=>bif has M r then .junk else .bfn f r
 | x=>x

def killCs (M:List Nat):List CV→List CV
 | []=>[]
 | x::xs=>killC M x::killCs M xs

def killP (M:List Nat):PV→PV
 | .c x=>.c (killC M x)
 | .agg cs=>.agg (killCs M cs)

def killPs (M:List Nat):List PV→List PV
 | []=>[]
 | x::xs=>killP M x::killPs M xs

def killA (M:List Nat):AV→AV
 | .u=>.u
 | .p x=>.p (killP M x)
 | .tup xs=>.tup (killPs M xs)

theorem killC_nil:∀ x:CV,killC [] x=x
 | .junk | .f _ | .nilptr | .nilslc | .dslc _ | .hslc _ _ _ _ | .hptr _ | .yld _ | .gpt _ _ | .nilmap | .nilfunc | .niliface=>rfl
 | .ptr _ _ | .rptr _ _ _ | .iptr _ _ _ _ | .slc _ _ _ _ _ | .islc _ _ _ _ _ _ | .map _ | .bfn _ _=>rfl
 | .func f cs=>by
   have:∀ cs,hasAny [] cs=false:=fun cs=>by induction cs with
    | nil=>rfl
    | cons x xs ih=>simp [hasAny,has,ih]
   simp [killC,this]
 | .iface t x=>by simp [killC,killC_nil x]
 | .ifs t x=>by simp [killC,killC_nil x]

theorem killCs_eq (M:List Nat):∀ xs,killCs M xs=xs.map (killC M)
 | []=>rfl
 | x::xs=>by simp [killCs,killCs_eq M xs]

theorem killCs_nil (xs:List CV):killCs [] xs=xs:=by
 rw [killCs_eq]
 induction xs with
 | nil=>rfl
 | cons x xs ih=>simp [killC_nil,ih]

theorem killP_nil (x:PV):killP [] x=x:=by cases x <;> simp [killP,killC_nil,killCs_nil]

theorem killPs_nil:∀ xs:List PV,killPs [] xs=xs
 | []=>rfl
 | x::xs=>by simp [killPs,killP_nil,killPs_nil xs]

theorem killA_nil (x:AV):killA [] x=x:=by cases x <;> simp [killA,killP_nil,killPs_nil]

def Agree (N:Nat) (M:List Nat) (L L':Nat→Loc):Prop:=∀ i,i<N→i∉M→L' i=L i

theorem Agree.refl (N:Nat) (M:List Nat) (L:Nat→Loc):Agree N M L L:=fun _ _ _=>rfl

theorem Agree.trans {N N':Nat} {M M':List Nat} {L L' L'':Nat→Loc} (h:Agree N M L L') (hN:N≤N') (h':Agree N' M' L' L''):Agree N (M'++M) L L'':=by
 intro i hi hm
 simp only [List.mem_append,not_or] at hm
 rw [h' i (by omega) hm.1,h i hi hm.2]

theorem Agree.sup {N:Nat} {M M':List Nat} {L L':Nat→Loc} (h:Agree N M L L') (hM:∀ i∈M,i<N→i∈M'):Agree N M' L L' :=
 fun i hi hm=>h i hi fun hh=>hm (hM i hh hi)

theorem VC.oneCell {N:Nat} {L:Nat→Loc}:∀ {x:CV} {v:Value},VC N L x v→OneCell v=true
 | .junk,_,h=>h
 | .f x,_,h=>by cases x <;> (simp only [VC,FC.val] at h;subst h;rfl)
 | .nilptr,_,h | .nilslc,_,h | .nilmap,_,h | .nilfunc,_,h | .niliface,_,h=>by simp only [VC] at h;subst h;rfl
 | .ptr _ _,_,h | .rptr _ _ _,_,h | .iptr _ _ _ _,_,h | .map _,_,h | .func _ _,_,h | .bfn _ _,_,h=>by
   simp only [VC] at h
   obtain ⟨_,rfl⟩:=h
   rfl
 | .slc _ _ _ _ _,_,h | .islc _ _ _ _ _ _,_,h=>by
   simp only [VC] at h
   obtain ⟨_,⟨_,_,rfl,_⟩ | ⟨_,_,rfl,_⟩⟩:=h <;> rfl
 | .dslc _,_,h=>by
   simp only [VC] at h
   obtain ⟨_,rfl⟩ | ⟨_,_,rfl⟩:=h <;> rfl
 | .hptr _,_,h=>by simp only [VC] at h;subst h;rfl
 | .yld _,_,h=>by simp only [VC] at h;subst h;rfl
 | .gpt _ _,_,h=>by simp only [VC] at h;subst h;rfl
 | .hslc _ _ _ _,_,h=>by
   simp only [VC] at h
   obtain ⟨_,_,rfl,_⟩ | ⟨_,_,rfl,_⟩:=h <;> rfl
 | .iface _ _,_,h | .ifs _ _,_,h=>by
   simp only [VC] at h
   obtain ⟨_,rfl,_⟩:=h
   rfl

theorem VC.mono {N N':Nat} {L L':Nat→Loc} {M:List Nat} (hN:N≤N') (hL:Agree N M L L'):∀ {x:CV} {v:Value},VC N L x v→VC N' L' (killC M x) v
 | .junk,_,h | .f _,_,h | .nilptr,_,h | .nilslc,_,h | .dslc _,_,h | .hslc _ _ _ _,_,h | .hptr _,_,h | .yld _,_,h | .gpt _ _,_,h | .nilmap,_,h | .nilfunc,_,h | .niliface,_,h=>by simpa [VC,killC] using h
 | .slc r _ _ _ _,_,h=>by
   simp only [killC]
   cases hm:has M r with
   | true=>exact h.2.len
   | false =>
     simp only [cond_false]
     simp only [VC] at h ⊢
     rw [hL r h.1 (has_false hm)]
     exact ⟨by omega,h.2⟩
 | .ptr r _,_,h | .rptr r _ _,_,h | .iptr r _ _ _,_,h | .islc r _ _ _ _ _,_,h | .map r,_,h | .bfn _ r,_,h=>by
   simp only [killC]
   cases hm:has M r with
   | true=>exact h.oneCell
   | false =>
     simp only [cond_false]
     simp only [VC] at h ⊢
     rw [hL r h.1 (has_false hm)]
     exact ⟨by omega,h.2⟩
 | .func f cs,v,h=>by
   simp only [killC]
   cases hm:hasAny M cs with
   | true=>exact h.oneCell
   | false =>
     simp only [cond_false]
     simp only [VC] at h ⊢
     refine ⟨fun r hr=>by have:=h.1 r hr;omega,?_⟩
     rw [h.2]
     congr 2
     exact List.map_congr_left fun r hr=>by rw [hL r (h.1 r hr) (hasAny_false hm r hr)]
 | .iface t x,v,h | .ifs t x,v,h=>by
   simp only [killC,VC] at h ⊢
   obtain ⟨y,h1,h2⟩:=h
   exact ⟨y,h1,h2.mono hN hL⟩

theorem VCs.mono {N N':Nat} {L L':Nat→Loc} {M:List Nat} (hN:N≤N') (hL:Agree N M L L'):∀ {xs:List CV} {vs:List Value},VCs N L xs vs→VCs N' L' (killCs M xs) vs
 | [],_,h=>h
 | _::_,_,⟨y,ys,h1,h2,h3⟩=>⟨y,ys,h1,h2.mono hN hL,VCs.mono hN hL h3⟩

theorem VP.mono {N N':Nat} {L L':Nat→Loc} {M:List Nat} (hN:N≤N') (hL:Agree N M L L'):∀ {x:PV} {v:Value},VP N L x v→VP N' L' (killP M x) v
 | .c _,_,h=>VC.mono hN hL h
 | .agg _,_,⟨vs,h1,h2⟩=>⟨vs,h1,h2.mono hN hL⟩

theorem VPs.mono {N N':Nat} {L L':Nat→Loc} {M:List Nat} (hN:N≤N') (hL:Agree N M L L'):∀ {xs:List PV} {vs:List Value},VPs N L xs vs→VPs N' L' (killPs M xs) vs
 | [],_,h=>h
 | _::_,_,⟨y,ys,h1,h2,h3⟩=>⟨y,ys,h1,h2.mono hN hL,VPs.mono hN hL h3⟩

theorem VA.mono {N N':Nat} {L L':Nat→Loc} {M:List Nat} (hN:N≤N') (hL:Agree N M L L'):∀ {x:AV} {v:Value},VA N L x v→VA N' L' (killA M x) v
 | .u,_,_=>trivial
 | .p _,_,h=>VP.mono hN hL h
 | .tup _,_,⟨vs,h1,h2⟩=>⟨vs,h1,h2.mono hN hL⟩

theorem VCs.length {N:Nat} {L:Nat→Loc}:∀ {xs:List CV} {vs:List Value},VCs N L xs vs→xs.length=vs.length
 | [],_,h=>by simp [VCs] at h;simp [h]
 | _::_,_,⟨_,_,h1,_,h3⟩=>by subst h1;simp [VCs.length h3]

theorem VAs.length {N:Nat} {L:Nat→Loc}:∀ {xs:List AV} {vs:List Value},VAs N L xs vs→xs.length=vs.length
 | [],_,h=>by simp [VAs] at h;simp [h]
 | _::_,_,⟨_,_,h1,_,h3⟩=>by subst h1;simp [VAs.length h3]

theorem VCs.get {N:Nat} {L:Nat→Loc}:∀ {xs:List CV} {vs:List Value},VCs N L xs vs→∀ {i:Nat} {x:CV},xs[i]? = some x→∃ v,vs[i]? = some v∧VC N L x v
 | [],_,_,i,x,hi=>by simp at hi
 | x::xs,l,⟨y,ys,h1,h2,h3⟩,i,z,hi=>by
   subst h1
   cases i with
   | zero=>simp at hi;subst hi;exact ⟨y,rfl,h2⟩
   | succ i=>simp at hi ⊢;exact VCs.get h3 hi

theorem VPs.get {N:Nat} {L:Nat→Loc}:∀ {xs:List PV} {vs:List Value},VPs N L xs vs→∀ {i:Nat} {x:PV},xs[i]? = some x→∃ v,vs[i]? = some v∧VP N L x v
 | [],_,_,i,x,hi=>by simp at hi
 | x::xs,l,⟨y,ys,h1,h2,h3⟩,i,z,hi=>by
   subst h1
   cases i with
   | zero=>simp at hi;subst hi;exact ⟨y,rfl,h2⟩
   | succ i=>simp at hi ⊢;exact VPs.get h3 hi

theorem VCs.of_get {N:Nat} {L:Nat→Loc}:∀ {xs:List CV} {vs:List Value},xs.length=vs.length→(∀ (i:Nat) (x:CV) (v:Value),xs[i]? = some x→vs[i]? = some v→VC N L x v)→VCs N L xs vs
 | [],vs,h,_=>by cases vs <;> simp [VCs] at *
 | x::xs,[],h,_=>by simp at h
 | x::xs,y::ys,h,hg =>
   ⟨y,ys,rfl,hg 0 x y rfl rfl,VCs.of_get (by simpa using h) fun i a b h1 h2=>hg (i+1) a b (by simpa using h1) (by simpa using h2)⟩

theorem VCs.set {N:Nat} {L:Nat→Loc}:∀ {xs:List CV} {vs:List Value} (_:VCs N L xs vs) (i:Nat) {x:CV} {v:Value} (_:VC N L x v),VCs N L (xs.set i x) (vs.set i v)
 | [],_,h,_,_,_,_=>by simp [VCs] at h;simp [h,VCs]
 | y::ys,l,⟨z,zs,h1,h2,h3⟩,i,x,v,hx=>by
   subst h1
   cases i with
   | zero=>exact ⟨v,zs,rfl,hx,h3⟩
   | succ i=>exact ⟨z,_,rfl,h2,VCs.set h3 i hx⟩

theorem VC.cells {N:Nat} {L:Nat→Loc} {x:CV} {v:Value} (h:VC N L x v):v.cells = #[v]:=by
 have:=h.oneCell
 cases v <;> simp [OneCell] at this <;> rfl

def cellsOf:PV→List CV
 | .c x=>[x]
 | .agg cs=>cs

theorem VP.cells {N:Nat} {L:Nat→Loc} {x:PV} {v:Value} (h:VP N L x v):VCs N L (cellsOf x) v.cells.toList:=by
 cases x with
 | c x=>rw [VC.cells (N:=N) (L:=L) (x:=x) h];exact ⟨v,[],rfl,h,rfl⟩
 | agg cs=>obtain ⟨vs,rfl,h2⟩:=h;simpa [cellsOf,Value.cells] using h2

inductive PO where
 | one (cs:List CV)
 | rows (ro:Bool) (sz:Nat) (rs:List (List FC))
 | rows2 (ro:Bool) (sz:Nat) (rss:List (List (List FC)))
   | rows2m (sz:Nat) (rss:List (List (List FC)))
   | hnd (g t b k:Nat)
 | tab (g:Nat) (vs:List FC)
   | errv (g:Nat)
   | bld (t e:TypeId) (k:Nat) (bs:List UInt8)
   | mp (kn:Nat) (vb:Bool) (es:List (List Int×Int×Nat)) (clk:Nat)
   | rows3 (ap:Bool) (sz:Nat) (es:List (Option (ILoc×List (List FC))))
   | it (d:Bool) (m:Nat) (since:Nat) (seen:List Nat) (last:Nat)
   | smap (ks:List (List UInt8)) (cs:List CV)
 | gone

def entS:List (List UInt8)→List Value→Nat→List MapEntry
 | k::ks,v::vs,n=>⟨.string ⟨k.toArray⟩,v,n⟩::entS ks vs (n+1)
 | _,_,_=>[]

def keyV (kn:Nat) (k:List Int):Value :=
 match kn with
 | 0=>.int .i64 (k.headD 0)
 | _=>.agg (k.map (Value.int .i64)).toArray

def elmF (vb:Bool) (n:Int):FC :=
 match vb with
 | true=>.bool (n != 0)
 | false=>.int .i64 n

def keyLen (kn:Nat):Nat :=
 match kn with
 | 0=>1
 | n+1=>n+1

def entV (kn:Nat) (vb:Bool) (e:List Int×Int×Nat):MapEntry:=⟨keyV kn e.1,(elmF vb e.2.1).val,e.2.2⟩

def Own (o:PO) (l:Loc) (b:Nat):Prop :=
 match o with
 | .one _=>b=l.h.blk
 | .rows false _ _=>l.h.cap≠0∧b=l.h.blk
 | .rows2 false _ rss=>(l.h.cap≠0∧b=l.h.blk)∨∃ i,i<rss.length∧(l.inn i).cap≠0∧b=(l.inn i).blk
 | .rows2m _ _=>l.h.cap≠0∧b=l.h.blk
 | .bld _ _ _ _=>b=l.h.blk∨((l.inn 0).cap≠0∧b=(l.inn 0).blk)
 | .mp _ _ _ _=>b=l.h.blk
 | .it _ _ _ _ _=>b=l.h.blk
 | .smap _ _=>b=l.h.blk
 | .rows3 _ _ es=>(l.h.cap≠0∧b=l.h.blk)∨∃ (i:Nat) (p:ILoc×List (List FC)),es[i]? = some (some p)∧p.1.cap≠0∧b=p.1.blk
 | _=>False

def Ro (o:PO) (l:Loc) (b:Nat):Prop :=
 match o with
 | .rows true _ _=>l.h.cap≠0∧b=l.h.blk
 | .rows2 true _ rss=>(l.h.cap≠0∧b=l.h.blk)∨∃ i,i<rss.length∧(l.inn i).cap≠0∧b=(l.inn i).blk
 | .rows2m _ rss=>∃ i,i<rss.length∧(l.inn i).cap≠0∧b=(l.inn i).blk
 | .hnd g _ _ _=>b=g
 | .tab g _=>b=g
 | .errv g=>b=g
 | _=>False

def bytesV (bs:List UInt8):List Value:=bs.map fun b=>Value.int .u8 b.toNat

theorem ownsRow_of_block {w w':World} {e:TypeId} {v:Value} {n:Nat} {xs:List Value} (h:w.ownsRow 0 e 1 v n xs) (hw:∀ k,v.ownBlock=some k→w'.heap[k]? = w.heap[k]?):w'.ownsRow 0 e 1 v n xs:=by
 refine ⟨h.1,?_⟩
 rcases h.2 with h | ⟨g,cap,cur,rfl,h1,h2,h3⟩
 · exact .inl h
 · exact .inr ⟨g,cap,cur,rfl,h1,by rw [hw g rfl];exact h2,h3⟩

def Cells (w:World) (b n:Nat):Prop:=∃ c t fr,w.heap[b]? = some (.cells c t fr)∧c.size=n∧∀ i,i<c.size→¬(fr.1≤i∧i<fr.2)

def RowsAt (w:World) (own:Bool) (sz:Nat) (rs:List (List FC)) (h:ILoc):Prop :=
 h.sz=sz∧0<sz∧rs.length≤h.cap∧(own=true→h.cap≠0→h.base=0∧∃ n,h.cap*sz≤n∧Cells w h.blk n) ∧
  ∀ (i:Nat) (r:List FC),rs[i]? = some r→r.length=sz∧∀ (f:Nat) (x:FC),r[f]? = some x→w.cell? (h.at i f)=some x.val

def OR (N:Nat) (L:Nat→Loc) (w:World) (o:PO) (l:Loc):Prop :=
 match o with
 | .one cs=>l.h.base=0∧l.h.sz=cs.length∧0<cs.length∧Cells w l.h.blk cs.length ∧
    ∀ (f:Nat) (x:CV),cs[f]? = some x→∃ v,w.cell? (l.h.at 0 f)=some v∧VC N L x v
 | .rows ro sz rs=>RowsAt w (!ro) sz rs l.h
 | .rows2 ro sz rss=>l.h.sz=1∧rss.length≤l.h.cap∧(ro=false→l.h.cap≠0→l.h.base=0∧∃ n,l.h.cap≤n∧Cells w l.h.blk n) ∧
    (∀ (i:Nat) (rs:List (List FC)),rss[i]? = some rs→RowsAt w (!ro) sz rs (l.inn i)∧∃ v,w.cell? (l.h.at i 0)=some v∧Hdr (l.inn i) 0 rs.length none false v) ∧
    (ro=false→l.h.cap≠0→∀ i,i<rss.length→(l.inn i).cap≠0→(l.inn i).blk≠l.h.blk)
 | .rows2m sz rss=>l.h.sz=1∧rss.length≤l.h.cap∧(l.h.cap≠0→l.h.base=0∧∃ n,l.h.cap≤n∧Cells w l.h.blk n) ∧
    ∀ (i:Nat) (rs:List (List FC)),rss[i]? = some rs→RowsAt w false sz rs (l.inn i)∧∃ v,w.cell? (l.h.at i 0)=some v∧Hdr (l.inn i) 0 rs.length none false v
 | .hnd g t b k=>w.cell? ⟨g,0,none⟩ = some (.iface t (.agg #[.pointer (some ⟨b,k,none⟩)]))
 | .tab g vs=>∃ t fr,w.heap[g]? = some (.cells (vs.map FC.val).toArray t fr)
 | .bld t e k bs=>l.h.blk=k∧∃ p v,w.heap[l.h.blk]? = some (.cells #[p,v] t (0,0))∧(p=.pointer none∨p=.pointer (some ⟨l.h.blk,0,none⟩))∧w.ownsRow 0 e 1 v bs.length (bytesV bs) ∧
    v.ownBlock=(if (l.inn 0).cap=0 then none else some (l.inn 0).blk)∧v.ownBlock≠some l.h.blk∧(bs=[]→v=.slice none 0 0)
 | .errv g=>∃ t p,w.cell? ⟨g,0,none⟩ = some (.iface t p)
 | .mp kn vb es clk=>∃ xs:Array MapEntry,w.heap[l.h.blk]? = some (.map xs clk)∧xs.toList=es.map (entV kn vb)∧∀ e∈es,e.1.length=keyLen kn
 | .rows3 ap sz es=>l.h.sz=1∧es.length≤l.h.cap∧(l.h.cap≠0→l.h.base=0∧∃ n,l.h.cap≤n∧Cells w l.h.blk n) ∧
    (∀ (i:Nat) (p:ILoc×List (List FC)),es[i]? = some (some p)→RowsAt w true sz p.2 p.1∧(∃ v,w.cell? (l.h.at i 0)=some v∧Hdr p.1 0 p.2.length none false v) ∧
      (p.1.cap≠0→(l.h.cap≠0→p.1.blk≠l.h.blk)∧(ap=true→∀ (j:Nat) (q:ILoc×List (List FC)),es[j]? = some (some q)→q.1.cap≠0→q.1.blk=p.1.blk→j=i)))
 | .it d m since seen last=>l.h.base=0∧w.heap[l.h.blk]? = some (.mapIter (some (l.inn 0).blk) since seen.toArray last)∧(d=false→m<N∧(L m).h.blk=(l.inn 0).blk)
 | .smap ks cs=>∃ vs,w.heap[l.h.blk]? = some (.map (entS ks vs 0).toArray ks.length)∧ks.length=cs.length∧VCs N L cs vs
 | .gone=>True

def killO (M:List Nat):PO→PO
 | .one cs=>.one (killCs M cs)
 | .it d m since seen last=>.it (d || has M m) m since seen last
 | .smap ks cs=>.smap ks (killCs M cs)
 | o=>o

theorem killO_nil (o:PO):killO [] o=o:=by cases o <;> simp [killO,killCs_nil,has]

theorem Own_kill {M:List Nat} {o:PO} {l:Loc} {b:Nat}:Own (killO M o) l b↔Own o l b:=by cases o <;> exact Iff.rfl
theorem Ro_kill {M:List Nat} {o:PO} {l:Loc} {b:Nat}:Ro (killO M o) l b↔Ro o l b:=by cases o <;> exact Iff.rfl

theorem cell?_of_heap {w w':World} {a:Addr} (h:w'.heap[a.block]? = w.heap[a.block]?):w'.cell? a=w.cell? a:=by
 simp [World.cell?,h]

theorem Cells.mono {w w':World} {b n:Nat} (h:w'.heap[b]? = w.heap[b]?) (hc:Cells w b n):Cells w' b n:=by
 unfold Cells at *;rw [h];exact hc

theorem RowsAt.mono {w w':World} {own:Bool} {sz:Nat} {rs:List (List FC)} {h:ILoc} (hw:h.cap≠0→w'.heap[h.blk]? = w.heap[h.blk]?) (hr:RowsAt w own sz rs h):RowsAt w' own sz rs h:=by
 obtain ⟨h1,h2,h3,h4,h5⟩:=hr
 refine ⟨h1,h2,h3,fun ho hc=>⟨(h4 ho hc).1,(h4 ho hc).2.elim fun n hn=>⟨n,hn.1,hn.2.mono (hw hc)⟩⟩,fun i r hi=>⟨(h5 i r hi).1,fun f x hx=>?_⟩⟩
 have hlt:i<rs.length:=(List.getElem?_eq_some_iff.1 hi).1
 rw [cell?_of_heap (w:=w) (hw (by omega))]
 exact (h5 i r hi).2 f x hx

theorem OR.mono {N N':Nat} {L L':Nat→Loc} {M:List Nat} {w w':World} {o:PO} {l:Loc} (hN:N≤N') (hL:Agree N M L L')
 (hw:∀ b,Own o l b∨Ro o l b→w'.heap[b]? = w.heap[b]?) (h:OR N L w o l):OR N' L' w' (killO M o) l:=by
 cases o with
 | gone=>trivial
 | tab g vs =>
   obtain ⟨t,fr,h⟩:=h
   exact ⟨t,fr,(hw g (.inr rfl)).trans h⟩
 | rows2m sz rss =>
   obtain ⟨h1,h2,h3,h4⟩:=h
   have hout:l.h.cap≠0→w'.heap[l.h.blk]? = w.heap[l.h.blk]?:=fun hc=>hw _ (.inl ⟨hc,rfl⟩)
   refine ⟨h1,h2,fun hc=>⟨(h3 hc).1,(h3 hc).2.elim fun n hn=>⟨n,hn.1,hn.2.mono (hout hc)⟩⟩,fun i rs hi=>?_⟩
   have hlt:i<rss.length:=(List.getElem?_eq_some_iff.1 hi).1
   obtain ⟨h6,v,hv,hh⟩:=h4 i rs hi
   refine ⟨h6.mono fun hc=>hw _ (.inr ⟨i,hlt,hc,rfl⟩),v,?_,hh⟩
   rw [cell?_of_heap (w:=w) (hout (by omega))]
   exact hv
 | bld t e k bs =>
   obtain ⟨h0,p,v,h1,h2,h3,h4,h5⟩:=h
   refine ⟨h0,p,v,(hw l.h.blk (.inl (.inl rfl))).trans h1,h2,ownsRow_of_block h3 fun k hk=>?_,h4,h5⟩
   rw [h4] at hk
   split at hk
   · cases hk
   · rename_i hc
     obtain rfl:=Option.some.inj hk
     exact hw _ (.inl (.inr ⟨hc,rfl⟩))
 | errv g =>
   obtain ⟨t,p,h⟩:=h
   exact ⟨t,p,by rw [cell?_of_heap (w:=w) (hw g (.inr rfl))];exact h⟩
 | hnd g t b k =>
   show w'.cell? ⟨g,0,none⟩ = _
   rw [cell?_of_heap (w:=w) (hw g (.inr rfl))]
   exact h
 | mp kn vb es clk =>
   obtain ⟨xs,h,h2⟩:=h
   exact ⟨xs,(hw l.h.blk (.inl rfl)).trans h,h2⟩
 | smap ks cs =>
   obtain ⟨vs,h,h2,h3⟩:=h
   exact ⟨vs,(hw l.h.blk (.inl rfl)).trans h,by rw [killCs_eq,List.length_map];exact h2,h3.mono hN hL⟩
 | it d m since seen last =>
   obtain ⟨h0,h1,h2⟩:=h
   refine ⟨h0,(hw l.h.blk (.inl rfl)).trans h1,fun hd=>?_⟩
   simp only [Bool.or_eq_false_iff] at hd
   obtain ⟨h3,h4⟩:=h2 hd.1
   exact ⟨by omega,by rw [hL m h3 (has_false hd.2)];exact h4⟩
 | rows3 ap sz es =>
   obtain ⟨h1,h2,h3,h4⟩:=h
   have hout:l.h.cap≠0→w'.heap[l.h.blk]? = w.heap[l.h.blk]?:=fun hc=>hw _ (.inl (.inl ⟨hc,rfl⟩))
   refine ⟨h1,h2,fun hc=>⟨(h3 hc).1,(h3 hc).2.elim fun n hn=>⟨n,hn.1,hn.2.mono (hout hc)⟩⟩,fun i p hi=>?_⟩
   have hlt:=(List.getElem?_eq_some_iff.1 hi).1
   obtain ⟨h5,⟨v,hv,hh⟩,h6⟩:=h4 i p hi
   refine ⟨h5.mono fun hc=>hw _ (.inl (.inr ⟨i,p,hi,hc,rfl⟩)),⟨v,?_,hh⟩,h6⟩
   rw [cell?_of_heap (w:=w) (hout (by omega))]
   exact hv
 | one cs =>
   obtain ⟨h1,h2,h3,h4,h5⟩:=h
   have hb:=hw l.h.blk (.inl rfl)
   have hlen:(killCs M cs).length=cs.length:=by rw [killCs_eq];simp
   refine ⟨h1,by rw [hlen];exact h2,by rw [hlen];exact h3,by rw [hlen];exact h4.mono hb,fun f x hx=>?_⟩
   rw [killCs_eq,List.getElem?_map,Option.map_eq_some_iff] at hx
   obtain ⟨x0,hx0,rfl⟩:=hx
   obtain ⟨v,hv,hvr⟩:=h5 f x0 hx0
   exact ⟨v,by rw [cell?_of_heap (w:=w) hb];exact hv,hvr.mono hN hL⟩
 | rows ro sz rs =>
   refine RowsAt.mono (fun hc=>hw _ ?_) h
   cases ro
   · exact .inl ⟨hc,rfl⟩
   · exact .inr ⟨hc,rfl⟩
 | rows2 ro sz rss =>
   obtain ⟨h1,h2,h3,h4,h5⟩:=h
   have hout:l.h.cap≠0→w'.heap[l.h.blk]? = w.heap[l.h.blk]?:=fun hc=>hw _ (by
    cases ro
    · exact .inl (.inl ⟨hc,rfl⟩)
    · exact .inr (.inl ⟨hc,rfl⟩))
   refine ⟨h1,h2,fun ho hc=>⟨(h3 ho hc).1,(h3 ho hc).2.elim fun n hn=>⟨n,hn.1,hn.2.mono (hout hc)⟩⟩,fun i rs hi=>?_,h5⟩
   have hlt:i<rss.length:=(List.getElem?_eq_some_iff.1 hi).1
   obtain ⟨h6,v,hv,hh⟩:=h4 i rs hi
   refine ⟨h6.mono fun hc=>hw _ ?_,v,?_,hh⟩
   · cases ro
     · exact .inl (.inr ⟨i,hlt,hc,rfl⟩)
     · exact .inr (.inr ⟨i,hlt,hc,rfl⟩)
   · rw [cell?_of_heap (w:=w) (hout (by omega))]
     exact hv

structure Bel (B:Nat→Prop) (w w':World):Prop where
 os:w'.os=w.os
 tape:w'.tape=w.tape
 output:w'.output=w.output
 size:w.heap.size≤w'.heap.size
 block:∀ k,B k→w'.heap[k]? = w.heap[k]?

theorem Bel.refl (B:Nat→Prop) (w:World):Bel B w w:=⟨rfl,rfl,rfl,Nat.le_refl _,fun _ _=>rfl⟩

theorem Bel.trans {B:Nat→Prop} {a b c:World} (h:Bel B a b) (k:Bel B b c):Bel B a c :=
 ⟨k.os.trans h.os,k.tape.trans h.tape,k.output.trans h.output,Nat.le_trans h.size k.size,fun i hi=>(k.block i hi).trans (h.block i hi)⟩

theorem Bel.drew {B:Nat→Prop} {a w:World} (h:Bel B a w):Bel B a w.drew:=⟨h.os,h.tape,h.output,h.size,h.block⟩

theorem heap_alloc_lt (w:World) (o:Obj) (k:Nat) (h:k<w.heap.size):(w.alloc o).heap[k]? = w.heap[k]?:=by
 show (w.heap.push o)[k]? = _
 rw [Array.getElem?_push,if_neg (by omega)]

theorem heap_alloc_eq (w:World) (o:Obj):(w.alloc o).heap[w.heap.size]? = some o:=by
 show (w.heap.push o)[w.heap.size]? = _
 simp

theorem heap_setCell_ne (w:World) (a:Addr) (u:Value) (k:Nat) (h:k≠a.block):(w.setCell a u).heap[k]? = w.heap[k]?:=by
 simp only [World.setCell,Array.getElem?_modify]
 rw [if_neg (by omega)]

theorem Bel.alloc {B:Nat→Prop} {a w:World} (h:Bel B a w) (hB:∀ k,B k→k<w.heap.size) (o:Obj):Bel B a (w.alloc o) :=
 h.trans ⟨rfl,rfl,rfl,by simp,fun k hk=>heap_alloc_lt _ _ _ (hB k hk)⟩

theorem Bel.setCell {B:Nat→Prop} {a w:World} (h:Bel B a w) {p:Addr} (hp:¬B p.block) (u:Value):Bel B a (w.setCell p u) :=
 h.trans ⟨rfl,rfl,rfl,by simp [World.setCell],fun k hk=>heap_setCell_ne _ _ _ _ (fun e=>hp (e ▸ hk))⟩

structure Rel (B R:Nat→Prop) (w0:World) (L:Nat→Loc) (H:List PO) (w:World):Prop where
 below:Bel B w0 w
 start:∀ k,B k→k<w0.heap.size
 obj:∀ (i:Nat) (o:PO),H[i]? = some o→OR H.length L w o (L i)
 own:∀ (i:Nat) (o:PO) (b:Nat),H[i]? = some o→Own o (L i) b→¬B b∧b<w.heap.size∧∀ (j:Nat) (o':PO),H[j]? = some o'→Own o' (L j) b→j=i
 ro:∀ (i:Nat) (o:PO) (b:Nat),H[i]? = some o→Ro o (L i) b→R b
 sub:∀ b,R b→B b

section

variable {B R:Nat→Prop} {w0:World} {L L':Nat→Loc} {H H':List PO} {w w':World} {M:List Nat}

theorem Rel.size (h:Rel B R w0 L H w):∀ k,B k→k<w.heap.size:=fun k hk=>Nat.lt_of_lt_of_le (h.start k hk) h.below.size

theorem Rel.put (h:Rel B R w0 L H w) (i:Nat) (o':PO)
 (hlen:H.length≤H'.length) (hi:H'[i]? = some o')
 (hoth:∀ (j:Nat),j≠i→∀ (o:PO),H'[j]? = some o→∃ o0,H[j]? = some o0∧o=killO M o0)
 (hL:Agree H.length M L L') (hLo:∀ j,j≠i→L' j=L j)
 (hbel:Bel B w w')
 (hch:∀ b,b<w.heap.size→w'.heap[b]? = w.heap[b]?∨∃ o,H[i]? = some o∧Own o (L i) b)
 (hown:∀ b,Own o' (L' i) b→¬B b∧b<w'.heap.size∧(w.heap.size≤b∨∃ o,H[i]? = some o∧Own o (L i) b))
 (hro:∀ b,Ro o' (L' i) b→R b)
 (hOR:OR H'.length L' w' o' (L' i)):Rel B R w0 L' H' w':=by
 refine ⟨h.below.trans hbel,h.start,fun j o hj=>?_,fun j o b hj hb=>?_,fun j o b hj hb=>?_,h.sub⟩
 · by_cases hji:j=i
   · subst hji;rw [hi] at hj;cases hj;exact hOR
   · obtain ⟨o0,ho0,rfl⟩:=hoth j hji o hj
     rw [hLo j hji]
     refine (h.obj j o0 ho0).mono hlen hL fun b hb=>?_
     rcases hb with hb | hb
     · obtain ⟨_,hlt,hu⟩:=h.own j o0 b ho0 hb
       rcases hch b hlt with hc | ⟨o1,ho1,hb1⟩
       · exact hc
       · exact absurd (hu i o1 ho1 hb1).symm hji
     · exact hbel.block b (h.sub b (h.ro j o0 b ho0 hb))
 · by_cases hji:j=i
   · subst hji;rw [hi] at hj;cases hj
     obtain ⟨h1,h2,h3⟩:=hown b hb
     refine ⟨h1,h2,fun k o2 hk hb2=>?_⟩
     by_cases hkj:k=j
     · exact hkj
     · obtain ⟨o0,ho0,rfl⟩:=hoth k hkj o2 hk
       rw [hLo k hkj,Own_kill] at hb2
       obtain ⟨_,hlt,hu⟩:=h.own k o0 b ho0 hb2
       rcases h3 with h3 | ⟨o1,ho1,hb1⟩
       · omega
       · exact absurd (hu j o1 ho1 hb1).symm hkj
   · obtain ⟨o0,ho0,rfl⟩:=hoth j hji o hj
     rw [hLo j hji,Own_kill] at hb
     obtain ⟨h1,h2,h3⟩:=h.own j o0 b ho0 hb
     refine ⟨h1,Nat.lt_of_lt_of_le h2 hbel.size,fun k o2 hk hb2=>?_⟩
     by_cases hki:k=i
     · subst hki
       rw [hi] at hk;cases hk
       obtain ⟨_,_,h6⟩:=hown b hb2
       rcases h6 with h6 | ⟨o1,ho1,hb1⟩
       · omega
       · exact h3 k o1 ho1 hb1
     · obtain ⟨o3,ho3,rfl⟩:=hoth k hki o2 hk
       rw [hLo k hki,Own_kill] at hb2
       exact h3 k o3 ho3 hb2
 · by_cases hji:j=i
   · subst hji;rw [hi] at hj;cases hj;exact hro b hb
   · obtain ⟨o0,ho0,rfl⟩:=hoth j hji o hj
     rw [hLo j hji,Ro_kill] at hb
     exact h.ro j o0 b ho0 hb

theorem Rel.seize (h:Rel B R w0 L H w) (i:Nat) (G:List Nat) (o':PO)
 (hlen:H.length≤H'.length) (hi:H'[i]? = some o')
 (hoth:∀ (j:Nat),j≠i→∀ (o:PO),H'[j]? = some o→o=.gone∨(j∉G∧∃ o0,H[j]? = some o0∧o=killO M o0))
 (hL:Agree H.length M L L') (hLo:∀ j,j≠i→L' j=L j)
 (hbel:Bel B w w')
 (hch:∀ b,b<w.heap.size→w'.heap[b]? = w.heap[b]?∨∃ j o,(j=i∨j∈G)∧H[j]? = some o∧Own o (L j) b)
 (hown:∀ b,Own o' (L' i) b→¬B b∧b<w'.heap.size∧(w.heap.size≤b∨∃ j o,(j=i∨j∈G)∧H[j]? = some o∧Own o (L j) b))
 (hro:∀ b,Ro o' (L' i) b→R b)
 (hOR:OR H'.length L' w' o' (L' i)):Rel B R w0 L' H' w':=by
 refine ⟨h.below.trans hbel,h.start,fun j o hj=>?_,fun j o b hj hb=>?_,fun j o b hj hb=>?_,h.sub⟩
 · by_cases hji:j=i
   · subst hji;rw [hi] at hj;cases hj;exact hOR
   · rcases hoth j hji o hj with rfl | ⟨hG,o0,ho0,rfl⟩
     · trivial
     rw [hLo j hji]
     refine (h.obj j o0 ho0).mono hlen hL fun b hb=>?_
     rcases hb with hb | hb
     · obtain ⟨_,hlt,hu⟩:=h.own j o0 b ho0 hb
       rcases hch b hlt with hc | ⟨j1,o1,hj1,ho1,hb1⟩
       · exact hc
       · obtain rfl:=hu j1 o1 ho1 hb1
         rcases hj1 with e | e
         · exact absurd e hji
         · exact absurd e hG
     · exact hbel.block b (h.sub b (h.ro j o0 b ho0 hb))
 · by_cases hji:j=i
   · subst hji;rw [hi] at hj;cases hj
     obtain ⟨h1,h2,h3⟩:=hown b hb
     refine ⟨h1,h2,fun k o2 hk hb2=>?_⟩
     by_cases hkj:k=j
     · exact hkj
     · rcases hoth k hkj o2 hk with rfl | ⟨hG,o0,ho0,rfl⟩
       · exact hb2.elim
       rw [hLo k hkj,Own_kill] at hb2
       obtain ⟨_,hlt,hu⟩:=h.own k o0 b ho0 hb2
       rcases h3 with h3 | ⟨j1,o1,hj1,ho1,hb1⟩
       · omega
       · obtain rfl:=hu j1 o1 ho1 hb1
         rcases hj1 with e | e
         · exact e
         · exact absurd e hG
   · rcases hoth j hji o hj with rfl | ⟨hG,o0,ho0,rfl⟩
     · exact hb.elim
     rw [hLo j hji,Own_kill] at hb
     obtain ⟨h1,h2,h3⟩:=h.own j o0 b ho0 hb
     refine ⟨h1,Nat.lt_of_lt_of_le h2 hbel.size,fun k o2 hk hb2=>?_⟩
     by_cases hki:k=i
     · subst hki
       rw [hi] at hk;cases hk
       obtain ⟨_,_,h6⟩:=hown b hb2
       rcases h6 with h6 | ⟨j1,o1,hj1,ho1,hb1⟩
       · omega
       · obtain rfl:=h3 j1 o1 ho1 hb1
         rcases hj1 with e | e
         · exact e.symm
         · exact absurd e hG
     · rcases hoth k hki o2 hk with rfl | ⟨_,o3,ho3,rfl⟩
       · exact hb2.elim
       rw [hLo k hki,Own_kill] at hb2
       exact h3 k o3 ho3 hb2
 · by_cases hji:j=i
   · subst hji;rw [hi] at hj;cases hj;exact hro b hb
   · rcases hoth j hji o hj with rfl | ⟨hG,o0,ho0,rfl⟩
     · exact hb.elim
     rw [hLo j hji,Ro_kill] at hb
     exact h.ro j o0 b ho0 hb

theorem Rel.drew (h:Rel B R w0 L H w):Rel B R w0 L H w.drew :=
 ⟨h.below.drew,h.start,fun i o hi=>by
  have:=(h.obj i o hi).mono (M:=[]) (w':=w.drew) (Nat.le_refl _) (Agree.refl _ _ _) fun _ _=>rfl
  rwa [killO_nil] at this,h.own,h.ro,h.sub⟩

end

abbrev KP:=AV→List Nat→List PO→Prop
abbrev KJ:=CV→List Nat→List PO→Prop

theorem oTr {p:Prop} [Decidable p] (h:decide p=true):p:=of_decide_eq_true h

theorem oFa {p:Prop} [Decidable p] (h:decide p=false):¬p:=of_decide_eq_false h

end Go.Mac
