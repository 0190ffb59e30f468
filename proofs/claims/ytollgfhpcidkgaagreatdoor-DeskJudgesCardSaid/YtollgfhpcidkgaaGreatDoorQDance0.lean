import Derived.Test.YtollgfhpcidkgaaGreatDoorA15
import Derived.Test.YtollgfhpcidkgaaGreatDoorA14
open Go Go.Proofs Go.Mac
set_option maxRecDepth 100000

namespace Go.Mac

inductive Pc where
 | aw (c:Nat)
 | tl (c n:Nat)
 | up (c s j:Nat)
 | dn (c s:Nat)

def pcLen:Pc→Nat
 | .aw _=>5
 | .tl _ _=>2
 | .up _ _ _=>8
 | .dn _ _=>4

def awI (p c:Nat):List InsZ:=[⟨6,1,c,0,0⟩,⟨12,1,0,(p:Int)+3,0⟩,⟨10,(p:Int)+5,0,0,0⟩,⟨14,c,1,0,0⟩,⟨10,p,0,0,0⟩]
def tlI (c n:Nat):List InsZ:=[⟨7,c,0,-1,0⟩,⟨15,c,n,-1,0⟩]

def pcI (q:Nat→Nat) (p:Nat):Pc→List InsZ
 | .aw c=>awI p c
 | .tl c n=>tlI c n
 | .up c s j=>[⟨8,1,c,1,0⟩,⟨11,1,(s:Int)-1,(p:Int)+8,0⟩]++awI (p+2) (c+1)++[⟨10,q j,0,0,0⟩]
 | .dn c s=>[⟨1,2,0,0,0⟩,⟨7,c,2,-1,0⟩]++tlI (c+1) s

theorem pcI_len (q:Nat→Nat) (p:Nat) (x:Pc):(pcI q p x).length=pcLen x:=by cases x <;> rfl

def offP (P:List Pc) (k:Nat):Nat:=((P.take k).map pcLen).sum

def bodyQ (q:Nat→Nat):Nat→List Pc→List InsZ
 | _,[]=>[]
 | p,x::xs=>pcI q p x++bodyQ q (p+pcLen x) xs

def bodyP (P:List Pc):List InsZ:=bodyQ (fun j=>5+offP P j) 5 P

def wholeZ (R:Nat) (b:List InsZ):List InsZ :=
 [⟨1,0,1,0,0⟩,⟨1,7,(R:Int)+1,0,0⟩,⟨12,0,7,4,0⟩,⟨0,0,0,0,0⟩,⟨16,1,0,0,0⟩]++(b++[⟨16,2,0,0,0⟩,⟨3,0,0,1,0⟩,⟨10,2,0,0,0⟩])

def danceP (R:Nat) (P:List Pc):List InsZ:=wholeZ R (bodyP P)

theorem offP_cons (x:Pc) (P:List Pc) (k:Nat):offP (x::P) (k+1)=pcLen x+offP P k:=by simp [offP]

theorem offP_succ {P:List Pc} {k:Nat} {x:Pc} (h:P[k]? = some x):offP P (k+1)=offP P k+pcLen x:=by
 rw [offP,offP,List.take_add_one,h]
 simp

theorem bodyQ_len (q:Nat→Nat):∀ (p:Nat) (P:List Pc),(bodyQ q p P).length=offP P P.length
 | _,[]=>rfl
 | p,x::P=>by rw [bodyQ,List.length_append,pcI_len,bodyQ_len q _ P,List.length_cons,offP_cons]

theorem bodyQ_get (q:Nat→Nat):∀ (P:List Pc) (p k o:Nat) (x:Pc),P[k]? = some x→o<pcLen x→(bodyQ q p P)[offP P k+o]? = (pcI q (p+offP P k) x)[o]?
 | [],_,_,_,_,h,_=>by simp at h
 | y::P,p,0,o,x,h,ho=>by
   simp at h;subst h
   rw [bodyQ,show offP (y::P) 0=0 from rfl,Nat.zero_add,List.getElem?_append_left (by rw [pcI_len];exact ho)]
   rfl
 | y::P,p,k+1,o,x,h,ho=>by
   rw [offP_cons,bodyQ,List.getElem?_append_right (by rw [pcI_len];omega),pcI_len,show pcLen y+offP P k+o-pcLen y=offP P k+o by omega,
     bodyQ_get q P (p+pcLen y) k o x (by simpa using h) ho,Nat.add_assoc]

theorem danceP_get {R:Nat} {P:List Pc} {k o:Nat} {x:Pc} (h:P[k]? = some x) (ho:o<pcLen x):(danceP R P)[5+offP P k+o]? = (pcI (fun j=>5+offP P j) (5+offP P k) x)[o]?:=by
 have:=bodyQ_get (fun j=>5+offP P j) P 5 k o x h ho
 rw [danceP,wholeZ,List.getElem?_append_right (by simp;omega),List.getElem?_append_left]
 · rw [show 5+offP P k+o-[(⟨1,0,1,0,0⟩ : InsZ),⟨1,7,(R:Int)+1,0,0⟩,⟨12,0,7,4,0⟩,⟨0,0,0,0,0⟩,⟨16,1,0,0,0⟩].length=offP P k+o by simp;omega]
   exact this
 · rw [show 5+offP P k+o-[(⟨1,0,1,0,0⟩ : InsZ),⟨1,7,(R:Int)+1,0,0⟩,⟨12,0,7,4,0⟩,⟨0,0,0,0,0⟩,⟨16,1,0,0,0⟩].length=offP P k+o by simp;omega]
   have h2:((pcI (fun j=>5+offP P j) (5+offP P k) x)[o]?).isSome:=by
     rw [List.getElem?_eq_getElem (by rw [pcI_len];exact ho)];rfl
   rw [←this] at h2
   obtain ⟨i,hi⟩:=Option.isSome_iff_exists.1 h2
   exact (List.getElem?_eq_some_iff.1 hi).1

theorem danceP_tail {R:Nat} {P:List Pc} {o:Nat} (ho:o<3):(danceP R P)[5+offP P P.length+o]? = [(⟨16,2,0,0,0⟩ : InsZ),⟨3,0,0,1,0⟩,⟨10,2,0,0,0⟩][o]?:=by
 have hl:(bodyP P).length=offP P P.length:=bodyQ_len _ _ _
 rw [danceP,wholeZ,List.getElem?_append_right (by simp;omega),List.getElem?_append_right (by rw [hl];simp;omega)]
 rw [hl,show 5+offP P P.length+o-[(⟨1,0,1,0,0⟩ : InsZ),⟨1,7,(R:Int)+1,0,0⟩,⟨12,0,7,4,0⟩,⟨0,0,0,0,0⟩,⟨16,1,0,0,0⟩].length-offP P P.length=o by simp;omega]

theorem danceP_len (R:Nat) (P:List Pc):(danceP R P).length=8+offP P P.length:=by
 have hl:(bodyP P).length=offP P P.length:=bodyQ_len _ _ _
 rw [danceP,wholeZ,List.length_append,List.length_append,hl]
 simp;omega

inductive NL where
 | p0
 | p1
 | head
 | halt
 | came
 | pc (k o:Nat)
 | gone
 | plus
 | jump
 | ended

structure AT where
 r:Nat
 x:Nat
 e:Nat
 l:NL

def pcN (P:List Pc):NL→Nat
 | .p0=>0
 | .p1=>1
 | .head=>2
 | .halt=>3
 | .came=>4
 | .pc k o=>5+offP P k+o
 | .gone=>5+offP P P.length
 | .plus=>5+offP P P.length+1
 | .jump=>5+offP P P.length+2
 | .ended=>4

def isEnd:NL→Bool
 | .ended=>true
 | _=>false

def concA (P:List Pc) (a:AT):ThZ:=⟨pcN P a.l,[a.r,a.x,0,0,0,0,0,a.e],isEnd a.l⟩

def nxL (P:List Pc) (k:Nat):NL:=if k<P.length then .pc k 0 else .gone

theorem pcN_nx {P:List Pc} {k:Nat} (h:k≤P.length):pcN P (nxL P k)=5+offP P k:=by
 rw [nxL]
 split
 · rfl
 · rw [show k=P.length by omega];rfl

theorem nx_end (P:List Pc) (k:Nat):isEnd (nxL P k)=false:=by rw [nxL];split <;> rfl

inductive Ef where
 | no
 | act (o:Int) (c x y:Nat)
 | slp (c:Nat)
 | wk (c n:Nat)
 | say (a:Int) (x:Nat)

def efS (t:Nat) (ss:List Slp):Ef→List Slp
 | .slp c=>ss++[⟨t,c⟩]
 | .wk c n=>(wakeL c n 0 ss).2
 | _=>ss

def efA (k t:Nat) (al:List ActZ):Ef→List ActZ
 | .act o c x y=>al++[⟨k,t,o,c,x,y⟩]
 | _=>al

def efE (k t:Nat) (el:List EvZ):Ef→List EvZ
 | .say a x=>el++[⟨k,a,t,x⟩]
 | _=>el

def updV (V:Nat→Nat) (c y:Nat):Nat→Nat:=fun d=>if d=c then y else V d

def efV (V:Nat→Nat):Ef→Nat→Nat
 | .act _ c _ y=>updV V c y
 | _=>V

def awA (V:Nat→Nat) (a:AT) (c:Nat) (o:Nat) (at':Nat→NL) (out:NL):AT×Ef :=
 match o with
 | 0=>({ a with x:=V c,l:=at' 1 },.act 6 c (V c) (V c))
 | 1=>({ a with l:=if a.x<a.r then at' 3 else at' 2 },.no)
 | 2=>({ a with l:=out },.no)
 | 3=>({ a with l:=at' 4 },if V c=a.x then .slp c else .no)
 | _=>({ a with l:=at' 0 },.no)

def stPc (Q:List Pc) (V:Nat→Nat) (a:AT) (k o:Nat):Pc→AT×Ef
 | .aw c=>awA V a c o (fun o=>.pc k o) (nxL Q (k+1))
 | .tl c n =>
   match o with
   | 0=>({ a with l:=.pc k 1 },.act 7 c (V c) a.r)
   | _=>({ a with l:=nxL Q (k+1) },.wk c n)
 | .up c s j =>
   match o with
   | 0=>({ a with x:=V c,l:=.pc k 1 },.act 8 c (V c) (V c+1))
   | 1=>({ a with l:=if (a.x:Int)=s-1 then nxL Q (k+1) else .pc k 2 },.no)
   | 7=>({ a with l:=nxL Q j },.no)
   | o+2=>awA V a (c+1) o (fun o=>.pc k (o+2)) (.pc k 7)
 | .dn c s =>
   match o with
   | 0=>({ a with l:=.pc k 1 },.no)
   | 1=>({ a with l:=.pc k 2 },.act 7 c (V c) 0)
   | 2=>({ a with l:=.pc k 3 },.act 7 (c+1) (V (c+1)) a.r)
   | _=>({ a with l:=nxL Q (k+1) },.wk (c+1) s)

def stA (R:Nat) (Q:List Pc) (V:Nat→Nat) (a:AT):AT×Ef :=
 match a.l with
 | .p0=>({ a with r:=1,l:=.p1 },.no)
 | .p1=>({ a with e:=R+1,l:=.head },.no)
 | .head=>({ a with l:=if a.r<a.e then .came else .halt },.no)
 | .halt=>({ a with l:=.ended },.no)
 | .came=>({ a with l:=nxL Q 0 },.say 1 a.r)
 | .pc k o =>
   match Q[k]? with
   | some y=>stPc Q V a k o y
   | none=>(a,.no)
 | .gone=>({ a with l:=.plus },.say 2 a.r)
 | .plus=>({ a with r:=a.r+1,l:=.jump },.no)
 | .jump=>({ a with l:=.head },.no)
 | .ended=>(a,.no)

theorem stA_pc {R:Nat} {Q:List Pc} {V:Nat→Nat} {r x e k o:Nat} {y:Pc} (h:Q[k]? = some y):stA R Q V ⟨r,x,e,.pc k o⟩ = stPc Q V ⟨r,x,e,.pc k o⟩ k o y:=by
 rw [stA];dsimp only;rw [h]

def cellsL (nc:Nat) (V:Nat→Nat):List Int:=(List.range nc).map fun c=>(V c:Int)

theorem cellsL_len (nc:Nat) (V:Nat→Nat):(cellsL nc V).length=nc:=by simp [cellsL]

theorem cellsL_get {nc c:Nat} {V:Nat→Nat} (h:c<nc):rgZ (cellsL nc V) (c:Int)=V c:=by
 rw [rgZ,Int.toNat_natCast,cellsL,List.getD_eq_getElem?_getD,List.getElem?_map,List.getElem?_range h]
 rfl

theorem cellsL_set {nc c y:Nat} {V:Nat→Nat}:rgS (cellsL nc V) (c:Int) (y:Int)=cellsL nc (updV V c y):=by
 rw [rgS,Int.toNat_natCast]
 refine List.ext_getElem? fun j=>?_
 by_cases hj:j<nc
 · by_cases e:c=j
   · subst e
     rw [List.getElem?_set_self (by rw [cellsL_len];exact hj),cellsL,List.getElem?_map,List.getElem?_range hj]
     show _=some (((if c=c then y else V c:Nat)):Int)
     rw [if_pos rfl]
   · rw [List.getElem?_set_ne e,cellsL,cellsL,List.getElem?_map,List.getElem?_map,List.getElem?_range hj]
     show some (V j:Int)=some (((if j=c then y else V j:Nat)):Int)
     rw [if_neg (fun h=>e h.symm)]
 · rw [List.getElem?_eq_none (by rw [List.length_set,cellsL_len];omega),List.getElem?_eq_none (by rw [cellsL_len];omega)]

theorem updV_same (V:Nat→Nat) (c:Nat):updV V c (V c)=V:=funext fun d=>by
 rw [updV]
 split
 · rename_i h;rw [h]
 · rfl

theorem do_local {m:MZ} {t:Nat} {x x':ThZ} {i:InsZ} (h:localZ x i=some x'):(doZ m t x i).2=m.th t x':=by rw [doZ,h]

theorem do_far {m m':MZ} {t:Nat} {x:ThZ} {i:InsZ} (h:localZ x i=none) (h2:farZ m t x i=some m'):(doZ m t x i).2=m':=by
 rw [doZ,h]
 dsimp only
 rw [h2]

def updA (A:Nat→AT) (t:Nat) (a:AT):Nat→AT:=fun s=>if s=t then a else A s
theorem updA_same (A:Nat→AT) (t:Nat) (a:AT):updA A t a t=a:=by rw [updA,if_pos rfl]
theorem updA_ne (A:Nat→AT) {t s:Nat} (a:AT) (h:s≠t):updA A t a s=A s:=by rw [updA,if_neg h]

def pcFit (nc:Nat):Pc→Bool
 | .aw c=>decide (c<nc)
 | .tl c _=>decide (c<nc)
 | .up c s _=>decide (c+1<nc∧1≤s∧s≤1000)
 | .dn c _=>decide (c+1<nc)

def pcTo (len:Nat):Pc→Bool
 | .up _ _ j=>decide (j≤len)
 | _=>true

theorem pl_pos (x:Pc):0<pcLen x:=by cases x <;> exact Nat.zero_lt_succ _

def LocOk (P:List Pc):NL→Prop
 | .pc k o=>∃ x,P[k]? = some x∧o<pcLen x
 | _=>True

theorem loc_nx (P:List Pc) (k:Nat):LocOk P (nxL P k):=by
 rw [nxL]
 split
 · rename_i h
   exact ⟨P[k],List.getElem?_eq_getElem h,pl_pos _⟩
 · trivial

structure Abs (n nc R:Nat) (P:Nat→List Pc) (A:Nat→AT) (V:Nat→Nat) (m:MZ):Prop where
 wf:WF m
 ln:m.ts.length=n
 nk:m.nc=nc
 ps:∀ t,t<n→m.ps[t]? = some (danceP R (P t))
 ws:m.ws=cellsL nc V
 ts:∀ t,t<n→m.ts[t]? = some (concA (P t) (A t))
 lo:∀ t,t<n→LocOk (P t) (A t).l
 fit:∀ t,t<n→∀ x∈P t,pcFit nc x=true∧pcTo (P t).length x=true
 rb:∀ t,t<n→(A t).r≤m.k+1
 vb:∀ c,V c≤m.k+1
 R:R≤1000

theorem setTwo {ts:List ThZ} {t:Nat} {a b:ThZ}:(ts.set t a).set t b=ts.set t b:=List.set_set ..

section

variable {n nc R:Nat} {P:Nat→List Pc} {A:Nat→AT} {V:Nat→Nat} {m:MZ} {t:Nat} {x:ThZ} {p:List InsZ}

theorem Abs.can (h:Abs n nc R P A V m) (hc:canZ m t=true):t<n∧isEnd (A t).l=false∧noT m.ss t:=by
 obtain ⟨x,hx,hd,hno⟩:=can_out hc
 have ht:t<n:=by rw [←h.ln];exact (List.getElem?_eq_some_iff.1 hx).1
 rw [h.ts t ht] at hx
 obtain rfl:=Option.some.inj hx
 exact ⟨ht,hd,hno⟩

def outM (m:MZ) (t nc:Nat) (V:Nat→Nat) (y:ThZ) (e:Ef):MZ:=⟨m.ps,m.ts.set t y,cellsL nc (efV V e),efS t m.ss e,efA (m.k+1) t m.al e,efE (m.k+1) t m.el e,m.k+1,m.nc⟩

theorem out_local {y:ThZ} {i:InsZ} (hc:canZ m t=true) (hk:m.k<20000) (hx:m.ts[t]? = some x) (hp:m.ps[t]? = some p) (hws:m.ws=cellsL nc V) (hi:p[x.pc]? = some i)
   (hl:localZ { x with pc:=x.pc+1 } i=some y):(stepZ m t).2=outM m t nc V y .no:=by
 rw [can_go hc hk hx hp hi,do_local hl]
 clear hc hx hp hk
 obtain ⟨ps,ts,ws,ss,al,el,k,nc'⟩:=m
 dsimp only at hws
 subst hws
 exact congrArg (fun l=>MZ.mk ps l (cellsL nc V) ss al el (k+1) nc') setTwo

theorem out_load {c:Nat} (hc:canZ m t=true) (hk:m.k<20000) (hx:m.ts[t]? = some x) (hp:m.ps[t]? = some p) (hws:m.ws=cellsL nc V) (hcl:c<nc) (hi:p[x.pc]? = some ⟨6,1,c,0,0⟩) :
   (stepZ m t).2=outM m t nc V ⟨x.pc+1,rgS x.rg 1 (V c),x.dn⟩ (.act 6 c (V c) (V c)):=by
 rw [can_go hc hk hx hp hi,do_far rfl rfl]
 clear hc hx hp hk
 obtain ⟨ps,ts,ws,ss,al,el,k,nc'⟩:=m
 dsimp only at hws
 subst hws
 show MZ.mk ps ((ts.set t _).set t ⟨x.pc+1,rgS x.rg 1 (rgZ (cellsL nc V) c),x.dn⟩) (cellsL nc V) ss (al++[⟨(k+1:Nat),t,6,c,rgZ (cellsL nc V) c,rgZ (cellsL nc V) c⟩]) el (k+1) nc'=_
 rw [cellsL_get hcl,setTwo]
 show _=MZ.mk ps _ (cellsL nc (updV V c (V c))) _ _ _ _ _
 rw [updV_same]
 rfl

theorem out_fetch {c:Nat} (hc:canZ m t=true) (hk:m.k<20000) (hx:m.ts[t]? = some x) (hp:m.ps[t]? = some p) (hws:m.ws=cellsL nc V) (hcl:c<nc) (hv:V c≤100000) (hi:p[x.pc]? = some ⟨8,1,c,1,0⟩) :
   (stepZ m t).2=outM m t nc V ⟨x.pc+1,rgS x.rg 1 (V c),x.dn⟩ (.act 8 c (V c) (V c+1)):=by
 rw [can_go hc hk hx hp hi,do_far rfl rfl]
 clear hc hx hp hk
 obtain ⟨ps,ts,ws,ss,al,el,k,nc'⟩:=m
 dsimp only at hws
 subst hws
 show MZ.mk ps ((ts.set t _).set t ⟨x.pc+1,rgS x.rg 1 (rgZ (cellsL nc V) c),x.dn⟩) (rgS (cellsL nc V) c (u64m (rgZ (cellsL nc V) c+u64m 1))) ss (al++[⟨(k+1:Nat),t,8,c,rgZ (cellsL nc V) c,u64m (rgZ (cellsL nc V) c+u64m 1)⟩]) el (k+1) nc'=_
 have e:u64m ((V c:Int)+u64m 1)=((V c+1:Nat):Int):=by
   rw [show u64m 1=1 from rfl,u64m,wrap_u64 _ (by omega) (by omega)]
   omega
 rw [cellsL_get hcl,setTwo,e,cellsL_set]
 rfl

theorem out_wait {c v:Nat} (hc:canZ m t=true) (hk:m.k<20000) (hx:m.ts[t]? = some x) (hp:m.ps[t]? = some p) (hws:m.ws=cellsL nc V) (hcl:c<nc) (hv:rgZ x.rg 1=v) (hi:p[x.pc]? = some ⟨14,c,1,0,0⟩) :
   (stepZ m t).2=outM m t nc V ⟨x.pc+1,x.rg,x.dn⟩ (if V c=v then .slp c else .no):=by
 rw [can_go hc hk hx hp hi,do_far rfl rfl]
 clear hc hx hp hk
 obtain ⟨ps,ts,ws,ss,al,el,k,nc'⟩:=m
 dsimp only at hws
 subst hws
 show (if rgZ (cellsL nc V) c=rgZ x.rg 1 then MZ.mk ps (ts.set t _) (cellsL nc V) (ss++[⟨t,c⟩]) al el (k+1) nc' else MZ.mk ps (ts.set t _) (cellsL nc V) ss al el (k+1) nc')=_
 rw [cellsL_get hcl,hv]
 by_cases h:V c=v
 · rw [if_pos (by omega),if_pos h];rfl
 · rw [if_neg (by omega),if_neg h];rfl

theorem out_say {a:Int} {v:Nat} (hc:canZ m t=true) (hk:m.k<20000) (hx:m.ts[t]? = some x) (hp:m.ps[t]? = some p) (hws:m.ws=cellsL nc V) (hv:rgZ x.rg 0=v) (hb:v≤100000) (hi:p[x.pc]? = some ⟨16,a,0,0,0⟩) :
   (stepZ m t).2=outM m t nc V ⟨x.pc+1,x.rg,x.dn⟩ (.say a v):=by
 rw [can_go hc hk hx hp hi,do_far rfl rfl]
 clear hc hx hp hk
 obtain ⟨ps,ts,ws,ss,al,el,k,nc'⟩:=m
 dsimp only at hws
 subst hws
 show MZ.mk ps (ts.set t _) (cellsL nc V) ss al (el++[⟨(k+1:Nat),a,t,IntKind.i64.wrap (rgZ x.rg 0)⟩]) (k+1) nc'=_
 rw [hv,wrap_i64 _ (by omega) (by omega)]
 rfl

theorem wk_far {m:MZ} {t:Nat} {x:ThZ} {c s:Nat} (h:c<m.nc):farZ m t x ⟨15,c,s,-1,0⟩ = some { m with ss:=(wakeL c s 0 m.ss).2 }:=by
 show (match (some (c:Int):Option Int) with | none=>none | some c=>if c<m.nc then (if (15:Int)=15 then some { m with ss:=(wakeL c s 0 m.ss).2 } else _) else none)=_
 dsimp only
 rw [if_pos (by omega),if_pos rfl]

theorem st_far {m:MZ} {t:Nat} {x:ThZ} {c:Nat} {b:Int} (h:c<m.nc):farZ m t x ⟨7,c,b,-1,0⟩ = some ({ m with ws:=rgS m.ws c (rgZ x.rg b) }.act t 7 c (rgZ m.ws c) (rgZ x.rg b)):=by
 show (match (some (c:Int):Option Int) with | none=>none | some c=>if c<m.nc then (if (7:Int)=15 then _ else some ({ m with ws:=rgS m.ws c (rgZ x.rg b) }.act t 7 c (rgZ m.ws c) (rgZ x.rg b))) else none)=_
 dsimp only
 rw [if_pos (by omega),if_neg (by decide)]

theorem out_wake {c s:Nat} (hc:canZ m t=true) (hk:m.k<20000) (hx:m.ts[t]? = some x) (hp:m.ps[t]? = some p) (hws:m.ws=cellsL nc V) (hnc:m.nc=nc) (hcl:c<nc) (hi:p[x.pc]? = some ⟨15,c,s,-1,0⟩) :
   (stepZ m t).2=outM m t nc V ⟨x.pc+1,x.rg,x.dn⟩ (.wk c s):=by
 rw [can_go hc hk hx hp hi,do_far rfl (wk_far (by show c<m.nc;omega))]
 clear hc hx hp hk
 obtain ⟨ps,ts,ws,ss,al,el,k,nc'⟩:=m
 dsimp only at hws
 subst hws
 rfl

theorem out_store {c v:Nat} {b:Int} (hc:canZ m t=true) (hk:m.k<20000) (hx:m.ts[t]? = some x) (hp:m.ps[t]? = some p) (hws:m.ws=cellsL nc V) (hnc:m.nc=nc) (hcl:c<nc) (hv:rgZ x.rg b=v) (hi:p[x.pc]? = some ⟨7,c,b,-1,0⟩) :
   (stepZ m t).2=outM m t nc V ⟨x.pc+1,x.rg,x.dn⟩ (.act 7 c (V c) v):=by
 rw [can_go hc hk hx hp hi,do_far rfl (st_far (by show c<m.nc;omega))]
 clear hc hx hp hk
 obtain ⟨ps,ts,ws,ss,al,el,k,nc'⟩:=m
 dsimp only at hws
 subst hws
 show MZ.mk ps (ts.set t _) (rgS (cellsL nc V) c (rgZ x.rg b)) ss (al++[⟨(k+1:Nat),t,7,c,rgZ (cellsL nc V) c,rgZ x.rg b⟩]) el (k+1) nc'=_
 rw [cellsL_get hcl,hv,cellsL_set]
 rfl

theorem out_aw {Q:List Pc} {a:AT} {c o pl:Nat} {f:Nat→NL} {out:NL} (hc:canZ m t=true) (hk:m.k<20000) (hp:m.ps[t]? = some p) (hws:m.ws=cellsL nc V) (hcl:c<nc) (ho:o<5)
   (hx:m.ts[t]? = some ⟨pl+o,[a.r,a.x,0,0,0,0,0,a.e],false⟩) (hi:p[pl+o]? = (awI pl c)[o]?) (hf:∀ o,pcN Q (f o)=pl+o∧isEnd (f o)=false) (hout:pcN Q out=pl+5∧isEnd out=false) :
   (stepZ m t).2=outM m t nc V (concA Q (awA V a c o f out).1) (awA V a c o f out).2:=by
 obtain ⟨r,xx,e,l⟩:=a
 rcases o with _ | _ | _ | _ | _ | o
 · refine (out_load hc hk hx hp hws hcl hi).trans ?_
   show outM m t nc V ⟨pl+1,[(r:Int),V c,0,0,0,0,0,e],false⟩ _=outM m t nc V ⟨pcN Q (f 1),[(r:Int),V c,0,0,0,0,0,e],isEnd (f 1)⟩ _
   rw [(hf 1).1,(hf 1).2]
   rfl
 · by_cases h:xx<r
   · refine (out_local hc hk hx hp hws hi (y:=concA Q ⟨r,xx,e,f 3⟩) ?_).trans ?_
     · show some (if (xx:Int)<r then ThZ.mk ((pl:Int)+3).toNat _ _ else _)=some (ThZ.mk (pcN Q (f 3)) _ (isEnd (f 3)))
       rw [if_pos (by omega),(hf 3).1,(hf 3).2,show ((pl:Int)+3).toNat=pl+3 by omega]
     · show _=outM m t nc V (concA Q ⟨r,xx,e,if xx<r then f 3 else f 2⟩) .no
       rw [if_pos h]
   · refine (out_local hc hk hx hp hws hi (y:=concA Q ⟨r,xx,e,f 2⟩) ?_).trans ?_
     · show some (if (xx:Int)<r then _ else ThZ.mk (pl+2) _ _)=some (ThZ.mk (pcN Q (f 2)) _ (isEnd (f 2)))
       rw [if_neg (by omega),(hf 2).1,(hf 2).2]
     · show _=outM m t nc V (concA Q ⟨r,xx,e,if xx<r then f 3 else f 2⟩) .no
       rw [if_neg h]
 · refine out_local hc hk hx hp hws hi (y:=concA Q ⟨r,xx,e,out⟩) ?_
   show some (ThZ.mk ((pl:Int)+5).toNat _ _)=some (ThZ.mk (pcN Q out) _ (isEnd out))
   rw [hout.1,hout.2,show ((pl:Int)+5).toNat=pl+5 by omega]
 · refine (out_wait hc hk hx hp hws hcl (v:=xx) rfl hi).trans ?_
   show outM m t nc V ⟨pl+4,[(r:Int),xx,0,0,0,0,0,e],false⟩ _=outM m t nc V ⟨pcN Q (f 4),[(r:Int),xx,0,0,0,0,0,e],isEnd (f 4)⟩ _
   rw [(hf 4).1,(hf 4).2]
   rfl
 · refine out_local hc hk hx hp hws hi (y:=concA Q ⟨r,xx,e,f 0⟩) ?_
   show some (ThZ.mk (pl:Int).toNat _ _)=some (ThZ.mk (pcN Q (f 0)) _ (isEnd (f 0)))
   rw [(hf 0).1,(hf 0).2,show ((pl:Int)).toNat=pl+0 by omega]
 · omega

theorem out_go {R:Nat} {Q:List Pc} {a:AT} (hc:canZ m t=true) (hk:m.k<20000) (hx:m.ts[t]? = some (concA Q a)) (hp:m.ps[t]? = some (danceP R Q)) (hws:m.ws=cellsL nc V) (hnc:m.nc=nc)
   (hR:R≤1000) (hr:a.r≤100000) (hv:∀ c,V c≤100000) (hlo:LocOk Q a.l) (hfit:∀ x∈Q,pcFit nc x=true∧pcTo Q.length x=true) (hne:isEnd a.l=false) :
   (stepZ m t).2=outM m t nc V (concA Q (stA R Q V a).1) (stA R Q V a).2:=by
 obtain ⟨r,xx,e,l⟩:=a
 cases l with
 | p0=>exact out_local hc hk hx hp hws (i:=⟨1,0,1,0,0⟩) rfl rfl
 | p1 =>
   refine out_local hc hk hx hp hws (i:=⟨1,7,(R:Int)+1,0,0⟩) rfl (y:=concA Q ⟨r,xx,R+1,.head⟩) ?_
   show some (ThZ.mk 2 [(r:Int),xx,0,0,0,0,0,u64m ((R:Int)+1)] false)=some (ThZ.mk 2 [(r:Int),xx,0,0,0,0,0,((R+1:Nat):Int)] false)
   rw [u64m,wrap_u64 _ (by omega) (by omega)]
   rfl
 | head =>
   by_cases h:r<e
   · refine (out_local hc hk hx hp hws (i:=⟨12,0,7,4,0⟩) rfl (y:=concA Q ⟨r,xx,e,.came⟩) ?_).trans ?_
     · show some (if (r:Int)<e then ThZ.mk 4 _ _ else _)=some (ThZ.mk 4 _ _)
       rw [if_pos (by omega)]
       rfl
     · show _=outM m t nc V (concA Q ⟨r,xx,e,if r<e then .came else .halt⟩) .no
       rw [if_pos h]
   · refine (out_local hc hk hx hp hws (i:=⟨12,0,7,4,0⟩) rfl (y:=concA Q ⟨r,xx,e,.halt⟩) ?_).trans ?_
     · show some (if (r:Int)<e then _ else ThZ.mk 3 _ _)=some (ThZ.mk 3 _ _)
       rw [if_neg (by omega)]
       rfl
     · show _=outM m t nc V (concA Q ⟨r,xx,e,if r<e then .came else .halt⟩) .no
       rw [if_neg h]
 | halt=>exact out_local hc hk hx hp hws (i:=⟨0,0,0,0,0⟩) rfl rfl
 | came =>
   refine (out_say hc hk hx hp hws (a:=1) (v:=r) rfl hr rfl).trans ?_
   show outM m t nc V ⟨5,[(r:Int),xx,0,0,0,0,0,e],false⟩ _=outM m t nc V ⟨pcN Q (nxL Q 0),_,isEnd (nxL Q 0)⟩ _
   rw [pcN_nx (Nat.zero_le _),nx_end]
   rfl
 | gone=>exact out_say hc hk hx hp hws (a:=2) (v:=r) rfl hr (danceP_tail (o:=0) (by decide))
 | plus =>
   refine out_local hc hk hx hp hws (danceP_tail (o:=1) (by decide)) (y:=concA Q ⟨r+1,xx,e,.jump⟩) ?_
   show some (ThZ.mk _ [u64m ((r:Int)+u64m 1),(xx:Int),0,0,0,0,0,(e:Int)] false)=some (ThZ.mk _ [((r+1:Nat):Int),(xx:Int),0,0,0,0,0,(e:Int)] false)
   have hr':r≤100000:=hr
   rw [show u64m 1=1 from rfl,u64m,wrap_u64 _ (by omega) (by omega)]
   rfl
 | jump=>exact out_local hc hk hx hp hws (danceP_tail (o:=2) (by decide)) rfl
 | ended=>cases hne
 | pc k o =>
   obtain ⟨y,hy,ho⟩:=hlo
   have hg:=danceP_get (R:=R) hy ho
   have hm:=List.mem_of_getElem? hy
   obtain ⟨hf1,hf2⟩:=hfit y hm
   have hkl:=(List.getElem?_eq_some_iff.1 hy).1
   have hnx:pcN Q (nxL Q (k+1))=5+offP Q k+pcLen y:=by rw [pcN_nx hkl,offP_succ hy];omega
   rw [stA_pc hy]
   cases y with
   | aw c =>
     have hcl:c<nc:=of_decide_eq_true hf1
     exact out_aw (Q:=Q) (pl:=5+offP Q k) hc hk hp hws hcl ho hx hg (fun o=>⟨rfl,rfl⟩) ⟨hnx,nx_end _ _⟩
   | tl c n =>
     have hcl:c<nc:=of_decide_eq_true hf1
     rcases o with _ | _ | o
     · exact out_store hc hk hx hp hws hnc hcl (v:=r) (b:=0) rfl hg
     · refine (out_wake hc hk hx hp hws hnc hcl hg).trans ?_
       show outM m t nc V ⟨5+offP Q k+1+1,[(r:Int),xx,0,0,0,0,0,e],false⟩ _=outM m t nc V ⟨pcN Q (nxL Q (k+1)),_,isEnd (nxL Q (k+1))⟩ _
       rw [hnx,nx_end]
       rfl
     · exact absurd ho (by show ¬o+2<2;omega)
   | up c s j =>
     obtain ⟨hcl,hs1,hs2⟩ : c+1<nc∧1≤s∧s≤1000:=of_decide_eq_true hf1
     have hu:u64m ((s:Int)-1)=s-1:=by rw [u64m,wrap_u64 _ (by omega) (by omega)]
     have hj:j≤Q.length:=of_decide_eq_true hf2
     rcases o with _ | _ | o
     · exact out_fetch hc hk hx hp hws (by omega) (hv c) hg
     · by_cases h:(xx:Int)=s-1
       · refine (out_local hc hk hx hp hws hg (y:=concA Q ⟨r,xx,e,nxL Q (k+1)⟩) ?_).trans ?_
         · show some (if (xx:Int)=u64m ((s:Int)-1) then ThZ.mk (((5+offP Q k:Nat):Int)+8).toNat _ _ else _)=some (ThZ.mk (pcN Q (nxL Q (k+1))) _ (isEnd (nxL Q (k+1))))
           rw [hu,if_pos h,hnx,nx_end,show (((5+offP Q k:Nat):Int)+8).toNat=5+offP Q k+8 by omega]
           rfl
         · show _=outM m t nc V (concA Q ⟨r,xx,e,if (xx:Int)=s-1 then nxL Q (k+1) else .pc k 2⟩) .no
           rw [if_pos h]
       · refine (out_local hc hk hx hp hws hg (y:=concA Q ⟨r,xx,e,.pc k 2⟩) ?_).trans ?_
         · show some (if (xx:Int)=u64m ((s:Int)-1) then _ else ThZ.mk (5+offP Q k+1+1) _ _)=some (ThZ.mk (5+offP Q k+2) _ _)
           rw [hu,if_neg h]
           rfl
         · show _=outM m t nc V (concA Q ⟨r,xx,e,if (xx:Int)=s-1 then nxL Q (k+1) else .pc k 2⟩) .no
           rw [if_neg h]
     · by_cases h7:o=5
       · subst h7
         refine out_local hc hk hx hp hws hg (y:=concA Q ⟨r,xx,e,nxL Q j⟩) ?_
         show some (ThZ.mk ((5+offP Q j:Nat):Int).toNat _ _)=some (ThZ.mk (pcN Q (nxL Q j)) _ (isEnd (nxL Q j)))
         rw [pcN_nx hj,nx_end,Int.toNat_natCast]
         rfl
       · have ho5:o<5:=by
           have:o+2<8:=ho
           omega
         have hg2:(danceP R Q)[5+offP Q k+2+o]? = (awI (5+offP Q k+2) (c+1))[o]?:=by
           rw [show 5+offP Q k+2+o=5+offP Q k+(o+2) by omega,hg]
           have:o=0∨o=1∨o=2∨o=3∨o=4:=by omega
           rcases this with rfl | rfl | rfl | rfl | rfl <;> rfl
         have hx2:m.ts[t]? = some ⟨5+offP Q k+2+o,[(r:Int),xx,0,0,0,0,0,e],false⟩:=by
           rw [show 5+offP Q k+2+o=5+offP Q k+(o+2) by omega];exact hx
         have:=out_aw (Q:=Q) (a:=⟨r,xx,e,.pc k (o+2)⟩) (f:=fun o=>.pc k (o+2)) (out:=.pc k 7) (pl:=5+offP Q k+2) hc hk hp hws hcl ho5 hx2 hg2 (fun o=>⟨by show 5+offP Q k+(o+2)=_;omega,rfl⟩) ⟨rfl,rfl⟩
         have h5:o=0∨o=1∨o=2∨o=3∨o=4:=by omega
         rcases h5 with rfl | rfl | rfl | rfl | rfl <;> exact this
   | dn c s =>
     have hcl:c+1<nc:=of_decide_eq_true hf1
     rcases o with _ | _ | _ | _ | o
     · exact out_local hc hk hx hp hws hg rfl
     · exact out_store hc hk hx hp hws hnc (by omega) (v:=0) (b:=2) rfl hg
     · exact out_store hc hk hx hp hws hnc hcl (v:=r) (b:=0) rfl hg
     · refine (out_wake hc hk hx hp hws hnc hcl hg).trans ?_
       show outM m t nc V ⟨5+offP Q k+3+1,[(r:Int),xx,0,0,0,0,0,e],false⟩ _=outM m t nc V ⟨pcN Q (nxL Q (k+1)),_,isEnd (nxL Q (k+1))⟩ _
       rw [hnx,nx_end]
       rfl
     · exact absurd ho (by show ¬o+4<4;omega)

theorem stPc_up {Q:List Pc} {V:Nat→Nat} {a:AT} {k o c s j:Nat} (h:o≠5):stPc Q V a k (o+2) (.up c s j)=awA V a (c+1) o (fun o=>.pc k (o+2)) (.pc k 7):=by
 rcases o with _ | _ | _ | _ | _ | _ | o
 all_goals first | rfl | exact absurd rfl h

theorem efV_le {V:Nat→Nat} {b:Nat} (hv:∀ c,V c≤b) {e:Ef} (he:∀ o c x y,e=.act o c x y→y≤b):∀ c,efV V e c≤b:=fun d=>by
 cases e with
 | act o c x y =>
   show (if d=c then y else V d)≤b
   split
   · exact he o c x y rfl
   · exact hv d
 | _=>exact hv d

theorem aw_le {V:Nat→Nat} {b:Nat} (hv:∀ c,V c≤b) {a:AT} (hr:a.r≤b) (c o:Nat) (f:Nat→NL) (out:NL):(awA V a c o f out).1.r≤b∧∀ o' c' x y,(awA V a c o f out).2=.act o' c' x y→y≤b:=by
 rcases o with _ | _ | _ | _ | o
 · exact ⟨hr,fun o' c' x y h=>by injection h with _ _ _ h;rw [←h];exact hv c⟩
 · exact ⟨hr,fun o' c' x y h=>by cases h⟩
 · exact ⟨hr,fun o' c' x y h=>by cases h⟩
 · refine ⟨hr,fun o' c' x y h=>?_⟩
   rw [awA] at h
   dsimp only at h
   split at h <;> cases h
 · exact ⟨hr,fun o' c' x y h=>by cases h⟩

theorem st_le {V:Nat→Nat} {b R:Nat} {Q:List Pc} (hv:∀ c,V c≤b) {a:AT} (hr:a.r≤b):(stA R Q V a).1.r≤b+1∧∀ o c x y,(stA R Q V a).2=.act o c x y→y≤b+1:=by
 have base:∀ {s:AT×Ef},(s.1.r≤b∧∀ o c x y,s.2=.act o c x y→y≤b)→s.1.r≤b+1∧∀ o c x y,s.2=.act o c x y→y≤b+1:=fun h=>⟨by have:=h.1;omega,fun o c x y e=>by have:=h.2 o c x y e;omega⟩
 obtain ⟨r,xx,e,l⟩:=a
 change r≤b at hr
 cases l with
 | p0=>exact ⟨by show 1≤b+1;omega,fun o c x y h=>by cases h⟩
 | p1=>exact ⟨by show r≤b+1;omega,fun o c x y h=>by cases h⟩
 | head=>exact ⟨by show r≤b+1;omega,fun o c x y h=>by cases h⟩
 | halt=>exact ⟨by show r≤b+1;omega,fun o c x y h=>by cases h⟩
 | came=>exact ⟨by show r≤b+1;omega,fun o c x y h=>by cases h⟩
 | gone=>exact ⟨by show r≤b+1;omega,fun o c x y h=>by cases h⟩
 | plus=>exact ⟨by show r+1≤b+1;omega,fun o c x y h=>by cases h⟩
 | jump=>exact ⟨by show r≤b+1;omega,fun o c x y h=>by cases h⟩
 | ended=>exact ⟨by show r≤b+1;omega,fun o c x y h=>by cases h⟩
 | pc k o =>
   cases hy:Q[k]? with
   | none =>
     have:stA R Q V ⟨r,xx,e,.pc k o⟩ = (⟨r,xx,e,.pc k o⟩,.no):=by rw [stA];dsimp only;rw [hy]
     rw [this]
     exact ⟨by show r≤b+1;omega,fun o c x y h=>by cases h⟩
   | some y =>
     rw [stA_pc hy]
     cases y with
     | aw c=>exact base (aw_le hv hr _ _ _ _)
     | tl c n =>
       rcases o with _ | o
       · exact ⟨by show r≤b+1;omega,fun o c x y h=>by injection h with _ _ _ h;change _=y at h;first | (change r=y at h;omega) | (change 0=y at h;omega)⟩
       · exact ⟨by show r≤b+1;omega,fun o c x y h=>by cases h⟩
     | up c s j =>
       rcases o with _ | _ | o
       · exact ⟨by show r≤b+1;omega,fun o c' x y h=>by injection h with _ hc _ h;have:=hv c;omega⟩
       · exact ⟨by show r≤b+1;omega,fun o c x y h=>by cases h⟩
       · by_cases h5:o=5
         · subst h5
           exact ⟨by show r≤b+1;omega,fun o c x y h=>by cases h⟩
         · have:stPc Q V ⟨r,xx,e,.pc k (o+1+1)⟩ k (o+1+1) (.up c s j)=awA V ⟨r,xx,e,.pc k (o+1+1)⟩ (c+1) o (fun o=>.pc k (o+2)) (.pc k 7):=stPc_up h5
           rw [this]
           exact base (aw_le hv hr _ _ _ _)
     | dn c s =>
       rcases o with _ | _ | _ | o
       · exact ⟨by show r≤b+1;omega,fun o c x y h=>by cases h⟩
       · exact ⟨by show r≤b+1;omega,fun o c x y h=>by injection h with _ _ _ h;change _=y at h;first | (change r=y at h;omega) | (change 0=y at h;omega)⟩
       · exact ⟨by show r≤b+1;omega,fun o c x y h=>by injection h with _ _ _ h;change _=y at h;first | (change r=y at h;omega) | (change 0=y at h;omega)⟩
       · exact ⟨by show r≤b+1;omega,fun o c x y h=>by cases h⟩

theorem aw_lo {V:Nat→Nat} {Q:List Pc} {a:AT} {c o:Nat} {f:Nat→NL} {out:NL} (hf:∀ o,o<5→LocOk Q (f o)) (ho:LocOk Q out):LocOk Q (awA V a c o f out).1.l:=by
 rcases o with _ | _ | _ | _ | o
 · exact hf 1 (by decide)
 · show LocOk Q (if a.x<a.r then f 3 else f 2)
   split
   · exact hf 3 (by decide)
   · exact hf 2 (by decide)
 · exact ho
 · exact hf 4 (by decide)
 · exact hf 0 (by decide)

theorem st_lo {V:Nat→Nat} {R:Nat} {Q:List Pc} {a:AT} (h:LocOk Q a.l):LocOk Q (stA R Q V a).1.l:=by
 obtain ⟨r,xx,e,l⟩:=a
 cases l with
 | p0=>trivial
 | p1=>trivial
 | head=>show LocOk Q (if r<e then NL.came else NL.halt);split <;> trivial
 | halt=>trivial
 | came=>exact loc_nx Q 0
 | gone=>trivial
 | plus=>trivial
 | jump=>trivial
 | ended=>trivial
 | pc k o =>
   obtain ⟨y,hy,ho⟩:=h
   rw [stA_pc hy]
   cases y with
   | aw c=>exact aw_lo (fun o ho=>⟨_,hy,ho⟩) (loc_nx _ _)
   | tl c n =>
     rcases o with _ | o
     · exact ⟨_,hy,by first | (show _<2;omega) | (show _<8;omega) | (show _<4;omega)⟩
     · exact loc_nx _ _
   | up c s j =>
     rcases o with _ | _ | o
     · exact ⟨_,hy,by show 1<8;omega⟩
     · show LocOk Q (if (xx:Int)=s-1 then nxL Q (k+1) else .pc k 2)
       split
       · exact loc_nx _ _
       · exact ⟨_,hy,by show 2<8;omega⟩
     · by_cases h5:o=5
       · subst h5
         exact loc_nx _ _
       · have:stPc Q V ⟨r,xx,e,.pc k (o+1+1)⟩ k (o+1+1) (.up c s j)=awA V ⟨r,xx,e,.pc k (o+1+1)⟩ (c+1) o (fun o=>.pc k (o+2)) (.pc k 7):=stPc_up h5
         rw [this]
         exact aw_lo (fun o ho=>⟨_,hy,by show o+2<8;omega⟩) ⟨_,hy,by show 7<8;omega⟩
   | dn c s =>
     rcases o with _ | _ | _ | o
     · exact ⟨_,hy,by first | (show _<2;omega) | (show _<8;omega) | (show _<4;omega)⟩
     · exact ⟨_,hy,by first | (show _<2;omega) | (show _<8;omega) | (show _<4;omega)⟩
     · exact ⟨_,hy,by first | (show _<2;omega) | (show _<8;omega) | (show _<4;omega)⟩
     · exact loc_nx _ _

theorem Abs.go (h:Abs n nc R P A V m) (hc:canZ m t=true) (hk:m.k<20000) :
   Abs n nc R P (updA A t (stA R (P t) V (A t)).1) (efV V (stA R (P t) V (A t)).2) (stepZ m t).2∧(stepZ m t).2.ss=efS t m.ss (stA R (P t) V (A t)).2 ∧
     (stepZ m t).2.al=efA (m.k+1) t m.al (stA R (P t) V (A t)).2∧(stepZ m t).2.el=efE (m.k+1) t m.el (stA R (P t) V (A t)).2∧(stepZ m t).2.k=m.k+1:=by
 obtain ⟨ht,hd,hno⟩:=h.can hc
 have hr:=h.rb t ht
 have e1:=out_go hc hk (h.ts t ht) (h.ps t ht) h.ws h.nk h.R (by omega) (fun c=>by have:=h.vb c;omega) (h.lo t ht) (h.fit t ht) hd
 have hw:=h.wf.step t
 obtain ⟨b1,b2⟩:=st_le (R:=R) (Q:=P t) h.vb hr
 have b3:=st_lo (V:=V) (R:=R) (h.lo t ht)
 generalize stA R (P t) V (A t)=s at e1 b1 b2 b3
 rw [e1] at hw ⊢
 refine ⟨⟨hw,by rw [←h.ln];exact List.length_set,h.nk,h.ps,rfl,fun u hu=>?_,fun u hu=>?_,h.fit,fun u hu=>?_,?_,h.R⟩,rfl,rfl,rfl,rfl⟩
 · by_cases hut:u=t
   · subst hut
     rw [updA_same]
     exact List.getElem?_set_self (by rw [h.ln];exact hu)
   · rw [updA_ne _ _ hut]
     show (m.ts.set t _)[u]? = _
     rw [List.getElem?_set_ne (fun h=>hut h.symm)]
     exact h.ts u hu
 · by_cases hut:u=t
   · subst hut
     rw [updA_same]
     exact b3
   · rw [updA_ne _ _ hut]
     exact h.lo u hu
 · show (updA A t s.1 u).r≤m.k+1+1
   by_cases hut:u=t
   · subst hut
     rw [updA_same]
     exact b1
   · rw [updA_ne _ _ hut]
     have:=h.rb u hu
     omega
 · show ∀ c,efV V s.2 c≤m.k+1+1
   exact efV_le (fun c=>by have:=h.vb c;omega) b2

theorem Abs.poke (h:Abs n nc R P A V m) (t:Int):Abs n nc R P A V (pokeZ m t):=⟨h.wf.poke t,h.ln,h.nk,h.ps,h.ws,h.ts,h.lo,h.fit,h.rb,h.vb,h.R⟩

theorem abs_begin {ps:List (List InsZ)} (hn:ps.length=n) (hn16:n≤16) (hnc:nc≤300) (hR:R≤1000) (hps:∀ t,t<n→ps[t]? = some (danceP R (P t))) (hr:∀ p∈ps,rightZ p nc=true) (hfit:∀ t,t<n→∀ x∈P t,pcFit nc x=true∧pcTo (P t).length x=true) :
   Abs n nc R P (fun _=>⟨0,0,0,.p0⟩) (fun _=>0) (mz0 ps (List.replicate nc 0)):=by
 have hl:(List.replicate nc (0:Int)).length=nc:=List.length_replicate
 refine ⟨mz0_wf (by omega) (by rw [hl];exact hnc) (by rw [hl];exact hr) fun x hx=>by rw [(List.mem_replicate.1 hx).2];omega,?_,hl,hps,?_,fun t ht=>?_,fun t ht=>trivial,hfit,fun t ht=>Nat.zero_le _,fun c=>Nat.zero_le _,hR⟩
 · show (List.replicate ps.length th0).length=n
   rw [List.length_replicate,hn]
 · show List.replicate nc (0:Int)=_
   refine List.ext_getElem (by simp [cellsL]) fun i h1 h2=>?_
   simp [cellsL]
 · show (List.replicate ps.length th0)[t]? = _
   rw [List.getElem?_replicate,if_pos (by omega)]
   rfl

end

end Go.Mac
