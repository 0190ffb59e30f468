/- Texts that belong together; the first of them:  -/
import Derived.Test.YtollgfhpcidkgaaGreatDoorA15
import Derived.Test.YtollgfhpcidkgaaGreatDoorProg
import Derived.Test.YtollgfhpcidkgaaGreatDoorA3
import Derived.Test.YtollgfhpcidkgaaGreatDoorA7

section
open Go Go.Proofs Go.Mac
set_option maxRecDepth 100000
namespace Go.Mac
section
structure TreeOk (n N h:Nat) (P:Nat→List Pc) (par sz:Nat→Nat) (p:Nat→Nat→Nat) (lev:Nat→Nat):Prop where
 h1:1≤h
 len:∀ t,t<n→(P t).length=2*h
 up:∀ t,t<n→∀ i,i<h→(P t)[i]? = some (.up (2*p t i) (sz (p t i)) (2*h-i))
 dn:∀ t,t<n→∀ i,i<h→(P t)[2*h-1-i]? = some (.dn (2*p t i) (sz (p t i)))
 first:∀ t,t<n→par t=p t 0
 next:∀ t,t<n→∀ i,i+1<h→par (n+p t i)=p t (i+1)
 last:∀ t,t<n→N≤par (n+p t (h-1))
 node:∀ t,t<n→∀ i,i<h→p t i<N∧lev (p t i)=i
 size:∀ v,v<N→sz v=rsum (n+N) (fun x=>if par x=v then 1 else 0)∧1≤sz v
 down:∀ c,c<N→par (n+c)<N→lev (par (n+c))=lev c+1
 root:∀ t,t<n→∀ u,u<n→p t (h-1)=p u (h-1)

def hiA (h:Nat) (s:Nat→Nat) (a:AT):Nat :=
 match a.l with
 | .pc k o=>if k<h then (if o=1∧a.x+1=s k then k+1 else k) else if o≤2 then 2*h-k else 2*h-1-k
 | _=>0

def feA (h:Nat) (a:AT):Nat :=
 match a.l with
 | .pc k o=>if k<h then (if o=0 then k else k+1) else 2*h-k+1
 | .gone=>1
 | .plus=>1
 | _=>0

def bA (h:Nat) (a:AT):Nat:=if 1≤feA h a then a.r else a.r-1

def dnL (h:Nat):NL→Prop
 | .pc k _=>h≤k
 | .gone=>True
 | .plus=>True
 | _=>False

structure TI (n N R h:Nat) (P:Nat→List Pc) (par sz:Nat→Nat) (p:Nat→Nat→Nat) (b:Nat→Nat) (A:Nat→AT) (V:Nat→Nat) (ss:List Slp):Prop where
 reg:∀ t,t<n→RegOk R (A t)
 lo:∀ t,t<n→LocOk (P t) (A t).l
 thr:∀ t,t<n→b t=bA h (A t)
 arr:∀ c,c<N→par (n+c)<N→(∀ t,t<n→∀ j,j<hiA h (fun k=>sz (p t k)) (A t)→p t j≠c)→b (n+c)=V (2*c+1)
 hol:∀ t,t<n→∀ j,j+1<h→j<hiA h (fun k=>sz (p t k)) (A t)→b (n+p t j)=if j+2≤feA h (A t) then V (2*p t j+1)+1 else V (2*p t j+1)
 low:∀ x,x<n+N→par x<N→V (2*par x+1)≤b x∧b x≤V (2*par x+1)+1
 cnt:∀ v,v<N→(∀ t,t<n→∀ j,j<h→p t j=v→(A t).l≠.pc (2*h-1-j) 2)→V (2*v)+sz v*V (2*v+1)=rsum (n+N) fun x=>if par x=v then b x else 0
 win:∀ t,t<n→∀ j,j<h→(A t).l=.pc (2*h-1-j) 2→V (2*p t j)=0
 full:∀ t,t<n→∀ j,j<hiA h (fun k=>sz (p t k)) (A t)→∀ x,x<n+N→par x=p t j→b x=V (2*p t j+1)+1
 has:∀ v,v<N→(∀ x,x<n+N→par x=v→b x=V (2*v+1)+1)→∃ t,t<n∧∃ j,j<hiA h (fun k=>sz (p t k)) (A t)∧p t j=v
 one:∀ t,t<n→∀ u,u<n→∀ i j,i<hiA h (fun k=>sz (p t k)) (A t)→j<hiA h (fun k=>sz (p u k)) (A u)→p t i=p u j→t=u
 e0:∀ t,t<n→(A t).r≤V (2*par t+1)+1
 e2:∀ t,t<n→∀ j,j<hiA h (fun k=>sz (p t k)) (A t)→V (2*p t j+1)+1=(A t).r
 mic:∀ t,t<n→∀ i o,i<h→(A t).l=.pc i (o+2)→MicOk (A t) o (V (2*p t i+1))∧(o=5→(A t).r≤V (2*p t i+1))∧(A t).r≤V (2*p t i+1)+1
 x1:∀ t,t<n→∀ i,i<h→(A t).l=.pc i 1→(A t).x<sz (p t i)∧(A t).r≤V (2*p t i+1)+1
 e4:∀ t,t<n→dnL h (A t).l→∀ j,hiA h (fun k=>sz (p t k)) (A t)≤j→j<h→(A t).r≤V (2*p t j+1)
 mono:∀ v,v<N→par (n+v)<N→V (2*v+1)≤V (2*par (n+v)+1)
 slp:∀ s∈ss,∃ (t i:Nat),t<n∧i<h∧s = ⟨(t:Int),((2*p t i+1:Nat):Int)⟩∧(A t).l=.pc i 6∧(V (2*p t i+1)<(A t).r∨∃ u,u<n∧∃ j,j<h∧p u j=p t i∧(A u).l=.pc (2*h-1-j) 3)
 nd:(ss.map (·.t)).Nodup

section

variable {n N R h:Nat} {P:Nat→List Pc} {par sz:Nat→Nat} {p:Nat→Nat→Nat} {lev:Nat→Nat} {b:Nat→Nat} {A:Nat→AT} {V:Nat→Nat} {ss:List Slp} {t:Nat}

end
end
section
section

variable {n N R h:Nat} {P:Nat→List Pc} {par sz:Nat→Nat} {p:Nat→Nat→Nat} {lev:Nat→Nat} {b:Nat→Nat} {A:Nat→AT} {V:Nat→Nat} {ss:List Slp} {t:Nat}

end
end
section
section

variable {n N R h:Nat} {P:Nat→List Pc} {par sz:Nat→Nat} {p:Nat→Nat→Nat} {lev:Nat→Nat} {b:Nat→Nat} {A:Nat→AT} {V:Nat→Nat} {ss:List Slp} {t:Nat}

end
end
section
def bodyN (P:List Pc):List InsZ:=bodyQ (fun _=>0) 5 P

def isNet:Pc→Bool
 | .aw _=>true
 | .tl _ _=>true
 | _=>false

theorem bodyQ_net {q q':Nat→Nat}:∀ (p:Nat) (P:List Pc),(∀ x∈P,isNet x=true)→bodyQ q p P=bodyQ q' p P
 | _,[],_=>rfl
 | p,x::P,h=>by
   rw [bodyQ,bodyQ,bodyQ_net (q:=q) (q':=q') _ P fun y hy=>h y (by simp [hy])]
   have:=h x (by simp)
   cases x <;> first | rfl | cases this

theorem bodyP_net {P:List Pc} (h:∀ x∈P,isNet x=true):bodyP P=bodyN P:=bodyQ_net 5 P h

theorem bodyQ_app (q:Nat→Nat):∀ (P Q:List Pc) (p:Nat),bodyQ q p (P++Q)=bodyQ q p P++bodyQ q (p+offP P P.length) Q
 | [],_,_=>rfl
 | x::P,Q,p=>by
   rw [List.cons_append,bodyQ,bodyQ_app q P Q,bodyQ,List.append_assoc,List.length_cons,offP_cons,Nat.add_assoc]

theorem bodyN_snoc (P:List Pc) (x:Pc):bodyN (P++[x])=bodyN P++pcI (fun _=>0) (5+(bodyN P).length) x:=by
 rw [bodyN,bodyQ_app,bodyN,bodyQ_len]
 show _++(pcI _ _ x++[])=_
 rw [List.append_nil]

theorem bodyN_len (P:List Pc):(bodyN P).length=offP P P.length:=bodyQ_len _ _ _

theorem offP_app (P Q:List Pc):offP (P++Q) (P++Q).length=offP P P.length+offP Q Q.length:=by
 rw [offP,offP,offP,List.take_length,List.take_length,List.take_length,List.map_append,List.sum_append]

def awL (b j:Nat):List Pc:=(List.range j).map fun i=>.aw (b+i)
def tlL (b j:Nat):List Pc:=(List.range j).map fun i=>.tl (b+i) 1

theorem awL_succ (b j:Nat):awL b (j+1)=awL b j++[.aw (b+j)]:=by simp [awL,List.range_succ]
theorem tlL_succ (b j:Nat):tlL b (j+1)=tlL b j++[.tl (b+j) 1]:=by simp [tlL,List.range_succ]

theorem awL_off (b:Nat):∀ j,offP (awL b j) (awL b j).length=5*j
 | 0=>rfl
 | j+1=>by rw [awL_succ,offP_app,awL_off b j];show 5*j+5=_;omega

theorem tlL_off (b:Nat):∀ j,offP (tlL b j) (tlL b j).length=2*j
 | 0=>rfl
 | j+1=>by rw [tlL_succ,offP_app,tlL_off b j];show 2*j+2=_;omega

def staticP (n id:Nat):List Pc:=awL (2*id+1) (min 2 (n-(2*id+1)))++if id=0 then [.tl n n] else [.tl id 1,.aw n]

def mcsP (n id:Nat):List Pc:=awL (4*id+1) (min 4 (n-(4*id+1)))++((if 0<id then [.tl id 1,.aw (n+id)] else [])++tlL (n+(2*id+1)) (min 2 (n-(2*id+1))))

def levN (n:Nat):Nat:=if n≤1 then 0 else if n≤2 then 1 else if n≤4 then 2 else if n≤8 then 3 else 4

def spreadU (n id:Nat):Nat→List Pc
 | 0=>[]
 | r+1=>spreadU n id r++[.tl ((id+2 ^ r) % n*levN n+r) 1,.aw (id*levN n+r)]
def spreadP (n id:Nat):List Pc:=spreadU n id (levN n)

def loseN (L id:Nat):Nat→Nat→Nat
 | 0,r=>r
 | f+1,r=>if r<L∧id / 2 ^ r % 2=0 then loseN L id f (r+1) else r

def tourneyU (n id:Nat):Nat→List Pc
 | 0=>[]
 | r+1=>tourneyU n id r++if id+2 ^ r<n then [.aw (id*levN n+r)] else []
def tourneyD (n id:Nat):Nat→List Pc
 | 0=>[]
 | r+1=>(if id+2 ^ r<n then [.tl (n*levN n+id+2 ^ r) 1] else [])++tourneyD n id r
def tourneyP (n id:Nat):List Pc :=
 let r:=loseN (levN n) id 5 0
 tourneyU n id r++((if r<levN n then [.tl ((id-2 ^ r)*levN n+r) 1,.aw (n*levN n+id)] else [])++tourneyD n id r)

def centralP (n:Nat):List Pc:=[.up 0 n 2,.dn 0 n]

def cntN (n:Nat):Nat→Nat
 | 0=>(n+1) / 2
 | j+1=>(cntN n j+1) / 2
def firstN (n:Nat):Nat→Nat
 | 0=>0
 | j+1=>firstN n j+cntN n j
def hgtN (n:Nat):Nat:=if n≤2 then 1 else if n≤4 then 2 else if n≤8 then 3 else 4
def nodeN (n id j:Nat):Nat:=firstN n j+id / 2 ^ (j+1)
def sizeN (n id j:Nat):Nat:=min 2 ((match j with | 0=>n | j+1=>cntN n j)-2*(id / 2 ^ (j+1)))
def combU (n id h:Nat):Nat→List Pc
 | 0=>[]
 | j+1=>combU n id h j++[.up (2*nodeN n id j) (sizeN n id j) (2*h-j)]
def combD (n id:Nat):Nat→List Pc
 | 0=>[]
 | j+1=>.dn (2*nodeN n id j) (sizeN n id j)::combD n id j
def combineP (n id:Nat):List Pc:=combU n id (hgtN n) (hgtN n)++combD n id (hgtN n)

def kindP (k n id:Nat):List Pc :=
 match k with
 | 1=>centralP n
 | 2=>combineP n id
 | 3=>staticP n id
 | 4=>spreadP n id
 | 5=>tourneyP n id
 | _=>mcsP n id

def kindC (k n:Nat):Nat :=
 match k with
 | 1=>2
 | 2=>2*firstN n (hgtN n)
 | 3=>n+1
 | 4=>n*levN n
 | 5=>n*levN n+n
 | _=>2*n

def kindPs (k n R:Nat):List (List InsZ):=(List.range n).map fun id=>danceP R (kindP k n id)
end
section
section

variable {K:KP}

end
end
section
def isLev (n:Int) (l:Nat):Prop:=l≤61∧n≤2 ^ l∧(0<l→(2:Int) ^ (l-1)<n)

theorem pow_mono {a b:Nat} (h:a≤b):(2:Int) ^ a≤2 ^ b:=by
 have:=Nat.pow_le_pow_right (n:=2) (by decide) h
 exact_mod_cast this

theorem isLev_mono {n m:Int} {l k:Nat} (h1:isLev n l) (h2:isLev m k) (h:n≤m):l≤k:=by
 rcases Nat.lt_or_ge k l with hlt | hge
 · have h3:=h1.2.2 (by omega)
   have h4:=pow_mono (show k≤l-1 by omega)
   have h5:=h2.2.1
   omega
 · exact hge

theorem isLev_unique {n:Int} {l k:Nat} (h1:isLev n l) (h2:isLev n k):l=k :=
 Nat.le_antisymm (isLev_mono h1 h2 (Int.le_refl _)) (isLev_mono h2 h1 (Int.le_refl _))

section

variable {K:KP}

theorem levels (n:Int) (hn:n≤2305843009213693952) (hK:∀ l:Nat,isLev n l→K (i64 l) [] []):Does Tryz.prog 258 [i64 n] [] K:=by
 refine does Tryz.func258 rfl (by decide) ?_
 refine SS.loop (fun l:Nat=>l≤61∧(0<l→(2:Int) ^ (l-1)<n)) (fun l=>[(0,i64 n),(3,i64 l),(4,i64 (2 ^ l))]) (fun _=>[]) (fun l=>62-l) []
  (At.mk' [0,3,4] 0 (by simp) ⟨rfl,rfl⟩ rfl rfl (by simp) (by simp) (by simp)) ?_
 rintro l ⟨hl,hp⟩
 refine S_r ?_
 refine bZ (fun h=>?_) (fun h=>?_)
 · have h:=oTr h
   refine bZ (fun h'=>?_) (fun h'=>?_)
   · have hl':l<61:=by
      rcases Nat.lt_or_ge l 61 with h | h
      · exact h
      · have:l=61:=by omega
        subst this
        omega
     have hp2:(2:Int) ^ (l+1)=2 ^ l*2:=by rw [Int.pow_succ]
     have hp3:=pow_mono (show l+1≤61 by omega)
     have hp0:(0:Int)<2 ^ l:=Int.pow_pos (by decide)
     have e1:IntKind.i64.wrap ((l:Int)+1)=((l+1:Nat):Int):=by rw [wrap_i64] <;> omega
     have e2:IntKind.i64.wrap ((2:Int) ^ l*2)=2 ^ (l+1):=by rw [wrap_i64] <;> omega
     exact At.mk' [0,3,4] (l+1) ⟨⟨by omega,fun _=>h⟩,by omega⟩ ⟨by simp only [e1,e2],rfl⟩ rfl rfl (by simp) (by simp) (by simp)
   · have h':=oFa h'
     omega
 · have h:=oFa h
   exact hK l ⟨hl,by omega,hp⟩

theorem tell (cell n:Int) (hK:K (cv (.slc 0 0 2 none true)) [] [.rows false 5 [rowIns ⟨7,cell,0,-1,0⟩,rowIns ⟨15,cell,n,-1,0⟩]]):Does Tryz.prog 275 [i64 cell,i64 n] [] K:=by
 refine does Tryz.func275 rfl (by decide) ?_
 exact hK

theorem await (place cell:Int) (h:0≤place∧place≤1000000)
  (hK:K (cv (.slc 0 0 5 none true)) [] [.rows false 5 [rowIns ⟨6,1,cell,0,0⟩,rowIns ⟨12,1,0,place+3,0⟩,rowIns ⟨10,place+5,0,0,0⟩,rowIns ⟨14,cell,1,0,0⟩,rowIns ⟨10,place,0,0,0⟩]]) :
  Does Tryz.prog 274 [i64 place,i64 cell] [] K:=by
 rw [←wrap_i64 (place+3) (by omega) (by omega),←wrap_i64 (place+5) (by omega) (by omega)] at hK
 refine does Tryz.func274 rfl (by decide) ?_
 exact hK

end
end
section
section

variable {K:KP}

theorem partCheck {n id R:Nat} (hn:1≤n∧n≤16) (hid:id<n) (hR:R≤20) (hK:K (cv .niliface) [] []):Does Tryz.prog 252 [i64 n,i64 id,i64 R] [] K:=by
 refine does Tryz.func252 rfl (by decide) ?_
 refine bZ (fun h=>?_) (fun _=>?_)
 · have:=oTr h;omega
 refine bZ (fun h=>?_) (fun _=>?_)
 · have:(n:Int) > 16:=oTr h
   omega
 refine bZ (fun h=>?_) (fun _=>?_)
 · have:(id:Int)≥(n:Int):=oTr h
   omega
 refine bZ (fun h=>?_) (fun _=>?_)
 · have:(R:Int) > 20:=oTr h
   omega
 exact hK

theorem partWhole {b:List InsZ} {k R:Nat} {ro nn:Bool} {c:Option Nat} (hb:b.length=k) (hk:k≤10000) (hR:R≤1000) (hK:K (cv (.slc 1 0 (k+8) none true)) [] [.rows ro 5 (b.map rowIns),.rows false 5 ((wholeZ R b).map rowIns)]) :
  Does Tryz.prog 253 [i64 R,cv (.slc 0 0 k c nn)] [.rows ro 5 (b.map rowIns)] K:=by
 refine Does.keep 1 rfl ?_
 refine does Tryz.func253 rfl (by decide) ?_
 have e:List.take k (List.drop 0 (b.map rowIns))=b.map rowIns:=by rw [List.drop_zero,List.take_of_length_le (by simp;omega)]
 have e2:(b.map rowIns).length=k:=by simp [hb]
 refine And.intro (by simp;omega) (Or.inl (And.intro rfl (And.intro rfl (And.intro ?_ (And.intro ?_ ?_)))))
 · rw [e,e2]
   show (5+k)*40≤_
   omega
 · rw [e,e2]
   omega
 rw [e]
 refine And.intro (by decide) (Or.inl (And.intro rfl (And.intro (by simp [hb];omega) (And.intro ?_ (And.intro ?_ ?_)))))
 · rw [e2]
   show (5+k+3)*40≤_
   omega
 · rw [e2]
   show 5+k+3≤_
   omega
 rw [wrap_i64 ((R:Int)+1) (by omega) (by omega),e2]
 rw [show k+8=5+k+3 by omega,wholeZ,List.map_append,List.map_append] at hK
 exact ⟨3,[0,1],_,cv (.slc 1 0 (5+k+3) none true),rfl,rfl,by decide,by decide,rfl,rfl,rfl,rfl,rfl,hK⟩

theorem awaitN {p c:Nat} {a b:Int} (ha:a=p) (hb:b=c) (hp:p≤1000000) (hK:K (cv (.slc 0 0 5 none true)) [] [.rows false 5 ((awI p c).map rowIns)]):Does Tryz.prog 274 [i64 a,i64 b] [] K:=by
 subst ha hb
 exact await p c (by omega) hK

theorem tellN {c n:Nat} {a b:Int} (ha:a=c) (hb:b=n) (hK:K (cv (.slc 0 0 2 none true)) [] [.rows false 5 ((tlI c n).map rowIns)]):Does Tryz.prog 275 [i64 a,i64 b] [] K:=by
 subst ha hb
 exact tell c n hK

theorem centralBody {n:Nat} (id:Nat) (hn:1≤n∧n≤16) (hK:K (cv (.slc 0 0 12 none true)) [] [.rows false 5 ((bodyP (centralP n)).map rowIns)]):Does Tryz.prog 254 [i64 n,i64 id] [] K:=by
 refine Does.keep 0 rfl ?_
 refine does Tryz.func254 rfl (by decide) ?_
 change Does Tryz.prog 274 _ _ _
 refine Does.alone 1 (awaitN (p:=7) (c:=1) rfl rfl (by decide) ?_)
 refine And.intro (Nat.le_of_ble_eq_true rfl) (Or.inl (And.intro rfl (And.intro rfl (And.intro (Nat.le_of_ble_eq_true rfl) (And.intro (Nat.le_of_ble_eq_true rfl) ?_)))))
 refine And.intro (Nat.le_of_ble_eq_true rfl) (Or.inl (And.intro rfl (And.intro rfl (And.intro (Nat.le_of_ble_eq_true rfl) (And.intro (Nat.le_of_ble_eq_true rfl) ?_)))))
 change Does Tryz.prog 275 _ _ _
 refine Does.alone 3 (tellN (c:=1) (n:=n) rfl rfl ?_)
 refine And.intro (Nat.le_of_ble_eq_true rfl) (Or.inl (And.intro rfl (And.intro rfl (And.intro (Nat.le_of_ble_eq_true rfl) (And.intro (Nat.le_of_ble_eq_true rfl) ?_)))))
 rw [wrap_i64 ((n:Int)-1) (by omega) (by omega)]
 exact ⟨4,[0],[.rows false 5 ((bodyP (centralP n)).map rowIns)],cv (.slc 0 0 12 none true),rfl,rfl,by decide,by decide,rfl,rfl,rfl,rfl,rfl,hK⟩

theorem staticBody {n id:Nat} (hn:1≤n∧n≤16) (hid:id<n) (hK:K (cv (.slc 0 0 (bodyN (staticP n id)).length none false)) [] [.rows false 5 ((bodyN (staticP n id)).map rowIns)]):Does Tryz.prog 257 [i64 n,i64 id] [] K:=by
 refine Does.keep 0 rfl ?_
 refine does Tryz.func257 rfl (by decide) ?_
 refine SS.nil 5 5 (by decide) rfl ?_
 have hlen:∀ j,(bodyN (awL (2*id+1) j)).length=5*j:=fun j=>by rw [bodyN_len,awL_off]
 have w1:IntKind.i64.wrap (IntKind.i64.wrap (2*(id:Int))+1)=((2*id+1:Nat):Int):=by
  rw [wrap_i64 (2*(id:Int)) (by omega) (by omega),wrap_i64 (2*(id:Int)+1) (by omega) (by omega)]
  omega
 have w2:IntKind.i64.wrap (IntKind.i64.wrap (2*(id:Int))+2)=((2*id+2:Nat):Int):=by
  rw [wrap_i64 (2*(id:Int)) (by omega) (by omega),wrap_i64 (2*(id:Int)+2) (by omega) (by omega)]
  omega
 refine SS.loop (fun j:Nat=>j≤min 2 (n-(2*id+1))) (fun j=>[(0,i64 n),(1,i64 id),(5,cv (.slc 0 0 (5*j) none false)),(6,i64 ((2*id+1+j:Nat):Int))]) (fun j=>[.rows false 5 ((bodyN (awL (2*id+1) j)).map rowIns)]) (fun j=>2-j) [0]
  (At.mk' [0,1,5,6] 0 (Nat.zero_le _) ⟨by rw [w1];rfl,rfl⟩ rfl rfl (by simp) (by simp) (by simp)) ?_
 intro j hj
 change j≤min 2 (n-(2*id+1)) at hj
 have wj:IntKind.i64.wrap (((2*id+1+j:Nat):Int)+1)=((2*id+1+(j+1):Nat):Int):=by
  rw [wrap_i64 _ (by omega) (by omega)]
  omega
 have w5:IntKind.i64.wrap (5+((5*j:Nat):Int))=((5+5*j:Nat):Int):=by
  rw [wrap_i64 _ (by omega) (by omega)]
  omega
 refine S_r ?_
 refine bZ (fun h1=>bZ (fun h2=>?_) (fun h2=>?_)) (fun h1=>?_)
 · have h1:((2*id+1+j:Nat):Int)≤IntKind.i64.wrap (IntKind.i64.wrap (2*(id:Int))+2):=oTr h1
   have h2:((2*id+1+j:Nat):Int)<n:=oTr h2
   rw [w2] at h1
   change Does Tryz.prog 274 _ _ _
   refine Does.alone 1 (awaitN w5 rfl (by omega) ?_)
   refine And.intro (Nat.le_of_ble_eq_true rfl) (Or.inl (And.intro rfl (And.intro (by simp [hlen]) (And.intro (by show (5*j+5)*40≤_;omega) (And.intro (by show 5*j+5≤_;omega) ?_)))))
   refine At.mk' [0,1,5,6] (j+1) ⟨by show j+1≤min 2 (n-(2*id+1));omega,by show 2-(j+1)<2-j;omega⟩ ⟨by rw [wj];rfl,rfl⟩ ?_ rfl (by simp) (by simp) (by decide)
   rw [awL_succ,bodyN_snoc,hlen,List.map_append]
   rfl
 all_goals
  have hje:j=min 2 (n-(2*id+1)):=by
   first
   | (have h2:¬((2*id+1+j:Nat):Int)<n:=oFa h2
      omega)
   | (have h1:¬((2*id+1+j:Nat):Int)≤IntKind.i64.wrap (IntKind.i64.wrap (2*(id:Int))+2):=oFa h1
      rw [w2] at h1
      omega)
  have hj2:j≤2:=by omega
  refine bZ (fun h3=>?_) (fun h3=>?_)
  · have h3:id=0:=by
     have:(id:Int)=0:=by simpa using h3
     omega
    rw [staticP,if_pos h3,←hje,bodyN_snoc,List.length_append,List.map_append,hlen] at hK
    change Does Tryz.prog 275 _ _ _
    refine Does.alone 1 (tellN (c:=n) (n:=n) rfl rfl ?_)
    refine And.intro (Nat.le_of_ble_eq_true rfl) (Or.inl (And.intro rfl (And.intro (by simp [hlen]) (And.intro (by show (5*j+2)*40≤_;omega) (And.intro (by show 5*j+2≤_;omega) ?_)))))
    exact ⟨2,[0],[.rows false 5 ((bodyN (awL (2*id+1) j)).map rowIns++(tlI n n).map rowIns)],cv (.slc 0 0 (5*j+2) none false),rfl,rfl,by decide,by decide,rfl,rfl,rfl,rfl,rfl,hK⟩
  · have h3:id≠0:=by
     have:(id:Int)≠0:=by simpa using h3
     omega
    rw [staticP,if_neg h3,←hje,show awL (2*id+1) j++[Pc.tl id 1,Pc.aw n]=(awL (2*id+1) j++[Pc.tl id 1])++[Pc.aw n] by simp,bodyN_snoc,bodyN_snoc,List.length_append,List.length_append,List.map_append,List.map_append,hlen] at hK
    have w6:IntKind.i64.wrap (5+((5*j+2:Nat):Int))=((5+(5*j+2):Nat):Int):=by
     rw [wrap_i64 _ (by omega) (by omega)]
     omega
    change Does Tryz.prog 275 _ _ _
    refine Does.alone 1 (tellN (c:=id) (n:=1) rfl rfl ?_)
    refine And.intro (Nat.le_of_ble_eq_true rfl) (Or.inl (And.intro rfl (And.intro (by simp [hlen]) (And.intro (by show (5*j+2)*40≤_;omega) (And.intro (by show 5*j+2≤_;omega) ?_)))))
    change Does Tryz.prog 274 _ _ _
    refine Does.alone 2 (awaitN w6 (c:=n) rfl (by omega) ?_)
    refine And.intro (Nat.le_of_ble_eq_true rfl) (Or.inl (And.intro rfl (And.intro (by simp [hlen]) (And.intro (by show (5*j+2+5)*40≤_;omega) (And.intro (by show 5*j+2+5≤_;omega) ?_)))))
    exact ⟨3,[0],[.rows false 5 ((bodyN (awL (2*id+1) j)).map rowIns++(tlI id 1).map rowIns++(awI (5+(5*j+2)) n).map rowIns)],cv (.slc 0 0 (5*j+2+5) none false),rfl,rfl,by decide,by decide,rfl,rfl,rfl,rfl,rfl,hK⟩

end
end
section
section

variable {K:KP}

set_option maxHeartbeats 1000000 in
theorem mcsBody {n id:Nat} (hn:1≤n∧n≤16) (hid:id<n) (hK:K (cv (.slc 0 0 (bodyN (mcsP n id)).length none false)) [] [.rows false 5 ((bodyN (mcsP n id)).map rowIns)]):Does Tryz.prog 261 [i64 n,i64 id] [] K:=by
 refine Does.keep 0 rfl ?_
 refine does Tryz.func261 rfl (by decide) ?_
 refine SS.nil 5 5 (by decide) rfl ?_
 have hlen:∀ j,(bodyN (awL (4*id+1) j)).length=5*j:=fun j=>by rw [bodyN_len,awL_off]
 have w1:IntKind.i64.wrap (IntKind.i64.wrap (4*(id:Int))+1)=((4*id+1:Nat):Int):=by
  rw [wrap_i64 (4*(id:Int)) (by omega) (by omega),wrap_i64 (4*(id:Int)+1) (by omega) (by omega)]
  omega
 have w2:IntKind.i64.wrap (IntKind.i64.wrap (4*(id:Int))+4)=((4*id+4:Nat):Int):=by
  rw [wrap_i64 (4*(id:Int)) (by omega) (by omega),wrap_i64 (4*(id:Int)+4) (by omega) (by omega)]
  omega
 have v1:IntKind.i64.wrap (IntKind.i64.wrap (2*(id:Int))+1)=((2*id+1:Nat):Int):=by
  rw [wrap_i64 (2*(id:Int)) (by omega) (by omega),wrap_i64 (2*(id:Int)+1) (by omega) (by omega)]
  omega
 have v2:IntKind.i64.wrap (IntKind.i64.wrap (2*(id:Int))+2)=((2*id+2:Nat):Int):=by
  rw [wrap_i64 (2*(id:Int)) (by omega) (by omega),wrap_i64 (2*(id:Int)+2) (by omega) (by omega)]
  omega
 refine SS.loop (fun j:Nat=>j≤min 4 (n-(4*id+1))) (fun j=>[(0,i64 n),(1,i64 id),(5,cv (.slc 0 0 (5*j) none false)),(6,i64 ((4*id+1+j:Nat):Int))]) (fun j=>[.rows false 5 ((bodyN (awL (4*id+1) j)).map rowIns)]) (fun j=>4-j) [0]
  (At.mk' [0,1,5,6] 0 (Nat.zero_le _) ⟨by rw [w1];rfl,rfl⟩ rfl rfl (by simp) (by simp) (by simp)) ?_
 intro j hj
 change j≤min 4 (n-(4*id+1)) at hj
 have wj:IntKind.i64.wrap (((4*id+1+j:Nat):Int)+1)=((4*id+1+(j+1):Nat):Int):=by
  rw [wrap_i64 _ (by omega) (by omega)]
  omega
 have w5:IntKind.i64.wrap (5+((5*j:Nat):Int))=((5+5*j:Nat):Int):=by
  rw [wrap_i64 _ (by omega) (by omega)]
  omega
 have w6:IntKind.i64.wrap (5+((5*j+2:Nat):Int))=((5+(5*j+2):Nat):Int):=by
  rw [wrap_i64 _ (by omega) (by omega)]
  omega
 have w7:IntKind.i64.wrap ((n:Int)+id)=((n+id:Nat):Int):=by
  rw [wrap_i64 _ (by omega) (by omega)]
  omega
 refine S_r ?_
 refine bZ (fun h1=>bZ (fun h2=>?_) (fun h2=>?_)) (fun h1=>?_)
 · have h1:((4*id+1+j:Nat):Int)≤IntKind.i64.wrap (IntKind.i64.wrap (4*(id:Int))+4):=oTr h1
   have h2:((4*id+1+j:Nat):Int)<n:=oTr h2
   rw [w2] at h1
   change Does Tryz.prog 274 _ _ _
   refine Does.alone 1 (awaitN w5 rfl (by omega) ?_)
   refine And.intro (Nat.le_of_ble_eq_true rfl) (Or.inl (And.intro rfl (And.intro (by simp [hlen]) (And.intro (by show (5*j+5)*40≤_;omega) (And.intro (by show 5*j+5≤_;omega) ?_)))))
   refine At.mk' [0,1,5,6] (j+1) ⟨by show j+1≤min 4 (n-(4*id+1));omega,by show 4-(j+1)<4-j;omega⟩ ⟨by rw [wj];rfl,rfl⟩ ?_ rfl (by simp) (by simp) (by decide)
   rw [awL_succ,bodyN_snoc,hlen,List.map_append]
   rfl
 all_goals
  have hje:j=min 4 (n-(4*id+1)):=by
   first
   | (have h2:¬((4*id+1+j:Nat):Int)<n:=oFa h2
      omega)
   | (have h1:¬((4*id+1+j:Nat):Int)≤IntKind.i64.wrap (IntKind.i64.wrap (4*(id:Int))+4):=oFa h1
      rw [w2] at h1
      omega)
  have hj4:j≤4:=by omega
  refine bZ (fun h3=>?_) (fun h3=>?_)
  · have h3:0<id:=by
     have:(id:Int) > 0:=oTr h3
     omega
    have hB:mcsP n id=(awL (4*id+1) j++[Pc.tl id 1]++[Pc.aw (n+id)])++tlL (n+(2*id+1)) (min 2 (n-(2*id+1))):=by
     rw [mcsP,if_pos h3,←hje]
     simp
    have hl7:(bodyN (awL (4*id+1) j++[Pc.tl id 1]++[Pc.aw (n+id)])).length=5*j+7:=by
     rw [bodyN_len,offP_app,offP_app,awL_off]
     rfl
    have hr7:(bodyN (awL (4*id+1) j)).map rowIns++(tlI id 1).map rowIns++(awI (5+(5*j+2)) (n+id)).map rowIns=(bodyN (awL (4*id+1) j++[Pc.tl id 1]++[Pc.aw (n+id)])).map rowIns:=by
     rw [bodyN_snoc,bodyN_snoc,List.length_append,hlen,List.map_append,List.map_append]
     rfl
    rw [hB] at hK
    generalize hBB:awL (4*id+1) j++[Pc.tl id 1]++[Pc.aw (n+id)]=B at *
    have hl2:∀ i,(bodyN (B++tlL (n+(2*id+1)) i)).length=5*j+7+2*i:=fun i=>by rw [bodyN_len,offP_app,tlL_off,←bodyN_len,hl7]
    change Does Tryz.prog 275 _ _ _
    refine Does.alone 1 (tellN (c:=id) (n:=1) rfl rfl ?_)
    refine And.intro (Nat.le_of_ble_eq_true rfl) (Or.inl (And.intro rfl (And.intro (by simp [hlen]) (And.intro (by show (5*j+2)*40≤_;omega) (And.intro (by show 5*j+2≤_;omega) ?_)))))
    change Does Tryz.prog 274 _ _ _
    refine Does.alone 2 (awaitN w6 w7 (by omega) ?_)
    refine And.intro (Nat.le_of_ble_eq_true rfl) (Or.inl (And.intro rfl (And.intro (by simp [hlen]) (And.intro (by show (5*j+2+5)*40≤_;omega) (And.intro (by show 5*j+2+5≤_;omega) ?_)))))
    refine SS.loop (fun i:Nat=>i≤min 2 (n-(2*id+1))) (fun i=>[(0,i64 n),(1,i64 id),(5,cv (.slc 0 0 (5*j+7+2*i) none false)),(7,i64 ((2*id+1+i:Nat):Int))]) (fun i=>[.rows false 5 ((bodyN (B++tlL (n+(2*id+1)) i)).map rowIns)]) (fun i=>2-i) [0]
     (At.mk' [0,1,5,7] 0 (Nat.zero_le _) ⟨by rw [v1];rfl,rfl⟩ ?_ rfl (by simp) (by simp) (by simp)) ?_
    · rw [show B++tlL (n+(2*id+1)) 0=B from List.append_nil _,←hr7]
      rfl
    intro i hi
    change i≤min 2 (n-(2*id+1)) at hi
    have vi:IntKind.i64.wrap (((2*id+1+i:Nat):Int)+1)=((2*id+1+(i+1):Nat):Int):=by
     rw [wrap_i64 _ (by omega) (by omega)]
     omega
    have vn:IntKind.i64.wrap ((n:Int)+((2*id+1+i:Nat):Int))=((n+(2*id+1)+i:Nat):Int):=by
     rw [wrap_i64 _ (by omega) (by omega)]
     omega
    refine S_r ?_
    refine bZ (fun h4=>bZ (fun h5=>?_) (fun h5=>?_)) (fun h4=>?_)
    · have h4:((2*id+1+i:Nat):Int)≤IntKind.i64.wrap (IntKind.i64.wrap (2*(id:Int))+2):=oTr h4
      have h5:((2*id+1+i:Nat):Int)<n:=oTr h5
      rw [v2] at h4
      change Does Tryz.prog 275 _ _ _
      refine Does.alone 1 (tellN (n:=1) vn rfl ?_)
      refine And.intro (Nat.le_of_ble_eq_true rfl) (Or.inl (And.intro rfl (And.intro (by simp [hl2]) (And.intro (by show (5*j+7+2*i+2)*40≤_;omega) (And.intro (by show 5*j+7+2*i+2≤_;omega) ?_)))))
      refine At.mk' [0,1,5,7] (i+1) ⟨by show i+1≤min 2 (n-(2*id+1));omega,by show 2-(i+1)<2-i;omega⟩ ⟨by rw [vi];rfl,rfl⟩ ?_ rfl (by simp) (by simp) (by decide)
      rw [tlL_succ,←List.append_assoc,bodyN_snoc,hl2,List.map_append]
      rfl
    all_goals
     have hie:i=min 2 (n-(2*id+1)):=by
      first
      | (have h5:¬((2*id+1+i:Nat):Int)<n:=oFa h5
         omega)
      | (have h4:¬((2*id+1+i:Nat):Int)≤IntKind.i64.wrap (IntKind.i64.wrap (2*(id:Int))+2):=oFa h4
         rw [v2] at h4
         omega)
     rw [←hie,hl2] at hK
     exact ⟨1,[0],[.rows false 5 ((bodyN (B++tlL (n+(2*id+1)) i)).map rowIns)],cv (.slc 0 0 (5*j+7+2*i) none false),rfl,rfl,by decide,by decide,rfl,rfl,rfl,rfl,rfl,hK⟩
  · have h3:id=0:=by
     have:¬(id:Int) > 0:=oFa h3
     omega
    have hB:mcsP n id=awL (4*id+1) j++tlL (n+(2*id+1)) (min 2 (n-(2*id+1))):=by
     rw [mcsP,if_neg (by omega),←hje]
     rfl
    rw [hB] at hK
    have hl2:∀ i,(bodyN (awL (4*id+1) j++tlL (n+(2*id+1)) i)).length=5*j+2*i:=fun i=>by rw [bodyN_len,offP_app,tlL_off,awL_off]
    refine SS.loop (fun i:Nat=>i≤min 2 (n-(2*id+1))) (fun i=>[(0,i64 n),(1,i64 id),(5,cv (.slc 0 0 (5*j+2*i) none false)),(7,i64 ((2*id+1+i:Nat):Int))]) (fun i=>[.rows false 5 ((bodyN (awL (4*id+1) j++tlL (n+(2*id+1)) i)).map rowIns)]) (fun i=>2-i) [0]
     (At.mk' [0,1,5,7] 0 (Nat.zero_le _) ⟨by rw [v1];rfl,rfl⟩ ?_ rfl (by simp) (by simp) (by simp)) ?_
    · rw [show awL (4*id+1) j++tlL (n+(2*id+1)) 0=awL (4*id+1) j from List.append_nil _]
      rfl
    intro i hi
    change i≤min 2 (n-(2*id+1)) at hi
    have vi:IntKind.i64.wrap (((2*id+1+i:Nat):Int)+1)=((2*id+1+(i+1):Nat):Int):=by
     rw [wrap_i64 _ (by omega) (by omega)]
     omega
    have vn:IntKind.i64.wrap ((n:Int)+((2*id+1+i:Nat):Int))=((n+(2*id+1)+i:Nat):Int):=by
     rw [wrap_i64 _ (by omega) (by omega)]
     omega
    refine S_r ?_
    refine bZ (fun h4=>bZ (fun h5=>?_) (fun h5=>?_)) (fun h4=>?_)
    · have h4:((2*id+1+i:Nat):Int)≤IntKind.i64.wrap (IntKind.i64.wrap (2*(id:Int))+2):=oTr h4
      have h5:((2*id+1+i:Nat):Int)<n:=oTr h5
      rw [v2] at h4
      change Does Tryz.prog 275 _ _ _
      refine Does.alone 1 (tellN (n:=1) vn rfl ?_)
      refine And.intro (Nat.le_of_ble_eq_true rfl) (Or.inl (And.intro rfl (And.intro (by simp [hl2]) (And.intro (by show (5*j+2*i+2)*40≤_;omega) (And.intro (by show 5*j+2*i+2≤_;omega) ?_)))))
      refine At.mk' [0,1,5,7] (i+1) ⟨by show i+1≤min 2 (n-(2*id+1));omega,by show 2-(i+1)<2-i;omega⟩ ⟨by rw [vi];rfl,rfl⟩ ?_ rfl (by simp) (by simp) (by decide)
      rw [tlL_succ,←List.append_assoc,bodyN_snoc,hl2,List.map_append]
      rfl
    all_goals
     have hie:i=min 2 (n-(2*id+1)):=by
      first
      | (have h5:¬((2*id+1+i:Nat):Int)<n:=oFa h5
         omega)
      | (have h4:¬((2*id+1+i:Nat):Int)≤IntKind.i64.wrap (IntKind.i64.wrap (2*(id:Int))+2):=oFa h4
         rw [v2] at h4
         omega)
     rw [←hie,hl2] at hK
     exact ⟨1,[0],[.rows false 5 ((bodyN (awL (4*id+1) j++tlL (n+(2*id+1)) i)).map rowIns)],cv (.slc 0 0 (5*j+2*i) none false),rfl,rfl,by decide,by decide,rfl,rfl,rfl,rfl,rfl,hK⟩

end
end
end Go.Mac
end
