/- Texts that belong together; the first of them:  -/
import Derived.Test.YtollgfhpcidkgaaGreatDoorA17
import Derived.Test.YtollgfhpcidkgaaGreatDoorA14
import Derived.Test.YtollgfhpcidkgaaGreatDoorA12
import Derived.Test.YtollgfhpcidkgaaGreatDoorA6
import Derived.Test.YtollgfhpcidkgaaGreatDoorA18
import Derived.Test.YtollgfhpcidkgaaGreatDoorA15

section
open Go Go.Proofs Go.Mac
set_option maxRecDepth 100000

namespace Go.Mac

abbrev kindsA:List CV:=[.f (.str []),.nilfunc,.nilfunc,
 .f (.str [99,101,110,116,114,97,108]),.func 208 [],.func 209 [],
 .f (.str [99,111,109,98,105,110,101]),.func 210 [],.func 211 [],
 .f (.str [115,116,97,116,105,99]),.func 212 [],.func 213 [],
 .f (.str [115,112,114,101,97,100]),.func 214 [],.func 215 [],
 .f (.str [116,111,117,114,110,101,121]),.func 216 [],.func 217 [],
 .f (.str [109,99,115]),.func 218 [],.func 219 []]

section

variable {K:AV→List Nat→List PO→Prop}

theorem danceKinds (h:K (.p (.agg kindsA)) [] []):Does Tryz.prog 166 [] [] K:=by
 refine does Tryz.func166 rfl (by decide) ?_
 exact h

theorem danceName {k:Int} (hk:1≤k∧k≤6) (h:∀ s,K (.tup [.c (.f (.str s)),.c .niliface]) [] []):Does Tryz.prog 220 [i64 k] [] K:=by
 refine does Tryz.func220 rfl (by decide) ?_
 refine brc_intro (fun h=>?_) (fun _=>?_)
 · have:=of_decide_eq_true h;omega
 refine brc_intro (fun h=>?_) (fun _=>?_)
 · have:k≥7:=of_decide_eq_true h
   omega
 change Does Tryz.prog 166 _ _ _
 refine Does.alone 0 (danceKinds ?_)
 have hk6:k=1∨k=2∨k=3∨k=4∨k=5∨k=6:=by omega
 rcases hk6 with rfl | rfl | rfl | rfl | rfl | rfl
 all_goals
   refine And.intro (by decide) (And.intro (by decide) (Exists.intro _ (And.intro rfl ?_)))
   exact h _

def cellsF (k:Int):FuncId:=if k=1 then 208 else if k=2 then 210 else if k=3 then 212 else if k=4 then 214 else if k=5 then 216 else 218
def codeF (k:Int):FuncId:=if k=1 then 209 else if k=2 then 211 else if k=3 then 213 else if k=4 then 215 else if k=5 then 217 else 219

theorem danceCells {k:Int} {n c:Nat} (hk:1≤k∧k≤6) (hc:∀ K:AV→List Nat→List PO→Prop,K (.tup [.c (.f (.int .i64 c)),okP]) [] []→Does Tryz.prog (cellsF k) [i64 n] [] K) (h:K (.tup [.c (.f (.int .i64 c)),okP]) [] []):Does Tryz.prog 167 [i64 k,i64 n] [] K:=by
 refine does Tryz.func167 rfl (by decide) ?_
 change Does Tryz.prog 220 _ _ _
 refine Does.alone 0 (danceName hk fun s=>?_)
 change Does Tryz.prog 166 _ _ _
 refine Does.alone 0 (danceKinds ?_)
 have hk6:k=1∨k=2∨k=3∨k=4∨k=5∨k=6:=by omega
 rcases hk6 with rfl | rfl | rfl | rfl | rfl | rfl
 all_goals
   refine And.intro (by decide) (And.intro (by decide) (Exists.intro _ (And.intro rfl ?_)))
   exact hc _ h

theorem danceCode {k:Int} {n id R l:Nat} {p:List InsZ} (hk:1≤k∧k≤6) (hc:∀ K:AV→List Nat→List PO→Prop,K (.tup [.c (.slc 0 0 l none true),okP]) [] [.rows false 5 (p.map rowIns)]→Does Tryz.prog (codeF k) [i64 n,i64 id,i64 R] [] K)
   (h:K (.tup [.c (.slc 0 0 l none true),okP]) [] [.rows false 5 (p.map rowIns)]):Does Tryz.prog 168 [i64 k,i64 n,i64 id,i64 R] [] K:=by
 refine does Tryz.func168 rfl (by decide) ?_
 change Does Tryz.prog 220 _ _ _
 refine Does.alone 0 (danceName hk fun s=>?_)
 change Does Tryz.prog 166 _ _ _
 refine Does.alone 0 (danceKinds ?_)
 have hk6:k=1∨k=2∨k=3∨k=4∨k=5∨k=6:=by omega
 rcases hk6 with rfl | rfl | rfl | rfl | rfl | rfl
 all_goals
   refine And.intro (by decide) (And.intro (by decide) (Exists.intro _ (And.intro rfl ?_)))
   exact hc _ h

end

structure KindOk (k:Int) (n R nc:Nat) (ps:List (List InsZ)):Prop where
 k6:1≤k∧k≤6
 n16:1≤n∧n≤16
 len:ps.length=n
 nc300:nc≤300
 right:∀ p∈ps,rightZ p nc=true
 cells:∀ K:AV→List Nat→List PO→Prop,K (.tup [.c (.f (.int .i64 nc)),okP]) [] []→Does Tryz.prog (cellsF k) [i64 n] [] K
 code:∀ (id:Nat) (p:List InsZ),ps[id]? = some p→∀ K:AV→List Nat→List PO→Prop,K (.tup [.c (.slc 0 0 p.length none true),okP]) [] [.rows false 5 (p.map rowIns)]→Does Tryz.prog (codeF k) [i64 n,i64 id,i64 R] [] K

section

variable {K:AV→List Nat→List PO→Prop}

theorem danceNew {k:Int} {n R nc:Nat} {ps:List (List InsZ)} (hk:KindOk k n R nc ps) (h:∀ v,okV v→WF (mz0 ps (List.replicate nc 0))→K (.tup [.c (.ptr 0 0),okP]) [] (machS 0 (mz0 ps (List.replicate nc 0)) v)) :
   Does Tryz.prog 113 [i64 k,i64 n,i64 R] [] K:=by
 have hps:=hk.len
 have hnc:=hk.nc300
 obtain ⟨hn1,hn⟩:=hk.n16
 refine Does.keep 0 rfl ?_
 refine does Tryz.func113 rfl (by decide) ?_
 change Does Tryz.prog 167 _ _ _
 refine Does.alone 0 (danceCells hk.k6 hk.cells ?_)
 refine SS.nil2 10 5 rfl ?_
 refine SS.loop (fun i:Nat=>i≤n) (fun i=>[(0,i64 k),(1,i64 n),(2,i64 R),(8,i64 nc),(10,cv (.slc 0 0 i none false)),(23,i64 n),(24,i64 i)])
   (fun i=>[.rows2 false 5 ((ps.take i).map fun p=>p.map rowIns)]) (fun i=>n-i) [0,1,2,3]
   (At.mk' [0,1,2,8,10,23,24] 0 (by simp) ⟨rfl,rfl⟩ rfl rfl (by simp) (by simp) (by simp)) ?_
 intro i hi
 change i≤n at hi
 refine S_r ?_
 refine brc_intro (fun hlt=>?_) (fun hlt=>?_)
 · have hlt:i<n:=by
     have:=of_decide_eq_true hlt
     have:(i:Int)<(n:Int):=this
     omega
   obtain ⟨p,hp⟩ : ∃ p,ps[i]? = some p:=⟨_,List.getElem?_eq_getElem (by omega)⟩
   have hrp:=hk.right p (List.mem_of_getElem? hp)
   have hpl:p.length≤600:=by
     simp only [rightZ,Bool.and_eq_true,decide_eq_true_eq] at hrp
     exact hrp.1.1.2.2
   refine SS.inlR ?_
   change Does Tryz.prog 168 _ _ _
   refine Does.alone 1 (danceCode hk.k6 (hk.code i p hp) ?_)
   refine And.intro (by simp) (And.intro rfl (And.intro (by simp;omega) (at2 (by show (i+1)*24≤_;omega) (by omega) ?_)))
   refine At.mk' [0,1,2,8,10,23,24] (i+1) ⟨hlt,by omega⟩ ⟨?_,rfl⟩ ?_ rfl (by simp) (by simp) (by decide)
   · rw [wrap_i64 (i+1) (by omega) (by omega)]
     rfl
   · have e:(ps.take (i+1)).map (fun p=>p.map rowIns)=(ps.take i).map (fun p=>p.map rowIns)++[p.map rowIns]:=by
       rw [List.take_add_one,hp,List.map_append]
       rfl
     rw [e]
     rfl
 · have hlt:¬(i:Int)<(n:Int):=of_decide_eq_false hlt
   obtain rfl:n=i:=by omega
   rw [show ps.take n=ps from List.take_of_length_le (by omega)]
   have w0:WF (mz0 ps (List.replicate nc 0)):=mz0_wf (by omega) (by rw [List.length_replicate];exact hnc) (by rw [List.length_replicate];exact hk.right) fun x hx=>by rw [(List.mem_replicate.1 hx).2];omega
   refine at2 (by omega) (by omega) (at2 (by show ((8:Nat):Int)*(nc:Int)≤_;omega) (by omega) ?_)
   change Does Tryz.prog 27 _ _ _
   have hwl:(List.replicate nc (0:Int)).length=nc:=List.length_replicate
   have hrw:(List.replicate nc (0:Int)).map rowU=List.replicate nc [FC.int .u64 0]:=by rw [List.map_replicate]
   have hright:=hk.right
   rw [Int.toNat_natCast,←hrw]
   generalize List.replicate nc (0:Int)=ws at h w0 hwl ⊢
   clear hk hrw
   subst hwl hps
   refine Does.on 2 [0,1] _ _ (coreNew (ps:=ps) (ws:=ws) (n:=ps.length) (nc:=ws.length) rfl rfl hn hnc hright fun v hv=>?_)
   exact ⟨11,[2,3,4,5,6,7,8,9,10],machS 0 (mz0 ps ws) v,.tup [.c (.ptr 0 0),okP],rfl,rfl,by decide,by decide,rfl,rfl,rfl,rfl,rfl,h v hv w0⟩

end

end Go.Mac
end

section
open Go Go.Proofs Go.Mac
set_option maxRecDepth 100000

namespace Go.Mac

def isUp (c s j:Nat):Pc→Bool
 | .up c' s' j'=>c' == c && s' == s && j' == j
 | _=>false
def isDn (c s:Nat):Pc→Bool
 | .dn c' s'=>c' == c && s' == s
 | _=>false

def someB (f:Pc→Bool):Option Pc→Bool
 | some y=>f y
 | none=>false

def treeB (n N h:Nat) (P:Nat→List Pc) (par sz:Nat→Nat) (p:Nat→Nat→Nat) (lev:Nat→Nat):Bool :=
 decide (1≤h) && (List.range n).all (fun t=>(P t).length == 2*h && par t == p t 0 && decide (N≤par (n+p t (h-1))) && p t (h-1) == p 0 (h-1) &&
   (List.range h).all fun i=>someB (isUp (2*p t i) (sz (p t i)) (2*h-i)) (P t)[i]? && someB (isDn (2*p t i) (sz (p t i))) (P t)[2*h-1-i]? && decide (p t i<N) && lev (p t i) == i && (decide (h≤i+1) || par (n+p t i) == p t (i+1))) &&
 (List.range N).all fun v=>sz v == rsum (n+N) (fun x=>if par x=v then 1 else 0) && decide (1≤sz v) && (decide (N≤par (n+v)) || lev (par (n+v)) == lev v+1)

theorem treeB_ok {n N h:Nat} {P:Nat→List Pc} {par sz:Nat→Nat} {p:Nat→Nat→Nat} {lev:Nat→Nat} (hb:treeB n N h P par sz p lev=true):TreeOk n N h P par sz p lev:=by
 simp only [treeB,Bool.and_eq_true] at hb
 obtain ⟨⟨h1,h2⟩,h3⟩:=hb
 have ht:=fun t (ht:t<n)=>all_range h2 ht
 have hv:=fun v (hv:v<N)=>all_range h3 hv
 simp only [Bool.and_eq_true,Bool.or_eq_true,beq_iff_eq,decide_eq_true_eq] at h1 ht hv
 have hi:=fun t (h9:t<n) i (hi:i<h)=>all_range (ht t h9).2 hi
 simp only [Bool.and_eq_true,Bool.or_eq_true,beq_iff_eq,decide_eq_true_eq] at hi
 refine ⟨h1,fun t h9=>(ht t h9).1.1.1.1,fun t h9 i hh=>?_,fun t h9 i hh=>?_,fun t h9=>(ht t h9).1.1.1.2,fun t h9 i hh=>?_,fun t h9=>(ht t h9).1.1.2,fun t h9 i hh=>⟨(hi t h9 i hh).1.1.2,(hi t h9 i hh).1.2⟩,fun v h9=>⟨(hv v h9).1.1,(hv v h9).1.2⟩,fun v h9 hp=>?_,fun t h9 u hu=>?_⟩
 · have:=(hi t h9 i hh).1.1.1.1
   cases hy:(P t)[i]? with
   | none=>rw [hy] at this;cases this
   | some y =>
     rw [hy] at this
     cases y with
     | up c s j =>
       simp only [someB,isUp,Bool.and_eq_true,beq_iff_eq] at this
       rw [this.1.1,this.1.2,this.2]
     | _=>cases this
 · have:=(hi t h9 i hh).1.1.1.2
   cases hy:(P t)[2*h-1-i]? with
   | none=>rw [hy] at this;cases this
   | some y =>
     rw [hy] at this
     cases y with
     | dn c s =>
       simp only [someB,isDn,Bool.and_eq_true,beq_iff_eq] at this
       rw [this.1,this.2]
     | _=>cases this
 · rcases (hi t h9 i (by omega)).2 with h8 | h8
   · omega
   · exact h8
 · rcases (hv v h9).2 with h8 | h8
   · omega
   · exact h8
 · rw [(ht t h9).1.2,(ht u hu).1.2]

def levV (n v:Nat):Nat:=if v<firstN n 1 then 0 else if v<firstN n 2 then 1 else if v<firstN n 3 then 2 else 3
def sizeV (n v:Nat):Nat:=min 2 ((match levV n v with | 0=>n | j+1=>cntN n j)-2*(v-firstN n (levV n v)))
def parV (n x:Nat):Nat:=if x<n then x / 2 else
 if levV n (x-n)+1<hgtN n then firstN n (levV n (x-n)+1)+(x-n-firstN n (levV n (x-n))) / 2 else firstN n (hgtN n)

theorem tree1:((List.range 16).all fun m=>treeB (m+1) 1 1 (ofL (kindL 1 (m+1))) (fun x=>if x<m+1 then 0 else 1) (fun _=>m+1) (fun _ _=>0) fun _=>0)=true:=by decide +kernel
theorem tree2:((List.range 16).all fun m=>treeB (m+1) (firstN (m+1) (hgtN (m+1))) (hgtN (m+1)) (ofL (kindL 2 (m+1))) (parV (m+1)) (sizeV (m+1)) (nodeN (m+1)) (levV (m+1)))=true:=by decide +kernel

theorem cost_ok:((List.range 6).all fun k=>(List.range 16).all fun m=>decide (potW (m+1) (ofL (kindL (k+1) (m+1)))+4*(m+1)*(if k+1=1 then 1 else if k+1=2 then firstN (m+1) (hgtN (m+1)) else 0)≤3*sizeW (m+1) (ofL (kindL (k+1) (m+1))) ∧
   6*(potW (m+1) (ofL (kindL (k+1) (m+1)))+4*(m+1)*(if k+1=1 then 1 else if k+1=2 then firstN (m+1) (hgtN (m+1)) else 0))+64+4*900<20000))=true:=by decide +kernel

theorem right_ok:((List.range 6).all fun k=>(List.range 16).all fun m=>decide (kindC (k+1) (m+1)≤300) && (List.range (m+1)).all fun id=>rightZ (danceP 0 (kindP (k+1) (m+1) id)) (kindC (k+1) (m+1)) && (kindP (k+1) (m+1) id).all fun x=>pcFit (kindC (k+1) (m+1)) x && pcTo (kindP (k+1) (m+1) id).length x)=true:=by decide +kernel

end Go.Mac
end

section
open Go Go.Proofs Go.Mac
set_option maxRecDepth 100000

namespace Go.Mac

theorem whole_len (R:Nat) (b:List InsZ):(wholeZ R b).length=b.length+8:=by rw [wholeZ,List.length_append,List.length_append];simp;omega

section

variable {K:AV→List Nat→List PO→Prop}

theorem centralCode {n id R:Nat} (hn:1≤n∧n≤16) (hid:id<n) (hR:R≤20) (hb:(bodyP (centralP n)).length≤10000) (hK:K (.tup [.c (.slc 0 0 (wholeZ R (bodyP (centralP n))).length none true),okP]) [] [.rows false 5 ((wholeZ R (bodyP (centralP n))).map rowIns)]) :
   Does Tryz.prog 209 [i64 n,i64 id,i64 R] [] K:=by
 rw [whole_len] at hK
 refine Does.keep 0 rfl ?_
 refine does Tryz.func209 rfl (by decide) ?_
 change Does Tryz.prog 252 _ _ _
 refine Does.alone 0 (partCheck hn hid hR ?_)
 change Does Tryz.prog 254 _ _ _
 refine Does.alone 0 (centralBody id hn ?_)
 change Does Tryz.prog 253 _ _ _
 refine Does.on 1 [0] _ _ (partWhole (b:=bodyP (centralP n)) (k:=12) (R:=R) rfl hb (by omega) ?_)
 exact ⟨2,[1],[.rows false 5 ((wholeZ R (bodyP (centralP n))).map rowIns)],.tup [.c (.slc 0 0 ((bodyP (centralP n)).length+8) none true),okP],rfl,rfl,by decide,by decide,rfl,rfl,rfl,rfl,rfl,hK⟩

theorem staticCode {n id R:Nat} (hn:1≤n∧n≤16) (hid:id<n) (hR:R≤20) (hb:(bodyN (staticP n id)).length≤10000) (hK:K (.tup [.c (.slc 0 0 (wholeZ R (bodyN (staticP n id))).length none true),okP]) [] [.rows false 5 ((wholeZ R (bodyN (staticP n id))).map rowIns)]) :
   Does Tryz.prog 213 [i64 n,i64 id,i64 R] [] K:=by
 rw [whole_len] at hK
 refine Does.keep 0 rfl ?_
 refine does Tryz.func213 rfl (by decide) ?_
 change Does Tryz.prog 252 _ _ _
 refine Does.alone 0 (partCheck hn hid hR ?_)
 change Does Tryz.prog 257 _ _ _
 refine Does.alone 0 (staticBody hn hid ?_)
 change Does Tryz.prog 253 _ _ _
 refine Does.on 1 [0] _ _ (partWhole (b:=bodyN (staticP n id)) (k:=(bodyN (staticP n id)).length) (R:=R) rfl hb (by omega) ?_)
 exact ⟨2,[1],[.rows false 5 ((wholeZ R (bodyN (staticP n id))).map rowIns)],.tup [.c (.slc 0 0 ((bodyN (staticP n id)).length+8) none true),okP],rfl,rfl,by decide,by decide,rfl,rfl,rfl,rfl,rfl,hK⟩

theorem mcsCode {n id R:Nat} (hn:1≤n∧n≤16) (hid:id<n) (hR:R≤20) (hb:(bodyN (mcsP n id)).length≤10000) (hK:K (.tup [.c (.slc 0 0 (wholeZ R (bodyN (mcsP n id))).length none true),okP]) [] [.rows false 5 ((wholeZ R (bodyN (mcsP n id))).map rowIns)]) :
   Does Tryz.prog 219 [i64 n,i64 id,i64 R] [] K:=by
 rw [whole_len] at hK
 refine Does.keep 0 rfl ?_
 refine does Tryz.func219 rfl (by decide) ?_
 change Does Tryz.prog 252 _ _ _
 refine Does.alone 0 (partCheck hn hid hR ?_)
 change Does Tryz.prog 261 _ _ _
 refine Does.alone 0 (mcsBody hn hid ?_)
 change Does Tryz.prog 253 _ _ _
 refine Does.on 1 [0] _ _ (partWhole (b:=bodyN (mcsP n id)) (k:=(bodyN (mcsP n id)).length) (R:=R) rfl hb (by omega) ?_)
 exact ⟨2,[1],[.rows false 5 ((wholeZ R (bodyN (mcsP n id))).map rowIns)],.tup [.c (.slc 0 0 ((bodyN (mcsP n id)).length+8) none true),okP],rfl,rfl,by decide,by decide,rfl,rfl,rfl,rfl,rfl,hK⟩

theorem centralCells {n:Nat} (hn:1≤n∧n≤16) (hK:K (.tup [.c (.f (.int .i64 ((2:Nat):Int))),okP]) [] []):Does Tryz.prog 208 [i64 n] [] K:=by
 refine does Tryz.func208 rfl (by decide) ?_
 change Does Tryz.prog 252 _ _ _
 refine Does.alone 0 (partCheck (id:=0) (R:=0) hn (by omega) (by omega) ?_)
 exact hK

theorem staticCells {n:Nat} (hn:1≤n∧n≤16) (hK:K (.tup [.c (.f (.int .i64 ((n+1:Nat):Int))),okP]) [] []):Does Tryz.prog 212 [i64 n] [] K:=by
 rw [show ((n+1:Nat):Int)=IntKind.i64.wrap ((n:Int)+1) by rw [wrap_i64 _ (by omega) (by omega)];omega] at hK
 refine does Tryz.func212 rfl (by decide) ?_
 change Does Tryz.prog 252 _ _ _
 refine Does.alone 0 (partCheck (id:=0) (R:=0) hn (by omega) (by omega) ?_)
 exact hK

theorem mcsCells {n:Nat} (hn:1≤n∧n≤16) (hK:K (.tup [.c (.f (.int .i64 ((2*n:Nat):Int))),okP]) [] []):Does Tryz.prog 218 [i64 n] [] K:=by
 rw [show ((2*n:Nat):Int)=IntKind.i64.wrap (2*(n:Int)) by rw [wrap_i64 _ (by omega) (by omega)];omega] at hK
 refine does Tryz.func218 rfl (by decide) ?_
 change Does Tryz.prog 252 _ _ _
 refine Does.alone 0 (partCheck (id:=0) (R:=0) hn (by omega) (by omega) ?_)
 exact hK

end

end Go.Mac
end

section
open Go Go.Proofs Go.Mac
set_option maxRecDepth 100000

namespace Go.Mac

abbrev PP (k n:Nat):Nat→List Pc:=ofL (kindL k n)

theorem PP_get {k n t:Nat} (ht:t<n):PP k n t=kindP k n t:=by
 rw [PP,ofL,kindL,List.getD_eq_getElem?_getD,List.getElem?_map,List.getElem?_range ht]
 rfl

theorem kindL_len (k n:Nat):(kindL k n).length=n:=by rw [kindL,List.length_map,List.length_range]

def kindI (k n R:Nat) (A:Nat→AT) (V:Nat→Nat) (ss:List Slp):Prop :=
 if k=1 then ∃ b,TI n 1 R 1 (PP k n) (fun x=>if x<n then 0 else 1) (fun _=>n) (fun _ _=>0) b A V ss
 else if k=2 then ∃ b,TI n (firstN n (hgtN n)) R (hgtN n) (PP k n) (parV n) (sizeV n) (nodeN n) b A V ss
 else NI n R (PP k n) (fun c=>wrL c (kindL k n) 0) A V ss

def kindF (k n R:Nat) (A:Nat→AT) (V:Nat→Nat) (ss:List Slp):Nat :=
 if k=1 then phiT n 1 R (PP k n) A V ss else if k=2 then phiT n (firstN n (hgtN n)) R (PP k n) A V ss else phiN n R (PP k n) A V ss

theorem of16 {f:Nat→Bool} (h:((List.range 16).all fun m=>f (m+1))=true) {n:Nat} (hn:1≤n∧n≤16):f n=true:=by
 have:=all_range h (t:=n-1) (by omega)
 rwa [show n-1+1=n by omega] at this

theorem tree_one1 {n:Nat} (hn:1≤n∧n≤16):TreeOk n 1 1 (PP 1 n) (fun x=>if x<n then 0 else 1) (fun _=>n) (fun _ _=>0) fun _=>0 :=
 treeB_ok (of16 (f:=fun n=>treeB n 1 1 (ofL (kindL 1 n)) (fun x=>if x<n then 0 else 1) (fun _=>n) (fun _ _=>0) fun _=>0) tree1 hn)

theorem tree_two {n:Nat} (hn:1≤n∧n≤16):TreeOk n (firstN n (hgtN n)) (hgtN n) (PP 2 n) (parV n) (sizeV n) (nodeN n) (levV n) :=
 treeB_ok (of16 (f:=fun n=>treeB n (firstN n (hgtN n)) (hgtN n) (ofL (kindL 2 n)) (parV n) (sizeV n) (nodeN n) (levV n)) tree2 hn)

theorem net_ok {k n:Nat} (hk:3≤k∧k≤6) (hn:1≤n∧n≤16):∃ F,netB (kindL k n) F=true:=by
 have:k=3∨k=4∨k=5∨k=6:=by omega
 rcases this with rfl | rfl | rfl | rfl
 · exact ⟨8,of16 (f:=fun n=>netB (kindL 3 n) 8) net3 hn⟩
 · exact ⟨8,of16 (f:=fun n=>netB (kindL 4 n) 8) net4 hn⟩
 · exact ⟨12,of16 (f:=fun n=>netB (kindL 5 n) 12) net5 hn⟩
 · exact ⟨8,of16 (f:=fun n=>netB (kindL 6 n) 8) net6 hn⟩

theorem kind_netOk {k n:Nat} (hk:3≤k∧k≤6) (hn:1≤n∧n≤16):NetOk n (PP k n) fun c=>wrL c (kindL k n) 0:=by
 obtain ⟨F,hF⟩:=net_ok hk hn
 have:=(netB_ok hF).1
 rwa [kindL_len] at this

theorem kind_bar {k n:Nat} (R:Nat) (hk:1≤k∧k≤6) (hn:1≤n∧n≤16):Bar n R (PP k n) (kindI k n R) (kindF k n R):=by
 by_cases h1:k=1
 · subst h1
   have:Bar n R (PP 1 n) _ _:=tree_bar (R:=R) (tree_one1 hn)
   exact this
 by_cases h2:k=2
 · subst h2
   have:Bar n R (PP 2 n) _ _:=tree_bar (R:=R) (tree_two hn)
   exact this
 · obtain ⟨F,hF⟩:=net_ok (show 3≤k∧k≤6 by omega) hn
   obtain ⟨g1,g2,g3⟩:=netB_ok hF
   rw [kindL_len] at g1 g2 g3
   have e1:kindI k n R=NI n R (PP k n) fun c=>wrL c (kindL k n) 0:=by
     funext A V ss
     rw [kindI,if_neg h1,if_neg h2]
   have e2:kindF k n R=phiN n R (PP k n):=by
     funext A V ss
     rw [kindF,if_neg h1,if_neg h2]
   rw [e1,e2]
   exact net_bar g1 g2 g3

def costK (k n:Nat):Nat:=potW n (PP k n)+4*n*(if k=1 then 1 else if k=2 then firstN n (hgtN n) else 0)

theorem phi_begin (n R:Nat) (P:Nat→List Pc):rsum n (fun t=>phi n R P (P t) (fun _=>0) (aslS [] t) ⟨0,0,0,.p0⟩)=R*potW n P+4*n:=by
 show rsum n (fun t=>R*costR n P (P t)+4)=_
 rw [rsum_add,rsum_mul,rsum_same,Nat.mul_comm n 4]
 rfl

theorem kindF_begin (k n R:Nat):kindF k n R (fun _=>⟨0,0,0,.p0⟩) (fun _=>0) []=R*costK k n+4*n:=by
 rw [kindF,costK]
 by_cases h1:k=1
 · rw [if_pos h1,if_pos h1,phiT,phi_begin,rsum_same,Nat.mul_add,Nat.sub_zero,Nat.mul_one,Nat.one_mul]
   rw [Nat.mul_comm (4*n) R]
   omega
 · rw [if_neg h1,if_neg h1]
   by_cases h2:k=2
   · rw [if_pos h2,if_pos h2,phiT,phi_begin,rsum_same,Nat.mul_add,Nat.sub_zero]
     rw [show firstN n (hgtN n)*(4*n*R)=R*(4*n*firstN n (hgtN n)) by rw [Nat.mul_comm,Nat.mul_assoc,Nat.mul_comm (4*n) (R*_),Nat.mul_assoc,Nat.mul_comm (firstN n (hgtN n))]]
     omega
   · rw [if_neg h2,if_neg h2,phiN,phi_begin]
     rfl

theorem cost_le {k n:Nat} (hk:1≤k∧k≤6) (hn:1≤n∧n≤16):costK k n≤3*sizeW n (PP k n)∧6*costK k n+64+4*900<20000:=by
 have h1:=all_range cost_ok (t:=k-1) (by omega)
 have h2:=all_range h1 (t:=n-1) (by omega)
 rw [show k-1+1=k by omega,show n-1+1=n by omega] at h2
 exact of_decide_eq_true h2

theorem whole_last (R:Nat) (b:List InsZ):lastOp (wholeZ R b)=10:=by
 rw [lastOp,wholeZ,List.getLast?_append,List.getLast?_append]
 rfl

theorem whole_all (R:Nat) (b:List InsZ) (c s:Int):(wholeZ R b).all (okI c s)=(wholeZ 0 b).all (okI c s):=by
 have h:∀ R,(wholeZ R b).all (okI c s)=(([⟨1,0,1,0,0⟩,⟨1,7,(R:Int)+1,0,0⟩,⟨12,0,7,4,0⟩,⟨0,0,0,0,0⟩,⟨16,1,0,0,0⟩]:List InsZ).all (okI c s) && (b.all (okI c s) && ([⟨16,2,0,0,0⟩,⟨3,0,0,1,0⟩,⟨10,2,0,0,0⟩]:List InsZ).all (okI c s))):=fun R=>by
   rw [wholeZ,List.all_append,List.all_append]
 rw [h,h]
 rfl

theorem right_R (R:Nat) (P:List Pc) (c:Int):rightZ (danceP R P) c=rightZ (danceP 0 P) c:=by
 have hl:(danceP R P).length=(danceP 0 P).length:=by rw [danceP_len,danceP_len]
 have ho:lastOp (danceP R P)=lastOp (danceP 0 P):=(whole_last _ _).trans (whole_last _ _).symm
 have ha:(danceP R P).all (okI c (danceP R P).length)=(danceP 0 P).all (okI c (danceP 0 P).length):=by
   rw [hl]
   exact whole_all _ _ _ _
 rw [hl] at ha
 rw [rightZ,rightZ,hl,ho,ha]

theorem kind_right {k n id:Nat} (R:Nat) (hk:1≤k∧k≤6) (hn:1≤n∧n≤16) (hid:id<n):kindC k n≤300∧rightZ (danceP R (kindP k n id)) (kindC k n)=true∧∀ x∈kindP k n id,pcFit (kindC k n) x=true∧pcTo (kindP k n id).length x=true:=by
 have h1:=all_range right_ok (t:=k-1) (by omega)
 have h2:=all_range h1 (t:=n-1) (by omega)
 rw [show k-1+1=k by omega,show n-1+1=n by omega,Bool.and_eq_true] at h2
 have h3:=all_range h2.2 hid
 rw [Bool.and_eq_true] at h3
 refine ⟨of_decide_eq_true h2.1,by rw [right_R];exact h3.1,fun x hx=>?_⟩
 have:=List.all_eq_true.1 h3.2 x hx
 rwa [Bool.and_eq_true] at this

theorem kindPs_get {k n R t:Nat} (ht:t<n):(kindPs k n R)[t]? = some (danceP R (kindP k n t)):=by
 rw [kindPs,List.getElem?_map,List.getElem?_range ht]
 rfl

theorem kindPs_len (k n R:Nat):(kindPs k n R).length=n:=by rw [kindPs,List.length_map,List.length_range]

theorem kindPs_right {k n R:Nat} (hk:1≤k∧k≤6) (hn:1≤n∧n≤16):∀ p∈kindPs k n R,rightZ p (kindC k n)=true:=fun p hp=>by
 obtain ⟨id,hid,rfl⟩:=List.mem_map.1 hp
 exact (kind_right R hk hn (List.mem_range.1 hid)).2.1

def danceM (k n R:Nat):MZ:=mz0 (kindPs k n R) (List.replicate (kindC k n) 0)

theorem dance_begin {k n R:Nat} (hk:1≤k∧k≤6) (hn:1≤n∧n≤16) (hR:R≤20):DI n (kindC k n) R (PP k n) (kindI k n R) (kindF k n R) (R*costK k n+4*n) (fun _=>⟨0,0,0,.p0⟩) (fun _=>0) (danceM k n R) :=
 ⟨abs_begin (kindPs_len k n R) hn.2 (kind_right R hk hn (show 0<n by omega)).1 (by omega) (fun t ht=>by rw [PP_get ht];exact kindPs_get ht) (kindPs_right hk hn) (fun t ht x hx=>by
   rw [PP_get ht] at hx ⊢
   exact (kind_right R hk hn ht).2.2 x hx),(kind_bar R hk hn).begin,EvI.begin n,by
   show kindF k n R _ _ []+0≤_
   rw [kindF_begin]
   exact Nat.le_refl _⟩

end Go.Mac
end

section
open Go Go.Proofs Go.Mac
set_option maxRecDepth 100000

namespace Go.Mac

end Go.Mac
end

section
open Go Go.Proofs Go.Mac
set_option maxRecDepth 100000

namespace Go.Mac

theorem short_body {k n id:Nat} (hk:1≤k∧k≤6) (hn:1≤n∧n≤16) (hid:id<n):(bodyP (kindP k n id)).length≤10000:=by
 have h:=(kind_right 0 hk hn hid).2.1
 simp only [rightZ,Bool.and_eq_true,decide_eq_true_eq] at h
 have h2:=h.1.1.2.2
 rw [danceP_len] at h2
 rw [show (bodyP (kindP k n id)).length=offP (kindP k n id) (kindP k n id).length from bodyQ_len _ _ _]
 omega

theorem net_pieces {k n id:Nat} (hk:3≤k∧k≤6) (hn:1≤n∧n≤16) (hid:id<n):∀ x∈kindP k n id,isNet x=true:=fun x hx=>by
 have:=(kind_netOk hk hn).kind id hid x (by rw [PP_get hid];exact hx)
 rcases this with ⟨c,rfl⟩ | ⟨c,s,rfl,_⟩ <;> rfl

theorem kindOk {k n R:Nat} (hk:1≤k∧k≤6) (hn:1≤n∧n≤16)
   (cells:∀ K:AV→List Nat→List PO→Prop,K (.tup [.c (.f (.int .i64 (kindC k n))),okP]) [] []→Does Tryz.prog (cellsF k) [i64 n] [] K)
   (code:∀ id,id<n→(bodyP (kindP k n id)).length≤10000→∀ K:AV→List Nat→List PO→Prop,K (.tup [.c (.slc 0 0 (wholeZ R (bodyP (kindP k n id))).length none true),okP]) [] [.rows false 5 ((wholeZ R (bodyP (kindP k n id))).map rowIns)]→Does Tryz.prog (codeF k) [i64 n,i64 id,i64 R] [] K) :
   KindOk k n R (kindC k n) (kindPs k n R) :=
 ⟨by omega,hn,kindPs_len k n R,(kind_right R hk hn (show 0<n by omega)).1,kindPs_right hk hn,cells,fun id p hp K hK=>by
   have hid:=(List.getElem?_eq_some_iff.1 hp).1
   rw [kindPs_len] at hid
   rw [kindPs_get hid] at hp
   obtain rfl:=Option.some.inj hp
   exact code id hid (short_body hk hn hid) K hK⟩

theorem kindOk1 {n R:Nat} (hn:1≤n∧n≤16) (hR:R≤20):KindOk ((1:Nat):Int) n R (kindC 1 n) (kindPs 1 n R) :=
 kindOk (by decide) hn (fun K hK=>centralCells (K:=K) hn hK) fun id hid hb K hK=>centralCode (K:=K) hn hid hR hb hK

theorem kindOk3 {n R:Nat} (hn:1≤n∧n≤16) (hR:R≤20):KindOk ((3:Nat):Int) n R (kindC 3 n) (kindPs 3 n R) :=
 kindOk (by decide) hn (fun K hK=>staticCells (K:=K) hn hK) fun id hid hb K hK=>by
   rw [bodyP_net (net_pieces (by decide) hn hid)] at hb hK
   exact staticCode (K:=K) hn hid hR hb hK

theorem kindOk6 {n R:Nat} (hn:1≤n∧n≤16) (hR:R≤20):KindOk ((6:Nat):Int) n R (kindC 6 n) (kindPs 6 n R) :=
 kindOk (by decide) hn (fun K hK=>mcsCells (K:=K) hn hK) fun id hid hb K hK=>by
   rw [bodyP_net (net_pieces (by decide) hn hid)] at hb hK
   exact mcsCode (K:=K) hn hid hR hb hK

section

variable {K:AV→List Nat→List PO→Prop}

end

end Go.Mac
end

section
open Go Go.Proofs Go.Mac
set_option maxRecDepth 100000

namespace Go.Mac

section

variable {K:AV→List Nat→List PO→Prop}

theorem spreadCode {n id R:Nat} (hn:1≤n∧n≤16) (hid:id<n) (hR:R≤20) (hb:(bodyN (spreadP n id)).length≤10000) (hK:K (.tup [.c (.slc 0 0 (wholeZ R (bodyN (spreadP n id))).length none true),okP]) [] [.rows false 5 ((wholeZ R (bodyN (spreadP n id))).map rowIns)]) :
   Does Tryz.prog 215 [i64 n,i64 id,i64 R] [] K:=by
 rw [whole_len] at hK
 refine Does.keep 0 rfl ?_
 refine does Tryz.func215 rfl (by decide) ?_
 change Does Tryz.prog 252 _ _ _
 refine Does.alone 0 (partCheck hn hid hR ?_)
 change Does Tryz.prog 259 _ _ _
 refine Does.alone 0 (spreadBody hn hid ?_)
 change Does Tryz.prog 253 _ _ _
 refine Does.on 1 [0] _ _ (partWhole (b:=bodyN (spreadP n id)) (k:=(bodyN (spreadP n id)).length) (R:=R) rfl hb (by omega) ?_)
 exact ⟨2,[1],[.rows false 5 ((wholeZ R (bodyN (spreadP n id))).map rowIns)],.tup [.c (.slc 0 0 ((bodyN (spreadP n id)).length+8) none true),okP],rfl,rfl,by decide,by decide,rfl,rfl,rfl,rfl,rfl,hK⟩

theorem tourneyCode {n id R:Nat} (hn:1≤n∧n≤16) (hid:id<n) (hR:R≤20) (hb:(bodyN (tourneyP n id)).length≤10000) (hK:K (.tup [.c (.slc 0 0 (wholeZ R (bodyN (tourneyP n id))).length none true),okP]) [] [.rows false 5 ((wholeZ R (bodyN (tourneyP n id))).map rowIns)]) :
   Does Tryz.prog 217 [i64 n,i64 id,i64 R] [] K:=by
 rw [whole_len] at hK
 refine Does.keep 0 rfl ?_
 refine does Tryz.func217 rfl (by decide) ?_
 change Does Tryz.prog 252 _ _ _
 refine Does.alone 0 (partCheck hn hid hR ?_)
 change Does Tryz.prog 260 _ _ _
 refine Does.alone 0 (tourneyBody hn hid ?_)
 change Does Tryz.prog 253 _ _ _
 refine Does.on 1 [0] _ _ (partWhole (b:=bodyN (tourneyP n id)) (k:=(bodyN (tourneyP n id)).length) (R:=R) rfl hb (by omega) ?_)
 exact ⟨2,[1],[.rows false 5 ((wholeZ R (bodyN (tourneyP n id))).map rowIns)],.tup [.c (.slc 0 0 ((bodyN (tourneyP n id)).length+8) none true),okP],rfl,rfl,by decide,by decide,rfl,rfl,rfl,rfl,rfl,hK⟩

theorem nlev_le {n:Nat} (hn:1≤n∧n≤16):n*levN n≤16*4:=Nat.mul_le_mul hn.2 (lev_le n)

theorem spreadCells {n:Nat} (hn:1≤n∧n≤16) (hK:K (.tup [.c (.f (.int .i64 ((n*levN n:Nat):Int))),okP]) [] []):Does Tryz.prog 214 [i64 n] [] K:=by
 have hL:=nlev_le hn
 rw [show ((n*levN n:Nat):Int)=IntKind.i64.wrap ((n:Int)*(levN n:Int)) by rw [←Int.natCast_mul,wrap_i64 _ (by omega) (by omega)]] at hK
 refine does Tryz.func214 rfl (by decide) ?_
 change Does Tryz.prog 252 _ _ _
 refine Does.alone 0 (partCheck (id:=0) (R:=0) hn (by omega) (by omega) ?_)
 change Does Tryz.prog 258 _ _ _
 refine Does.alone 0 (levels n (by omega) fun l hl=>?_)
 obtain rfl:l=levN n:=isLev_unique hl (lev_is hn)
 exact hK

theorem tourneyCells {n:Nat} (hn:1≤n∧n≤16) (hK:K (.tup [.c (.f (.int .i64 ((n*levN n+n:Nat):Int))),okP]) [] []):Does Tryz.prog 216 [i64 n] [] K:=by
 have hL:=nlev_le hn
 rw [show ((n*levN n+n:Nat):Int)=IntKind.i64.wrap (IntKind.i64.wrap ((n:Int)*(levN n:Int))+(n:Int)) by rw [←Int.natCast_mul,wrap_i64 ((n*levN n:Nat):Int) (by omega) (by omega),wrap_i64 _ (by omega) (by omega)];omega] at hK
 refine does Tryz.func216 rfl (by decide) ?_
 change Does Tryz.prog 252 _ _ _
 refine Does.alone 0 (partCheck (id:=0) (R:=0) hn (by omega) (by omega) ?_)
 change Does Tryz.prog 258 _ _ _
 refine Does.alone 0 (levels n (by omega) fun l hl=>?_)
 obtain rfl:l=levN n:=isLev_unique hl (lev_is hn)
 exact hK

end

theorem kindOk4 {n R:Nat} (hn:1≤n∧n≤16) (hR:R≤20):KindOk ((4:Nat):Int) n R (kindC 4 n) (kindPs 4 n R) :=
 kindOk (by decide) hn (fun K hK=>spreadCells (K:=K) hn hK) fun id hid hb K hK=>by
   rw [bodyP_net (net_pieces (by decide) hn hid)] at hb hK
   exact spreadCode (K:=K) hn hid hR hb hK

theorem kindOk5 {n R:Nat} (hn:1≤n∧n≤16) (hR:R≤20):KindOk ((5:Nat):Int) n R (kindC 5 n) (kindPs 5 n R) :=
 kindOk (by decide) hn (fun K hK=>tourneyCells (K:=K) hn hK) fun id hid hb K hK=>by
   rw [bodyP_net (net_pieces (by decide) hn hid)] at hb hK
   exact tourneyCode (K:=K) hn hid hR hb hK

end Go.Mac
end
