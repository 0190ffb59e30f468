/- Texts that belong together; the first of them:  -/
import Derived.Test.YtollgfhpcidkgaaGreatDoorA17
import Derived.Test.YtollgfhpcidkgaaGreatDoorA16
import Derived.Test.YtollgfhpcidkgaaGreatDoorA12
import Derived.Test.YtollgfhpcidkgaaGreatDoorA6
import Derived.Test.YtollgfhpcidkgaaGreatDoorA15

section
open Go Go.Proofs Go.Mac
set_option maxRecDepth 100000
namespace Go.Mac
section
theorem right_ok:((List.range 6).all fun k=>(List.range 16).all fun m=>decide (kindC (k+1) (m+1)≤300) && (List.range (m+1)).all fun id=>rightZ (danceP 0 (kindP (k+1) (m+1) id)) (kindC (k+1) (m+1)) && (kindP (k+1) (m+1) id).all fun x=>pcFit (kindC (k+1) (m+1)) x && pcTo (kindP (k+1) (m+1) id).length x)=true:=by decide +kernel
end
section
theorem whole_len (R:Nat) (b:List InsZ):(wholeZ R b).length=b.length+8:=by rw [wholeZ,List.length_append,List.length_append];simp;omega

section

variable {K:KP}

theorem centralCode {n id R:Nat} (hn:1≤n∧n≤16) (hid:id<n) (hR:R≤20) (hb:(bodyP (centralP n)).length≤10000) (hK:K (.tup [.c (.slc 0 0 (wholeZ R (bodyP (centralP n))).length none true),okP]) [] [.rows false 5 ((wholeZ R (bodyP (centralP n))).map rowIns)]) :
  Does Tryz.prog 209 [i64 n,i64 id,i64 R] [] K:=by
 rw [whole_len] at hK
 refine Does.keep 0 rfl ?_
 refine does Tryz.func209 rfl (by decide) ?_
 change Does Tryz.prog 252 _ _ _
 refine Does.alone 0 (partCheck hn hid hR ?_)
 change Does Tryz.prog 254 _ _ _
 refine Does.alone 0 (centralBody id hn ?_)
 change Does Tryz.prog 253 _ _ _
 refine Does.on 1 [0] _ _ (partWhole (b:=bodyP (centralP n)) (k:=12) (R:=R) rfl hb (by omega) ?_)
 exact ⟨2,[1],[.rows false 5 ((wholeZ R (bodyP (centralP n))).map rowIns)],.tup [.c (.slc 0 0 ((bodyP (centralP n)).length+8) none true),okP],rfl,rfl,by decide,by decide,rfl,rfl,rfl,rfl,rfl,hK⟩

theorem staticCode {n id R:Nat} (hn:1≤n∧n≤16) (hid:id<n) (hR:R≤20) (hb:(bodyN (staticP n id)).length≤10000) (hK:K (.tup [.c (.slc 0 0 (wholeZ R (bodyN (staticP n id))).length none true),okP]) [] [.rows false 5 ((wholeZ R (bodyN (staticP n id))).map rowIns)]) :
  Does Tryz.prog 213 [i64 n,i64 id,i64 R] [] K:=by
 rw [whole_len] at hK
 refine Does.keep 0 rfl ?_
 refine does Tryz.func213 rfl (by decide) ?_
 change Does Tryz.prog 252 _ _ _
 refine Does.alone 0 (partCheck hn hid hR ?_)
 change Does Tryz.prog 257 _ _ _
 refine Does.alone 0 (staticBody hn hid ?_)
 change Does Tryz.prog 253 _ _ _
 refine Does.on 1 [0] _ _ (partWhole (b:=bodyN (staticP n id)) (k:=(bodyN (staticP n id)).length) (R:=R) rfl hb (by omega) ?_)
 exact ⟨2,[1],[.rows false 5 ((wholeZ R (bodyN (staticP n id))).map rowIns)],.tup [.c (.slc 0 0 ((bodyN (staticP n id)).length+8) none true),okP],rfl,rfl,by decide,by decide,rfl,rfl,rfl,rfl,rfl,hK⟩

theorem mcsCode {n id R:Nat} (hn:1≤n∧n≤16) (hid:id<n) (hR:R≤20) (hb:(bodyN (mcsP n id)).length≤10000) (hK:K (.tup [.c (.slc 0 0 (wholeZ R (bodyN (mcsP n id))).length none true),okP]) [] [.rows false 5 ((wholeZ R (bodyN (mcsP n id))).map rowIns)]) :
  Does Tryz.prog 219 [i64 n,i64 id,i64 R] [] K:=by
 rw [whole_len] at hK
 refine Does.keep 0 rfl ?_
 refine does Tryz.func219 rfl (by decide) ?_
 change Does Tryz.prog 252 _ _ _
 refine Does.alone 0 (partCheck hn hid hR ?_)
 change Does Tryz.prog 261 _ _ _
 refine Does.alone 0 (mcsBody hn hid ?_)
 change Does Tryz.prog 253 _ _ _
 refine Does.on 1 [0] _ _ (partWhole (b:=bodyN (mcsP n id)) (k:=(bodyN (mcsP n id)).length) (R:=R) rfl hb (by omega) ?_)
 exact ⟨2,[1],[.rows false 5 ((wholeZ R (bodyN (mcsP n id))).map rowIns)],.tup [.c (.slc 0 0 ((bodyN (mcsP n id)).length+8) none true),okP],rfl,rfl,by decide,by decide,rfl,rfl,rfl,rfl,rfl,hK⟩

theorem centralCells {n:Nat} (hn:1≤n∧n≤16) (hK:K (.tup [.c (.f (.int .i64 ((2:Nat):Int))),okP]) [] []):Does Tryz.prog 208 [i64 n] [] K:=by
 refine does Tryz.func208 rfl (by decide) ?_
 change Does Tryz.prog 252 _ _ _
 refine Does.alone 0 (partCheck (id:=0) (R:=0) hn (by omega) (by omega) ?_)
 exact hK

theorem staticCells {n:Nat} (hn:1≤n∧n≤16) (hK:K (.tup [.c (.f (.int .i64 ((n+1:Nat):Int))),okP]) [] []):Does Tryz.prog 212 [i64 n] [] K:=by
 rw [show ((n+1:Nat):Int)=IntKind.i64.wrap ((n:Int)+1) by rw [wrap_i64 _ (by omega) (by omega)];omega] at hK
 refine does Tryz.func212 rfl (by decide) ?_
 change Does Tryz.prog 252 _ _ _
 refine Does.alone 0 (partCheck (id:=0) (R:=0) hn (by omega) (by omega) ?_)
 exact hK

theorem mcsCells {n:Nat} (hn:1≤n∧n≤16) (hK:K (.tup [.c (.f (.int .i64 ((2*n:Nat):Int))),okP]) [] []):Does Tryz.prog 218 [i64 n] [] K:=by
 rw [show ((2*n:Nat):Int)=IntKind.i64.wrap (2*(n:Int)) by rw [wrap_i64 _ (by omega) (by omega)];omega] at hK
 refine does Tryz.func218 rfl (by decide) ?_
 change Does Tryz.prog 252 _ _ _
 refine Does.alone 0 (partCheck (id:=0) (R:=0) hn (by omega) (by omega) ?_)
 exact hK

end
end
section
abbrev PP (k n:Nat):Nat→List Pc:=ofL (kindL k n)

theorem PP_get {k n t:Nat} (ht:t<n):PP k n t=kindP k n t:=by
 rw [PP,ofL,kindL,List.getD_eq_getElem?_getD,List.getElem?_map,List.getElem?_range ht]
 rfl

theorem kindL_len (k n:Nat):(kindL k n).length=n:=by rw [kindL,List.length_map,List.length_range]

theorem of16 {f:Nat→Bool} (h:((List.range 16).all fun m=>f (m+1))=true) {n:Nat} (hn:1≤n∧n≤16):f n=true:=by
 have:=all_range h (t:=n-1) (by omega)
 rwa [show n-1+1=n by omega] at this

theorem net_ok {k n:Nat} (hk:3≤k∧k≤6) (hn:1≤n∧n≤16):∃ F,netB (kindL k n) F=true:=by
 have:k=3∨k=4∨k=5∨k=6:=by omega
 rcases this with rfl | rfl | rfl | rfl
 · exact ⟨8,of16 (f:=fun n=>netB (kindL 3 n) 8) net3 hn⟩
 · exact ⟨8,of16 (f:=fun n=>netB (kindL 4 n) 8) net4 hn⟩
 · exact ⟨12,of16 (f:=fun n=>netB (kindL 5 n) 12) net5 hn⟩
 · exact ⟨8,of16 (f:=fun n=>netB (kindL 6 n) 8) net6 hn⟩

theorem kind_netOk {k n:Nat} (hk:3≤k∧k≤6) (hn:1≤n∧n≤16):NetOk n (PP k n) fun c=>wrL c (kindL k n) 0:=by
 obtain ⟨F,hF⟩:=net_ok hk hn
 have:=(netB_ok hF).1
 rwa [kindL_len] at this

theorem whole_last (R:Nat) (b:List InsZ):lastOp (wholeZ R b)=10:=by
 rw [lastOp,wholeZ,List.getLast?_append,List.getLast?_append]
 rfl

theorem whole_all (R:Nat) (b:List InsZ) (c s:Int):(wholeZ R b).all (okI c s)=(wholeZ 0 b).all (okI c s):=by
 have h:∀ R,(wholeZ R b).all (okI c s)=(([⟨1,0,1,0,0⟩,⟨1,7,(R:Int)+1,0,0⟩,⟨12,0,7,4,0⟩,⟨0,0,0,0,0⟩,⟨16,1,0,0,0⟩]:List InsZ).all (okI c s) && (b.all (okI c s) && ([⟨16,2,0,0,0⟩,⟨3,0,0,1,0⟩,⟨10,2,0,0,0⟩]:List InsZ).all (okI c s))):=fun R=>by
  rw [wholeZ,List.all_append,List.all_append]
 rw [h,h]
 rfl

theorem right_R (R:Nat) (P:List Pc) (c:Int):rightZ (danceP R P) c=rightZ (danceP 0 P) c:=by
 have hl:(danceP R P).length=(danceP 0 P).length:=by rw [danceP_len,danceP_len]
 have ho:lastOp (danceP R P)=lastOp (danceP 0 P):=(whole_last _ _).trans (whole_last _ _).symm
 have ha:(danceP R P).all (okI c (danceP R P).length)=(danceP 0 P).all (okI c (danceP 0 P).length):=by
  rw [hl]
  exact whole_all _ _ _ _
 rw [hl] at ha
 rw [rightZ,rightZ,hl,ho,ha]

theorem kind_right {k n id:Nat} (R:Nat) (hk:1≤k∧k≤6) (hn:1≤n∧n≤16) (hid:id<n):kindC k n≤300∧rightZ (danceP R (kindP k n id)) (kindC k n)=true∧∀ x∈kindP k n id,pcFit (kindC k n) x=true∧pcTo (kindP k n id).length x=true:=by
 have h1:=all_range right_ok (t:=k-1) (by omega)
 have h2:=all_range h1 (t:=n-1) (by omega)
 rw [show k-1+1=k by omega,show n-1+1=n by omega,Bool.and_eq_true] at h2
 have h3:=all_range h2.2 hid
 rw [Bool.and_eq_true] at h3
 refine ⟨oTr h2.1,by rw [right_R];exact h3.1,fun x hx=>?_⟩
 have:=List.all_eq_true.1 h3.2 x hx
 rwa [Bool.and_eq_true] at this

theorem kindPs_get {k n R t:Nat} (ht:t<n):(kindPs k n R)[t]? = some (danceP R (kindP k n t)):=by
 rw [kindPs,List.getElem?_map,List.getElem?_range ht]
 rfl

theorem kindPs_len (k n R:Nat):(kindPs k n R).length=n:=by rw [kindPs,List.length_map,List.length_range]

theorem kindPs_right {k n R:Nat} (hk:1≤k∧k≤6) (hn:1≤n∧n≤16):∀ p∈kindPs k n R,rightZ p (kindC k n)=true:=fun p hp=>by
 obtain ⟨id,hid,rfl⟩:=List.mem_map.1 hp
 exact (kind_right R hk hn (List.mem_range.1 hid)).2.1

def danceM (k n R:Nat):MZ:=mz0 (kindPs k n R) (List.replicate (kindC k n) 0)
end
section

end
section
theorem short_body {k n id:Nat} (hk:1≤k∧k≤6) (hn:1≤n∧n≤16) (hid:id<n):(bodyP (kindP k n id)).length≤10000:=by
 have h:=(kind_right 0 hk hn hid).2.1
 simp only [rightZ,Bool.and_eq_true,decide_eq_true_eq] at h
 have h2:=h.1.1.2.2
 rw [danceP_len] at h2
 rw [show (bodyP (kindP k n id)).length=offP (kindP k n id) (kindP k n id).length from bodyQ_len _ _ _]
 omega

theorem net_pieces {k n id:Nat} (hk:3≤k∧k≤6) (hn:1≤n∧n≤16) (hid:id<n):∀ x∈kindP k n id,isNet x=true:=fun x hx=>by
 have:=(kind_netOk hk hn).kind id hid x (by rw [PP_get hid];exact hx)
 rcases this with ⟨c,rfl⟩ | ⟨c,s,rfl,_⟩ <;> rfl

theorem kindOk {k n R:Nat} (hk:1≤k∧k≤6) (hn:1≤n∧n≤16)
  (cells:∀ K:KP,K (.tup [.c (.f (.int .i64 (kindC k n))),okP]) [] []→Does Tryz.prog (cellsF k) [i64 n] [] K)
  (code:∀ id,id<n→(bodyP (kindP k n id)).length≤10000→∀ K:KP,K (.tup [.c (.slc 0 0 (wholeZ R (bodyP (kindP k n id))).length none true),okP]) [] [.rows false 5 ((wholeZ R (bodyP (kindP k n id))).map rowIns)]→Does Tryz.prog (codeF k) [i64 n,i64 id,i64 R] [] K) :
  KindOk k n R (kindC k n) (kindPs k n R) :=
 ⟨by omega,hn,kindPs_len k n R,(kind_right R hk hn (show 0<n by omega)).1,kindPs_right hk hn,cells,fun id p hp K hK=>by
  have hid:=(List.getElem?_eq_some_iff.1 hp).1
  rw [kindPs_len] at hid
  rw [kindPs_get hid] at hp
  obtain rfl:=Option.some.inj hp
  exact code id hid (short_body hk hn hid) K hK⟩

theorem kindOk1 {n R:Nat} (hn:1≤n∧n≤16) (hR:R≤20):KindOk ((1:Nat):Int) n R (kindC 1 n) (kindPs 1 n R) :=
 kindOk (by decide) hn (fun K hK=>centralCells (K:=K) hn hK) fun id hid hb K hK=>centralCode (K:=K) hn hid hR hb hK

theorem kindOk3 {n R:Nat} (hn:1≤n∧n≤16) (hR:R≤20):KindOk ((3:Nat):Int) n R (kindC 3 n) (kindPs 3 n R) :=
 kindOk (by decide) hn (fun K hK=>staticCells (K:=K) hn hK) fun id hid hb K hK=>by
  rw [bodyP_net (net_pieces (by decide) hn hid)] at hb hK
  exact staticCode (K:=K) hn hid hR hb hK

theorem kindOk6 {n R:Nat} (hn:1≤n∧n≤16) (hR:R≤20):KindOk ((6:Nat):Int) n R (kindC 6 n) (kindPs 6 n R) :=
 kindOk (by decide) hn (fun K hK=>mcsCells (K:=K) hn hK) fun id hid hb K hK=>by
  rw [bodyP_net (net_pieces (by decide) hn hid)] at hb hK
  exact mcsCode (K:=K) hn hid hR hb hK

section

variable {K:KP}

end
end
section
section

variable {K:KP}

theorem spreadCode {n id R:Nat} (hn:1≤n∧n≤16) (hid:id<n) (hR:R≤20) (hb:(bodyN (spreadP n id)).length≤10000) (hK:K (.tup [.c (.slc 0 0 (wholeZ R (bodyN (spreadP n id))).length none true),okP]) [] [.rows false 5 ((wholeZ R (bodyN (spreadP n id))).map rowIns)]) :
  Does Tryz.prog 215 [i64 n,i64 id,i64 R] [] K:=by
 rw [whole_len] at hK
 refine Does.keep 0 rfl ?_
 refine does Tryz.func215 rfl (by decide) ?_
 change Does Tryz.prog 252 _ _ _
 refine Does.alone 0 (partCheck hn hid hR ?_)
 change Does Tryz.prog 259 _ _ _
 refine Does.alone 0 (spreadBody hn hid ?_)
 change Does Tryz.prog 253 _ _ _
 refine Does.on 1 [0] _ _ (partWhole (b:=bodyN (spreadP n id)) (k:=(bodyN (spreadP n id)).length) (R:=R) rfl hb (by omega) ?_)
 exact ⟨2,[1],[.rows false 5 ((wholeZ R (bodyN (spreadP n id))).map rowIns)],.tup [.c (.slc 0 0 ((bodyN (spreadP n id)).length+8) none true),okP],rfl,rfl,by decide,by decide,rfl,rfl,rfl,rfl,rfl,hK⟩

theorem tourneyCode {n id R:Nat} (hn:1≤n∧n≤16) (hid:id<n) (hR:R≤20) (hb:(bodyN (tourneyP n id)).length≤10000) (hK:K (.tup [.c (.slc 0 0 (wholeZ R (bodyN (tourneyP n id))).length none true),okP]) [] [.rows false 5 ((wholeZ R (bodyN (tourneyP n id))).map rowIns)]) :
  Does Tryz.prog 217 [i64 n,i64 id,i64 R] [] K:=by
 rw [whole_len] at hK
 refine Does.keep 0 rfl ?_
 refine does Tryz.func217 rfl (by decide) ?_
 change Does Tryz.prog 252 _ _ _
 refine Does.alone 0 (partCheck hn hid hR ?_)
 change Does Tryz.prog 260 _ _ _
 refine Does.alone 0 (tourneyBody hn hid ?_)
 change Does Tryz.prog 253 _ _ _
 refine Does.on 1 [0] _ _ (partWhole (b:=bodyN (tourneyP n id)) (k:=(bodyN (tourneyP n id)).length) (R:=R) rfl hb (by omega) ?_)
 exact ⟨2,[1],[.rows false 5 ((wholeZ R (bodyN (tourneyP n id))).map rowIns)],.tup [.c (.slc 0 0 ((bodyN (tourneyP n id)).length+8) none true),okP],rfl,rfl,by decide,by decide,rfl,rfl,rfl,rfl,rfl,hK⟩

theorem nlev_le {n:Nat} (hn:1≤n∧n≤16):n*levN n≤16*4:=Nat.mul_le_mul hn.2 (lev_le n)

theorem spreadCells {n:Nat} (hn:1≤n∧n≤16) (hK:K (.tup [.c (.f (.int .i64 ((n*levN n:Nat):Int))),okP]) [] []):Does Tryz.prog 214 [i64 n] [] K:=by
 have hL:=nlev_le hn
 rw [show ((n*levN n:Nat):Int)=IntKind.i64.wrap ((n:Int)*(levN n:Int)) by rw [←Int.natCast_mul,wrap_i64 _ (by omega) (by omega)]] at hK
 refine does Tryz.func214 rfl (by decide) ?_
 change Does Tryz.prog 252 _ _ _
 refine Does.alone 0 (partCheck (id:=0) (R:=0) hn (by omega) (by omega) ?_)
 change Does Tryz.prog 258 _ _ _
 refine Does.alone 0 (levels n (by omega) fun l hl=>?_)
 obtain rfl:l=levN n:=isLev_unique hl (lev_is hn)
 exact hK

theorem tourneyCells {n:Nat} (hn:1≤n∧n≤16) (hK:K (.tup [.c (.f (.int .i64 ((n*levN n+n:Nat):Int))),okP]) [] []):Does Tryz.prog 216 [i64 n] [] K:=by
 have hL:=nlev_le hn
 rw [show ((n*levN n+n:Nat):Int)=IntKind.i64.wrap (IntKind.i64.wrap ((n:Int)*(levN n:Int))+(n:Int)) by rw [←Int.natCast_mul,wrap_i64 ((n*levN n:Nat):Int) (by omega) (by omega),wrap_i64 _ (by omega) (by omega)];omega] at hK
 refine does Tryz.func216 rfl (by decide) ?_
 change Does Tryz.prog 252 _ _ _
 refine Does.alone 0 (partCheck (id:=0) (R:=0) hn (by omega) (by omega) ?_)
 change Does Tryz.prog 258 _ _ _
 refine Does.alone 0 (levels n (by omega) fun l hl=>?_)
 obtain rfl:l=levN n:=isLev_unique hl (lev_is hn)
 exact hK

end

theorem kindOk4 {n R:Nat} (hn:1≤n∧n≤16) (hR:R≤20):KindOk ((4:Nat):Int) n R (kindC 4 n) (kindPs 4 n R) :=
 kindOk (by decide) hn (fun K hK=>spreadCells (K:=K) hn hK) fun id hid hb K hK=>by
  rw [bodyP_net (net_pieces (by decide) hn hid)] at hb hK
  exact spreadCode (K:=K) hn hid hR hb hK

theorem kindOk5 {n R:Nat} (hn:1≤n∧n≤16) (hR:R≤20):KindOk ((5:Nat):Int) n R (kindC 5 n) (kindPs 5 n R) :=
 kindOk (by decide) hn (fun K hK=>tourneyCells (K:=K) hn hK) fun id hid hb K hK=>by
  rw [bodyP_net (net_pieces (by decide) hn hid)] at hb hK
  exact tourneyCode (K:=K) hn hid hR hb hK
end
section
def nodeB:Option (List FC)→Int→Int→Bool
 | some [.int .i64 a,.int .i64 b],s,u=>a == s && b == u
 | _,_,_=>false

theorem nodeB_ok {o:Option (List FC)} {s u:Int} (h:nodeB o s u=true):o=some (rowNode s u):=by
 unfold nodeB at h
 split at h
 · simp only [Bool.and_eq_true,beq_iff_eq] at h
   rw [h.1,h.2]
 · cases h

def vI (n id j:Nat):Int:=if j<hgtN n then (nodeN n id j:Int) else -1

theorem path_small:((List.range 16).all fun m=>(List.range (m+1)).all fun id=>(List.range (hgtN (m+1))).all fun j =>
  nodeB (nodesF (m+1))[nodeN (m+1) id j]? (sizeN (m+1) id j) (vI (m+1) id (j+1)) && decide (nodeN (m+1) id j<firstN (m+1) (hgtN (m+1))∧firstN (m+1) (hgtN (m+1))≤20∧1≤sizeN (m+1) id j∧sizeN (m+1) id j≤2 ∧
   offP (combineP (m+1) id) (2*hgtN (m+1)-j)=8*hgtN (m+1)+4*(hgtN (m+1)-j)))=true:=by decide +kernel

theorem path_at {n id j:Nat} (hn:1≤n∧n≤16) (hid:id<n) (hj:j<hgtN n):(nodesF n)[nodeN n id j]? = some (rowNode (sizeN n id j) (vI n id (j+1)))∧nodeN n id j<firstN n (hgtN n)∧firstN n (hgtN n)≤20∧1≤sizeN n id j∧sizeN n id j≤2 ∧
  offP (combineP n id) (2*hgtN n-j)=8*hgtN n+4*(hgtN n-j):=by
 have h1:=all_range path_small (t:=n-1) (by omega)
 rw [show n-1+1=n by omega] at h1
 have h2:=all_range (all_range h1 hid) hj
 rw [Bool.and_eq_true] at h2
 exact ⟨nodeB_ok h2.1,oTr h2.2⟩

theorem hgt_le (n:Nat):1≤hgtN n∧hgtN n≤4:=by
 rw [hgtN]
 split
 · omega
 · split
   · omega
   · split <;> omega

def pathR (n id j:Nat):List (List FC):=(List.range j).map fun i=>[.int .i64 (nodeN n id i)]
theorem pathR_len (n id j:Nat):(pathR n id j).length=j:=by simp [pathR]
theorem pathR_succ (n id j:Nat):pathR n id (j+1)=pathR n id j++[[.int .i64 (nodeN n id j)]]:=by simp [pathR,List.range_succ]
theorem pathR_get {n id j i:Nat} (hi:i<j):(pathR n id j)[0+Int.toNat (i:Int)]? = some [.int .i64 (nodeN n id i)]:=by
 rw [Int.toNat_natCast,Nat.zero_add,pathR,List.getElem?_map,List.getElem?_range hi]
 rfl

theorem combU_off (n id h:Nat):∀ j,offP (combU n id h j) (combU n id h j).length=8*j
 | 0=>rfl
 | j+1=>by rw [combU,offP_app,combU_off n id h j];show 8*j+8=_;omega

theorem bodyQ_snoc (q:Nat→Nat) (P:List Pc) (x:Pc):bodyQ q 5 (P++[x])=bodyQ q 5 P++pcI q (5+offP P P.length) x:=by
 rw [bodyQ_app]
 show _++(pcI _ _ x++[])=_
 rw [List.append_nil]

section

variable {K:KP}

theorem combineDown (x:Int) {h j:Nat} (hh:h≤4) (hj:j<h) (hx:x=(j:Int)-1) (hK:K (i64 ((5+(8*h+4*(h-j)):Nat):Int)) [] [.one [.f (.int .i64 h)]]):Does Tryz.prog 276 [i64 x,cv (.ptr 0 0)] [.one [.f (.int .i64 h)]] K:=by
 have e:IntKind.i64.wrap (IntKind.i64.wrap (5+IntKind.i64.wrap (8*(h:Int)))+IntKind.i64.wrap (4*IntKind.i64.wrap (IntKind.i64.wrap ((h:Int)-1)-x)))=((5+(8*h+4*(h-j)):Nat):Int):=by
  subst hx
  rw [wrap_i64 (8*(h:Int)) (by omega) (by omega),wrap_i64 (5+8*(h:Int)) (by omega) (by omega),wrap_i64 ((h:Int)-1) (by omega) (by omega),wrap_i64 ((h:Int)-1-((j:Int)-1)) (by omega) (by omega),wrap_i64 (4*_) (by omega) (by omega),wrap_i64 _ (by omega) (by omega)]
  omega
 rw [←e] at hK
 refine does Tryz.func276 rfl (by decide) ?_
 exact hK

set_option maxHeartbeats 2000000 in
theorem combineBody {n id:Nat} (hn:1≤n∧n≤16) (hid:id<n) (hK:K (cv (.slc 0 0 (bodyP (combineP n id)).length none false)) [] [.rows false 5 ((bodyP (combineP n id)).map rowIns)]):Does Tryz.prog 256 [i64 n,i64 id] [] K:=by
 obtain ⟨hh1,hh4⟩:=hgt_le n
 refine Does.keep 0 rfl ?_
 refine does Tryz.func256 rfl (by decide) ?_
 change Does Tryz.prog 255 _ _ _
 refine Does.alone 0 (combineNodes hn ?_)
 refine SS.nil 6 1 (by decide) rfl ?_
 have hv0:IntKind.i64.wrap ((id:Int).tdiv 2)=vI n id 0:=by
  rw [vI,if_pos (by omega),show ((2:Int))=((2:Nat):Int) from rfl,←Int.ofNat_tdiv,wrap_i64 _ (by omega) (by omega)]
  show ((id / 2:Nat):Int)=((0+id / 2 ^ 1:Nat):Int)
  rw [Nat.zero_add,Nat.pow_one]
 refine SS.loop (fun j:Nat=>j≤hgtN n) (fun j=>[(5,cv (.slc 0 0 (firstN n (hgtN n)) none false)),(6,cv (.slc 1 0 j none false)),(7,i64 (vI n id j))]) (fun j=>[.rows false 2 (nodesF n),.rows false 1 (pathR n id j)]) (fun j=>hgtN n-j) [1]
  (At.mk' [5,6,7] 0 (Nat.zero_le _) ⟨by rw [hv0];rfl,rfl⟩ rfl rfl (by simp) (by simp) (by simp)) ?_
 intro j hj
 change j≤hgtN n at hj
 refine S_r ?_
 refine bZ (fun h1=>?_) (fun h1=>?_)
 · have h1:vI n id j≥0:=oTr h1
   have hjh:j<hgtN n:=Classical.byContradiction fun h=>by rw [vI,if_neg h] at h1;omega
   have hv:vI n id j=(nodeN n id j:Int):=by rw [vI,if_pos hjh]
   obtain ⟨p1,p2,p3,p4,p5,p6⟩:=path_at hn hid hjh
   refine And.intro (Nat.le_of_ble_eq_true rfl) (Or.inl (And.intro rfl (And.intro (by simp [pathR_len]) (And.intro (by show (j+1)*8≤_;omega) (And.intro (by show j+1≤_;omega) ?_)))))
   refine at2 (a:=(0:Int)≤vI n id j) (b:=vI n id j<((firstN n (hgtN n):Nat):Int)) (by omega) (by omega) (rd1 (rowNode (sizeN n id j) (vI n id (j+1))) (.int .i64 (vI n id (j+1))) (by rw [hv,Int.toNat_natCast,Nat.zero_add];exact p1) rfl ?_)
   refine At.mk' [5,6,7] (j+1) ⟨hjh,by omega⟩ ⟨rfl,rfl⟩ ?_ rfl (by simp) (by simp) (by decide)
   rw [pathR_succ,←hv]
   rfl
 · have h1:¬vI n id j≥0:=oFa h1
   have hjh:¬j<hgtN n:=fun h=>h1 (by rw [vI,if_pos h];omega)
   obtain rfl:j=hgtN n:=by omega
   clear h1 hjh hj
   refine SS.nil 10 5 (by decide) rfl ?_
   generalize hhh:hgtN n=h at *
   refine SS.loop (fun j:Nat=>j≤h) (fun j=>[(5,cv (.slc 0 0 (firstN n h) none false)),(6,cv (.slc 1 0 h none false)),(8,cv (.ptr 2 0)),(9,cv (.func 276 [2])),(10,cv (.slc 3 0 (8*j) none false)),(34,cv (.slc 1 0 h none false)),(35,i64 h),(36,i64 j)])
    (fun j=>[.rows false 2 (nodesF n),.rows false 1 (pathR n id h),.one [.f (.int .i64 h)],.rows false 5 ((bodyQ (fun j=>5+offP (combineP n id) j) 5 (combU n id h j)).map rowIns)]) (fun j=>h-j) [1,3]
    (At.mk' [5,6,8,9,10,34,35,36] 0 (Nat.zero_le _) ⟨rfl,rfl⟩ rfl rfl (by simp) (by simp) (by simp)) ?_
   intro j hj
   change j≤h at hj
   have hlen:(bodyQ (fun j=>5+offP (combineP n id) j) 5 (combU n id h j)).length=8*j:=by rw [bodyQ_len,combU_off]
   refine S_r ?_
   refine bZ (fun h1=>?_) (fun h1=>?_)
   · have hjh:j<h:=by
      have:=oTr h1
      have:(j:Int)<(h:Int):=this
      omega
     obtain ⟨p1,p2,p3,p4,p5,p6⟩:=path_at hn hid (show j<hgtN n by omega)
     rw [hhh] at p2 p3 p6
     have w8:IntKind.i64.wrap (5+IntKind.i64.wrap (8*(j:Int)))=((5+8*j:Nat):Int):=by
      rw [wrap_i64 (8*(j:Int)) (by omega) (by omega),wrap_i64 _ (by omega) (by omega)]
      omega
     have wv:IntKind.i64.wrap (2*(nodeN n id j:Int))=((2*nodeN n id j:Nat):Int):=by
      rw [wrap_i64 _ (by omega) (by omega)]
      omega
     have wv1:IntKind.i64.wrap (IntKind.i64.wrap (2*(nodeN n id j:Int))+1)=((2*nodeN n id j+1:Nat):Int):=by
      rw [wv,wrap_i64 _ (by omega) (by omega)]
      omega
     have ws:IntKind.i64.wrap ((sizeN n id j:Int)-1)=(sizeN n id j:Int)-1:=wrap_i64 _ (by omega) (by omega)
     have wa8:IntKind.i64.wrap (IntKind.i64.wrap (5+IntKind.i64.wrap (8*(j:Int)))+8)=((5+8*j:Nat):Int)+8:=by
      rw [w8,wrap_i64 _ (by omega) (by omega)]
     have wa2:IntKind.i64.wrap (IntKind.i64.wrap (5+IntKind.i64.wrap (8*(j:Int)))+2)=((5+8*j+2:Nat):Int):=by
      rw [w8,wrap_i64 _ (by omega) (by omega)]
      omega
     have wj:IntKind.i64.wrap ((j:Int)-1)=(j:Int)-1:=wrap_i64 _ (by omega) (by omega)
     refine at2 (a:=(0:Int)≤(j:Int)) (b:=(j:Int)<(h:Int)) (by omega) (by omega) (rd1 [.int .i64 (nodeN n id j)] (.int .i64 (nodeN n id j)) (pathR_get hjh) rfl ?_)
     refine at2 (a:=(0:Int)≤(nodeN n id j:Int)) (b:=(nodeN n id j:Int)<((firstN n h:Nat):Int)) (by omega) (by omega) (rd1 (rowNode (sizeN n id j) (vI n id (j+1))) (.int .i64 (sizeN n id j)) (by rw [Int.toNat_natCast,Nat.zero_add];exact p1) rfl ?_)
     refine And.intro (Nat.le_of_ble_eq_true rfl) (Or.inl (And.intro rfl (And.intro (by simp [hlen]) (And.intro (by show (8*j+2)*40≤_;omega) (And.intro (by show 8*j+2≤_;omega) ?_)))))
     change Does Tryz.prog 274 _ _ _
     refine Does.alone 5 (awaitN wa2 wv1 (by omega) ?_)
     refine And.intro (Nat.le_of_ble_eq_true rfl) (Or.inl (And.intro rfl (And.intro (by simp [hlen]) (And.intro (by show (8*j+2+5)*40≤_;omega) (And.intro (by show 8*j+2+5≤_;omega) ?_)))))
     change Does Tryz.prog 276 _ _ _
     refine Does.on 6 [2] _ _ (combineDown (h:=h) (j:=j) _ hh4 hjh wj ?_)
     refine And.intro (Nat.le_of_ble_eq_true rfl) (Or.inl (And.intro rfl (And.intro (by simp [hlen];omega) (And.intro (by show (8*j+2+5+1)*40≤_;omega) (And.intro (by show 8*j+2+5+1≤_;omega) ?_)))))
     refine At.mk' [5,6,8,9,10,34,35,36] (j+1) ⟨hjh,by omega⟩ ⟨?_,rfl⟩ ?_ rfl (by simp) (by simp) (by decide)
     · rw [wrap_i64 (j+1) (by omega) (by omega)]
       rfl
     · rw [combU,bodyQ_snoc,combU_off,List.map_append]
       show _=[_,_,_,PO.rows false 5 (_++((([⟨8,1,((2*nodeN n id j:Nat):Int),1,0⟩,⟨11,1,(sizeN n id j:Int)-1,((5+8*j:Nat):Int)+8,0⟩]:List InsZ)++awI (5+8*j+2) (2*nodeN n id j+1)++([⟨10,((5+offP (combineP n id) (2*h-j):Nat):Int),0,0,0⟩]:List InsZ)).map rowIns))]
       rw [p6,List.map_append,List.map_append,wv,ws,wa8]
       rw [←List.append_assoc,←List.append_assoc]
       rfl
   · have hjh:¬j<h:=by
      have:=oFa h1
      have:¬(j:Int)<(h:Int):=this
      omega
     obtain rfl:j=h:=by omega
     have hQ0:combineP n id=combU n id j j++combD n id j:=by rw [combineP,hhh]
     refine SS.loop (fun q:Nat×List Pc=>q.1≤j∧combineP n id=q.2++combD n id q.1∧(bodyQ (fun j=>5+offP (combineP n id) j) 5 q.2).length+4*q.1≤100) (fun q=>[(5,cv (.slc 0 0 (firstN n j) none false)),(6,cv (.slc 1 0 j none false)),(10,cv (.slc 3 0 (bodyQ (fun j=>5+offP (combineP n id) j) 5 q.2).length none false)),(14,i64 (idxD q.1))])
      (fun q=>[.rows false 2 (nodesF n),.rows false 1 (pathR n id j),.one [.f (.int .i64 j)],.rows false 5 ((bodyQ (fun j=>5+offP (combineP n id) j) 5 q.2).map rowIns)]) (fun q=>q.1) [1,3]
      (At.mk' [5,6,10,14] (j,combU n id j j) ⟨Nat.le_refl _,hQ0,by show (bodyQ (fun j=>5+offP (combineP n id) j) 5 (combU n id j j)).length+4*j≤100;rw [hlen];omega⟩ ⟨?_,rfl⟩ rfl rfl (by simp) (by simp) (by simp)) ?_
     · rw [idxD_eq (by omega)]
       dsimp only
       rw [hlen]
     rintro ⟨i,Q⟩ ⟨hi,hQ,hB⟩
     change i≤j at hi
     change combineP n id=Q++combD n id i at hQ
     change (bodyQ (fun j=>5+offP (combineP n id) j) 5 Q).length+4*i≤100 at hB
     have hlQ:(bodyQ (fun j=>5+offP (combineP n id) j) 5 Q).length=offP Q Q.length:=bodyQ_len _ _ _
     cases i with
     | zero =>
       refine S_r ?_
       have hQe:combineP n id=Q:=by rw [hQ];exact List.append_nil _
       have e:bodyP (combineP n id)=bodyQ (fun j=>5+offP (combineP n id) j) 5 Q:=by
        rw [bodyP]
        rw [←hQe]
       rw [e] at hK
       exact ⟨4,[3],[.rows false 5 ((bodyQ (fun j=>5+offP (combineP n id) j) 5 Q).map rowIns)],cv (.slc 0 0 (bodyQ (fun j=>5+offP (combineP n id) j) 5 Q).length none false),rfl,rfl,by decide,by decide,rfl,rfl,rfl,rfl,rfl,hK⟩
     | succ i =>
       have hij:i<j:=by omega
       obtain ⟨p1,p2,p3,p4,p5,p6⟩:=path_at hn hid (show i<hgtN n by omega)
       rw [hhh] at p2 p3 p6
       have wv:IntKind.i64.wrap (2*(nodeN n id i:Int))=((2*nodeN n id i:Nat):Int):=by
        rw [wrap_i64 _ (by omega) (by omega)]
        omega
       have wv1:IntKind.i64.wrap (IntKind.i64.wrap (2*(nodeN n id i:Int))+1)=((2*nodeN n id i+1:Nat):Int):=by
        rw [wv,wrap_i64 _ (by omega) (by omega)]
        omega
       have hdn:IntKind.i64.wrap (idxD (i+1,Q).1-1)=idxD i:=idxD_eq (r:=i) (by omega)
       refine S_r ?_
       refine at2 (a:=(0:Int)≤(i:Int)) (b:=(i:Int)<(j:Int)) (by omega) (by omega) (rd1 [.int .i64 (nodeN n id i)] (.int .i64 (nodeN n id i)) (pathR_get hij) rfl ?_)
       refine And.intro (Nat.le_of_ble_eq_true rfl) (Or.inl (And.intro rfl (And.intro (by simp) (And.intro (by show ((bodyQ (fun j=>5+offP (combineP n id) j) 5 Q).length+2)*40≤_;omega) (And.intro (by show (bodyQ (fun j=>5+offP (combineP n id) j) 5 Q).length+2≤_;omega) ?_)))))
       refine at2 (a:=(0:Int)≤(nodeN n id i:Int)) (b:=(nodeN n id i:Int)<((firstN n j:Nat):Int)) (by omega) (by omega) (rd1 (rowNode (sizeN n id i) (vI n id (i+1))) (.int .i64 (sizeN n id i)) (by rw [Int.toNat_natCast,Nat.zero_add];exact p1) rfl ?_)
       change Does Tryz.prog 275 _ _ _
       refine Does.alone 5 (tellN (n:=sizeN n id i) wv1 rfl ?_)
       refine And.intro (Nat.le_of_ble_eq_true rfl) (Or.inl (And.intro rfl (And.intro (by simp) (And.intro (by show ((bodyQ (fun j=>5+offP (combineP n id) j) 5 Q).length+2+2)*40≤_;omega) (And.intro (by show (bodyQ (fun j=>5+offP (combineP n id) j) 5 Q).length+2+2≤_;omega) ?_)))))
       have hsn:bodyQ (fun j=>5+offP (combineP n id) j) 5 (Q++[Pc.dn (2*nodeN n id i) (sizeN n id i)])=bodyQ (fun j=>5+offP (combineP n id) j) 5 Q++(([⟨1,2,0,0,0⟩,⟨7,((2*nodeN n id i:Nat):Int),2,-1,0⟩]:List InsZ)++tlI (2*nodeN n id i+1) (sizeN n id i)):=bodyQ_snoc _ _ _
       refine At.mk' [5,6,10,14] (i,Q++[Pc.dn (2*nodeN n id i) (sizeN n id i)]) ⟨⟨by show i≤j;omega,?_,?_⟩,by show i<i+1;omega⟩ ⟨?_,rfl⟩ ?_ rfl (by simp) (by simp) (by decide)
       · show combineP n id=Q++[Pc.dn (2*nodeN n id i) (sizeN n id i)]++combD n id i
         rw [hQ,combD]
         simp
       · show (bodyQ (fun j=>5+offP (combineP n id) j) 5 (Q++[Pc.dn (2*nodeN n id i) (sizeN n id i)])).length+4*i≤100
         rw [hsn,List.length_append]
         show (bodyQ (fun j=>5+offP (combineP n id) j) 5 Q).length+4+4*i≤100
         omega
       · rw [hdn]
         dsimp only
         rw [hsn,List.length_append]
         rfl
       · dsimp only
         rw [hsn,List.map_append,←wv,List.map_append,←List.append_assoc]
         rfl

end
end
section
section

variable {K:KP}

theorem combineCode {n id R:Nat} (hn:1≤n∧n≤16) (hid:id<n) (hR:R≤20) (hb:(bodyP (combineP n id)).length≤10000) (hK:K (.tup [.c (.slc 0 0 (wholeZ R (bodyP (combineP n id))).length none true),okP]) [] [.rows false 5 ((wholeZ R (bodyP (combineP n id))).map rowIns)]) :
  Does Tryz.prog 211 [i64 n,i64 id,i64 R] [] K:=by
 rw [whole_len] at hK
 refine Does.keep 0 rfl ?_
 refine does Tryz.func211 rfl (by decide) ?_
 change Does Tryz.prog 252 _ _ _
 refine Does.alone 0 (partCheck hn hid hR ?_)
 change Does Tryz.prog 256 _ _ _
 refine Does.alone 0 (combineBody hn hid ?_)
 change Does Tryz.prog 253 _ _ _
 refine Does.on 1 [0] _ _ (partWhole (b:=bodyP (combineP n id)) (k:=(bodyP (combineP n id)).length) (R:=R) rfl hb (by omega) ?_)
 exact ⟨2,[1],[.rows false 5 ((wholeZ R (bodyP (combineP n id))).map rowIns)],.tup [.c (.slc 0 0 ((bodyP (combineP n id)).length+8) none true),okP],rfl,rfl,by decide,by decide,rfl,rfl,rfl,rfl,rfl,hK⟩

theorem combineCells {n:Nat} (hn:1≤n∧n≤16) (hK:K (.tup [.c (.f (.int .i64 ((2*firstN n (hgtN n):Nat):Int))),okP]) [] []):Does Tryz.prog 210 [i64 n] [] K:=by
 have h20:=(path_at hn (show 0<n by omega) (show 0<hgtN n from (hgt_le n).1)).2.2.1
 rw [show ((2*firstN n (hgtN n):Nat):Int)=IntKind.i64.wrap (2*((firstN n (hgtN n):Nat):Int)) by rw [wrap_i64 _ (by omega) (by omega)];omega] at hK
 refine Does.keep 0 rfl ?_
 refine does Tryz.func210 rfl (by decide) ?_
 change Does Tryz.prog 252 _ _ _
 refine Does.alone 0 (partCheck (id:=0) (R:=0) hn (by omega) (by omega) ?_)
 change Does Tryz.prog 255 _ _ _
 refine Does.alone 0 (combineNodes hn ?_)
 exact ⟨_,[],[],.tup [.c (.f (.int .i64 (IntKind.i64.wrap (2*((firstN n (hgtN n):Nat):Int))))),okP],rfl,rfl,by decide,by decide,rfl,rfl,rfl,rfl,rfl,hK⟩

end

theorem kindOk2 {n R:Nat} (hn:1≤n∧n≤16) (hR:R≤20):KindOk ((2:Nat):Int) n R (kindC 2 n) (kindPs 2 n R) :=
 kindOk (by decide) hn (fun K hK=>combineCells (K:=K) hn hK) fun id hid hb K hK=>combineCode (K:=K) hn hid hR hb hK

theorem kindAll {k n R:Nat} (hk:1≤k∧k≤6) (hn:1≤n∧n≤16) (hR:R≤20):KindOk (k:Int) n R (kindC k n) (kindPs k n R):=by
 have h:k=1∨k=2∨k=3∨k=4∨k=5∨k=6:=by omega
 rcases h with rfl | rfl | rfl | rfl | rfl | rfl
 · exact kindOk1 hn hR
 · exact kindOk2 hn hR
 · exact kindOk3 hn hR
 · exact kindOk4 hn hR
 · exact kindOk5 hn hR
 · exact kindOk6 hn hR
end
end Go.Mac
end
