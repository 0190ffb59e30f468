/- Texts that belong together; the first of them:  -/
import Derived.Test.YtollgfhpcidkgaaGreatDoorA13
import Derived.Test.YtollgfhpcidkgaaGreatDoorA18
import Derived.Test.YtollgfhpcidkgaaGreatDoorA15
import Derived.Test.YtollgfhpcidkgaaGreatDoorProg
import Derived.Test.YtollgfhpcidkgaaGreatDoorA3

section
open Go Go.Proofs Go.Mac
set_option maxRecDepth 100000
namespace Go.Mac
section
def kindV (s:List UInt8):Option Nat :=
 if s=[99,101,110,116,114,97,108] then some 1 else if s=[99,111,109,98,105,110,101] then some 2 else if s=[115,116,97,116,105,99] then some 3
 else if s=[115,112,114,101,97,100] then some 4 else if s=[116,111,117,114,110,101,121] then some 5 else if s=[109,99,115] then some 6 else none

def kindName:Nat→List UInt8
 | 1=>[99,101,110,116,114,97,108]
 | 2=>[99,111,109,98,105,110,101]
 | 3=>[115,116,97,116,105,99]
 | 4=>[115,112,114,101,97,100]
 | 5=>[116,111,117,114,110,101,121]
 | 6=>[109,99,115]
 | _=>[]

theorem kindV_some {s:List UInt8} {i:Nat} (h1:1≤i) (h6:i≤6) (hno:∀ j,1≤j→j<i→s≠kindName j) (h:s=kindName i):kindV s=some i:=by
 have hi:i=1∨i=2∨i=3∨i=4∨i=5∨i=6:=by omega
 subst h
 rcases hi with rfl | rfl | rfl | rfl | rfl | rfl <;> decide

theorem kindV_none {s:List UInt8} (hno:∀ j,1≤j→j<7→s≠kindName j):kindV s=none:=by
 have h1:=hno 1 (by decide) (by decide)
 have h2:=hno 2 (by decide) (by decide)
 have h3:=hno 3 (by decide) (by decide)
 have h4:=hno 4 (by decide) (by decide)
 have h5:=hno 5 (by decide) (by decide)
 have h6:=hno 6 (by decide) (by decide)
 simp only [kindName] at h1 h2 h3 h4 h5 h6
 simp only [kindV,if_neg h1,if_neg h2,if_neg h3,if_neg h4,if_neg h5,if_neg h6]

theorem kindV_range {s:List UInt8} {k:Nat} (h:kindV s=some k):1≤k∧k≤6:=by
 unfold kindV at h
 repeat' (split at h)
 all_goals first | (obtain rfl:=Option.some.inj h;decide) | cases h

section

variable {K:KP} {J:KJ}

theorem danceKind {s:List UInt8} (h1:∀ k:Nat,kindV s=some k→K (.tup [.c (.f (.int .i64 k)),.c .niliface]) [] []) (h0:kindV s=none→K (.tup [.c (.f (.int .i64 0)),.c (eno 5)]) [] []):Does Tryz.prog 112 [st s] [] K:=by
 refine does Tryz.func112 rfl (by decide) ?_
 change Does Tryz.prog 166 _ _ _
 refine danceKinds ?_
 refine SS.loop (fun i:Nat=>i≤7∧∀ j,1≤j→j<i→s≠kindName j) (fun i=>[(0,st s),(6,.p (.agg kindsA)),(7,i64 i)]) (fun _=>[]) (fun i=>7-i) []
  (At.mk' [0,6,7] 0 ⟨by omega,fun j h1 h2=>by omega⟩ ⟨rfl,rfl⟩ rfl rfl (by simp) (by simp) (by simp)) ?_
 rintro i ⟨hi,hno⟩
 have hi7:i=0∨i=1∨i=2∨i=3∨i=4∨i=5∨i=6∨i=7:=by omega
 refine S_r ?_
 rcases hi7 with rfl | rfl | rfl | rfl | rfl | rfl | rfl | rfl
 · refine SS.inlR ?_
   refine And.intro (by decide) (And.intro (by decide) (Exists.intro _ (And.intro rfl ?_)))
   exact At.mk' [0,6,7] 1 ⟨⟨by omega,fun j h1 h2=>by omega⟩,by omega⟩ ⟨rfl,rfl⟩ rfl rfl (by simp) (by simp) (by simp)
 · refine SS.inlR ?_
   refine And.intro (by decide) (And.intro (by decide) (Exists.intro _ (And.intro rfl ?_)))
   refine bZ (fun hs=>?_) (fun hs=>?_)
   · have hs:(kindName 1 == s)=true:=hs
     exact h1 1 (kindV_some (by decide) (by decide) hno (eq_of_beq hs).symm)
   · have hs:(kindName 1 == s)=false:=hs
     refine At.mk' [0,6,7] 2 ⟨⟨by omega,fun j k1 k2 e=>?_⟩,by omega⟩ ⟨rfl,rfl⟩ rfl rfl (by simp) (by simp) (by simp)
     have hj:j<1∨j=1:=by omega
     rcases hj with hj | rfl
     · exact hno j k1 hj e
     · rw [e] at hs
       simp at hs
 · refine SS.inlR ?_
   refine And.intro (by decide) (And.intro (by decide) (Exists.intro _ (And.intro rfl ?_)))
   refine bZ (fun hs=>?_) (fun hs=>?_)
   · have hs:(kindName 2 == s)=true:=hs
     exact h1 2 (kindV_some (by decide) (by decide) hno (eq_of_beq hs).symm)
   · have hs:(kindName 2 == s)=false:=hs
     refine At.mk' [0,6,7] 3 ⟨⟨by omega,fun j k1 k2 e=>?_⟩,by omega⟩ ⟨rfl,rfl⟩ rfl rfl (by simp) (by simp) (by simp)
     have hj:j<2∨j=2:=by omega
     rcases hj with hj | rfl
     · exact hno j k1 hj e
     · rw [e] at hs
       simp at hs
 · refine SS.inlR ?_
   refine And.intro (by decide) (And.intro (by decide) (Exists.intro _ (And.intro rfl ?_)))
   refine bZ (fun hs=>?_) (fun hs=>?_)
   · have hs:(kindName 3 == s)=true:=hs
     exact h1 3 (kindV_some (by decide) (by decide) hno (eq_of_beq hs).symm)
   · have hs:(kindName 3 == s)=false:=hs
     refine At.mk' [0,6,7] 4 ⟨⟨by omega,fun j k1 k2 e=>?_⟩,by omega⟩ ⟨rfl,rfl⟩ rfl rfl (by simp) (by simp) (by simp)
     have hj:j<3∨j=3:=by omega
     rcases hj with hj | rfl
     · exact hno j k1 hj e
     · rw [e] at hs
       simp at hs
 · refine SS.inlR ?_
   refine And.intro (by decide) (And.intro (by decide) (Exists.intro _ (And.intro rfl ?_)))
   refine bZ (fun hs=>?_) (fun hs=>?_)
   · have hs:(kindName 4 == s)=true:=hs
     exact h1 4 (kindV_some (by decide) (by decide) hno (eq_of_beq hs).symm)
   · have hs:(kindName 4 == s)=false:=hs
     refine At.mk' [0,6,7] 5 ⟨⟨by omega,fun j k1 k2 e=>?_⟩,by omega⟩ ⟨rfl,rfl⟩ rfl rfl (by simp) (by simp) (by simp)
     have hj:j<4∨j=4:=by omega
     rcases hj with hj | rfl
     · exact hno j k1 hj e
     · rw [e] at hs
       simp at hs
 · refine SS.inlR ?_
   refine And.intro (by decide) (And.intro (by decide) (Exists.intro _ (And.intro rfl ?_)))
   refine bZ (fun hs=>?_) (fun hs=>?_)
   · have hs:(kindName 5 == s)=true:=hs
     exact h1 5 (kindV_some (by decide) (by decide) hno (eq_of_beq hs).symm)
   · have hs:(kindName 5 == s)=false:=hs
     refine At.mk' [0,6,7] 6 ⟨⟨by omega,fun j k1 k2 e=>?_⟩,by omega⟩ ⟨rfl,rfl⟩ rfl rfl (by simp) (by simp) (by simp)
     have hj:j<5∨j=5:=by omega
     rcases hj with hj | rfl
     · exact hno j k1 hj e
     · rw [e] at hs
       simp at hs
 · refine SS.inlR ?_
   refine And.intro (by decide) (And.intro (by decide) (Exists.intro _ (And.intro rfl ?_)))
   refine bZ (fun hs=>?_) (fun hs=>?_)
   · have hs:(kindName 6 == s)=true:=hs
     exact h1 6 (kindV_some (by decide) (by decide) hno (eq_of_beq hs).symm)
   · have hs:(kindName 6 == s)=false:=hs
     refine At.mk' [0,6,7] 7 ⟨⟨by omega,fun j k1 k2 e=>?_⟩,by omega⟩ ⟨rfl,rfl⟩ rfl rfl (by simp) (by simp) (by simp)
     have hj:j<6∨j=6:=by omega
     rcases hj with hj | rfl
     · exact hno j k1 hj e
     · rw [e] at hs
       simp at hs
 · exact h0 (kindV_none fun j k1 k2=>hno j k1 k2)

theorem partCheckE {n id R:Int} (h:n<1∨16<n∨id<0∨n≤id∨R<0∨20<R) (hK:K (cv (eno 2)) [] []):Does Tryz.prog 252 [i64 n,i64 id,i64 R] [] K:=by
 refine does Tryz.func252 rfl (by decide) ?_
 refine bZ (fun _=>?_) (fun h1=>?_)
 · exact hK
 have h1:=oFa h1
 refine bZ (fun _=>?_) (fun h2=>?_)
 · exact hK
 have h2:=oFa h2
 refine bZ (fun _=>?_) (fun h3=>?_)
 · exact hK
 have h3:=oFa h3
 refine bZ (fun _=>?_) (fun h4=>?_)
 · exact hK
 have h4:=oFa h4
 refine bZ (fun _=>?_) (fun h5=>?_)
 · exact hK
 have h5:=oFa h5
 refine bZ (fun _=>?_) (fun h6=>?_)
 · exact hK
 have h6:=oFa h6
 omega

theorem centralCellsE {n:Int} (h:n<1∨16<n) (hK:K (.tup [.c (.f (.int .i64 0)),.c (eno 2)]) [] []):Does Tryz.prog 208 [i64 n] [] K:=by
 refine does Tryz.func208 rfl (by decide) ?_
 change Does Tryz.prog 252 _ _ _
 refine Does.alone 0 (partCheckE (by omega) ?_)
 exact hK

theorem centralCodeE {n id R:Int} (h:n<1∨16<n∨id<0∨n≤id∨R<0∨20<R) (hK:K (.tup [.c .nilslc,.c (eno 2)]) [] []):Does Tryz.prog 209 [i64 n,i64 id,i64 R] [] K:=by
 refine does Tryz.func209 rfl (by decide) ?_
 change Does Tryz.prog 252 _ _ _
 refine Does.alone 0 (partCheckE h ?_)
 exact hK

theorem combineCellsE {n:Int} (h:n<1∨16<n) (hK:K (.tup [.c (.f (.int .i64 0)),.c (eno 2)]) [] []):Does Tryz.prog 210 [i64 n] [] K:=by
 refine does Tryz.func210 rfl (by decide) ?_
 change Does Tryz.prog 252 _ _ _
 refine Does.alone 0 (partCheckE (by omega) ?_)
 exact hK

theorem combineCodeE {n id R:Int} (h:n<1∨16<n∨id<0∨n≤id∨R<0∨20<R) (hK:K (.tup [.c .nilslc,.c (eno 2)]) [] []):Does Tryz.prog 211 [i64 n,i64 id,i64 R] [] K:=by
 refine does Tryz.func211 rfl (by decide) ?_
 change Does Tryz.prog 252 _ _ _
 refine Does.alone 0 (partCheckE h ?_)
 exact hK

theorem staticCellsE {n:Int} (h:n<1∨16<n) (hK:K (.tup [.c (.f (.int .i64 0)),.c (eno 2)]) [] []):Does Tryz.prog 212 [i64 n] [] K:=by
 refine does Tryz.func212 rfl (by decide) ?_
 change Does Tryz.prog 252 _ _ _
 refine Does.alone 0 (partCheckE (by omega) ?_)
 exact hK

theorem staticCodeE {n id R:Int} (h:n<1∨16<n∨id<0∨n≤id∨R<0∨20<R) (hK:K (.tup [.c .nilslc,.c (eno 2)]) [] []):Does Tryz.prog 213 [i64 n,i64 id,i64 R] [] K:=by
 refine does Tryz.func213 rfl (by decide) ?_
 change Does Tryz.prog 252 _ _ _
 refine Does.alone 0 (partCheckE h ?_)
 exact hK

theorem spreadCellsE {n:Int} (h:n<1∨16<n) (hK:K (.tup [.c (.f (.int .i64 0)),.c (eno 2)]) [] []):Does Tryz.prog 214 [i64 n] [] K:=by
 refine does Tryz.func214 rfl (by decide) ?_
 change Does Tryz.prog 252 _ _ _
 refine Does.alone 0 (partCheckE (by omega) ?_)
 exact hK

theorem spreadCodeE {n id R:Int} (h:n<1∨16<n∨id<0∨n≤id∨R<0∨20<R) (hK:K (.tup [.c .nilslc,.c (eno 2)]) [] []):Does Tryz.prog 215 [i64 n,i64 id,i64 R] [] K:=by
 refine does Tryz.func215 rfl (by decide) ?_
 change Does Tryz.prog 252 _ _ _
 refine Does.alone 0 (partCheckE h ?_)
 exact hK

theorem tourneyCellsE {n:Int} (h:n<1∨16<n) (hK:K (.tup [.c (.f (.int .i64 0)),.c (eno 2)]) [] []):Does Tryz.prog 216 [i64 n] [] K:=by
 refine does Tryz.func216 rfl (by decide) ?_
 change Does Tryz.prog 252 _ _ _
 refine Does.alone 0 (partCheckE (by omega) ?_)
 exact hK

theorem tourneyCodeE {n id R:Int} (h:n<1∨16<n∨id<0∨n≤id∨R<0∨20<R) (hK:K (.tup [.c .nilslc,.c (eno 2)]) [] []):Does Tryz.prog 217 [i64 n,i64 id,i64 R] [] K:=by
 refine does Tryz.func217 rfl (by decide) ?_
 change Does Tryz.prog 252 _ _ _
 refine Does.alone 0 (partCheckE h ?_)
 exact hK

theorem mcsCellsE {n:Int} (h:n<1∨16<n) (hK:K (.tup [.c (.f (.int .i64 0)),.c (eno 2)]) [] []):Does Tryz.prog 218 [i64 n] [] K:=by
 refine does Tryz.func218 rfl (by decide) ?_
 change Does Tryz.prog 252 _ _ _
 refine Does.alone 0 (partCheckE (by omega) ?_)
 exact hK

theorem mcsCodeE {n id R:Int} (h:n<1∨16<n∨id<0∨n≤id∨R<0∨20<R) (hK:K (.tup [.c .nilslc,.c (eno 2)]) [] []):Does Tryz.prog 219 [i64 n,i64 id,i64 R] [] K:=by
 refine does Tryz.func219 rfl (by decide) ?_
 change Does Tryz.prog 252 _ _ _
 refine Does.alone 0 (partCheckE h ?_)
 exact hK

theorem cellsE {k:Nat} {n:Int} (hk:1≤k∧k≤6) (h:n<1∨16<n) (hK:K (.tup [.c (.f (.int .i64 0)),.c (eno 2)]) [] []):Does Tryz.prog 167 [i64 k,i64 n] [] K:=by
 refine does Tryz.func167 rfl (by decide) ?_
 change Does Tryz.prog 220 _ _ _
 refine Does.alone 0 (danceName (by omega) fun s=>?_)
 change Does Tryz.prog 166 _ _ _
 refine Does.alone 0 (danceKinds ?_)
 have hk6:k=1∨k=2∨k=3∨k=4∨k=5∨k=6:=by omega
 rcases hk6 with rfl | rfl | rfl | rfl | rfl | rfl
 all_goals refine And.intro (by decide) (And.intro (by decide) (Exists.intro _ (And.intro rfl ?_)))
 · exact centralCellsE h hK
 · exact combineCellsE h hK
 · exact staticCellsE h hK
 · exact spreadCellsE h hK
 · exact tourneyCellsE h hK
 · exact mcsCellsE h hK

theorem codeE {k:Nat} {n id R:Int} (hk:1≤k∧k≤6) (h:n<1∨16<n∨id<0∨n≤id∨R<0∨20<R) (hK:K (.tup [.c .nilslc,.c (eno 2)]) [] []):Does Tryz.prog 168 [i64 k,i64 n,i64 id,i64 R] [] K:=by
 refine does Tryz.func168 rfl (by decide) ?_
 change Does Tryz.prog 220 _ _ _
 refine Does.alone 0 (danceName (by omega) fun s=>?_)
 change Does Tryz.prog 166 _ _ _
 refine Does.alone 0 (danceKinds ?_)
 have hk6:k=1∨k=2∨k=3∨k=4∨k=5∨k=6:=by omega
 rcases hk6 with rfl | rfl | rfl | rfl | rfl | rfl
 all_goals refine And.intro (by decide) (And.intro (by decide) (Exists.intro _ (And.intro rfl ?_)))
 · exact centralCodeE h hK
 · exact combineCodeE h hK
 · exact staticCodeE h hK
 · exact spreadCodeE h hK
 · exact tourneyCodeE h hK
 · exact mcsCodeE h hK

theorem danceNewE {k:Nat} {n R:Int} (hk:1≤k∧k≤6) (hb:n<1∨16<n∨R<0∨20<R) (hK:K (.tup [.c .nilptr,.c (eno 2)]) [] []):Does Tryz.prog 113 [i64 k,i64 n,i64 R] [] K:=by
 refine does Tryz.func113 rfl (by decide) ?_
 change Does Tryz.prog 167 _ _ _
 by_cases hn:n<1∨16<n
 · refine Does.alone 0 (cellsE hk hn ?_)
   exact hK
 · obtain ⟨N,rfl⟩:=Int.eq_ofNat_of_zero_le (show 0≤n by omega)
   have ho:=kindAll (k:=k) (n:=N) (R:=0) hk (by omega) (by omega)
   refine Does.alone 0 (danceCells ho.k6 ho.cells ?_)
   refine SS.loop (fun _:Unit=>True) (fun _=>[(0,i64 k),(1,i64 N),(2,i64 R),(10,cv .nilslc),(23,i64 N),(24,i64 0)]) (fun _=>[]) (fun _=>0) []
    (At.mk' [0,1,2,10,23,24] () trivial ⟨rfl,rfl⟩ rfl rfl (by simp) (by simp) (by simp)) ?_
   intro _ _
   refine S_r ?_
   refine bZ (fun hlt=>?_) (fun hlt=>?_)
   · refine SS.inlR ?_
     change Does Tryz.prog 168 _ _ _
     refine Does.alone 0 (codeE hk (by omega) ?_)
     exact hK
   · have:=oFa hlt
     omega

theorem mustCore {m:MZ} {v:VZ} (h:K (cv (.ptr 0 0)) [] (machS 0 m v)):DoesX Tryz.prog 26 [cv (.ptr 0 0),cv .niliface] (machS 0 m v) K J:=by
 refine doesX Tryz.func26 rfl (by decide) ?_
 exact h

theorem mustCore_bad {e:Int} (h:J (wrongE e) [] []):DoesX Tryz.prog 26 [cv .nilptr,cv (eno e)] [] K J:=by
 refine doesX Tryz.func26 rfl (by decide) ?_
 exact ⟨_,rfl,h⟩

def barrierD (d:DZ) (a b c:List UInt8):AnsZ :=
 match kindV a with
 | none=>(d,.error (.no 5))
 | some k =>
   match tokV b with
   | none=>(d,.error (.no 3))
   | some n =>
     match tokV c with
     | none=>(d,.error (.no 3))
     | some R=>if n<1∨16<n∨R<0∨20<R then (d,.error (.no 2)) else (⟨danceM k n.toNat R.toNat,[],false⟩,.ok (numsZ [n]))

theorem saidBarrier (d:DZ) (w a b c:List UInt8) (hb:b.length≤1000000000) (hc:c.length≤1000000000):SaidX 56 d [w,a,b,c] (barrierD d a b c):=by
 intro K J v hv hw hK hJ
 refine DoesX.keepB 17 moL rfl ?_
 refine DoesX.nilOut2 5 1 2 ?_
 refine doesX Tryz.func56 rfl (by decide) ?_
 refine at2 (by decide) (by simp) (rd1 (rowStr a) (.str a) rfl rfl ?_)
 change DoesX Tryz.prog 112 _ _ _ _
 refine DoesX.alone 17 (DoesX.of (danceKind (fun k hk=>?_) fun hk=>?_))
 · have hk6:=kindV_range hk
   change DoesX Tryz.prog 111 _ _ _ _
   refine DoesX.alone 17 (mustInt ?_)
   refine SX.drawR follows (by decide) ?_
   refine at2 (by decide) (by simp) (rd1 (rowStr b) (.str b) rfl rfl ?_)
   refine at2 (by decide) (by simp) (rd1 (rowStr c) (.str c) rfl rfl ?_)
   change DoesX Tryz.prog 109 _ _ _ _
   refine DoesX.on 17 [1,2,3] _ _ (number hb (fun n hn=>?_) fun hn=>?_)
   · repeat' (first | refine And.intro rfl ?_ | refine And.intro (And.intro (by decide) (And.intro (by simp) rfl)) ?_ | refine And.intro (Exists.intro _ (Exists.intro _ (And.intro rfl (And.intro rfl rfl)))) ?_ | fail)
     change DoesX Tryz.prog 109 _ _ _ _
     refine DoesX.on 17 [1,2,3] _ _ (number hc (fun R hR=>?_) fun hR=>?_)
     · have hr:barrierD d a b c=if n<1∨16<n∨R<0∨20<R then (d,.error (.no 2)) else (⟨danceM k n.toNat R.toNat,[],false⟩,.ok (numsZ [n])):=by
        rw [barrierD,hk];dsimp only;rw [hn];dsimp only;rw [hR]
       rw [hr] at hK hJ
       repeat' (first | refine And.intro rfl ?_ | refine And.intro (And.intro (by decide) (And.intro (by simp) rfl)) ?_ | refine And.intro (Exists.intro _ (Exists.intro _ (And.intro rfl (And.intro rfl rfl)))) ?_ | fail)
       change DoesX Tryz.prog 113 _ _ _ _
       by_cases hbad:n<1∨16<n∨R<0∨20<R
       · rw [if_pos hbad] at hJ
         refine DoesX.alone 17 (DoesX.of (danceNewE hk6 hbad ?_))
         change DoesX Tryz.prog 26 _ _ _ _
         refine DoesX.alone 17 (mustCore_bad ?_)
         refine ⟨_,rfl,?_⟩
         refine ⟨17,[0,1,2,3,4,5,6,7,8,9,10,11,12,13,14,15,16],_,_,rfl,by decide,by decide,by decide,by decide,by decide,rfl,rfl,rfl,rfl,rfl,_,rfl,hJ _ v rfl hv hw⟩
       · rw [if_neg hbad] at hK
         obtain ⟨N,rfl⟩:=Int.eq_ofNat_of_zero_le (show 0≤n by omega)
         obtain ⟨T,rfl⟩:=Int.eq_ofNat_of_zero_le (show 0≤R by omega)
         refine DoesX.alone 17 (DoesX.of (danceNew (kindAll (k:=k) (n:=N) (R:=T) hk6 (by omega) (by omega)) fun v1 hv1 w0=>?_))
         have w0:WF (danceM k N T):=w0
         change DoesX Tryz.prog 26 _ _ _ _
         refine DoesX.on 26 [17,18,19,20,21,22,23,24,25] _ _ (mustCore ?_)
         change DoesX Tryz.prog 110 _ _ _ _
         refine DoesX.on 27 [1,26] _ _ (DoesX.of (nums (n:=1) (l:=[(N:Int)]) rfl (by decide) (by simp;omega) ?_))
         refine ⟨_,rfl,rfl,?_⟩
         refine ⟨28,[0,1,2,3,4,5,17,18,19,20,21,22,23,24,25,27,16],_,_,rfl,by decide,by decide,by decide,by decide,by decide,rfl,rfl,rfl,?_,rfl,hK _ v1 rfl hv1 w0⟩
         rfl
     · have hr:barrierD d a b c=(d,.error (.no 3)):=by rw [barrierD,hk];dsimp only;rw [hn];dsimp only;rw [hR]
       rw [hr] at hJ
       refine ⟨_,rfl,?_⟩
       refine ⟨17,[0,1,2,3,4,5,6,7,8,9,10,11,12,13,14,15,16],_,_,rfl,by decide,by decide,by decide,by decide,by decide,rfl,rfl,rfl,rfl,rfl,_,rfl,hJ _ v rfl hv hw⟩
   · have hr:barrierD d a b c=(d,.error (.no 3)):=by rw [barrierD,hk];dsimp only;rw [hn]
     rw [hr] at hJ
     refine ⟨_,rfl,?_⟩
     refine ⟨17,[0,1,2,3,4,5,6,7,8,9,10,11,12,13,14,15,16],_,_,rfl,by decide,by decide,by decide,by decide,by decide,rfl,rfl,rfl,rfl,rfl,_,rfl,hJ _ v rfl hv hw⟩
 · have hr:barrierD d a b c=(d,.error (.no 5)):=by rw [barrierD,hk]
   rw [hr] at hJ
   change DoesX Tryz.prog 111 _ _ _ _
   refine DoesX.alone 17 (mustInt_bad ?_)
   refine ⟨_,rfl,?_⟩
   refine ⟨17,[0,1,2,3,4,5,6,7,8,9,10,11,12,13,14,15,16],_,_,rfl,by decide,by decide,by decide,by decide,by decide,rfl,rfl,rfl,rfl,rfl,_,rfl,hJ _ v rfl hv hw⟩

end
end
section
theorem SX.nil2 {P:Program} {nt N0:Nat} {D:List Deferred} {c:Code} {T:Tm} {M:List Nat} {H:List PO} {Q:QX} (d sz:Nat) (hd:lk T d=cv .nilslc)
  (h:SX P nt N0 D c ((d,cv (.slc H.length 0 0 none false))::T) M (H++[.rows2 false sz []]) Q):SX P nt N0 D c T M H Q:=by
 refine ⟨fun r B R w0 L0 L w a R0 h1 h2 h3 h4 h5=>?_⟩
 obtain ⟨g1,g2⟩:=none2_sound h3 sz
 refine h.run r B R w0 L0 _ w a R0 (by simp;omega) ?_ g2 ⟨⟨fun i=>?_,h4.tr.defers,h4.tr.room⟩,h4.df⟩ h5
 · intro i hi hm
   rw [upd_ne (by omega)]
   exact h2 i hi hm
 · rw [lk_cons]
   split
   · rename_i e
     subst e
     have:=h4.tr.get d
     rw [hd] at this
     have hv:a.tmps.getD d undef=.slice none 0 0:=this
     exact ⟨by simp,.inl ⟨rfl,rfl,hv,fun c' hc'=>by cases hc'⟩⟩
   · have:=(h4.tr.get i).mono (M:=[]) (N':=(H++[PO.rows2 false sz []]).length) (by simp) g1
     rwa [killA_nil] at this

def EZ.num:EZ→Int
 | .no e=>e
 | .pl e _=>e

abbrev bxH (f:FuncId):PO:=.one [.func f []]

def CodeX (g:FuncId) (cp:List Nat) (bx:PO) (cls:List (List CallZ)) (codeV:Nat→List CallZ→Except EZ (List InsZ)):Prop :=
 ∀ (i:Nat) (l:List CallZ),cls[i]? = some l→∀ K:KP,
   (∀ p,codeV i l=.ok p→K (.tup [.c (.slc 2 0 p.length none false),okP]) [] [callsH false cls,bx,.rows false 5 (p.map rowIns)]) →
   (∀ e,codeV i l=.error (.no e)→K (.tup [.c .nilslc,.c (eno e)]) [] [callsH false cls,bx]) →
   (∀ e p,codeV i l=.error (.pl e p)→K (.tup [.c .nilslc,.c (.iface 108 (.ptr 2 0))]) [] [callsH false cls,bx,.one [.f (.int .i64 e),.f (.int .i64 p)]]) →
   Does Tryz.prog g ([i64 i,cv (.islc 0 i 0 l.length none false)]++cp.map fun _=>cv (.ptr 1 0)) [callsH false cls,bx] K

theorem DoesX.more {P:Program} {f:FuncId} {args:List AV} {H:List PO} {K:KP} {J:KJ} (sz:Nat) (h:DoesX P f args (H++[.rows2 false sz []]) K J):DoesX P f args H K J:=by
 refine ⟨h.fn,fun B R w0 L w vs hrel hvs=>?_⟩
 obtain ⟨g1,g2⟩:=none2_sound hrel sz
 refine (h.run B R w0 _ w vs g2 ?_).mono ?_
 · have:=VAs.mono (M:=[]) (N':=(H++[PO.rows2 false sz []]).length) (by simp) g1 hvs
   rwa [show args.map (killA [])=args from (List.map_congr_left fun x _=>killA_nil x).trans (List.map_id _)] at this
 · rintro e w' (⟨u,he,L',x,M,H',k1,k2,k3⟩ | ⟨u,he,L',x,M,H',k1,k2,k3⟩)
   · exact .inl ⟨u,he,L',x,M,H',fun i hi hm=>by rw [k1 i (by simp;omega) hm,upd_ne (by omega)],by simp at k2;omega,k3⟩
   · exact .inr ⟨u,he,L',x,M,H',fun i hi hm=>by rw [k1 i (by simp;omega) hm,upd_ne (by omega)],by simp at k2;omega,k3⟩

def wordsV:List (List UInt8)→Option (List (List CallZ))
 | []=>some []
 | x::xs=>match callsV x,wordsV xs with
   | some c,some l=>some (c::l)
   | _,_=>none

def codesV (codeV:Nat→List CallZ→Except EZ (List InsZ)):Nat→List (List CallZ)→Except EZ (List (List InsZ))
 | _,[]=>.ok []
 | i,l::ls=>match codeV i l with
   | .error e=>.error e
   | .ok p=>match codesV codeV (i+1) ls with
     | .error e=>.error e
     | .ok ps=>.ok (p::ps)

theorem wordsV_snoc {x:List UInt8}:∀ {xs:List (List UInt8)} {l:List (List CallZ)},wordsV xs=some l→wordsV (xs++[x])=(callsV x).map fun c=>l++[c]
 | [],l,h=>by
   obtain rfl:=Option.some.inj h
   simp only [List.nil_append,wordsV]
   cases callsV x <;> rfl
 | y::ys,l,h=>by
   simp only [wordsV] at h
   split at h <;> try cases h
   rename_i c l' hc hl
   rw [List.cons_append,wordsV,hc,wordsV_snoc hl]
   cases callsV x <;> rfl

theorem wordsV_none {x:List UInt8} {zs:List (List UInt8)} (hx:callsV x=none):∀ (xs:List (List UInt8)),wordsV (xs++x::zs)=none
 | []=>by simp only [List.nil_append,wordsV,hx]
 | y::ys=>by
   rw [List.cons_append,wordsV,wordsV_none hx ys]
   cases callsV y <;> rfl

theorem wordsV_len:∀ {xs:List (List UInt8)} {l:List (List CallZ)},wordsV xs=some l→l.length=xs.length
 | [],l,h=>by obtain rfl:=Option.some.inj h;rfl
 | y::ys,l,h=>by
   simp only [wordsV] at h
   split at h <;> try cases h
   rename_i c l' hc hl
   simp [wordsV_len hl]

section

variable {codeV:Nat→List CallZ→Except EZ (List InsZ)}

theorem codesV_snoc {x:List CallZ}:∀ {xs:List (List CallZ)} {ps:List (List InsZ)} {i:Nat},codesV codeV i xs=.ok ps→codesV codeV i (xs++[x])=match codeV (i+xs.length) x with
   | .error e=>.error e
   | .ok p=>.ok (ps++[p])
 | [],ps,i,h=>by
   obtain rfl:=Except.ok.inj h
   simp only [List.nil_append,codesV,List.length_nil,Nat.add_zero]
 | y::ys,ps,i,h=>by
   simp only [codesV] at h
   split at h <;> try cases h
   rename_i p hp
   split at h <;> try cases h
   rename_i qs hq
   rw [List.cons_append,codesV,hp]
   dsimp only
   rw [codesV_snoc hq,show i+1+ys.length=i+(y::ys).length by simp;omega]
   cases codeV (i+(y::ys).length) x <;> rfl

theorem codesV_error {x:List CallZ} {zs:List (List CallZ)} {e:EZ}:∀ {xs:List (List CallZ)} {ps:List (List InsZ)} {i:Nat},codesV codeV i xs=.ok ps→codeV (i+xs.length) x=.error e→codesV codeV i (xs++x::zs)=.error e
 | [],ps,i,h,he=>by
   simp only [List.length_nil,Nat.add_zero] at he
   simp only [List.nil_append,codesV,he]
 | y::ys,ps,i,h,he=>by
   simp only [codesV] at h
   split at h <;> try cases h
   rename_i p hp
   split at h <;> try cases h
   rename_i qs hq
   rw [List.cons_append,codesV,hp]
   dsimp only
   rw [codesV_error hq (by rw [show i+1+ys.length=i+(y::ys).length by simp;omega];exact he)]

theorem codesV_len:∀ {xs:List (List CallZ)} {ps:List (List InsZ)} {i:Nat},codesV codeV i xs=.ok ps→ps.length=xs.length
 | [],ps,i,h=>by obtain rfl:=Except.ok.inj h;rfl
 | y::ys,ps,i,h=>by
   simp only [codesV] at h
   split at h <;> try cases h
   rename_i p hp
   split at h <;> try cases h
   rename_i qs hq
   simp [codesV_len hq]

end

def opensD (d:DZ) (nc:Nat) (x:Int) (xs:List (List UInt8)) (codeV:Nat→List CallZ→Except EZ (List InsZ)):AnsZ :=
 match wordsV xs with
 | none=>(d,.error (.no 3))
 | some cls =>
   match codesV codeV 0 cls with
   | .error e=>(d,.error (.no e.num))
   | .ok ps=>if 16<ps.length then (d,.error (.no 4)) else (⟨mz0 ps (x::List.replicate (nc-1) 0),cls,false⟩,.ok (numsZ [(ps.length:Int)]))

section

variable {K:KP} {J:KJ}

theorem coreNewLimit {ps:List (List InsZ)} {ws:List Int} {nn nn2:Bool} {c c2:Option Nat} {n nc:Nat} (hn:16<n) (h:K (.tup [.c .nilptr,.c (eno 4)]) [] [.rows2 false 5 (ps.map fun p=>p.map rowIns),.rows false 1 (ws.map rowU)]) :
  Does Tryz.prog 27 [cv (.slc 0 0 n c nn),cv (.slc 1 0 nc c2 nn2)] [.rows2 false 5 (ps.map fun p=>p.map rowIns),.rows false 1 (ws.map rowU)] K:=by
 refine does Tryz.func27 rfl (by decide) ?_
 refine bZ (fun _=>h) (fun h1=>?_)
 have h1:¬(n:Int) > 16:=oFa h1
 omega

theorem opens {d:DZ} {v:VZ} {ws xs:List (List UInt8)} {o n nc:Nat} {x:Int} {f g:FuncId} {cp:List Nat} {bx:PO} {c:Option Nat} {nn:Bool} {codeV:Nat→List CallZ→Except EZ (List InsZ)} (hcp:(cp=[17]∧bx=bxH f)∨(cp=[]∧bx=.rows2 false 5 [])) (hv:okV v) (hw:WF d.m)
  (hxs:∀ i,i<n→ws[o+i]? = xs[i]?) (hn:xs.length=n) (hnb:n≤1000000000) (hlen:∀ y∈xs,y.length≤1000000000) (hnc:1≤nc∧nc≤300) (hx:0≤x∧x<18446744073709551616)
  (hcode:∀ cls,wordsV xs=some cls→CodeX g cp bx cls codeV) (hright:∀ cls ps,wordsV xs=some cls→codesV codeV 0 cls=.ok ps→∀ p∈ps,rightZ p nc=true)
  (hK:∀ s v',(opensD d nc x xs codeV).2=.ok s→okV v'→WF (opensD d nc x xs codeV).1.m→K (st s) moL (saidH (opensD d nc x xs codeV).1 v' ws++[bx]))
  (hJ:∀ e v',(opensD d nc x xs codeV).2=.error (.no e)→okV v'→J (wrongE e) moL (saidH d v' ws++[bx])) :
  DoesX Tryz.prog 122 [cv (.ptr 5 0),i64 nc,u64 x,cv (.slc 16 o n c nn),cv (.func g cp)] (saidH d v ws++[bx]) K J:=by
 rcases hcp with ⟨rfl,rfl⟩ | ⟨rfl,rfl⟩ <;> (
  refine DoesX.keepB 18 moL rfl ?_
  refine doesX Tryz.func122 rfl (by decide) ?_
  refine SX.nil2 11 2 rfl ?_
  refine SX.loop (fun p:Nat×List (List CallZ)=>p.1≤n∧wordsV (xs.take p.1)=some p.2) (fun p=>[(0,cv (.ptr 5 0)),(1,i64 nc),(2,u64 x),(4,cv (.func g _)),(11,cv (.slc 18 0 p.1 none false)),(21,cv (.slc 16 o n c nn)),(22,i64 n),(23,i64 p.1)])
   (fun p=>saidH d v ws++[_,callsH false p.2]) (fun p=>n-p.1) [18,19,20]
   (At.mk' [0,1,2,4,11,21,22,23] (0,[]) ⟨by simp,rfl⟩ ⟨rfl,rfl⟩ rfl rfl (by simp) (by simp) (by simp)) ?_
  rintro ⟨i,cls⟩ ⟨hi,hcl⟩
  change i≤n at hi
  change wordsV (xs.take i)=some cls at hcl
  have hcll:=wordsV_len hcl
  refine S_rX ?_
  refine bZ (fun hlt=>?_) (fun hlt=>?_)
  · have hlt:i<n:=by
     have:=oTr hlt
     have:(i:Int)<(n:Int):=this
     omega
    obtain ⟨y,hy⟩ : ∃ y,xs[i]? = some y:=⟨_,List.getElem?_eq_getElem (by omega)⟩
    have hyw:=hxs i hlt
    rw [hy] at hyw
    have hyl:=hlen y (List.mem_of_getElem? hy)
    have hcl2:cls.length=i:=by rw [hcll,List.length_take];omega
    refine at2 (a:=(0:Int)≤(i:Int)) (b:=(i:Int)<(n:Int)) (by omega) (by omega) (rd1 (rowStr y) (.str y) (by simp [hyw]) rfl ?_)
    change DoesX Tryz.prog 174 _ _ _ _
    refine DoesX.on 19 [1,2,3,4] _ _ (callsOf hyl (fun he=>?_) (fun l hne hl=>?_) fun hno=>?_)
    · have hsn:=wordsV_snoc (x:=y) hcl
      have hcy:callsV y=some []:=by rw [callsV,if_pos he]
      rw [hcy] at hsn
      refine And.intro rfl (And.intro (by simp [hcl2]) (at2 (by show (i+1)*24≤_;omega) (by show i+1≤_;omega) ?_))
      refine At.mk' [0,1,2,4,11,21,22,23] (i+1,cls++[[]]) ⟨⟨hlt,?_⟩,by show n-(i+1)<n-i;omega⟩ ⟨?_,rfl⟩ ?_ rfl (by simp) (by simp) (by decide)
      · show wordsV (xs.take (i+1))=_
        rw [List.take_add_one,hy]
        exact hsn
      · rw [wrap_i64 ((i:Int)+1) (by omega) (by omega)]
        rfl
      · rw [show callsH false (i+1,cls++[[]]).2=.rows2 false 2 (cls.map (fun l=>l.map rowCallZ)++[[]]) from by simp]
        rfl
    · have hsn:=wordsV_snoc (x:=y) hcl
      rw [hl] at hsn
      refine And.intro (by simp) (And.intro rfl (And.intro (by simp [hcl2]) (at2 (by show (i+1)*24≤_;omega) (by show i+1≤_;omega) ?_)))
      refine At.mk' [0,1,2,4,11,21,22,23] (i+1,cls++[l]) ⟨⟨hlt,?_⟩,by show n-(i+1)<n-i;omega⟩ ⟨?_,rfl⟩ ?_ rfl (by simp) (by simp) (by decide)
      · show wordsV (xs.take (i+1))=_
        rw [List.take_add_one,hy]
        exact hsn
      · rw [wrap_i64 ((i:Int)+1) (by omega) (by omega)]
        rfl
      · rw [show callsH false (i+1,cls++[l]).2=.rows2 false 2 (cls.map (fun l=>l.map rowCallZ)++[l.map rowCallZ]) from by simp]
        rfl
    · have hwx:wordsV xs=none:=by
       have:xs=xs.take i++y::xs.drop (i+1):=by
        have h2:=List.drop_eq_getElem_cons (show i<xs.length by omega)
        rw [show xs[i]=y from (List.getElem?_eq_some_iff.1 hy).2] at h2
        rw [←h2,List.take_append_drop]
       rw [this]
       exact wordsV_none hno _
      have hr:opensD d nc x xs codeV=(d,.error (.no 3)):=by rw [opensD,hwx]
      refine ⟨_,rfl,?_⟩
      refine ⟨18,[0,1,2,3,4,5,6,7,8,9,10,11,12,13,14,15,16,17],_,_,rfl,by decide,by decide,by decide,by decide,by decide,rfl,rfl,rfl,rfl,rfl,_,rfl,hJ _ v (by rw [hr]) hv⟩
  · have hlt:¬(i:Int)<(n:Int):=oFa hlt
    obtain rfl:i=n:=by omega
    rw [List.take_of_length_le (by omega)] at hcl
    have hcl2:cls.length=i:=by rw [hcll,List.length_take];omega
    refine SX.nil2 14 5 rfl ?_
    refine SX.loop (fun p:Nat×List (List InsZ)=>p.1≤i∧codesV codeV 0 (cls.take p.1)=.ok p.2) (fun p=>[(0,cv (.ptr 5 0)),(1,i64 nc),(2,u64 x),(4,cv (.func g _)),(11,cv (.slc 18 0 i none false)),(14,cv (.slc 19 0 p.1 none false)),(33,cv (.slc 18 0 i none false)),(34,i64 i),(35,i64 p.1)])
     (fun p=>saidH d v ws++[_,callsH false cls,.rows2 false 5 (p.2.map fun p=>p.map rowIns)]) (fun p=>i-p.1) [18,19,20,21]
     (At.mk' [0,1,2,4,11,14,33,34,35] (0,[]) ⟨by simp,rfl⟩ ⟨rfl,rfl⟩ rfl rfl (by simp) (by simp) (by simp)) ?_
    rintro ⟨j,ps⟩ ⟨hj,hps⟩
    change j≤i at hj
    change codesV codeV 0 (cls.take j)=.ok ps at hps
    have hpsl:=codesV_len hps
    refine S_rX ?_
    refine bZ (fun hlt=>?_) (fun hlt=>?_)
    · have hlt:j<i:=by
       have:=oTr hlt
       have:(j:Int)<(i:Int):=this
       omega
      obtain ⟨l,hl⟩ : ∃ l,cls[j]? = some l:=⟨_,List.getElem?_eq_getElem (by omega)⟩
      have hpl2:ps.length=j:=by rw [hpsl,List.length_take];omega
      have hlm:(cls.map fun l=>l.map rowCallZ)[0+Int.toNat (j:Int)]? = some (l.map rowCallZ):=by simp [hl]
      have hll:(l.map rowCallZ).length=l.length:=by simp
      have hcs:cls=cls.take j++l::cls.drop (j+1):=by
       have h2:=List.drop_eq_getElem_cons (show j<cls.length by omega)
       rw [show cls[j]=l from (List.getElem?_eq_some_iff.1 hl).2] at h2
       rw [←h2,List.take_append_drop]
      have herr:∀ e,codeV j l=.error e→opensD d nc x xs codeV=(d,.error (.no e.num)):=fun e he=>by
       have h3:=codesV_error (zs:=cls.drop (j+1)) hps (x:=l) (e:=e) (by rw [List.length_take,Nat.zero_add,Nat.min_eq_left (by omega)];exact he)
       rw [←hcs] at h3
       rw [opensD,hcl]
       dsimp only
       rw [h3]
      refine SX.inlR ?_
      refine at2 (a:=(0:Int)≤(j:Int)) (b:=(j:Int)<(i:Int)) (by omega) (by omega) ?_
      refine Exists.intro (l.map rowCallZ) (And.intro hlm ?_)
      first
       | change DoesX Tryz.prog g [i64 j,cv (.islc 18 (0+Int.toNat (j:Int)) 0 (l.map rowCallZ).length none false),cv (.ptr 17 0)] _ _ _
       | change DoesX Tryz.prog g [i64 j,cv (.islc 18 (0+Int.toNat (j:Int)) 0 (l.map rowCallZ).length none false)] _ _ _
      rw [hll,show 0+Int.toNat (j:Int)=j from by simp]
      refine DoesX.on 20 [18,17] _ _ (DoesX.of (hcode cls hcl j l hl _ (fun p hp=>?_) (fun e he=>?_) fun e p he=>?_))
      · have hsn:=codesV_snoc (x:=l) hps
        rw [List.length_take,Nat.zero_add,Nat.min_eq_left (by omega),hp] at hsn
        refine And.intro (by simp) (And.intro rfl (And.intro (by simp [hpl2]) (at2 (by show (j+1)*24≤_;omega) (by show j+1≤_;omega) ?_)))
        refine At.mk' [0,1,2,4,11,14,33,34,35] (j+1,ps++[p]) ⟨⟨hlt,?_⟩,by show i-(j+1)<i-j;omega⟩ ⟨?_,rfl⟩ ?_ rfl (by simp) (by simp) (by decide)
        · show codesV codeV 0 (cls.take (j+1))=_
          rw [List.take_add_one,hl]
          exact hsn
        · rw [wrap_i64 ((j:Int)+1) (by omega) (by omega)]
          rfl
        · have e:(ps++[p]).map (fun p=>p.map rowIns)=ps.map (fun p=>p.map rowIns)++[p.map rowIns]:=by simp
          show _=saidH d v ws++[_,callsH false cls,.rows2 false 5 ((ps++[p]).map fun p=>p.map rowIns)]
          rw [e]
          rfl
      · have hr:=herr _ he
        change DoesX Tryz.prog 46 _ _ _ _
        refine DoesX.on 20 [0] _ _ (DoesX.of (tellErrno e ?_))
        refine ⟨_,rfl,?_⟩
        refine ⟨18,[0,1,2,3,4,5,6,7,8,9,10,11,12,13,14,15,16,17],_,_,rfl,by decide,by decide,by decide,by decide,by decide,rfl,rfl,rfl,rfl,rfl,_,rfl,hJ _ v (by rw [hr];rfl) hv⟩
      · have hr:=herr _ he
        change DoesX Tryz.prog 46 _ _ _ _
        refine DoesX.on 21 [0,20] _ _ (DoesX.of (tellAt e p ?_))
        refine ⟨_,rfl,?_⟩
        refine ⟨18,[0,1,2,3,4,5,6,7,8,9,10,11,12,13,14,15,16,17],_,_,rfl,by decide,by decide,by decide,by decide,by decide,rfl,rfl,rfl,rfl,rfl,_,rfl,hJ _ v (by rw [hr];rfl) hv⟩
    · have hlt:¬(j:Int)<(i:Int):=oFa hlt
      obtain rfl:j=i:=by omega
      rw [List.take_of_length_le (by omega)] at hps
      have hpl2:ps.length=j:=by rw [hpsl,List.length_take];omega
      have hrt:=hright cls ps hcl hps
      have wnc:(nc:Int).toNat=nc:=Int.toNat_natCast nc
      refine at2 (by omega) (Int.le_refl _) ?_
      rw [Int.toNat_natCast]
      refine at2 (by show (8:Nat)*((nc:Nat):Int)≤_;omega) (by omega) ?_
      have hrep:List.replicate nc [FC.int .u64 0]=[FC.int .u64 0]::(List.replicate (nc-1) (0:Int)).map rowU:=by
       obtain ⟨k,rfl⟩ : ∃ k,nc=k+1:=⟨nc-1,by omega⟩
       rw [List.replicate_succ,List.map_replicate]
       rfl
      rw [hrep]
      refine at2 (a:=(0:Int)≤0) (b:=(0:Int)<(nc:Int)) (by decide) (by omega) (wr1 [FC.int .u64 0] rfl ?_)
      have hwl:(x::List.replicate (nc-1) 0).length=nc:=by simp;omega
      have hwv:∀ z∈(x::List.replicate (nc-1) (0:Int)),0≤z∧z<18446744073709551616:=fun z hz=>by
       rcases List.mem_cons.1 hz with rfl | hz
       · exact hx
       · rw [List.eq_of_mem_replicate hz];omega
      by_cases h16:16<j
      · have hr:opensD d nc x xs codeV=(d,.error (.no 4)):=by
         rw [opensD,hcl];dsimp only;rw [hps];exact if_pos (by omega)
        change DoesX Tryz.prog 27 _ _ _ _
        refine DoesX.on 21 [19,20] _ _ (DoesX.of (coreNewLimit (ps:=ps) (ws:=x::List.replicate (nc-1) 0) (n:=j) (nc:=nc) h16 ?_))
        change DoesX Tryz.prog 26 _ _ _ _
        refine DoesX.alone 21 (mustCore_bad ?_)
        refine ⟨_,rfl,?_⟩
        refine ⟨18,[0,1,2,3,4,5,6,7,8,9,10,11,12,13,14,15,16,17],_,_,rfl,by decide,by decide,by decide,by decide,by decide,rfl,rfl,rfl,rfl,rfl,_,rfl,hJ _ v (by rw [hr]) hv⟩
      · have hr:opensD d nc x xs codeV=(⟨mz0 ps (x::List.replicate (nc-1) 0),cls,false⟩,.ok (numsZ [(ps.length:Int)])):=by
         rw [opensD,hcl];dsimp only;rw [hps];exact if_neg (by omega)
        rw [hr] at hK
        have w0:WF (mz0 ps (x::List.replicate (nc-1) 0)):=mz0_wf (by omega) (by omega) (by rw [hwl];exact hrt) hwv
        change DoesX Tryz.prog 27 _ _ _ _
        refine DoesX.on 21 [19,20] _ _ (DoesX.of (coreNew (ps:=ps) (ws:=x::List.replicate (nc-1) 0) (n:=j) (nc:=nc) hpl2 hwl (by omega) (by omega) hrt fun v1 hv1=>?_))
        generalize hws:(x::List.replicate (nc-1) (0:Int))=w' at hwl hwv w0 hK ⊢
        subst hwl
        subst hpl2
        change DoesX Tryz.prog 26 _ _ _ _
        refine DoesX.on 30 [21,22,23,24,25,26,27,28,29] _ _ (mustCore (m:=mz0 ps w') (v:=v1) ?_)
        change DoesX Tryz.prog 121 _ _ _ _
        refine DoesX.on 30 [21,22,23,24,25,26,27,28,29] _ _ (DoesX.of (coreThreads (m:=mz0 ps w') (v:=v1) ?_))
        change DoesX Tryz.prog 110 _ _ _ _
        refine DoesX.on 31 [1,30] _ _ (DoesX.of (nums (n:=1) (l:=[(ps.length:Int)]) rfl (by decide) (by simp;omega) ?_))
        have hK2:=hK _ v1 rfl hv1 w0
        change K _ moL (sysH++((.one [.ptr 6 0,.slc 15 0 cls.length none false,.f (.bool false)]::(machS 6 (mz0 ps w') v1++[callsH false cls]))++[.rows false 1 (ws.map rowStr)])++[_]) at hK2
        rw [hcl2] at hK2
        refine ⟨31,[0,1,2,3,4,5,21,22,23,24,25,26,27,28,29,18,16,17],_,_,rfl,by decide,by decide,by decide,by decide,by decide,rfl,rfl,rfl,?_,rfl,hK2⟩
        rfl)

end
end
section
def pkRightB (ph pa wa:Int):Bool:=decide (0≤ph∧ph<2147483648∧0≤pa∧pa≤65535∧0≤wa∧wa≤pa)
abbrev pkPhaseC (o:Bool) (ph pa wa:Int):PV:=.agg [.f (.bool o),.f (.int .i64 ph),.f (.int .i64 pa),.f (.int .i64 wa)]
abbrev pkPhase (o:Bool) (ph pa wa:Int):AV:=.p (pkPhaseC o ph pa wa)
abbrev pkErrC (n:Int):PV:=.c (.iface 68 (.f (.int .i64 n)))
abbrev pkOkC:PV:=.c .niliface
def pkWordZ (o:Bool) (ph pa wa:Int):Int:=wa+pa*65536+ph*4294967296+if o then 9223372036854775808 else 0

variable {K:KP}

theorem pkRight (o:Bool) (ph pa wa:Int) (hK:K (bl (pkRightB ph pa wa)) [] []):Does Tryz.prog 182 [pkPhase o ph pa wa] [] K:=by
 refine does Tryz.func182 rfl (by decide) ?_
 iterate 5 (refine bZ (fun _=>?_) (fun _=>eqb (K:=fun b=>K (bl b) [] []) hK (by simp_all [pkRightB];try omega)))
 exact eqb (K:=fun b=>K (bl b) [] []) hK (by simp_all [pkRightB])

theorem pkWordEq (ph pa wa:Int) (h:0≤ph∧ph<2147483648∧0≤pa∧pa≤65535∧0≤wa∧wa≤pa):IntKind.u64.wrap
        ↑(BitVec.ofInt IntKind.u64.bits
            (IntKind.u64.wrap
              ↑(BitVec.ofInt IntKind.u64.bits (IntKind.u64.wrap wa) |||
                 BitVec.ofInt IntKind.u64.bits
                  (IntKind.u64.wrap
                    (IntKind.u64.wrap pa*2 ^ min (Int.toNat 16) IntKind.u64.bits))).toNat) |||
           BitVec.ofInt IntKind.u64.bits
            (IntKind.u64.wrap (IntKind.u64.wrap ph*2 ^ min (Int.toNat 32) IntKind.u64.bits))).toNat=pkWordZ false ph pa wa:=by
 have e1:min (Int.toNat 16) IntKind.u64.bits=16:=rfl
 have e2:min (Int.toNat 32) IntKind.u64.bits=32:=rfl
 rw [e1,e2,wrap_u64 wa (by omega) (by omega),wrap_u64 pa (by omega) (by omega),wrap_u64 ph (by omega) (by omega),wrap_u64 (pa*2 ^ 16) (by omega) (by omega),wrap_u64 (ph*2 ^ 32) (by omega) (by omega)]
 have e3:IntKind.u64.bits=64:=rfl
 rw [e3,or_z 16 wa pa (by omega) (by omega) (by omega) (by omega) (by omega),wrap_u64 (wa+pa*2 ^ 16) (by omega) (by omega),or_z 32 _ ph (by omega) (by omega) (by omega) (by omega) (by omega),wrap_u64 _ (by omega) (by omega)]
 simp [pkWordZ]

theorem pkWordEq2 (ph pa wa:Int) (h:0≤ph∧ph<2147483648∧0≤pa∧pa≤65535∧0≤wa∧wa≤pa):IntKind.u64.wrap ↑(BitVec.ofInt IntKind.u64.bits (pkWordZ false ph pa wa) ||| BitVec.ofInt IntKind.u64.bits 9223372036854775808).toNat=pkWordZ true ph pa wa:=by
 have e3:IntKind.u64.bits=64:=rfl
 have e4:(9223372036854775808:Int)=1*2 ^ 63:=by omega
 have h3:pkWordZ false ph pa wa=wa+pa*65536+ph*4294967296:=by simp [pkWordZ]
 rw [h3,e3,e4,or_z 63 _ 1 (by omega) (by omega) (by omega) (by omega) (by omega),wrap_u64 _ (by omega) (by omega)]
 simp [pkWordZ]

theorem pkWord (o:Bool) (ph pa wa:Int) (h0:pkRightB ph pa wa=false→K (.tup [.c (.f (.int .u64 0)),pkErrC 1]) [] [])
  (h1:pkRightB ph pa wa=true→K (.tup [.c (.f (.int .u64 (pkWordZ o ph pa wa))),pkOkC]) [] []):Does Tryz.prog 129 [pkPhase o ph pa wa] [] K:=by
 refine does Tryz.func129 rfl (by decide) ?_
 change Does Tryz.prog 182 _ _ _
 refine Does.alone 1 (pkRight o ph pa wa ?_)
 refine bZ (fun h=>?_) (fun h=>?_)
 · exact h0 (by simpa using h)
 · have h:pkRightB ph pa wa=true:=by simpa using h
   replace h1:=h1 h
   simp only [pkRightB,decide_eq_true_eq] at h
   refine bZ (fun ho=>?_) (fun ho=>?_)
   · subst ho
     refine eqz (K:=fun z=>K (.tup [.c (.f (.int .u64 z)),.c .niliface]) [] []) h1 ?_
     rw [pkWordEq ph pa wa h,pkWordEq2 ph pa wa h]
   · subst ho
     refine eqz (K:=fun z=>K (.tup [.c (.f (.int .u64 z)),.c .niliface]) [] []) h1 ?_
     rw [pkWordEq ph pa wa h]
end
end Go.Mac
end
