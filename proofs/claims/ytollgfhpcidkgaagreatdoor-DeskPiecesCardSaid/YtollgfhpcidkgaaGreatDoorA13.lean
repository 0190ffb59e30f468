/- Texts that belong together; the first of them:  -/
import Derived.Test.YtollgfhpcidkgaaGreatDoorA6
import Derived.Test.YtollgfhpcidkgaaGreatDoorA7
import Derived.Test.YtollgfhpcidkgaaGreatDoorA12
import Derived.Test.YtollgfhpcidkgaaGreatDoorA11
import Derived.Test.YtollgfhpcidkgaaGreatDoorA5

section
open Go Go.Proofs Go.Mac
set_option maxRecDepth 100000
namespace Go.Mac
section
def namL:List (List UInt8):=[[],[100,111,119,110],[97,119,97,105,116],[116,97,107,101],[103,105,118,101],[116,114,97,100,101],[114,101,103,105,115,116,101,114],[97,114,114,105,118,101],[108,101,97,118,101],
 [112,97,115,115],[119,97,116,99,104],[99,108,111,115,101],[108,111,99,107],[117,110,108,111,99,107],[115,104,97,114,101],[117,110,115,104,97,114,101],[111,119,110],[100,105,115,111,119,110],[111,110,99,101]]

abbrev namH:PO:=.tab 4 (namL.map FC.str)

abbrev sysH:List PO:=[rtH,powH,errS,errR,namH]

structure DZ where
 m:MZ
 cs:List (List CallZ)
 ph:Bool

abbrev deskS (s:Nat) (d:DZ) (v:VZ):List PO :=
 .one [.ptr (s+1) 0,.slc (s+10) 0 d.cs.length none false,.f (.bool d.ph)]::(machS (s+1) d.m v++[.rows2 false 2 (d.cs.map fun l=>l.map rowCallZ)])

abbrev saidH (d:DZ) (v:VZ) (ws:List (List UInt8)):List PO:=sysH++(deskS 5 d v++[.rows false 1 (ws.map rowStr)])

abbrev moL:List Nat:=[6,7,8,9,10,11,12,13,14,15]

inductive EZ where
 | no (e:Int)
 | pl (e p:Int)

def errK (J:KJ) (d:DZ) (v:VZ) (ws:List (List UInt8)):EZ→Prop
 | .no e=>J (wrongE e) moL (saidH d v ws)
 | .pl e p=>J (.ifs 89 (.iface 108 (.ptr 17 0))) moL (saidH d v ws++[.one [.f (.int .i64 e),.f (.int .i64 p)]])

abbrev AnsZ:=DZ×Except EZ (List UInt8)

def SaidX (f:FuncId) (d:DZ) (ws:List (List UInt8)) (r:AnsZ):Prop :=
 ∀ {K:KP} {J:KJ} (v:VZ),okV v→WF d.m →
   (∀ s v',r.2=.ok s→okV v'→WF r.1.m→K (st s) moL (saidH r.1 v' ws)) →
   (∀ e v',r.2=.error e→okV v'→WF r.1.m→errK J r.1 v' ws e) →
   DoesX Tryz.prog f [cv (.ptr 5 0),cv (.slc 16 1 (ws.length-1) none true)] (saidH d v ws) K J

theorem i64_bounds (n:Int) : -9223372036854775808≤IntKind.i64.wrap n∧IntKind.i64.wrap n≤9223372036854775807:=by
 simp only [IntKind.wrap,IntKind.bits,IntKind.signed]
 simp
 omega

theorem yesZ_len (b:Bool):(yesZ b).length≤6:=by cases b <;> decide

section

variable {K:KP} {J:KJ}

def finishD (d:DZ):AnsZ:=({ d with m:=finish d.m },.ok (numsZ [IntKind.i64.wrap (((finish d.m).k:Int)-d.m.k)]++(yesZ (allZ (finish d.m))++yesZ (stuckZ (finish d.m)))))

theorem saidFinish (d:DZ) (w:List UInt8):SaidX 59 d [w] (finishD d):=by
 intro K J v hv hw hK _
 refine DoesX.moved moL ?_
 refine DoesX.of ?_
 refine does Tryz.func59 rfl (by decide) ?_
 change Does Tryz.prog 117 _ _ _
 refine Does.on 17 [6,7,8,9,10,11,12,13,14] _ _ (fairFinishN (m:=d.m) (v:=v) hw hv fun v1 n hv1 hw1 hn=>?_)
 change Does Tryz.prog 118 _ _ _
 refine Does.on 17 [6,7,8,9,10,11,12,13,14] _ _ (coreEnds (m:=finish d.m) (v:=v1) hw1 ?_)
 subst hn
 have hnr : -9223372036854775808≤IntKind.i64.wrap (((finish d.m).k:Int)-d.m.k)∧IntKind.i64.wrap (((finish d.m).k:Int)-d.m.k)≤9223372036854775807:=i64_bounds _
 change Does Tryz.prog 110 _ _ _
 refine Does.on 18 [1,17] _ _ (nums (n:=1) (l:=[IntKind.i64.wrap (((finish d.m).k:Int)-d.m.k)]) rfl (by decide) (by simpa using hnr) ?_)
 have hln:=numsZ_len [IntKind.i64.wrap (((finish d.m).k:Int)-d.m.k)] (by simpa using hnr)
 have hl1:=yesZ_len (allZ (finish d.m))
 have hl2:=yesZ_len (stuckZ (finish d.m))
 change Does Tryz.prog 119 _ _ _
 refine Does.alone 18 (yes _ ?_)
 refine And.intro (by simp at hln;omega) ?_
 change Does Tryz.prog 119 _ _ _
 refine Does.alone 18 (yes _ ?_)
 refine And.intro (by simp at hln;simp;omega) ?_
 refine And.intro (by decide) ?_
 rw [List.append_assoc]
 exact hK _ v1 rfl hv1 hw1

def stepD (d:DZ) (t:List UInt8):AnsZ :=
 match tokV t with
 | none=>(d,.error (.no 3))
 | some n=>({ d with m:=(stepZ d.m n).2 },if (stepZ d.m n).1=0 then .ok (numsZ [((stepZ d.m n).2.k:Int)]) else .error (.no (stepZ d.m n).1))

theorem saidStep (d:DZ) (w t:List UInt8) (ht:t.length≤1000000000):SaidX 72 d [w,t] (stepD d t):=by
 intro K J v hv hw hK hJ
 refine DoesX.moved moL ?_
 refine doesX Tryz.func72 rfl (by decide) ?_
 refine at2 (by decide) (by simp) (rd1 (rowStr t) (.str t) rfl rfl ?_)
 change DoesX Tryz.prog 109 _ _ _ _
 refine DoesX.on 17 [1,2,3] _ _ (number ht (fun n hn=>?_) fun hn=>?_)
 · have hr:stepD d t=({ d with m:=(stepZ d.m n).2 },if (stepZ d.m n).1=0 then .ok (numsZ [((stepZ d.m n).2.k:Int)]) else .error (.no (stepZ d.m n).1)):=by rw [stepD,hn]
   rw [hr] at hK hJ
   have hws:=hw.step n
   change DoesX Tryz.prog 143 _ _ _ _
   refine DoesX.on 17 [6,7,8,9,10,11,12,13,14] _ _ (DoesX.of (coreStep (m:=d.m) (v:=v) hw hv n (fun h0 v1 hv1=>?_) fun h0 v1 hv1=>?_))
   · simp only [if_pos h0] at hK
     change DoesX Tryz.prog 144 _ _ _ _
     refine DoesX.on 17 [6,7,8,9,10,11,12,13,14] _ _ (DoesX.of (coreSteps (m:=(stepZ d.m n).2) (v:=v1) ?_))
     have hk:=hws.k
     change DoesX Tryz.prog 110 _ _ _ _
     refine DoesX.on 18 [1,17] _ _ (DoesX.of (nums (n:=1) (l:=[((stepZ d.m n).2.k:Int)]) rfl (by decide) (by simp;omega) ?_))
     refine And.intro (by decide) ?_
     exact hK _ v1 rfl hv1 hws
   · simp only [if_neg h0] at hJ
     refine ⟨_,rfl,And.intro (by decide) ?_⟩
     exact hJ _ v1 rfl hv1 hws
 · rw [stepD,hn] at hJ
   refine ⟨_,rfl,And.intro (by decide) ?_⟩
   exact hJ _ v rfl hv hw

theorem roundsRange {l:List EvZ} {k n:Nat} {ro nn:Bool} {c:Option Nat} (hn:¬(1≤n∧n≤16)) (h:K (.tup [.c (.f (.int .i64 0)),.c (.f (.int .i64 0)),.c (eno 2)]) [] [.rows ro 4 (l.map rowEv)]) :
 Does Tryz.prog 120 [cv (.slc 0 0 k c nn),i64 n] [.rows ro 4 (l.map rowEv)] K:=by
 refine does Tryz.func120 rfl (by decide) ?_
 change Does Tryz.prog 173 _ _ _
 refine does Tryz.func173 rfl (by decide) ?_
 refine bZ (fun h1=>?_) (fun h1=>?_)
 · exact h
 · have h1:=oFa h1
   refine bZ (fun h2=>?_) (fun h2=>?_)
   · exact h
   · have h2:=oFa h2
     omega

theorem judge_bounds {n:Nat} (hn:1≤n) {l:List EvZ} (h:checkZ n l=none):0≤allG n l∧allG n l≤l.length∧0≤anyR l∧anyR l≤l.length+2:=by
 obtain ⟨h1,h2,h3⟩:=rounds_apart hn h
 obtain ⟨_,u,hu,he⟩:=allG_min hn l
 have hs:=goneR_small n l l.length
 rw [List.take_of_length_le (Nat.le_refl _)] at hs
 have:=small_getD (by omega) hs u
 omega

theorem mustAt {x:Int} {e p:Int} (h:J (.ifs 89 (.iface 108 (.ptr 0 0))) [] [.one [.f (.int .i64 e),.f (.int .i64 p)]]):DoesX Tryz.prog 111 [i64 x,cv (.iface 108 (.ptr 0 0))] [.one [.f (.int .i64 e),.f (.int .i64 p)]] K J:=by
 refine doesX Tryz.func111 rfl (by decide) ?_
 exact ⟨_,rfl,h⟩

def judgeD (d:DZ):AnsZ :=
 (d,if 1≤d.m.ps.length then
   match checkZ d.m.ps.length d.m.el with
   | none=>.ok (numsZ [allG d.m.ps.length d.m.el,anyR d.m.el])
   | some (e,i)=>.error (.pl e i)
 else .error (.no 2))

theorem saidJudge (d:DZ) (w:List UInt8):SaidX 60 d [w] (judgeD d):=by
 intro K J v hv hw hK hJ
 refine DoesX.keepB 17 moL rfl ?_
 refine doesX Tryz.func60 rfl (by decide) ?_
 refine SX.drawR follows (by decide) ?_
 change DoesX Tryz.prog 116 _ _ _ _
 have hel:=hw.el
 have hk:=hw.k
 refine DoesX.on 17 [6,7,8,9,10,11,12,13,14] _ _ (DoesX.of (coreEvents (m:=d.m) (v:=v) (by omega) ?_))
 repeat' (first | refine And.intro rfl ?_ | fail)
 change DoesX Tryz.prog 121 _ _ _ _
 refine DoesX.on 18 [6,7,8,9,10,11,12,13,14] _ _ (DoesX.of (coreThreads (m:=d.m) (v:=v) ?_))
 repeat' (first | refine And.intro rfl ?_ | fail)
 change DoesX Tryz.prog 120 _ _ _ _
 by_cases hn:1≤d.m.ps.length∧d.m.ps.length≤16
 · refine DoesX.on 18 [17] _ _ (DoesX.of (rounds (all:=d.m.el) (l:=d.m.el) (k:=d.m.el.length) (n:=d.m.ps.length) rfl (fun i _=>rfl) hn (by omega) (fun hc=>?_) fun e i hc=>?_))
   · have hr:judgeD d=(d,.ok (numsZ [allG d.m.ps.length d.m.el,anyR d.m.el])):=by rw [judgeD,if_pos hn.1,hc]
     rw [hr] at hK
     have hb:=judge_bounds hn.1 hc
     repeat' (first | refine And.intro rfl ?_ | fail)
     change DoesX Tryz.prog 111 _ _ _ _
     refine DoesX.alone 18 (mustInt ?_)
     change DoesX Tryz.prog 110 _ _ _ _
     refine DoesX.on 19 [1,18] _ _ (DoesX.of (nums (n:=2) (l:=[allG d.m.ps.length d.m.el,anyR d.m.el]) rfl (by decide) (by simp;omega) ?_))
     refine ⟨17,[0,1,2,3,4,5,6,7,8,9,10,11,12,13,14,15,16],_,_,rfl,by decide,by decide,by decide,by decide,by decide,rfl,rfl,rfl,rfl,rfl,hK _ v rfl hv hw⟩
   · have hr:judgeD d=(d,.error (.pl e i)):=by rw [judgeD,if_pos hn.1,hc]
     rw [hr] at hJ
     repeat' (first | refine And.intro rfl ?_ | fail)
     change DoesX Tryz.prog 111 _ _ _ _
     refine DoesX.on 19 [18] _ _ (mustAt ?_)
     refine ⟨_,rfl,?_⟩
     refine ⟨19,[0,1,2,3,4,5,6,7,8,9,10,11,12,13,14,15,16,18],_,_,rfl,by decide,by decide,by decide,by decide,by decide,rfl,rfl,rfl,rfl,rfl,_,rfl,hJ _ v rfl hv hw⟩
 · refine DoesX.on 18 [17] _ _ (DoesX.of (roundsRange (l:=d.m.el) (n:=d.m.ps.length) hn ?_))
   have hps:=hw.ps
   have hw16:=hw.n
   have hr:judgeD d=(d,.error (.no 2)):=by rw [judgeD,if_neg (by omega)]
   rw [hr] at hJ
   repeat' (first | refine And.intro rfl ?_ | fail)
   change DoesX Tryz.prog 111 _ _ _ _
   refine DoesX.alone 18 (mustInt_bad ?_)
   refine ⟨_,rfl,?_⟩
   refine ⟨17,[0,1,2,3,4,5,6,7,8,9,10,11,12,13,14,15,16],_,_,rfl,by decide,by decide,by decide,by decide,by decide,rfl,rfl,rfl,rfl,rfl,_,rfl,hJ _ v rfl hv hw⟩

def pokeE (m:MZ) (t:Int):Int:=if t<0∨(m.ps.length:Int)≤t then 2 else if asleepZ m t then 0 else 6

theorem corePokeE {m:MZ} {v:VZ} (hw:WF m) (_hv:okV v) (t:Int) (h0:pokeE m t=0→∀ v',okV v'→K (cv .niliface) [] (machH (pokeZ m t) v')) (h1:pokeE m t≠0→K (errC (pokeE m t)) [] (machH m v)) :
 Does Tryz.prog 135 [cv (.ptr 0 0),i64 t] (machH m v) K:=by
 have hps:=hw.ps
 have hlen:=hw.len_ss
 refine does Tryz.func135 rfl (by decide) ?_
 change Does Tryz.prog 189 _ _ _
 by_cases ht:0≤t∧t<(m.ps.length:Int)
 · refine Does.on 9 [5,6] _ _ (lotPoke (n:=m.ps.length) (k:=m.ss.length) (nn:=v.nl) (ss:=m.ss) (ex:=v.ex) t ht rfl (by omega) (fun pre post x hs hx hno=>?_) fun hno=>?_)
   · have hnd:=hw.ss.1
     have hpost:noT post t:=fun s hs' e=>by
      rw [hs,List.map_append,List.map_cons,List.nodup_append,List.nodup_cons] at hnd
      exact hnd.2.1.1 (List.mem_map.2 ⟨s,hs',e.trans hx.symm⟩)
     have e:m.ss.filter (fun s=>s.t != t)=pre++post:=by
      rw [hs,List.filter_append,List.filter_cons_of_neg (by simp [hx]),filter_noT hno,filter_noT hpost]
     have hsl:asleepZ m t=true:=List.any_eq_true.2 ⟨x,by rw [hs];simp,by simpa using hx⟩
     have:=h0 (by rw [pokeE,if_neg (by omega),if_pos hsl]) { v with nl:=true,ex:=⟨0,0⟩::v.ex } (fun _=>rfl)
     rw [pokeZ,e] at this
     rw [←List.length_append]
     exact this
   · have e:pokeE m t=6:=by rw [pokeE,if_neg (by omega),asleep_no hno];rfl
     rw [e] at h1
     exact h1 (by decide)
 · have e:pokeE m t=2:=by rw [pokeE,if_pos (by omega)]
   rw [e] at h1
   refine Does.on 9 [5,6] _ _ (does (args:=[cv (.ptr 0 0),i64 t]) (H:=lotH (m.ps.length:Int) m.ss.length v.nl m.ss v.ex) Tryz.func189 rfl (by decide) ?_)
   refine bZ (fun h=>h1 (by decide)) (fun h=>?_)
   have h:=oFa h
   refine bZ (fun h2=>h1 (by decide)) (fun h2=>?_)
   have h2:=oFa h2
   omega

def pokeD (d:DZ) (t:List UInt8):AnsZ :=
 match tokV t with
 | none=>(d,.error (.no 3))
 | some n=>if pokeE d.m n=0 then ({ d with m:=pokeZ d.m n },.ok []) else (d,.error (.no (pokeE d.m n)))

theorem saidPoke (d:DZ) (w t:List UInt8) (ht:t.length≤1000000000):SaidX 66 d [w,t] (pokeD d t):=by
 intro K J v hv hw hK hJ
 refine DoesX.moved moL ?_
 refine doesX Tryz.func66 rfl (by decide) ?_
 refine SX.drawR follows (by decide) ?_
 refine at2 (by decide) (by simp) (rd1 (rowStr t) (.str t) rfl rfl ?_)
 change DoesX Tryz.prog 109 _ _ _ _
 refine DoesX.on 17 [1,2,3] _ _ (number ht (fun n hn=>?_) fun hn=>?_)
 · have hr:pokeD d t=if pokeE d.m n=0 then ({ d with m:=pokeZ d.m n },.ok []) else (d,.error (.no (pokeE d.m n))):=by rw [pokeD,hn]
   rw [hr] at hK hJ
   repeat' (first | refine And.intro rfl ?_ | refine And.intro (And.intro (by decide) (And.intro (by simp) rfl)) ?_ | refine And.intro (Exists.intro _ (Exists.intro _ (And.intro rfl (And.intro rfl rfl)))) ?_ | fail)
   change DoesX Tryz.prog 135 _ _ _ _
   refine DoesX.on 17 [6,7,8,9,10,11,12,13,14] _ _ (DoesX.of (corePokeE (m:=d.m) (v:=v) hw hv n (fun h0 v1 hv1=>?_) fun h0=>?_))
   · simp only [if_pos h0] at hK
     repeat' (first | refine And.intro rfl ?_ | refine And.intro (And.intro (by decide) (And.intro (by simp) rfl)) ?_ | refine And.intro (Exists.intro _ (Exists.intro _ (And.intro rfl (And.intro rfl rfl)))) ?_ | fail)
     refine And.intro ?_ (hK _ v1 rfl hv1 (hw.poke n))
     decide
   · simp only [if_neg h0] at hJ
     repeat' (first | refine And.intro rfl ?_ | refine And.intro (And.intro (by decide) (And.intro (by simp) rfl)) ?_ | refine And.intro (Exists.intro _ (Exists.intro _ (And.intro rfl (And.intro rfl rfl)))) ?_ | fail)
     refine ⟨_,rfl,And.intro (by decide) ?_⟩
     exact hJ _ v rfl hv hw
 · rw [pokeD,hn] at hJ
   refine ⟨_,rfl,And.intro (by decide) ?_⟩
   exact hJ _ v rfl hv hw

def countV (s:List UInt8):Except Int Nat :=
 match tokV s with
 | none=>.error 3
 | some n=>if n<0∨1000<n then .error 2 else .ok n.toNat

theorem count {s:List UInt8} (hl:s.length≤1000000000) (h1:∀ n,countV s=.ok n→n≤1000→K (fcv (.int .u64 n)) [] [powH,errS,errR]) (h0:∀ e,countV s=.error e→J (wrongE e) [] [powH,errS,errR]) :
 DoesX Tryz.prog 123 [st s] [powH,errS,errR] K J:=by
 refine doesX Tryz.func123 rfl (by decide) ?_
 change DoesX Tryz.prog 109 _ _ _ _
 refine number hl (fun n hn=>?_) fun hn=>?_
 · refine bZ (fun h=>?_) (fun h=>?_)
   · have h:=oTr h
     exact ⟨_,rfl,h0 2 (by rw [countV,hn];exact if_pos (.inl h))⟩
   · have h:=oFa h
     refine bZ (fun h2=>?_) (fun h2=>?_)
     · have h2:=oTr h2
       exact ⟨_,rfl,h0 2 (by rw [countV,hn];exact if_pos (.inr h2))⟩
     · have h2:=oFa h2
       obtain ⟨k,rfl⟩:=Int.eq_ofNat_of_zero_le (show 0≤n by omega)
       have:=h1 k (by rw [countV,hn];exact if_neg (by omega)) (by omega)
       have e:K (fcv (.int .u64 (IntKind.u64.wrap k))) [] [powH,errS,errR]:=by
        rw [wrap_u64 (k:Int) (by omega) (by omega)]
        exact this
       exact e
 · exact ⟨_,rfl,h0 3 (by rw [countV,hn])⟩

theorem fill_set (n:Int) {k i:Nat} (h:i<k):((List.replicate i n++List.replicate (k-i) 0).map rowZ).set i (rowZ n)=(List.replicate (i+1) n++List.replicate (k-(i+1)) 0).map rowZ:=by
 obtain ⟨j,rfl⟩ : ∃ j,k=i+1+j:=⟨k-(i+1),by omega⟩
 rw [show i+1+j-i=j+1 by omega,show i+1+j-(i+1)=j by omega,←List.map_set,List.set_append_right _ _ (by simp),List.length_replicate,Nat.sub_self,List.replicate_succ (n:=j),List.set_cons_zero,List.replicate_succ' (n:=i),List.append_assoc]
 rfl

def runD (d:DZ) (t s:List UInt8):AnsZ :=
 match tokV t with
 | none=>(d,.error (.no 3))
 | some n =>
   match countV s with
   | .error e=>(d,.error (.no e))
   | .ok k=>({ d with m:=(runM d.m (List.replicate k n)).2 },.ok (numsZ [((runM d.m (List.replicate k n)).1:Int)]))

theorem saidRun (d:DZ) (w t s:List UInt8) (ht:t.length≤1000000000) (hs:s.length≤1000000000):SaidX 68 d [w,t,s] (runD d t s):=by
 intro K J v hv hw hK hJ
 refine DoesX.moved moL ?_
 refine doesX Tryz.func68 rfl (by decide) ?_
 refine SX.drawR follows (by decide) ?_
 refine at2 (by decide) (by simp) (rd1 (rowStr t) (.str t) rfl rfl ?_)
 refine at2 (by decide) (by simp) (rd1 (rowStr s) (.str s) rfl rfl ?_)
 change DoesX Tryz.prog 109 _ _ _ _
 refine DoesX.on 17 [1,2,3] _ _ (number ht (fun n hn=>?_) fun hn=>?_)
 · repeat' (first | refine And.intro rfl ?_ | refine And.intro (And.intro (by decide) (And.intro (by simp) rfl)) ?_ | refine And.intro (Exists.intro _ (Exists.intro _ (And.intro rfl (And.intro rfl rfl)))) ?_ | fail)
   change DoesX Tryz.prog 123 _ _ _ _
   refine DoesX.on 17 [1,2,3] _ _ (count hs (fun k hk hk2=>?_) fun e he=>?_)
   · have hr:runD d t s=({ d with m:=(runM d.m (List.replicate k n)).2 },.ok (numsZ [((runM d.m (List.replicate k n)).1:Int)])):=by rw [runD,hn];dsimp only;rw [hk]
     rw [hr] at hK
     repeat' (first | refine And.intro rfl ?_ | refine And.intro (And.intro (by decide) (And.intro (by simp) rfl)) ?_ | refine And.intro (Exists.intro _ (Exists.intro _ (And.intro rfl (And.intro rfl rfl)))) ?_ | fail)
     have wk:IntKind.i64.wrap (k:Int)=(k:Int):=wrap_i64 _ (by omega) (by omega)
     refine at2 (by rw [wk];omega) (Int.le_refl _) ?_
     rw [wk,Int.toNat_natCast]
     refine at2 (by show (8:Nat)*((k:Nat):Int)≤_;omega) (by omega) ?_
     refine SX.loop (fun i:Nat=>i≤k) (fun i=>[(0,cv (.ptr 5 0)),(5,i64 n),(7,cv (.slc 17 0 k none true)),(21,i64 k),(22,i64 i)])
      (fun i=>saidH d v [w,t,s]++[.rows false 1 ((List.replicate i n++List.replicate (k-i) 0).map rowZ)]) (fun i=>k-i) []
      (At.mk' [0,5,7,21,22] 0 (by simp) ⟨rfl,rfl⟩ ?_ rfl (by simp) (by simp) (by simp)) ?_
     · have e0:(List.replicate 0 n++List.replicate (k-0) 0).map rowZ=List.replicate k [FC.int .i64 0]:=by simp
       show saidH d v [w,t,s]++[PO.rows false 1 (List.replicate k [FC.int .i64 0])]=saidH d v [w,t,s]++[PO.rows false 1 ((List.replicate 0 n++List.replicate (k-0) 0).map rowZ)]
       rw [e0]
     intro i hi
     change i≤k at hi
     refine S_rX ?_
     refine bZ (fun hlt=>?_) (fun hlt=>?_)
     · have hlt:i<k:=by
        have:=oTr hlt
        have:(i:Int)<(k:Int):=this
        omega
       have hq:((List.replicate i n++List.replicate (k-i) 0).map rowZ)[0+Int.toNat (i:Int)]? = some (rowZ 0):=by
        rw [Int.toNat_natCast,Nat.zero_add,List.getElem?_map,List.getElem?_append_right (by simp),List.length_replicate,Nat.sub_self,List.getElem?_replicate,if_pos (by omega)]
        rfl
       refine at2 (a:=(0:Int)≤(i:Int)) (b:=(i:Int)<(k:Int)) (by omega) (by omega) (wr1 (rowZ 0) hq ?_)
       refine At.mk' [0,5,7,21,22] (i+1) ⟨hlt,by omega⟩ ⟨?_,rfl⟩ ?_ rfl (by simp) (by simp) (by decide)
       · rw [wrap_i64 ((i:Int)+1) (by omega) (by omega)]
         rfl
       · show saidH d v [w,t,s]++[PO.rows false 1 (((List.replicate i n++List.replicate (k-i) 0).map rowZ).set (0+Int.toNat (i:Int)) (rowZ n))]=saidH d v [w,t,s]++[PO.rows false 1 ((List.replicate (i+1) n++List.replicate (k-(i+1)) 0).map rowZ)]
         rw [Int.toNat_natCast,Nat.zero_add,fill_set n hlt]
     · have hlt:¬(i:Int)<(k:Int):=oFa hlt
       obtain rfl:i=k:=by omega
       rw [Nat.sub_self,List.replicate_zero,List.append_nil]
       have hle:=runM_le d.m (List.replicate i n)
       rw [List.length_replicate] at hle
       have hwr:=runM_wf hw (List.replicate i n)
       change DoesX Tryz.prog 136 _ _ _ _
       refine DoesX.on 18 [6,7,8,9,10,11,12,13,14,17] _ _ (DoesX.of (coreRun (m:=d.m) (v:=v) (l:=List.replicate i n) (n:=i) hw hv (by simp) (by omega) fun v1 hv1=>?_))
       change DoesX Tryz.prog 110 _ _ _ _
       refine DoesX.on 19 [1,18] _ _ (DoesX.of (nums (n:=1) (l:=[((runM d.m (List.replicate i n)).1:Int)]) rfl (by decide) (by simp;omega) ?_))
       refine And.intro (by decide) ?_
       exact hK _ v1 rfl hv1 hwr
   · have hr:runD d t s=(d,.error (.no e)):=by rw [runD,hn];dsimp only;rw [he]
     rw [hr] at hJ
     refine ⟨_,rfl,And.intro (by decide) ?_⟩
     exact hJ _ v rfl hv hw
 · rw [runD,hn] at hJ
   refine ⟨_,rfl,And.intro (by decide) ?_⟩
   exact hJ _ v rfl hv hw

theorem roundsE (n:Nat) (times:Int) (hn:n≤16) (ht:times<0∨1000<times) (hK:K (.tup [.c .nilslc,.c (eno 2)]) [] []):Does Tryz.prog 138 [i64 n,i64 times] [] K:=by
 refine does Tryz.func138 rfl (by decide) ?_
 have e1:decide ((n:Int) > 16)=false:=decide_eq_false (by omega)
 refine bZ (fun h=>?_) (fun _=>?_)
 · have h:=oTr h
   omega
 refine bZ (fun h=>?_) (fun h1=>?_)
 · exact hK
 have h1:=oFa h1
 refine bZ (fun h=>?_) (fun h2=>?_)
 · exact hK
 have h2:=oFa h2
 omega

theorem mustInts {n:Nat} {ro nn:Bool} {c:Option Nat} {rs:List (List FC)} (h:K (cv (.slc 0 0 n c nn)) [] [.rows ro 1 rs]):DoesX Tryz.prog 137 [cv (.slc 0 0 n c nn),cv .niliface] [.rows ro 1 rs] K J:=by
 refine doesX Tryz.func137 rfl (by decide) ?_
 exact h

theorem mustInts_bad {e:Int} (h:J (wrongE e) [] []):DoesX Tryz.prog 137 [cv .nilslc,cv (eno e)] [] K J:=by
 refine doesX Tryz.func137 rfl (by decide) ?_
 exact ⟨_,rfl,h⟩

def roundD (d:DZ) (t:List UInt8):AnsZ :=
 match tokV t with
 | none=>(d,.error (.no 3))
 | some n=>if n<0∨1000<n then (d,.error (.no 2)) else
   ({ d with m:=(runM d.m (roundsL d.m.ps.length (d.m.ps.length*n.toNat))).2 },.ok (numsZ [((runM d.m (roundsL d.m.ps.length (d.m.ps.length*n.toNat))).1:Int)]))

theorem saidRound (d:DZ) (w t:List UInt8) (ht:t.length≤1000000000):SaidX 67 d [w,t] (roundD d t):=by
 intro K J v hv hw hK hJ
 refine DoesX.moved moL ?_
 refine doesX Tryz.func67 rfl (by decide) ?_
 refine SX.drawR follows (by decide) ?_
 refine at2 (by decide) (by simp) (rd1 (rowStr t) (.str t) rfl rfl ?_)
 have h16:d.m.ps.length≤16:=by have:=hw.ps;have:=hw.n;omega
 change DoesX Tryz.prog 121 _ _ _ _
 refine DoesX.on 17 [6,7,8,9,10,11,12,13,14] _ _ (DoesX.of (coreThreads (m:=d.m) (v:=v) ?_))
 repeat' (first | refine And.intro rfl ?_ | refine And.intro (And.intro (by decide) (And.intro (by simp) rfl)) ?_ | refine And.intro (Exists.intro _ (Exists.intro _ (And.intro rfl (And.intro rfl rfl)))) ?_ | fail)
 change DoesX Tryz.prog 109 _ _ _ _
 refine DoesX.on 17 [1,2,3] _ _ (number ht (fun n hn=>?_) fun hn=>?_)
 · repeat' (first | refine And.intro rfl ?_ | refine And.intro (And.intro (by decide) (And.intro (by simp) rfl)) ?_ | refine And.intro (Exists.intro _ (Exists.intro _ (And.intro rfl (And.intro rfl rfl)))) ?_ | fail)
   change DoesX Tryz.prog 138 _ _ _ _
   by_cases hb:n<0∨1000<n
   · have hr:roundD d t=(d,.error (.no 2)):=by rw [roundD,hn];exact if_pos hb
     rw [hr] at hJ
     refine DoesX.alone 17 (DoesX.of (roundsE d.m.ps.length n h16 hb ?_))
     repeat' (first | refine And.intro rfl ?_ | refine And.intro (And.intro (by decide) (And.intro (by simp) rfl)) ?_ | refine And.intro (Exists.intro _ (Exists.intro _ (And.intro rfl (And.intro rfl rfl)))) ?_ | fail)
     change DoesX Tryz.prog 137 _ _ _ _
     refine DoesX.alone 17 (mustInts_bad ?_)
     refine ⟨_,rfl,And.intro (by decide) ?_⟩
     exact hJ _ v rfl hv hw
   · obtain ⟨k,rfl⟩:=Int.eq_ofNat_of_zero_le (show 0≤n by omega)
     have hr:roundD d t=({ d with m:=(runM d.m (roundsL d.m.ps.length (d.m.ps.length*k))).2 },.ok (numsZ [((runM d.m (roundsL d.m.ps.length (d.m.ps.length*k))).1:Int)])):=by rw [roundD,hn];exact if_neg hb
     rw [hr] at hK
     have hmul:d.m.ps.length*k≤16*1000:=Nat.mul_le_mul h16 (by omega)
     refine DoesX.alone 17 (DoesX.of (roundsF d.m.ps.length k h16 (by omega) ?_))
     repeat' (first | refine And.intro rfl ?_ | refine And.intro (And.intro (by decide) (And.intro (by simp) rfl)) ?_ | refine And.intro (Exists.intro _ (Exists.intro _ (And.intro rfl (And.intro rfl rfl)))) ?_ | fail)
     change DoesX Tryz.prog 137 _ _ _ _
     refine DoesX.on 18 [17] _ _ (mustInts ?_)
     repeat' (first | refine And.intro rfl ?_ | refine And.intro (And.intro (by decide) (And.intro (by simp) rfl)) ?_ | refine And.intro (Exists.intro _ (Exists.intro _ (And.intro rfl (And.intro rfl rfl)))) ?_ | fail)
     have hle:=runM_le d.m (roundsL d.m.ps.length (d.m.ps.length*k))
     rw [roundsL_length] at hle
     have hwr:=runM_wf hw (roundsL d.m.ps.length (d.m.ps.length*k))
     change DoesX Tryz.prog 136 _ _ _ _
     refine DoesX.on 18 [6,7,8,9,10,11,12,13,14,17] _ _ (DoesX.of (coreRun (m:=d.m) (v:=v) (l:=roundsL d.m.ps.length (d.m.ps.length*k)) (n:=d.m.ps.length*k) hw hv (roundsL_length _ _) (by omega) fun v1 hv1=>?_))
     change DoesX Tryz.prog 110 _ _ _ _
     refine DoesX.on 19 [1,18] _ _ (DoesX.of (nums (n:=1) (l:=[((runM d.m (roundsL d.m.ps.length (d.m.ps.length*k))).1:Int)]) rfl (by decide) (by simp;omega) ?_))
     refine And.intro ?_ (hK _ v1 rfl hv1 hwr)
     decide
 · rw [roundD,hn] at hJ
   refine ⟨_,rfl,And.intro (by decide) ?_⟩
   exact hJ _ v rfl hv hw

end
end
end Go.Mac
end
section
open Go Go.Proofs

namespace Go.AsKit
open Go.RowKit Go.Extern.Stop Go.Stop Go.Extern

theorem valueOfQ (t:Addr) (w:World):(ReflectliteValue.unpack (.iface 110 (.pointer (some t)))).run Tryz.prog w
 = .ok (.agg #[hdl 110,.pointer (some ⟨w.heap.size,0,none⟩),.int .u64 150]) (w.alloc (.cells #[.pointer (some t)] 110)):=by kernel_rfl
theorem typeQ (a:Addr) (w:World):(ReflectliteValue.methodAny (ReflectliteValue.valueError "reflectlite.Value.Type" 0) (fun t _ _ _=>ReflectliteType.toType t) #[.agg #[hdl 110,.pointer (some a),.int .u64 150]]).run Tryz.prog w
 = .ok (.iface 216 (.agg #[hdl 110])) w:=by kernel_rfl
theorem kindQ (w:World):((ReflectliteType.abiMethod fun t=>(fun a:Nat=>Value.int IntKind.u8 (a:Int)) <$> Rtype.kind t) #[hdl 110]).run Tryz.prog w=.ok (.int .u8 22) w:=by kernel_rfl
theorem kindA (w:World):((ReflectliteType.abiMethod fun t=>(fun a:Nat=>Value.int IntKind.u8 (a:Int)) <$> Rtype.kind t) #[hdl 108]).run Tryz.prog w=.ok (.int .u8 22) w:=by kernel_rfl
theorem partsQ (a:Addr) (w:World):(ReflectliteValue.parts (.agg #[hdl 110,.pointer (some a),.int .u64 150])).run Tryz.prog w=.ok (some (110,a,150)) w:=by kernel_rfl
theorem isNilQ (a p:Addr) (W:World) (ha:W.cell? a=some (.pointer (some p))) :
 (ReflectliteValue.method (ReflectliteValue.valueError "reflectlite.Value.IsNil" 0) ReflectliteValue.isNil #[.agg #[hdl 110,.pointer (some a),.int .u64 150]]).run Tryz.prog W=.ok (.bool false) W:=by
 rw [rlm]
 simp only [Sem.run_bind,partsQ,Result.andThen]
 simp [ReflectliteValue.isNil,loadVar,isAgg,underlying,Tryz.underlying110,ha,Result.andThen]
theorem elemQ (w:World):(ReflectliteType.method ReflectliteType.elem #[.agg #[hdl 110]]).run Tryz.prog w=.ok (.iface 216 (.agg #[hdl 108])) w:=by kernel_rfl
theorem implementsA (w:World):(ReflectliteType.relation "Implements" ReflectliteType.implements_ #[.agg #[hdl 108],.iface 216 (.agg #[hdl 30])]).run Tryz.prog w=.ok (.bool true) w:=by kernel_rfl
theorem assignableAA (w:World):(ReflectliteType.relation "AssignableTo" ReflectliteType.assignableTo #[.agg #[hdl 108],.iface 216 (.agg #[hdl 108])]).run Tryz.prog w=.ok (.bool true) w:=by kernel_rfl
theorem assignableEA (w:World):(ReflectliteType.relation "AssignableTo" ReflectliteType.assignableTo #[.agg #[hdl 68],.iface 216 (.agg #[hdl 108])]).run Tryz.prog w=.ok (.bool false) w:=by kernel_rfl
theorem valueOfA (e:Addr) (w:World):(ReflectliteValue.unpack (.iface 108 (.pointer (some e)))).run Tryz.prog w
 = .ok (.agg #[hdl 108,.pointer (some ⟨w.heap.size,0,none⟩),.int .u64 150]) (w.alloc (.cells #[.pointer (some e)] 108)):=by kernel_rfl
theorem elemOfQ (w:World):(Rtype.elem? 110).run Tryz.prog w=.ok (some 108) w:=by kernel_rfl
theorem mkA (p:Addr) (w:World):(ReflectliteValue.mk 108 p ReflectliteValue.flagAddr).run Tryz.prog w=.ok (.agg #[hdl 108,.pointer (some p),.int .u64 406]) w:=by kernel_rfl
theorem elemVQ (a p:Addr) (W:World) (ha:W.cell? a=some (.pointer (some p))) :
 (ReflectliteValue.method (ReflectliteValue.valueError "reflectlite.Value.Elem" 0) ReflectliteValue.elem #[.agg #[hdl 110,.pointer (some a),.int .u64 150]]).run Tryz.prog W
   = .ok (.agg #[hdl 108,.pointer (some p),.int .u64 406]) W:=by
 rw [rlm]
 simp only [Sem.run_bind,partsQ,Result.andThen]
 simp [ReflectliteValue.elem,loadVar,isAgg,underlying,Tryz.underlying110,ha,Result.andThen,elemOfQ,mkA]
theorem partsAa (a:Addr) (w:World):(ReflectliteValue.parts (.agg #[hdl 108,.pointer (some a),.int .u64 406])).run Tryz.prog w=.ok (some (108,a,406)) w:=by kernel_rfl
theorem partsA (a:Addr) (w:World):(ReflectliteValue.parts (.agg #[hdl 108,.pointer (some a),.int .u64 150])).run Tryz.prog w=.ok (some (108,a,150)) w:=by kernel_rfl
theorem directA (w:World):(Rtype.directlyAssignable 108 108).run Tryz.prog w=.ok true w:=by kernel_rfl
theorem setA (ta b:Addr) (e:Addr) (old:Value) (W:World) (hb:W.cell? b=some (.pointer (some e))) (ht:W.cell? ta=some old) (hf:W.frozen? ta=false) :
 (ReflectliteValue.set #[.agg #[hdl 108,.pointer (some ta),.int .u64 406],.agg #[hdl 108,.pointer (some b),.int .u64 150]]).run Tryz.prog W
   = .ok (.tuple #[]) (W.setCell ta (.pointer (some e))):=by
 rw [rls]
 simp only [Sem.run_bind,partsAa,partsA,Result.andThen]
 simp [ReflectliteValue.flagAddr,loadVar,isAgg,underlying,Tryz.underlying108,hb,Result.andThen,directA,storeVar,Value.cells,storeCells,Addr.add]
 rw [run_store Tryz.prog W ta _ _ (by rfl)]
 simp [ht,hf]
theorem noAsE (v:Value) (xT:TypeId) (w:World):(Instr.typeAssert (.iface 68 v) xT 221 true).run Tryz.prog w=.ok (.tuple #[.nilIface,.bool false]) w :=
 run_typeAssert_lacksB Tryz.underlying221 (by kernel_rfl) (by kernel_rfl) v xT w
theorem noUnwrap (v:Value) (xT:TypeId) (w:World):(Instr.typeAssert (.iface 68 v) xT 224 true).run Tryz.prog w=.ok (.tuple #[.nilIface,.bool false]) w :=
 run_typeAssert_lacksB Tryz.underlying224 (by kernel_rfl) (by kernel_rfl) v xT w
theorem noUnwraps (v:Value) (xT:TypeId) (w:World):(Instr.typeAssert (.iface 68 v) xT 226 true).run Tryz.prog w=.ok (.tuple #[.nilIface,.bool false]) w :=
 run_typeAssert_lacksB Tryz.underlying226 (by kernel_rfl) (by kernel_rfl) v xT w

abbrev asQ (t:Addr) (w:World):World:=((w.alloc (.cells #[.pointer (some t)] 110)).alloc (.cells #[hdl 110,.pointer (some ⟨w.heap.size,0,none⟩),.int .u64 150] 152)).alloc (.cells #[hdl 110,.pointer (some ⟨w.heap.size,0,none⟩),.int .u64 150] 152)
abbrev asQ2 (t e:Addr) (w:World):World:=((asQ t w).alloc (.cells #[.pointer (some e)] 108)).setCell t (.pointer (some e))

set_option maxHeartbeats 4000000 in
theorem miss (n:Int) (t:Addr) (w:World) (hg:w.cell? ⟨0,0,none⟩ = some (.iface 216 (.agg #[hdl 30]))) :
 Calls Tryz.prog 52 #[.iface 68 (.int .i64 n),.iface 110 (.pointer (some t))] w fun ev w'=>ev=.returned (.bool false)∧w'=asQ t w:=by
 have h6:=@run_callFunc_extern Tryz.prog 104 _ (fun args=>ReflectliteValue.unpack (args.getD 0 (.tuple #[]))) Tryz.func104 (by kernel_rfl) (by kernel_rfl) (by kernel_rfl) (by kernel_rfl)
 have h7:=@run_callFunc_extern Tryz.prog 105 _ (ReflectliteValue.methodAny (ReflectliteValue.valueError "reflectlite.Value.Type" 0) (fun t _ _ _=>ReflectliteType.toType t)) Tryz.func105 (by kernel_rfl) (by kernel_rfl) (by kernel_rfl) (by kernel_rfl)
 have h8:=@run_callFunc_extern Tryz.prog 106 _ (ReflectliteValue.method (ReflectliteValue.valueError "reflectlite.Value.IsNil" 0) ReflectliteValue.isNil) Tryz.func106 (by kernel_rfl) (by kernel_rfl) (by kernel_rfl) (by kernel_rfl)
 have h27:=@run_callFunc_extern Tryz.prog 297 _ (ReflectliteType.abiMethod fun t=>do pure (.int .u8 (←Rtype.kind t))) Tryz.func297 (by kernel_rfl) (by kernel_rfl) (by kernel_rfl) (by kernel_rfl)
 have h37:=@run_callFunc_extern Tryz.prog 310 _ (ReflectliteType.method ReflectliteType.elem) Tryz.func310 (by kernel_rfl) (by kernel_rfl) (by kernel_rfl) (by kernel_rfl)
 have h38:=@run_callFunc_extern Tryz.prog 311 _ (ReflectliteType.relation "Implements" ReflectliteType.implements_) Tryz.func311 (by kernel_rfl) (by kernel_rfl) (by kernel_rfl) (by kernel_rfl)
 have h10:=@run_callFunc_extern Tryz.prog 161 _ ReflectliteType.typeOf Tryz.func161 (by kernel_rfl) (by kernel_rfl) (by kernel_rfl) (by kernel_rfl)
 have h35:=@run_callFunc_extern Tryz.prog 308 _ (ReflectliteType.relation "AssignableTo" ReflectliteType.assignableTo) Tryz.func308 (by kernel_rfl) (by kernel_rfl) (by kernel_rfl) (by kernel_rfl)
 have h11:=@run_callFunc_extern Tryz.prog 162 _ (ReflectliteValue.method (ReflectliteValue.valueError "reflectlite.Value.Elem" 0) ReflectliteValue.elem) Tryz.func162 (by kernel_rfl) (by kernel_rfl) (by kernel_rfl) (by kernel_rfl)
 have h12:=@run_callFunc_extern Tryz.prog 163 _ ReflectliteValue.set Tryz.func163 (by kernel_rfl) (by kernel_rfl) (by kernel_rfl) (by kernel_rfl)
 have tO:=typeOfE
 have a25:=assignableEA
 have nA:=noAsE
 have nU:=noUnwrap
 have nUs:=noUnwraps
 have f6:=valueOfQ
 have f7:=typeQ
 have mA:=methodAssignableTo
 have mK:=methodKind
 have mE:=methodElem
 have mI:=methodImplements
 have k27:=kindQ
 have k25:=kindA
 have e27:=elemQ
 have i25:=implementsA
 have n8:=isNilQ ⟨w.heap.size,0,none⟩ t ((w.alloc (.cells #[.pointer (some t)] 110)).alloc (.cells #[hdl 110,.pointer (some ⟨w.heap.size,0,none⟩),.int .u64 150] 152)) (by simp)
 have hlt:0<w.heap.size:=by
  rcases Nat.lt_or_ge 0 w.heap.size with h | h
  · exact h
  · simp [World.cell?,Array.getElem?_eq_none h] at hg
 have hg2:((w.alloc (.cells #[.pointer (some t)] 110)).alloc (.cells #[hdl 110,.pointer (some ⟨w.heap.size,0,none⟩),.int .u64 150] 152)).cell? ⟨0,0,none⟩ = some (.iface 216 (.agg #[hdl 30])):=by
  rw [World.cell?_alloc_lt _ _ ⟨0,0,none⟩ (by rw [World.size_alloc];exact Nat.lt_succ_of_lt hlt),World.cell?_alloc_lt _ _ ⟨0,0,none⟩ hlt];exact hg
 go_enter Tryz.func52,Tryz.ntmps52
 go_wp2
 refine wp_loop_rounds 1 ?_
 rw [rounds_succ]
 go_wp2
 go_ret
 exact ⟨rfl,rfl⟩

set_option maxHeartbeats 4000000 in
theorem hit (e t:Addr) (old:Value) (w:World) (hg:w.cell? ⟨0,0,none⟩ = some (.iface 216 (.agg #[hdl 30]))) (ht0:w.cell? t=some old) (hf0:w.frozen? t=false) :
 Calls Tryz.prog 52 #[.iface 108 (.pointer (some e)),.iface 110 (.pointer (some t))] w fun ev w'=>ev=.returned (.bool true)∧w'=asQ2 t e w:=by
 have h6:=@run_callFunc_extern Tryz.prog 104 _ (fun args=>ReflectliteValue.unpack (args.getD 0 (.tuple #[]))) Tryz.func104 (by kernel_rfl) (by kernel_rfl) (by kernel_rfl) (by kernel_rfl)
 have h7:=@run_callFunc_extern Tryz.prog 105 _ (ReflectliteValue.methodAny (ReflectliteValue.valueError "reflectlite.Value.Type" 0) (fun t _ _ _=>ReflectliteType.toType t)) Tryz.func105 (by kernel_rfl) (by kernel_rfl) (by kernel_rfl) (by kernel_rfl)
 have h8:=@run_callFunc_extern Tryz.prog 106 _ (ReflectliteValue.method (ReflectliteValue.valueError "reflectlite.Value.IsNil" 0) ReflectliteValue.isNil) Tryz.func106 (by kernel_rfl) (by kernel_rfl) (by kernel_rfl) (by kernel_rfl)
 have h27:=@run_callFunc_extern Tryz.prog 297 _ (ReflectliteType.abiMethod fun t=>do pure (.int .u8 (←Rtype.kind t))) Tryz.func297 (by kernel_rfl) (by kernel_rfl) (by kernel_rfl) (by kernel_rfl)
 have h37:=@run_callFunc_extern Tryz.prog 310 _ (ReflectliteType.method ReflectliteType.elem) Tryz.func310 (by kernel_rfl) (by kernel_rfl) (by kernel_rfl) (by kernel_rfl)
 have h38:=@run_callFunc_extern Tryz.prog 311 _ (ReflectliteType.relation "Implements" ReflectliteType.implements_) Tryz.func311 (by kernel_rfl) (by kernel_rfl) (by kernel_rfl) (by kernel_rfl)
 have h10:=@run_callFunc_extern Tryz.prog 161 _ ReflectliteType.typeOf Tryz.func161 (by kernel_rfl) (by kernel_rfl) (by kernel_rfl) (by kernel_rfl)
 have h35:=@run_callFunc_extern Tryz.prog 308 _ (ReflectliteType.relation "AssignableTo" ReflectliteType.assignableTo) Tryz.func308 (by kernel_rfl) (by kernel_rfl) (by kernel_rfl) (by kernel_rfl)
 have h11:=@run_callFunc_extern Tryz.prog 162 _ (ReflectliteValue.method (ReflectliteValue.valueError "reflectlite.Value.Elem" 0) ReflectliteValue.elem) Tryz.func162 (by kernel_rfl) (by kernel_rfl) (by kernel_rfl) (by kernel_rfl)
 have h12:=@run_callFunc_extern Tryz.prog 163 _ ReflectliteValue.set Tryz.func163 (by kernel_rfl) (by kernel_rfl) (by kernel_rfl) (by kernel_rfl)
 have tO:=typeOfA
 have a25:=assignableAA
 have v25:=valueOfA
 have f6:=valueOfQ
 have f7:=typeQ
 have mA:=methodAssignableTo
 have mK:=methodKind
 have mE:=methodElem
 have mI:=methodImplements
 have k27:=kindQ
 have k25:=kindA
 have e27:=elemQ
 have i25:=implementsA
 have n8:=isNilQ ⟨w.heap.size,0,none⟩ t ((w.alloc (.cells #[.pointer (some t)] 110)).alloc (.cells #[hdl 110,.pointer (some ⟨w.heap.size,0,none⟩),.int .u64 150] 152)) (by simp)
 have hlt:0<w.heap.size:=by
  rcases Nat.lt_or_ge 0 w.heap.size with h | h
  · exact h
  · simp [World.cell?,Array.getElem?_eq_none h] at hg
 have hg2:((w.alloc (.cells #[.pointer (some t)] 110)).alloc (.cells #[hdl 110,.pointer (some ⟨w.heap.size,0,none⟩),.int .u64 150] 152)).cell? ⟨0,0,none⟩ = some (.iface 216 (.agg #[hdl 30])):=by
  rw [World.cell?_alloc_lt _ _ ⟨0,0,none⟩ (by rw [World.size_alloc];exact Nat.lt_succ_of_lt hlt),World.cell?_alloc_lt _ _ ⟨0,0,none⟩ hlt];exact hg
 have htl:t.block<w.heap.size:=by
  rcases Nat.lt_or_ge t.block w.heap.size with h | h
  · exact h
  · simp [World.cell?,Array.getElem?_eq_none h] at ht0
 have el:=elemVQ ⟨w.heap.size,0,none⟩ t (asQ t w) (by rw [World.cell?_alloc_lt _ _ ⟨w.heap.size,0,none⟩ (by simp;omega)];simp)
 have st:=setA t ⟨w.heap.size+1+1+1,0,none⟩ e old ((asQ t w).alloc (.cells #[.pointer (some e)] 108))
  (by rw [World.cell?_alloc_at _ _ _ _ (by simp)];rfl)
  (by rw [World.cell?_alloc_lt _ _ t (by simp;omega),World.cell?_alloc_lt _ _ t (by simp;omega),World.cell?_alloc_lt _ _ t (by simp;omega),World.cell?_alloc_lt _ _ t htl];exact ht0)
  (by rw [World.frozen?_alloc_old _ _ t (by simp;omega),World.frozen?_alloc_old _ _ t (by simp;omega),World.frozen?_alloc_old _ _ t (by simp;omega),World.frozen?_alloc_old _ _ t (Nat.ne_of_lt htl)];exact hf0)
 go_enter Tryz.func52,Tryz.ntmps52
 go_wp2
 refine wp_loop_rounds 1 ?_
 rw [rounds_succ]
 go_wp2
 go_ret
 exact ⟨rfl,rfl⟩

end Go.AsKit
end
