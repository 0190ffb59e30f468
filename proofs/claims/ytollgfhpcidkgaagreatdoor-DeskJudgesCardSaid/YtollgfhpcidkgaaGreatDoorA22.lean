/- Texts that belong together; the first of them:  -/
import Derived.Test.YtollgfhpcidkgaaGreatDoorA21
import Derived.Test.YtollgfhpcidkgaaGreatDoorA14
import Derived.Test.YtollgfhpcidkgaaGreatDoorA20
import Derived.Test.YtollgfhpcidkgaaGreatDoorMacR
import Derived.Test.YtollgfhpcidkgaaGreatDoorA15
import Derived.Test.YtollgfhpcidkgaaGreatDoorA5
import Derived.Laws.RangeString
import Derived.Test.YtollgfhpcidkgaaGreatDoorA4
import Derived.Test.YtollgfhpcidkgaaGreatDoorA9
import Derived.Test.YtollgfhpcidkgaaGreatDoorA3
import Derived.WalkKit
import Derived.ProofKit
import Derived.OpenShut
import Derived.Below
import Derived.ChangeSame
import Derived.WideKeyArgs
import Derived.Lib.SmallJoins
import Derived.Test.YtollgfhpcidkgaaGreatDoorA17
import Derived.Test.YtollgfhpcidkgaaGreatDoorA7
import Derived.Test.YtollgfhpcidkgaaGreatDoorA19

section
open Go Go.Proofs Go.Mac
set_option maxRecDepth 100000

namespace Go.Mac

def stateD (d:DZ):AnsZ :=
 (d,if d.ph=true then
   if pkRightB (gPh (d.m.ws.headD 0)) (gPa (d.m.ws.headD 0)) (gWa (d.m.ws.headD 0))=true then .ok (yesZ (gO (d.m.ws.headD 0))++numsZ [gPh (d.m.ws.headD 0),gPa (d.m.ws.headD 0),gWa (d.m.ws.headD 0)])
   else .error (.no 3)
 else .error (.no 6))

section

variable {K:AV→List Nat→List PO→Prop} {J:CV→List Nat→List PO→Prop}

theorem asksX {d:DZ} {v:VZ} {ws:List (List UInt8)} (h1:d.ph=true→K undefA [] (saidH d v ws)) (h0:d.ph=false→J (wrongE 6) [] (saidH d v ws)):DoesX Tryz.prog 131 [cv (.ptr 5 0)] (saidH d v ws) K J:=by
 refine doesX Tryz.func131 rfl (by decide) ?_
 refine brc_intro (fun h=>?_) (fun h=>?_)
 · have h:d.ph=false:=by simpa using h
   exact ⟨_,rfl,h0 h⟩
 · have h:d.ph=true:=by simpa using h
   exact h1 h

theorem mustPhase {o:Bool} {ph pa wa:Int} (h:K (pkPhase o ph pa wa) [] []):DoesX Tryz.prog 141 [pkPhase o ph pa wa,cv .niliface] [] K J:=by
 refine doesX Tryz.func141 rfl (by decide) ?_
 exact h

theorem mustPhase_bad {o:Bool} {ph pa wa e:Int} (h:J (wrongE e) [] []):DoesX Tryz.prog 141 [pkPhase o ph pa wa,cv (eno e)] [] K J:=by
 refine doesX Tryz.func141 rfl (by decide) ?_
 exact ⟨_,rfl,h⟩

theorem saidState (d:DZ) (w:List UInt8) (hph:d.ph=true→d.m.ws≠[]):SaidX 71 d [w] (stateD d):=by
 intro K J v hv hw hK hJ
 refine DoesX.keepB 17 moL rfl ?_
 refine doesX Tryz.func71 rfl (by decide) ?_
 change DoesX Tryz.prog 131 _ _ _ _
 refine asksX (fun hp=>?_) fun hp=>?_
 · obtain ⟨u,us,hus⟩ : ∃ u us,d.m.ws=u::us:=by
     cases h:d.m.ws with
     | nil=>exact absurd h (hph hp)
     | cons u us=>exact ⟨u,us,rfl⟩
   have hu:=hw.ws.2 u (by rw [hus];simp)
   have hhd:d.m.ws.headD 0=u:=by rw [hus];rfl
   change DoesX Tryz.prog 114 _ _ _ _
   refine DoesX.on 17 [6,7,8,9,10,11,12,13,14] _ _ (DoesX.of (coreCellsL (m:=d.m) (v:=v) hw (l:=u::us) hus ?_))
   refine at2 (by decide) (by simp) (rd1 (rowU u) (.int .u64 u) rfl rfl ?_)
   change DoesX Tryz.prog 142 _ _ _ _
   refine DoesX.alone 18 (DoesX.of (gOfIs u hu (fun hb=>?_) fun hb=>?_))
   · have hr:stateD d=(d,.error (.no 3)):=by rw [stateD,if_pos hp,hhd,if_neg (by rw [hb];decide)]
     rw [hr] at hJ
     change DoesX Tryz.prog 141 _ _ _ _
     refine DoesX.alone 18 (mustPhase_bad ?_)
     refine ⟨_,rfl,?_⟩
     refine ⟨17,[0,1,2,3,4,5,6,7,8,9,10,11,12,13,14,15,16],_,_,rfl,by decide,by decide,by decide,by decide,by decide,rfl,rfl,rfl,rfl,rfl,_,rfl,hJ _ v rfl hv hw⟩
   · have hr:stateD d=(d,.ok (yesZ (gO u)++numsZ [gPh u,gPa u,gWa u])):=by rw [stateD,if_pos hp,hhd,if_pos hb]
     rw [hr] at hK
     change DoesX Tryz.prog 141 _ _ _ _
     refine DoesX.alone 18 (mustPhase ?_)
     refine SX.drawR follows (by decide) ?_
     have hb3:∀ x∈[gPh u,gPa u,gWa u],-9223372036854775808≤x∧x≤9223372036854775807:=by
       intro x hx
       simp at hx
       have e1:gPh u=u / 4294967296 % 2147483648:=rfl
       have e2:gPa u=u / 65536 % 65536:=rfl
       have e3:gWa u=u % 65536:=rfl
       omega
     refine And.intro ?_ ?_
     · change DoesX Tryz.prog 119 _ _ _ _
       refine DoesX.alone 19 (DoesX.of (yes (gO u) ?_))
       repeat' (first | refine And.intro rfl ?_ | refine And.intro (And.intro (by decide) (And.intro (by simp) rfl)) ?_ | refine And.intro (Exists.intro _ (Exists.intro _ (And.intro rfl (And.intro rfl rfl)))) ?_ | fail)
       change DoesX Tryz.prog 110 _ _ _ _
       refine DoesX.on 20 [1,19] _ _ (DoesX.of (nums (n:=3) (l:=[gPh u,gPa u,gWa u]) rfl (by decide) hb3 ?_))
       repeat' (first | refine And.intro rfl ?_ | refine And.intro (And.intro (by decide) (And.intro (by simp) rfl)) ?_ | refine And.intro (Exists.intro _ (Exists.intro _ (And.intro rfl (And.intro rfl rfl)))) ?_ | fail)
       refine And.intro (by exact Nat.le_trans (Nat.add_le_add (yesZ_len _) (numsZ_len _ hb3)) (show 6+21*3≤9223372036854775807 by decide)) ?_
       refine ⟨17,[0,1,2,3,4,5,6,7,8,9,10,11,12,13,14,15,16],_,_,rfl,by decide,by decide,by decide,by decide,by decide,rfl,rfl,rfl,rfl,rfl,hK _ v rfl hv hw⟩
     · repeat' (first | refine And.intro rfl ?_ | refine And.intro (And.intro (by decide) (And.intro (by simp) rfl)) ?_ | refine And.intro (Exists.intro _ (Exists.intro _ (And.intro rfl (And.intro rfl rfl)))) ?_ | fail)
       change DoesX Tryz.prog 119 _ _ _ _
       refine DoesX.alone 20 (DoesX.of (yes (gO u) ?_))
       repeat' (first | refine And.intro rfl ?_ | refine And.intro (And.intro (by decide) (And.intro (by simp) rfl)) ?_ | refine And.intro (Exists.intro _ (Exists.intro _ (And.intro rfl (And.intro rfl rfl)))) ?_ | fail)
       change DoesX Tryz.prog 110 _ _ _ _
       refine DoesX.on 20 [1,19] _ _ (DoesX.of (nums (n:=3) (l:=[gPh u,gPa u,gWa u]) rfl (by decide) hb3 ?_))
       repeat' (first | refine And.intro rfl ?_ | refine And.intro (And.intro (by decide) (And.intro (by simp) rfl)) ?_ | refine And.intro (Exists.intro _ (Exists.intro _ (And.intro rfl (And.intro rfl rfl)))) ?_ | fail)
       refine And.intro (by exact Nat.le_trans (Nat.add_le_add (yesZ_len _) (numsZ_len _ hb3)) (show 6+21*3≤9223372036854775807 by decide)) ?_
       refine ⟨17,[0,1,2,3,4,5,6,7,8,9,10,11,12,13,14,15,16],_,_,rfl,by decide,by decide,by decide,by decide,by decide,rfl,rfl,rfl,rfl,rfl,hK _ v rfl hv hw⟩
 · have hr:stateD d=(d,.error (.no 6)):=by rw [stateD,if_neg (by rw [hp];decide)]
   rw [hr] at hJ
   refine ⟨_,rfl,?_⟩
   refine ⟨17,[0,1,2,3,4,5,6,7,8,9,10,11,12,13,14,15,16],_,_,rfl,by decide,by decide,by decide,by decide,by decide,rfl,rfl,rfl,rfl,rfl,_,rfl,hJ _ v rfl hv hw⟩

end

end Go.Mac
end

section
open Go Go.Proofs Go.Mac
set_option maxRecDepth 100000

namespace Go.Mac

def tellD (w0:List UInt8) (r:AnsZ):DZ×List UInt8 :=
 (r.1,match r.2 with
   | .ok s=>w0++s
   | .error e=>errText e)

def okEZ:EZ→Prop
 | .no e=>-9223372036854775808≤e∧e≤9223372036854775807
 | .pl e p=>(-9223372036854775808≤e∧e≤9223372036854775807)∧(-9223372036854775808≤p∧p≤9223372036854775807)

structure LineX (d:DZ) (s:List UInt8) (r:DZ×List UInt8):Prop where
 run:∀ {K:AV→List Nat→List PO→Prop} (v:VZ),okV v→WF d.m →
   (∀ v',okV v'→WF r.1.m→K (st r.2) moL (sysH++deskS 5 r.1 v')) →
   Does Tryz.prog 30 [cv (.ptr 5 0),st s] (sysH++deskS 5 d v) K

end Go.Mac
end

section
open Go Go.Proofs Go.Mac
set_option maxRecDepth 100000

namespace Go.Mac

theorem nilArgs2 {P:Program} {f:FuncId} {K:AV→List Nat→List PO→Prop} {a b:Nat} (hb0:0<b) (h:Does P f [cv (.slc 0 0 0 none false),cv (.slc 1 0 0 none false)] [.rows2 true a [],.rows true b []] K):Does P f [cv .nilslc,cv .nilslc] [] K:=by
 refine ⟨h.fn,fun B R w0 L w vs hrel hvs=>?_⟩
 obtain ⟨_,_,rfl,rfl,_,_,rfl,rfl,rfl⟩:=hvs
 have hob:∀ (i:Nat) (o:PO),([.rows2 true a [],.rows true b []]:List PO)[i]? = some o→(i=0∧o=.rows2 true a [])∨(i=1∧o=.rows true b []):=by
   intro i o hi
   match i,hi with
   | 0,hi=>exact .inl ⟨rfl,(Option.some.inj hi).symm⟩
   | 1,hi=>exact .inr ⟨rfl,(Option.some.inj hi).symm⟩
   | i+2,hi=>simp at hi
 have hr2:Rel B R w0 (fun i=>⟨⟨0,0,0,if i=0 then 1 else b⟩,fun _=>⟨0,0,0,0⟩⟩) [.rows2 true a [],.rows true b []] w:=by
   refine ⟨hrel.below,hrel.start,fun i o hi=>?_,fun i o q hi hq=>?_,fun i o q hi hq=>?_,hrel.sub⟩
   · rcases hob i o hi with ⟨rfl,rfl⟩ | ⟨rfl,rfl⟩
     · exact ⟨rfl,Nat.le_refl _,fun hc=>by (cases hc),fun i rs hi=>by simp at hi,fun hc=>by cases hc⟩
     · exact ⟨rfl,hb0,Nat.le_refl _,fun hc=>(by cases hc),fun i rs hi=>by simp at hi⟩
   · rcases hob i o hi with ⟨rfl,rfl⟩ | ⟨rfl,rfl⟩ <;> exact hq.elim
   · rcases hob i o hi with ⟨rfl,rfl⟩ | ⟨rfl,rfl⟩
     · rcases hq with ⟨hc,_⟩ | ⟨i,hi,_⟩
       · exact absurd rfl hc
       · simp at hi
     · exact absurd rfl hq.1
 refine (h.run B R w0 _ w [.slice none 0 0,.slice none 0 0] hr2 ⟨_,_,rfl,⟨by simp,.inl ⟨rfl,rfl,rfl,fun c' hc'=>by cases hc'⟩⟩,_,_,rfl,⟨by simp,.inl ⟨rfl,rfl,rfl,fun c' hc'=>by cases hc'⟩⟩,rfl⟩).mono ?_
 rintro e w' ⟨v,he,L',x,M,H',h1,h2,h3,h4,h5⟩
 exact ⟨v,he,L',x,M,H',fun j hj=>absurd hj (by simp),Nat.zero_le _,h3,h4,h5⟩

section

variable {K:AV→List Nat→List PO→Prop}

theorem coreNewNil (h:∀ v,okV v→WF (mz0 [] [])→K (.tup [.c (.ptr 0 0),okP]) [] (machS 0 (mz0 [] []) v)):Does Tryz.prog 27 [cv .nilslc,cv .nilslc] [] K:=by
 refine Does.keep 0 rfl ?_
 refine nilArgs2 (a:=5) (b:=1) (by decide) ?_
 refine coreNew (ps:=[]) (ws:=[]) (n:=0) (nc:=0) rfl rfl (by decide) (by decide) (fun p hp=>by simp at hp) fun v hv=>?_
 have hw:WF (mz0 [] []):=mz0_wf (by simp) (by simp) (fun p hp=>by simp at hp) (fun p hp=>by simp at hp)
 exact ⟨11,[2,3,4,5,6,7,8,9,10],_,_,rfl,rfl,by decide,by decide,rfl,rfl,rfl,rfl,rfl,h v hv hw⟩

end

theorem Conv.nil2 {H:List PO} (i f sz:Nat) {cs:List CV} (hi:H[i]? = some (.one cs)) (hf:cs[f]? = some .nilslc):Conv H ((H++[PO.rows2 false sz []]).set i (PO.one (cs.set f (CV.slc H.length 0 0 none false)))):=by
 intro B R X w0 L w h hfr
 obtain ⟨g1,g2⟩:=none2_sound h sz
 have hlt:=(List.getElem?_eq_some_iff.1 hi).1
 have hi2:(H++[PO.rows2 false sz []])[i]? = some (.one cs):=by rw [List.getElem?_append_left hlt];exact hi
 have g3:=g2.weaken (i:=i) (cs:=cs) (cs':=cs.set f (.slc H.length 0 0 none false)) hi2 (by simp) fun g x' hx'=>by
   by_cases hg:f=g
   · subst hg
     rw [List.getElem?_set_self (List.getElem?_eq_some_iff.1 hf).1] at hx'
     obtain rfl:=Option.some.inj hx'
     exact ⟨_,hf,fun v hv=>⟨by simp,.inl ⟨rfl,rfl,hv,fun c' hc'=>by cases hc'⟩⟩⟩
   · rw [List.getElem?_set_ne hg] at hx'
     exact ⟨x',hx',fun _ hv=>hv⟩
 refine ⟨_,g1,g3,fun b hb=>?_⟩
 obtain ⟨x1,x2,x3⟩:=hfr b hb
 refine ⟨x1,x2,fun j o hj ho=>?_⟩
 by_cases hji:i=j
 · subst hji
   rw [List.getElem?_set_self (by simp;omega)] at hj
   obtain rfl:=Option.some.inj hj
   rw [upd_ne (by omega)] at ho
   exact x3 i (.one cs) hi ho
 · rw [List.getElem?_set_ne hji] at hj
   rcases Nat.lt_or_ge j H.length with hlt2 | hge
   · rw [List.getElem?_append_left hlt2] at hj
     rw [upd_ne (by omega)] at ho
     exact x3 j o hj ho
   · obtain rfl:j=H.length:=by
       have:=(List.getElem?_eq_some_iff.1 hj).1
       simp at this
       omega
     simp at hj
     subst hj
     rw [upd_self] at ho
     rcases ho with ⟨hc,_⟩ | ⟨i,hi,_⟩
     · exact absurd rfl hc
     · simp at hi

end Go.Mac
end

section
open Go Go.Proofs Go.Mac
set_option maxRecDepth 100000

namespace Go.Mac

def hasSuf (s p:List UInt8):Bool:=decide (p.length≤s.length) && (s.drop (s.length-p.length) == p)
def hasPre (s p:List UInt8):Bool:=decide (p.length≤s.length) && (s.take p.length == p)
def trimSuf (s p:List UInt8):List UInt8:=if hasSuf s p=true then s.take (s.length-p.length) else s

section

variable {K:AV→List Nat→List PO→Prop}

theorem hasSuffix2 {s p:List UInt8} (hs:s.length≤1000000000000) (hp:p.length≤1000000000000) (h:K (bl (hasSuf s p)) [] []):Does Tryz.prog 40 [st s,st p] [] K:=by
 refine does Tryz.func40 rfl (by decide) ?_
 refine brc_intro (fun hg=>?_) (fun hg=>?_)
 · have hg:p.length≤s.length:=by
     have:=of_decide_eq_true hg
     omega
   have hw:IntKind.i64.wrap ((s.length:Int)-(p.length:Int))=((s.length-p.length:Nat):Int):=by
     rw [wrap_i64 _ (by omega) (by omega)]
     omega
   refine at2 (by rw [hw];omega) (by rw [hw];omega) ?_
   have e:K (bl (List.take (s.length-(IntKind.i64.wrap ((s.length:Int)-(p.length:Int))).toNat) (List.drop (IntKind.i64.wrap ((s.length:Int)-(p.length:Int))).toNat s) == p)) [] []:=by
     rw [hw,Int.toNat_natCast,List.take_of_length_le (by simp)]
     rw [hasSuf,decide_eq_true hg,Bool.true_and] at h
     exact h
   exact e
 · have hg:¬p.length≤s.length:=by
     have:=of_decide_eq_false hg
     omega
   rw [hasSuf,decide_eq_false hg,Bool.false_and] at h
   exact h

theorem hasSuffix {s p:List UInt8} (hs:s.length≤1000000000000) (hp:p.length≤1000000000000) (h:K (bl (hasSuf s p)) [] []):Does Tryz.prog 20 [st s,st p] [] K:=by
 refine does Tryz.func20 rfl (by decide) ?_
 change Does Tryz.prog 40 _ _ _
 exact hasSuffix2 hs hp h

theorem hasPrefix {s p:List UInt8} (hs:s.length≤1000000000000) (hp:p.length≤1000000000000) (h:K (bl (hasPre s p)) [] []):Does Tryz.prog 9 [st s,st p] [] K:=by
 refine does Tryz.func9 rfl (by decide) ?_
 change Does Tryz.prog 25 _ _ _
 refine does Tryz.func25 rfl (by decide) ?_
 refine brc_intro (fun hg=>?_) (fun hg=>?_)
 · have hg:p.length≤s.length:=by
     have:=of_decide_eq_true hg
     omega
   refine at2 (by omega) (by omega) ?_
   have e:K (bl (List.take ((p.length:Int).toNat-0) (List.drop 0 s) == p)) [] []:=by
     rw [Int.toNat_natCast,Nat.sub_zero,List.drop_zero]
     rw [hasPre,decide_eq_true hg,Bool.true_and] at h
     exact h
   exact e
 · have hg:¬p.length≤s.length:=by
     have:=of_decide_eq_false hg
     omega
   rw [hasPre,decide_eq_false hg,Bool.false_and] at h
   exact h

theorem trimSuffix {s p:List UInt8} (hs:s.length≤1000000000000) (hp:p.length≤1000000000000) (h:K (st (trimSuf s p)) [] []):Does Tryz.prog 19 [st s,st p] [] K:=by
 refine does Tryz.func19 rfl (by decide) ?_
 change Does Tryz.prog 39 _ _ _
 refine does Tryz.func39 rfl (by decide) ?_
 change Does Tryz.prog 40 _ _ _
 refine hasSuffix2 hs hp ?_
 refine brc_intro (fun hg=>?_) (fun hg=>?_)
 · have hg:hasSuf s p=true:=hg
   have hle:p.length≤s.length:=by
     simp only [hasSuf,Bool.and_eq_true,decide_eq_true_eq] at hg
     exact hg.1
   have hw:IntKind.i64.wrap ((s.length:Int)-(p.length:Int))=((s.length-p.length:Nat):Int):=by
     rw [wrap_i64 _ (by omega) (by omega)]
     omega
   refine at2 (by rw [hw];omega) (by rw [hw];omega) ?_
   have e:K (st (List.take ((IntKind.i64.wrap ((s.length:Int)-(p.length:Int))).toNat-0) (List.drop 0 s))) [] []:=by
     rw [hw,Int.toNat_natCast,Nat.sub_zero,List.drop_zero]
     rw [trimSuf,if_pos hg] at h
     exact h
   exact e
 · have hg:hasSuf s p=false:=hg
   rw [trimSuf,if_neg (by rw [hg];decide)] at h
   exact h

end

end Go.Mac
end

section
open Go Go.Proofs Go.Mac
set_option maxRecDepth 100000

namespace Go.Mac

def dz0:DZ:=⟨mz0 [] [],[],false⟩

def outN (os:Nat→List UInt8):Nat→List UInt8
 | 0=>[]
 | k+1=>outN os k++(os k++[10])

abbrev sesH (bk:Nat) (y:DZ×VZ×List UInt8):List PO :=
 sysH++(machS 5 y.1.m y.2.1++[.one [.ptr 5 0,.slc 17 0 y.1.cs.length none false,.f (.bool y.1.ph)],.one [.ptr 14 0],bldH bk y.2.2,.rows2 false 2 (y.1.cs.map fun l=>l.map rowCallZ)])

section

variable {K:AV→List Nat→List PO→Prop}

theorem sessionX {t:List UInt8} (ht:t.length≤20000) {l:List (List UInt8)} (hl:splitB 10 (trimSuf t [10])=l) (ds:Nat→DZ) (os:Nat→List UInt8) (h0:ds 0=dz0)
   (hstep:∀ k s,l[k]? = some s→s.length≤1000000000→LineX (ds k) s (ds (k+1),os k)) (hos:∀ k,k<l.length→(os k).length≤1000000000) (h:K (st (outN os l.length)) [] sysH) :
   Does Tryz.prog 10 [st t] sysH K:=by
 refine DoesX.does ?_
 refine DoesX.keepB 5 [] rfl ?_
 refine doesG (cuts:=splitB) (xs:=[_,_,_,_]) Tryz.func10 rfl (by decide) splits ⟨_,Tryz.func101,by decide,rfl⟩ ?_
 refine brc_intro (fun hh=>?_) (fun _=>?_)
 · have hh:(t.length:Int) > 20000:=of_decide_eq_true hh
   omega
 change DoesX Tryz.prog 27 _ _ _ _
 refine DoesX.alone 5 (DoesX.of (coreNewNil fun v hv hw0=>?_))
 change DoesX Tryz.prog 26 _ _ _ _
 refine DoesX.on 14 [5,6,7,8,9,10,11,12,13] _ _ (mustCore (m:=mz0 [] []) (v:=v) ?_)
 intro bk
 change DoesX Tryz.prog 19 _ _ _ _
 refine DoesX.alone 17 (DoesX.of (trimSuffix (by omega) (by decide) ?_))
 change DoesX Tryz.prog 28 _ _ _ _
 refine DoesX.alone 17 (DoesX.of (splitSeqMk ?_))
 have htl:(trimSuf t [10]).length≤20000:=by
   unfold trimSuf
   split
   · exact Nat.le_trans (by simp) ht
   · exact ht
 have hsub:∀ x∈splitB 10 (trimSuf t [10]),x.length≤1000000000:=fun x hx=>by
   have:=split_mem_len (trimSuf t [10]) x hx
   omega
 have hlen:l.length≤20001:=by
   rw [←hl]
   have h1:=split_len 10 (trimSuf t [10])
   have h2:=count_len (c:=10) (s:=trimSuf t [10])
   omega
 have hout:∀ k,k≤l.length→(outN os k).length≤k*1000000001:=by
   intro k
   induction k with
   | zero=>intro _;simp [outN]
   | succ k ih =>
     intro hk
     have h1:=ih (by omega)
     have h2:=hos k (by omega)
     simp only [outN,List.length_append,List.length_singleton]
     omega
 refine ⟨trimSuf t [10],10,18,17,18,[(3,cv (.ptr 15 0)),(4,cv (.hptr bk))],sysH++(machS 5 (mz0 [] []) v++[.one [.ptr 5 0,.nilslc,.f (.bool false)],.one [.ptr 14 0],bldH bk []]),[5,6,7,8,9,10,11,12,13,16,17],DZ×VZ×List UInt8,
   fun k y=>y.1=ds k∧okV y.2.1∧WF y.1.m∧y.2.2=outN os k,sesH bk,(dz0,v,[]),rfl,rfl,by decide,by omega,rfl,rfl,by decide,by decide,rfl,rfl,?_,?_,
   Conv.nil2 (H:=sysH++(machS 5 (mz0 [] []) v++[.one [.ptr 5 0,.nilslc,.f (.bool false)],.one [.ptr 14 0],bldH bk []])) (cs:=[.ptr 5 0,.nilslc,.f (.bool false)]) 14 1 2 rfl rfl,⟨h0.symm,hv,hw0,rfl⟩,fun _=>rfl,?_,?_⟩
 · intro i
   by_cases h3:i=3
   · subst h3;exact .inr rfl
   · by_cases h4:i=4
     · subst h4;exact .inr rfl
     · exact .inl (by rw [lk_cons,if_neg (Ne.symm h3),lk_cons,if_neg (Ne.symm h4)];rfl)
 · intro i
   by_cases h3:i=3
   · subst h3;rfl
   · by_cases h4:i=4
     · subst h4;rfl
     · have:lk [(3,cv (.ptr 15 0)),(4,cv (.hptr bk))] i=.u:=by rw [lk_cons,if_neg (Ne.symm h3),lk_cons,if_neg (Ne.symm h4)];rfl
       rw [this]
       rfl
 · rintro k ⟨d,v1,o1⟩ x ⟨hd,hv1,hw1,ho1⟩ hx
   refine S_rX ?_
   refine S_rX ?_
   change d=ds k at hd
   change WF d.m at hw1
   change o1=outN os k at ho1
   have hxm:=List.mem_of_getElem? hx
   rw [hl] at hx
   have hkl:k<l.length:=(List.getElem?_eq_some_iff.1 hx).1
   have hline:LineX (ds k) x (ds (k+1),os k):=hstep k x hx (hsub x hxm)
   subst hd
   have hok:=hos k hkl
   have hol:=hout k (by omega)
   change DoesX Tryz.prog 30 _ _ _ _
   refine DoesX.on 18 [0,1,2,3,4,14,5,6,7,8,9,10,11,12,13,17] _ _ (DoesX.of (hline.run v1 hv1 hw1 fun v2 hv2 hw2=>?_))
   refine And.intro (Nat.le_trans (Nat.add_le_add_right hok 1) (by decide)) ?_
   change DoesX Tryz.prog 29 _ _ _ _
   refine DoesX.on 18 [16] _ _ (DoesX.of (bldWrite (k:=bk) (bs:=o1) (s:=os k++[10]) (by simp) (by rw [ho1,List.length_append];simp;omega) ?_))
   refine And.intro (by decide) (Exists.intro (ds (k+1),v2,o1++(os k++[10])) (And.intro rfl (And.intro rfl (And.intro (by simp) ?_))))
   exact ⟨rfl,hv2,hw2,by rw [ho1];rfl⟩
 · rintro ⟨d,v1,o1⟩ ⟨hd,hv1,hw1,ho1⟩ D
   rw [hl] at ho1
   change o1=outN os l.length at ho1
   change DoesX Tryz.prog 31 _ _ _ _
   refine DoesX.on 18 [16] _ _ (DoesX.of (bldString (k:=bk) (bs:=o1) ?_))
   rw [ho1]
   exact ⟨5,[0,1,2,3,4],_,_,rfl,by decide,by decide,by decide,by decide,by decide,rfl,rfl,rfl,rfl,rfl,h⟩

end

end Go.Mac
end

section
open Go Go.Proofs Go.Mac

namespace Go.Mac

def fieldsL:Option (List UInt8)→List UInt8→List (List UInt8)
 | none,[]=>[]
 | some c,[]=>[c]
 | none,b::r=>if b=32 then fieldsL none r else fieldsL (some [b]) r
 | some c,b::r=>if b=32 then c::fieldsL none r else fieldsL (some (c++[b])) r

theorem piece (s:List UInt8) (a b:Nat) (hab:a≤b) (hb:b≤s.length):((ByteArray.mk s.toArray).extract a b).data.toList=(s.drop a).take (b-a):=by
 simp [ByteArray.data_extract]

theorem fields_go {s:List UInt8} (ha:∀ b∈s,b.toNat<128):∀ (r pre:List UInt8),pre++r=s→∀ (f:Nat),r.length≤f→∀ (st:Option Nat) (acc:List (Nat×Nat)),(∀ a,st=some a→a≤pre.length) →
   (Lib.closeSpans ⟨s.toArray⟩ (Lib.spansFromP blankP ⟨s.toArray⟩ f pre.length st acc)).map (fun x=>((ByteArray.mk s.toArray).extract x.1 x.2).data.toList) =
     acc.map (fun x=>((ByteArray.mk s.toArray).extract x.1 x.2).data.toList)++fieldsL (st.map fun a=>pre.drop a) r:=by
 intro r
 induction r with
 | nil =>
   intro pre hs f _ st acc hst
   rw [List.append_nil] at hs
   subst hs
   have hsz:(ByteArray.mk pre.toArray).size=pre.length:=rfl
   rw [Lib.spansFromP_end _ _ _ _ _ _ (by rw [hsz];omega)]
   cases st with
   | none=>simp [Lib.closeSpans,fieldsL]
   | some a =>
     have:=hst a rfl
     simp only [Lib.closeSpans,Option.map_some,fieldsL,List.map_append,List.map_cons,List.map_nil,hsz]
     rw [piece _ _ _ this (Nat.le_refl _),List.take_of_length_le (by simp)]
 | cons b r ih =>
   intro pre hs f hf st acc hst
   have hsz:(ByteArray.mk s.toArray).size=s.length:=rfl
   have hlt:pre.length<s.length:=by rw [←hs];simp
   have hb:b∈s:=by rw [←hs];simp
   obtain ⟨f,rfl⟩ : ∃ f',f=f'+1:=⟨f-1,by simp at hf;omega⟩
   have hget:(ByteArray.mk s.toArray)[pre.length]'hlt=b:=by
     show s.toArray[pre.length]=b
     subst hs
     simp
   have hdec:Utf8.decode ⟨s.toArray⟩ pre.length=(b.toNat,1):=by
     rw [decode_ascii _ _ hlt (by rw [hget];exact ha b hb),hget]
   have hbl:blankP b.toNat=decide (b=32):=by
     unfold blankP
     refine decide_eq_decide.2 ⟨fun h=>UInt8.toNat_inj.1 h,fun h=>by rw [h];rfl⟩
   have ih2:=ih (pre++[b]) (by rw [List.append_assoc];exact hs) f (by simp at hf;omega)
   rw [List.length_append,List.length_singleton] at ih2
   simp only [Lib.spansFromP]
   rw [if_pos (by rw [hsz];exact hlt)]
   simp only [hdec,hbl,decide_eq_true_eq]
   by_cases h32:b=32
   · rw [if_pos h32]
     cases st with
     | none =>
       simp only [Option.map_none,fieldsL]
       rw [if_pos h32]
       exact ih2 none acc (fun a h=>by cases h)
     | some a =>
       have haa:=hst a rfl
       simp only [Option.map_some,fieldsL]
       rw [if_pos h32,ih2 none _ (fun a h=>by cases h)]
       simp only [List.map_append,List.map_cons,List.map_nil,Option.map_none,List.append_assoc,List.singleton_append]
       rw [piece _ _ _ haa (by omega)]
       congr 2
       rw [←hs,List.drop_append_of_le_length haa,List.take_append_of_le_length (by simp),List.take_of_length_le (by simp)]
   · rw [if_neg h32]
     cases st with
     | none =>
       simp only [Option.map_none,fieldsL]
       rw [if_neg h32,ih2 (some pre.length) acc (fun a h=>by cases h;omega)]
       simp
     | some a =>
       have haa:=hst a rfl
       simp only [Option.map_some,fieldsL]
       rw [if_neg h32,ih2 (some a) acc (fun a' h=>by cases h;omega)]
       simp only [Option.map_some]
       rw [List.drop_append_of_le_length haa]

theorem words_ascii {s:List UInt8} (ha:∀ b∈s,b.toNat<128):wordsF s=fieldsL none s:=by
 have h:=fields_go ha s [] rfl s.length (Nat.le_refl _) none [] (fun a h=>by cases h)
 rw [wordsF,Lib.goFieldsP,Lib.spansOfP,List.map_map]
 exact h

theorem fieldsL_word:∀ (w r c:List UInt8),32∉w→fieldsL (some c) (w++32::r)=(c++w)::fieldsL none r
 | [],r,c,_=>by simp [fieldsL]
 | b::w,r,c,h=>by
   have hb:b≠32:=fun e=>h (by simp [e])
   rw [List.cons_append,fieldsL,if_neg hb,fieldsL_word w r (c++[b]) fun hm=>h (by simp [hm])]
   simp

theorem fieldsL_last:∀ (w c:List UInt8),32∉w→fieldsL (some c) w=[c++w]
 | [],c,_=>by simp [fieldsL]
 | b::w,c,h=>by
   have hb:b≠32:=fun e=>h (by simp [e])
   rw [fieldsL,if_neg hb,fieldsL_last w (c++[b]) fun hm=>h (by simp [hm])]
   simp

theorem fieldsL_join:∀ (ps:List (List UInt8)),(∀ p∈ps,p≠[]∧32∉p)→fieldsL none (joinB 32 ps)=ps
 | [],_=>rfl
 | [p],h=>by
   obtain ⟨h1,h2⟩:=h p (by simp)
   obtain ⟨b,w,rfl⟩:=List.exists_cons_of_ne_nil h1
   have hb:b≠32:=fun e=>h2 (by simp [e])
   rw [joinB,fieldsL,if_neg hb,fieldsL_last w [b] fun hm=>h2 (by simp [hm])]
   simp
 | p::q::ps,h=>by
   obtain ⟨h1,h2⟩:=h p (by simp)
   obtain ⟨b,w,rfl⟩:=List.exists_cons_of_ne_nil h1
   have hb:b≠32:=fun e=>h2 (by simp [e])
   rw [joinB,List.cons_append,fieldsL,if_neg hb,fieldsL_word w _ [b] fun hm=>h2 (by simp [hm]),fieldsL_join (q::ps) fun x hx=>h x (List.mem_cons_of_mem _ hx)]
   simp

theorem words_join {ps:List (List UInt8)} (h:∀ p∈ps,p≠[]∧32∉p) (ha:∀ b∈joinB 32 ps,b.toNat<128):wordsF (joinB 32 ps)=ps:=by
 rw [words_ascii ha,fieldsL_join ps h]

end Go.Mac
end

section
open Go Go.Proofs Go.Mac
set_option maxRecDepth 100000

namespace Go.Mac

def nameZ:List (List UInt8):=[[104,97,108,116],[108,101,116],[99,111,112,121],[112,108,117,115],[115,117,109],[102,105,101,108,100],[108,111,97,100],[115,116,111,114,101],[102,101,116,99,104],[115,119,97,112],[106,117,109,112],[115,97,109,101],[108,101,115,115],[101,113,117,97,108],[119,97,105,116],[119,97,107,101],[115,97,121]]

section

variable {K:AV→List Nat→List PO→Prop}

end

structure LineZ (s:List UInt8) (n:Nat) (ps rs:List (List UInt8)) (op:Nat) (xs:List Int) (ts:List Nat):Prop where
 parts:PartsS 32 n ps rs
 cnt:Lib.countByte s 32=n
 n20:n≤20
 sl:n≤s.length∧s.length≤1000
 r0:rs[0]? = some s
 op17:op<17
 nm:ps[0]? = some (nameZ.getD op [])
 no:∀ o,o<op→nameZ.getD o []≠nameZ.getD op []
 xl:xs.length=4
 a0:ts.getD 0 0=1
 a4:ts.getD 4 0=n+1
 arg:∀ i,i<4→fo op i=0∧xs.getD i 0=0∧ts.getD (i+1) 0=ts.getD i 0∨fo op i≠0∧ts.getD i 0<n+1∧ts.getD (i+1) 0=ts.getD i 0+1∧∃ t,ps[ts.getD i 0]? = some t∧t.length≤18∧Lib.atoi t=some (xs.getD i 0)∧Lib.itoa (xs.getD i 0)=t∧-9223372036854775808≤xs.getD i 0∧xs.getD i 0≤9223372036854775807

def insL (op:Nat) (xs:List Int):InsZ:=⟨op,xs.getD 0 0,xs.getD 1 0,xs.getD 2 0,xs.getD 3 0⟩

section

variable {K:AV→List Nat→List PO→Prop}

end

end Go.Mac
end

section
open Go Go.Proofs Go.Mac
set_option maxRecDepth 100000

namespace Go.Mac

def In64 (n:Int):Prop:=-9223372036854775808≤n∧n≤9223372036854775807

structure InsOk (x:InsZ):Prop where
 op:0≤x.op∧x.op<17
 a:In64 x.a
 b:In64 x.b
 c:In64 x.c
 d:In64 x.d

theorem op17 {op:Int} (h:0≤op∧op<17):op=0∨op=1∨op=2∨op=3∨op=4∨op=5∨op=6∨op=7∨op=8∨op=9∨op=10∨op=11∨op=12∨op=13∨op=14∨op=15∨op=16:=by omega

end Go.Mac
end

section
open Go Go.Proofs Go.Mac
set_option maxRecDepth 100000

namespace Go.Mac

def okE (w:Int) (e:EvZ):Bool:=decide (w<e.w) && decide (1≤e.a) && decide (e.a≤3) && decide (0≤e.t) && decide (e.t<16)

def rightE:Int→List EvZ→Bool
 | _,[]=>true
 | w,e::es=>okE w e && rightE e.w es

structure Ev64 (e:EvZ):Prop where
 w:In64 e.w
 a:In64 e.a
 t:In64 e.t
 v:In64 e.v

end Go.Mac
end

section
open Go Go.Proofs Go.Mac
set_option maxRecDepth 100000

namespace Go.Mac

section

variable {K:AV→List Nat→List PO→Prop}

end

end Go.Mac
end

section
open Go Go.Proofs Go.Mac
set_option maxRecDepth 100000

namespace Go.Mac

section

variable {K:AV→List Nat→List PO→Prop}

end

end Go.Mac
end

section
open Go Go.Proofs Go.Mac
set_option maxRecDepth 100000

namespace Go.Mac

section

variable {K:AV→List Nat→List PO→Prop}

end

end Go.Mac
end

section
open Go Go.Proofs Go.Mac
set_option maxRecDepth 100000

namespace Go.Mac

section

variable {K:AV→List Nat→List PO→Prop}

end

end Go.Mac
end

section
namespace Go.Mac
open Go Go.ChangeShapes Go.WideShapes Go.ChangeAt Go.RowKit

theorem Bel.toBelow {w w':World} (h:Bel (· < w.heap.size) w w'):Below w.heap.size w w':=⟨h.os,h.tape,h.output,h.size,h.block⟩

theorem Rel.begin {w:World} {L:Nat→Loc} {H:List PO} (h:∀ (i:Nat) (o:PO),H[i]? = some o→OR H.length L w o (L i)∧(∀ b,¬Own o (L i) b)∧∀ b,Ro o (L i) b→b<w.heap.size) :
   Rel (· < w.heap.size) (· < w.heap.size) w L H w :=
 ⟨Bel.refl _ _,fun _ hk=>hk,fun i o hi=>(h i o hi).1,fun i o b hi hb=>absurd hb ((h i o hi).2.1 b),fun i o b hi hb=>(h i o hi).2.2 b hb,fun _ hb=>hb⟩

section

variable {H:Type} {enc:TypeId×Value→H} {P:Program}

theorem trodAll_below (hl:laidOutB P=true) {W W':World} (hb:Below W.heap.size W W') {sp:Nat→Bool}:∀ {ts:List TypeId} {vs:List Value} {ds:List (DataW H)} {ps:List MemPlace},
   (∀ t∈ts,P.readableRec t=true∧t<P.types.size)→DataW.TrodAll enc P W 0 (fun _=>true) true ts vs ds ps→(∀ x∈ps,x.block<W.heap.size)→(∀ x∈ps,sp x.block=true)→DataW.TrodAll enc P W' 0 sp true ts vs ds ps
 | [],vs,ds,ps,_,h,_,_=>by
   obtain ⟨rfl,rfl,rfl⟩:=trodAll_nil h
   exact trodAll_mk0
 | t::ts,vs,ds,ps,hr,h,hlt,hsp=>by
   obtain ⟨v,vs',d,ds',p,q,rfl,rfl,rfl,h0,h1⟩:=trodAll_cons h
   obtain ⟨h2,h3⟩:=hr t (by simp)
   exact trodAll_cons_mk (WideElems.Trod_stays hl h2 h3 h0 (fun x hx=>hb.same (hlt x (by simp [hx]))) fun x hx=>hsp x (by simp [hx]))
     (trodAll_below hl hb (fun t ht=>hr t (by simp [ht])) h1 (fun x hx=>hlt x (by simp [hx])) fun x hx=>hsp x (by simp [hx]))

theorem post_true {f:Func} {s:ChangeSpec} {apart fresh handsOn again:Bool} {W W':World} {args:Array Value} {ds gs:List (DataW H)} {before:List MemPlace} {b:TypeId}
   (hl:laidOutB P=true) (hr0:(f.params.toList.all fun t=>P.readableRec t && Nat.blt t P.types.size)=true) (hres:f.resultTypes = #[b]) (hbool:P.underlying b=some .bool) (hvars:s.vars=[])
   (hW:DataW.Whole enc P f.params.toList s.vars apart W args.toList ds gs before) (hs:s.fn H (ds++gs) = { results:=[.lit (.bool true)],args:=ds }) (hb:Below W.heap.size W W') :
   s.post enc P f apart fresh handsOn again W args (.bool true) W':=by
 have hr:∀ t∈f.params.toList,P.readableRec t=true∧t<P.types.size:=fun t ht=>by
   have:=List.all_eq_true.1 hr0 t ht
   simpa [Nat.blt_eq] using this
 have hW0:=hW
 obtain ⟨p,q,hA,hV,hbef,hfz,hnd⟩:=hW
 rw [hvars] at hV
 obtain ⟨rfl,rfl⟩:=trodVars_none hV
 rw [List.append_nil] at hbef
 subst hbef
 have hlt:∀ x∈before,x.block<W.heap.size:=fun x hx=>hW0.lt x hx
 have hold:∀ x∈before,(fun b=>decide (b<W.heap.size)) x.block=true:=fun x hx=>by simpa using hlt x hx
 have hargs:∀ sp:Nat→Bool,(∀ x∈before,sp x.block=true)→DataW.TrodAll enc P W' 0 sp true f.params.toList args.toList (s.fn H (ds++[])).args before:=fun sp hsp=>by
   rw [hs];exact trodAll_below hl hb hr hA hlt hsp
 have hresm:∀ (b:Nat) (sp:Nat→Bool) (hd:Bool),DataW.TrodAll enc P W' b sp hd f.resultTypes.toList ((Value.bool true).resultList f.resultTypes.size) (s.fn H (ds++[])).results []:=fun b sp hd=>by
   rw [hs,hres];exact trodAll_mk1 (shut_bool hbool _)
 have hv0:∀ sp:Nat→Bool,DataW.TrodVars enc P W' sp s.vars (s.fn H (ds++[])).vars []:=fun sp=>by rw [hs,hvars];rfl
 refine ⟨ds,[],before,[],before,[],hW0,hresm _ _ _,hargs _ hold,hv0 _,World.keptBut_mono (fun p hp=>⟨hp,.inr (by simpa using hp)⟩) (hb.frame (·∈before)),fun _=>?_⟩
 refine ⟨?_,_,_,([]++before)++[],⟨[]++before,[],trodAll_append (hargs _ (fun _ _=>rfl)) (hresm _ _ _),hv0 _,rfl,?_,?_⟩,?_⟩
 · exact ok_one hres rfl (okWide_bool_mk hbool _)
 · intro b off hp
   have hin:MemPlace.cell b off∈before:=by simpa using hp
   rw [hb.frozen (hlt _ hin)]
   exact hfz b off hin
 · intro ha
   have:=hnd ha
   simpa using this
 · intro p hp _
   simpa using hp

end

section

variable {H:Type} {enc:TypeId×Value→H} {P:Program} {w:World} {base:Nat} {spare:Nat→Bool} {held:Bool}

end

end Go.Mac
end

section
open Go Go.Proofs Go.Mac
set_option maxRecDepth 100000

namespace Go.Mac

section

variable {P:Program} {nt:Nat} {all:List Oper} {E S:List Nat} {T:Tm} {M:List Nat} {H:List PO} {K:KT}

end

end Go.Mac
end

section
open Go Go.Proofs Go.Mac
set_option maxRecDepth 100000

namespace Go.Mac

attribute [local irreducible] drawnR

section

variable {K:AV→List Nat→List PO→Prop}

end

end Go.Mac
end

section
open Go Go.Proofs Go.Mac
set_option maxRecDepth 100000

namespace Go.Mac

structure TextZ (s:List UInt8) (rs:List (List UInt8)) (xs:List InsZ) (m:Nat):Prop where
 r0:rs[0]? = some s
 xl:xs.length=m
 m100:m≤100
 step:∀ k,k<m→∃ r l r' x,rs[k]? = some r∧r≠[]∧rs[k+1]? = some r'∧Lib.indexByte r 10=l.length∧l.length+1≤r.length∧r.length≤1000∧r.take l.length=l∧r.drop (l.length+1)=r'∧xs[k]? = some x ∧
   ∃ n ps rs2 op ys ts,LineZ l n ps rs2 op ys ts∧x=insL op ys
 last:rs[m]? = some []

section

variable {K:AV→List Nat→List PO→Prop}

end

end Go.Mac
end

section
open Go Go.Proofs Go.Mac
set_option maxRecDepth 100000

namespace Go.Mac

section

variable {K:AV→List Nat→List PO→Prop}

end

end Go.Mac
end

section
open Go Go.Proofs Go.Mac
set_option maxRecDepth 100000

namespace Go.Mac

section

variable {K:AV→List Nat→List PO→Prop}

end

end Go.Mac
end

section
open Go Go.Proofs Go.Mac
set_option maxRecDepth 100000

namespace Go.Mac

section

variable {K:AV→List Nat→List PO→Prop}

end

end Go.Mac
end

section
open Go Go.Proofs Go.Mac
set_option maxRecDepth 100000

namespace Go.Mac

section

variable {K:AV→List Nat→List PO→Prop} {m:MZ} {v:VZ}

end

end Go.Mac
end

section
open Go Go.Proofs Go.Mac
set_option maxRecDepth 100000

namespace Go.Mac

section

variable {k n R nc:Nat} {A:Nat→AT} {V:Nat→Nat} {m:MZ}

end

section

variable {K:AV→List Nat→List PO→Prop}

theorem ball (k n R:Int) (h:K (.tup [.c (.f (.int .i64 (1+pickZ k 6))),.c (.f (.int .i64 (1+pickZ n 16))),.c (.f (.int .i64 (pickZ R 7)))]) [] []):Does Tryz.prog 16 [i64 k,i64 n,i64 R] [] K:=by
 have h1:=pickZ_lt k (n:=6) (by decide)
 have h2:=pickZ_lt n (n:=16) (by decide)
 rw [←wrap_i64 (1+pickZ k 6) (by omega) (by omega),←wrap_i64 (1+pickZ n 16) (by omega) (by omega)] at h
 refine does Tryz.func16 rfl (by decide) ?_
 change Does Tryz.prog 37 _ _ _
 refine Does.alone 0 ?_
 refine does Tryz.func37 rfl (by decide) ?_
 change Does Tryz.prog 14 _ _ _
 refine Does.alone 0 (pick k 6 (by decide) ?_)
 change Does Tryz.prog 14 _ _ _
 refine Does.alone 0 (pick n 16 (by decide) ?_)
 change Does Tryz.prog 14 _ _ _
 refine Does.alone 0 (pick R 7 (by decide) ?_)
 exact h

end

theorem pick16b (n:Int):∃ m:Nat,1+pickZ n 16=(m:Int)∧1≤m∧m≤16:=by
 have:=pickZ_lt n (n:=16) (by decide)
 exact ⟨(1+pickZ n 16).toNat,by omega,by omega,by omega⟩

theorem pick7 (n:Int):∃ m:Nat,pickZ n 7=(m:Int)∧m≤6:=by
 have:=pickZ_lt n (n:=7) (by decide)
 exact ⟨(pickZ n 7).toNat,by omega,by omega⟩

end Go.Mac
end

section
open Go Go.Proofs Go.Mac
set_option maxRecDepth 100000

namespace Go.Mac

structure EvG (m:MZ):Prop where
 ps:∀ p∈m.ps,∀ i∈p,i.op=16→1≤i.a∧i.a≤3
 rt:rightE 0 m.el=true
 le:∀ e∈m.el,e.w≤m.k
 v:∀ e∈m.el,In64 e.v

end Go.Mac
end

section
open Go Go.Proofs Go.Mac
set_option maxRecDepth 100000

namespace Go.Mac

theorem kind_w0 {k n R:Nat} (hk:1≤k∧k≤6) (hn:1≤n∧n≤16) (hR:R≤6):WF (danceM k n R):=by
 obtain ⟨_,_,hlen,hnc,hright,_,_⟩:=kindAll hk hn (show R≤20 by omega)
 exact mz0_wf (by omega) (by rw [List.length_replicate];exact hnc) (by rw [List.length_replicate];exact hright) fun x hx=>by rw [(List.mem_replicate.1 hx).2];omega

end Go.Mac
end
