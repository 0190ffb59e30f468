/- Texts that belong together; the first of them:  -/
import Derived.Test.YtollgfhpcidkgaaGreatDoorA23
import Derived.Test.YtollgfhpcidkgaaGreatDoorA25
import Derived.Test.YtollgfhpcidkgaaGreatDoorA24
import Derived.Test.YtollgfhpcidkgaaGreatDoorA22
import Derived.Test.YtollgfhpcidkgaaGreatDoorA15

section
open Go Go.Proofs Go.Mac
set_option maxRecDepth 100000
namespace Go.Mac
section
attribute [local irreducible] drawnR

def endsN (calls:List (List CallZ)):List EvZ→List EvZ→Nat
 | _,[]=>0
 | pre,e::el=>if e.a=3∧0≤e.t∧e.t<calls.length∧(endT e.t.toNat pre).length≠((calls.getD e.t.toNat []).length) then endsN calls (pre++[e]) el+1 else 0

section

variable {K:KP}

set_option maxHeartbeats 8000000 in
theorem linPointsN {calls:List (List CallZ)} {acts:List ActZ} {el:List EvZ} {n na ne:Nat} {ro1 ro2 ro3 nn1 nn2 nn3:Bool} (hn:calls.length=n) (hn16:n≤16) (hna:acts.length=na) (hnab:na≤100000) (hne:el.length=ne) (hneb:ne≤40000) (hc:∀ l∈calls,l.length≤9223372036854775807)
  (h0:∀ i:Nat,endsN calls [] el=i→i<ne→K (.tup [.c .nilslc,.c (.iface 108 (.ptr 3 0))]) [] [.rows2 ro1 2 (calls.map fun l=>l.map rowCallZ),.rows ro2 6 (acts.map rowAct),.rows ro3 4 (el.map rowEv),.one [.f (.int .i64 13),.f (.int .i64 i)]])
  (h1:endsN calls [] el=ne→∀ pts,St (allPts calls acts el) pts→K (.tup [.c (.slc 3 0 pts.length none false),.c .niliface]) [] [.rows2 ro1 2 (calls.map fun l=>l.map rowCallZ),.rows ro2 6 (acts.map rowAct),.rows ro3 4 (el.map rowEv),.rows false 4 (pts.map rowPt)]) :
  Does Tryz.prog 133 [cv (.slc 0 0 n none nn1),cv (.slc 1 0 na none nn2),cv (.slc 2 0 ne none nn3)] [.rows2 ro1 2 (calls.map fun l=>l.map rowCallZ),.rows ro2 6 (acts.map rowAct),.rows ro3 4 (el.map rowEv)] K:=by
 refine Does.keep 3 rfl ?_
 refine does Tryz.func133 rfl (by decide) ?_
 refine bZ (fun h=>?_) (fun _=>?_)
 · exfalso
   have h:=oTr h
   have h:(n:Int) > 16:=h
   omega
 refine And.intro (by omega) (And.intro (Int.le_refl _) (And.intro ?_ (And.intro (by omega) ?_)))
 · show (24:Int)*(n:Int)≤_
   omega
 refine SS.loop (fun p:Nat×(Nat→ILoc)=>p.1≤ne∧endsN calls [] el=p.1+endsN calls (el.take p.1) (el.drop p.1)) (fun p=>[(0,cv (.slc 0 0 n none nn1)),(1,cv (.slc 1 0 na none nn2)),(8,cv (.slc 3 0 n none true)),(26,cv (.slc 2 0 ne none nn3)),(27,i64 ne),(28,i64 p.1)])
  (fun p=>[.rows2 ro1 2 (calls.map fun l=>l.map rowCallZ),.rows ro2 6 (acts.map rowAct),.rows ro3 4 (el.map rowEv),.rows3 true 1 (endE n p.2 (el.take p.1))]) (fun p=>ne-p.1) [6]
  (At.mk' [0,1,8,26,27,28] (0,fun _=>⟨0,0,0,1⟩) ⟨Nat.zero_le _,by simp⟩ ⟨rfl,rfl⟩ ?_ rfl (by simp) (by simp) (by simp)) ?_
 · rw [List.take_zero,←endE_nil]
   rfl
 rintro ⟨i,lc⟩ ⟨hi,hrun⟩
 dsimp only at hi hrun
 refine S_r ?_
 refine bZ (fun hlt=>?_) (fun hlt=>?_)
 · have hlt:i<ne:=by
    have:=oTr hlt
    have:(i:Int)<(ne:Int):=this
    omega
   obtain ⟨e,he⟩ : ∃ e,el[i]? = some e:=⟨_,List.getElem?_eq_getElem (by omega)⟩
   have htk:el.take (i+1)=el.take i++[e]:=by rw [List.take_add_one,he];rfl
   have hdr:el.drop i=e::el.drop (i+1):=by
    rw [List.drop_eq_getElem_cons (by omega)]
    congr 1
    exact (List.getElem?_eq_some_iff.1 he).2
   have hup:IntKind.i64.wrap ((i:Int)+1)=((i+1:Nat):Int):=wrap_i64 _ (by omega) (by omega)
   rw [hdr,endsN] at hrun
   refine SS.inlR ?_
   refine at2 (a:=(0:Int)≤(i:Int)) (b:=(i:Int)<(ne:Int)) (by omega) (by omega) (rdA (rowEv e) (by simp [he]) ?_)
   refine SS.drawR follows (by decide) ?_
   by_cases hA:¬e.a=3
   · have dA:(e.a != 3)=true:=by simpa using hA
     repeat' (first | refine draw_known (v:=bl true) rfl (fun _=>rfl) (fun K'=>congrArg (fun z=>K' (bl z) [] _) dA) (fun _=>rfl) ?_ | refine draw_known rfl (fun _=>rfl) (fun _=>rfl) (fun _=>rfl) ?_ | refine draw_skip rfl (fun _=>rfl) (fun _=>rfl) ?_ | refine draw_end rfl rfl rfl ?_ | fail)
     exact ⟨6,[0,1,2,5],_,_,rfl,rfl,by decide,by decide,rfl,rfl,rfl,rfl,rfl,h0 i (hrun.trans (by rw [if_neg fun h=>hA h.1];rfl)) hlt⟩
   have hA:e.a=3:=Classical.not_not.1 hA
   have dA:(e.a != 3)=false:=by simpa using hA
   by_cases hB:e.t<0
   · have dB:decide (e.t<0)=true:=decide_eq_true hB
     repeat' (first | refine draw_known (v:=bl false) rfl (fun _=>rfl) (fun K'=>congrArg (fun z=>K' (bl z) [] _) dA) (fun _=>rfl) ?_ | refine draw_known (v:=bl true) rfl (fun _=>rfl) (fun K'=>congrArg (fun z=>K' (bl z) [] _) dB) (fun _=>rfl) ?_ | refine draw_known rfl (fun _=>rfl) (fun _=>rfl) (fun _=>rfl) ?_ | refine draw_skip rfl (fun _=>rfl) (fun _=>rfl) ?_ | refine draw_end rfl rfl rfl ?_ | fail)
     exact ⟨6,[0,1,2,5],_,_,rfl,rfl,by decide,by decide,rfl,rfl,rfl,rfl,rfl,h0 i (hrun.trans (by rw [if_neg fun h=>absurd h.2.1 (by omega)];rfl)) hlt⟩
   have dB:decide (e.t<0)=false:=decide_eq_false hB
   by_cases hC:e.t≥(n:Int)
   · have dC:decide (e.t≥(n:Int))=true:=decide_eq_true hC
     repeat' (first | refine draw_known (v:=bl false) rfl (fun _=>rfl) (fun K'=>congrArg (fun z=>K' (bl z) [] _) dA) (fun _=>rfl) ?_ | refine draw_known (v:=bl false) rfl (fun _=>rfl) (fun K'=>congrArg (fun z=>K' (bl z) [] _) dB) (fun _=>rfl) ?_ | refine draw_known (v:=bl true) rfl (fun _=>rfl) (fun K'=>congrArg (fun z=>K' (bl z) [] _) dC) (fun _=>rfl) ?_ | refine draw_known rfl (fun _=>rfl) (fun _=>rfl) (fun _=>rfl) ?_ | refine draw_skip rfl (fun _=>rfl) (fun _=>rfl) ?_ | refine draw_end rfl rfl rfl ?_ | fail)
     exact ⟨6,[0,1,2,5],_,_,rfl,rfl,by decide,by decide,rfl,rfl,rfl,rfl,rfl,h0 i (hrun.trans (by rw [if_neg fun h=>absurd h.2.2.1 (by rw [hn];omega)];rfl)) hlt⟩
   have dC:decide (e.t≥(n:Int))=false:=decide_eq_false hC
   obtain ⟨t,ht⟩ : ∃ t:Nat,e.t=t:=⟨e.t.toNat,by omega⟩
   obtain ⟨lt,hlt'⟩ : ∃ lt,calls[t]? = some lt:=⟨_,List.getElem?_eq_getElem (by omega)⟩
   have hix:(0:Int)≤e.t∧e.t<(n:Int):=by omega
   have hg:(endE n lc (el.take i))[0+Int.toNat e.t]? = some (some (lc t,(endT t (el.take i)).map rowZ)):=by rw [ht,Int.toNat_natCast,Nat.zero_add];exact endE_get _ _ (by omega)
   have hcm:(calls.map fun l=>l.map rowCallZ)[0+Int.toNat e.t]? = some (lt.map rowCallZ):=by rw [ht,Int.toNat_natCast,Nat.zero_add,List.getElem?_map,hlt'];rfl
   have hgd:calls.getD e.t.toNat []=lt:=by rw [ht,Int.toNat_natCast,List.getD_eq_getElem?_getD,hlt'];rfl
   have htn:e.t.toNat=t:=by omega
   have hl1:((endT t (el.take i)).map rowZ).length=(endT t (el.take i)).length:=List.length_map ..
   have hl2:(lt.map rowCallZ).length=lt.length:=List.length_map ..
   by_cases hD:(endT t (el.take i)).length=lt.length
   · have dD:((((endT t (el.take i)).map rowZ).length:Int) == ((lt.map rowCallZ).length:Int))=true:=by rw [hl1,hl2,hD];simp
     repeat' (first | refine draw_known (v:=bl false) rfl (fun _=>rfl) (fun K'=>congrArg (fun z=>K' (bl z) [] _) dA) (fun _=>rfl) ?_ | refine draw_known (v:=bl false) rfl (fun _=>rfl) (fun K'=>congrArg (fun z=>K' (bl z) [] _) dB) (fun _=>rfl) ?_ | refine draw_known (v:=bl false) rfl (fun _=>rfl) (fun K'=>congrArg (fun z=>K' (bl z) [] _) dC) (fun _=>rfl) ?_ | refine draw_known (v:=bl true) rfl (fun _=>rfl) (fun K'=>congrArg (fun z=>K' (bl z) [] _) dD) (fun _=>rfl) ?_ | refine draw_cond (v:=cv (.rptr 3 (0+Int.toNat e.t) 0)) (C:=(0:Int)≤e.t∧e.t<(n:Int)) rfl (fun _=>rfl) (by intro _ c k;exact ⟨c.1,c.2,k⟩) (by intro _;rfl) hix ?_ | refine draw_cond (v:=cv (.rptr 0 (0+Int.toNat e.t) 0)) (C:=(0:Int)≤e.t∧e.t<(n:Int)) rfl (fun _=>rfl) (by intro _ c k;exact ⟨c.1,c.2,k⟩) (by intro _;rfl) hix ?_ | refine draw_cond (v:=cv (.hslc 3 (0+Int.toNat e.t) (lc t) ((endT t (el.take i)).map rowZ).length)) (C:=(endE n lc (el.take i))[0+Int.toNat e.t]? = some (some (lc t,(endT t (el.take i)).map rowZ))) rfl (fun _=>rfl) (by intro _ c k;exact ⟨_,_,c,k⟩) (by intro _;rfl) hg ?_ | refine draw_cond (v:=cv (.islc 0 (0+Int.toNat e.t) 0 (lt.map rowCallZ).length none false)) (C:=(calls.map fun l=>l.map rowCallZ)[0+Int.toNat e.t]? = some (lt.map rowCallZ)) rfl (fun _=>rfl) (by intro _ c k;exact ⟨lt.map rowCallZ,c,k⟩) (by intro _;rfl) hcm ?_ | refine draw_known rfl (fun _=>rfl) (fun _=>rfl) (fun _=>rfl) ?_ | refine draw_skip rfl (fun _=>rfl) (fun _=>rfl) ?_ | refine draw_end rfl rfl rfl ?_ | fail)
     exact ⟨6,[0,1,2,5],_,_,rfl,rfl,by decide,by decide,rfl,rfl,rfl,rfl,rfl,h0 i (hrun.trans (by rw [if_neg fun h=>h.2.2.2 (by rw [hgd,htn];exact hD)];rfl)) hlt⟩
   have dD:((((endT t (el.take i)).map rowZ).length:Int) == ((lt.map rowCallZ).length:Int))=false:=by
    rw [hl1,hl2,beq_eq_false_iff_ne]
    omega
   have hok:endsN calls [] el=(i+1)+endsN calls (el.take (i+1)) (el.drop (i+1)):=by
    rw [hrun,htk,if_pos (show e.a=3∧0≤e.t∧e.t<calls.length∧(endT e.t.toNat (el.take i)).length≠(calls.getD e.t.toNat []).length from ⟨hA,hix.1,by rw [hn];exact hix.2,by rw [hgd,htn];exact hD⟩)]
    omega
   repeat' (first | refine draw_known (v:=bl false) rfl (fun _=>rfl) (fun K'=>congrArg (fun z=>K' (bl z) [] _) dA) (fun _=>rfl) ?_ | refine draw_known (v:=bl false) rfl (fun _=>rfl) (fun K'=>congrArg (fun z=>K' (bl z) [] _) dB) (fun _=>rfl) ?_ | refine draw_known (v:=bl false) rfl (fun _=>rfl) (fun K'=>congrArg (fun z=>K' (bl z) [] _) dC) (fun _=>rfl) ?_ | refine draw_known (v:=bl false) rfl (fun _=>rfl) (fun K'=>congrArg (fun z=>K' (bl z) [] _) dD) (fun _=>rfl) ?_ | refine draw_cond (v:=cv (.rptr 3 (0+Int.toNat e.t) 0)) (C:=(0:Int)≤e.t∧e.t<(n:Int)) rfl (fun _=>rfl) (by intro _ c k;exact ⟨c.1,c.2,k⟩) (by intro _;rfl) hix ?_ | refine draw_cond (v:=cv (.rptr 0 (0+Int.toNat e.t) 0)) (C:=(0:Int)≤e.t∧e.t<(n:Int)) rfl (fun _=>rfl) (by intro _ c k;exact ⟨c.1,c.2,k⟩) (by intro _;rfl) hix ?_ | refine draw_cond (v:=cv (.hslc 3 (0+Int.toNat e.t) (lc t) ((endT t (el.take i)).map rowZ).length)) (C:=(endE n lc (el.take i))[0+Int.toNat e.t]? = some (some (lc t,(endT t (el.take i)).map rowZ))) rfl (fun _=>rfl) (by intro _ c k;exact ⟨_,_,c,k⟩) (by intro _;rfl) hg ?_ | refine draw_cond (v:=cv (.islc 0 (0+Int.toNat e.t) 0 (lt.map rowCallZ).length none false)) (C:=(calls.map fun l=>l.map rowCallZ)[0+Int.toNat e.t]? = some (lt.map rowCallZ)) rfl (fun _=>rfl) (by intro _ c k;exact ⟨lt.map rowCallZ,c,k⟩) (by intro _;rfl) hcm ?_ | refine draw_known rfl (fun _=>rfl) (fun _=>rfl) (fun _=>rfl) ?_ | refine draw_skip rfl (fun _=>rfl) (fun _=>rfl) ?_ | refine draw_end rfl rfl rfl ?_ | fail)
   have hal:=endT_len t (el.take i)
   rw [List.length_take] at hal
   refine SS.drawR follows (by decide) ?_
   repeat' (first | refine draw_cond (v:=cv (.rptr 3 (0+Int.toNat e.t) 0)) (C:=(0:Int)≤e.t∧e.t<(n:Int)) rfl (fun _=>rfl) (by intro _ c k;exact ⟨c.1,c.2,k⟩) (by intro _;rfl) hix ?_ | refine draw_cond (v:=cv (.hslc 3 (0+Int.toNat e.t) (lc t) ((endT t (el.take i)).map rowZ).length)) (C:=(endE n lc (el.take i))[0+Int.toNat e.t]? = some (some (lc t,(endT t (el.take i)).map rowZ))) rfl (fun _=>rfl) (by intro _ c k;exact ⟨_,_,c,k⟩) (by intro _;rfl) hg ?_ | refine draw_known rfl (fun _=>rfl) (fun _=>rfl) (fun _=>rfl) ?_ | refine draw_skip rfl (fun _=>rfl) (fun _=>rfl) ?_ | refine draw_end rfl rfl rfl ?_ | fail)
   refine draw_eff1 rfl rfl ?_
   refine eff_known (fun _=>rfl) (fun _=>rfl) (fun _=>rfl) ?_
   repeat' (first | refine And.intro rfl ?_ | refine And.intro (And.intro hix.1 (And.intro hix.2 rfl)) ?_ | refine And.intro (Exists.intro _ (Exists.intro _ (And.intro hg rfl))) ?_ | fail)
   change drawnR _ _ _ _ _ _ _ _ _ _
   refine draw_eff1 rfl rfl ?_
   refine eff_run (fun _=>rfl) ?_
   refine Exists.intro _ (And.intro hg (And.intro rfl ?_))
   refine And.intro (by simp) (Or.inl (And.intro rfl (And.intro rfl (And.intro ?_ (And.intro ?_ ?_)))))
   · show (((endT t (el.take i)).map rowZ).length+1)*8≤_
     omega
   · show ((endT t (el.take i)).map rowZ).length+1≤_
     omega
   repeat' (first | refine And.intro rfl ?_ | refine And.intro (And.intro hix.1 (And.intro hix.2 rfl)) ?_ | fail)
   change drawnR _ _ _ _ _ _ _ _ _ _
   repeat' (first | refine draw_cond (v:=cv (.rptr 3 (0+Int.toNat e.t) 0)) (C:=(0:Int)≤e.t∧e.t<(n:Int)) rfl (fun _=>rfl) (by intro _ c k;exact ⟨c.1,c.2,k⟩) (by intro _;rfl) hix ?_ | refine draw_known rfl (fun _=>rfl) (fun _=>rfl) (fun _=>rfl) ?_ | refine draw_skip rfl (fun _=>rfl) (fun _=>rfl) ?_ | refine draw_end rfl rfl rfl ?_ | fail)
   refine draw_eff1 rfl rfl ?_
   refine eff_run (fun _=>rfl) ?_
   have hnone:((endE n lc (el.take i)).set (0+Int.toNat e.t) none)[0+Int.toNat e.t]? = some none:=List.getElem?_set_self (by rw [endE_len];omega)
   refine And.intro (by simp) (And.intro hnone fun l=>?_)
   repeat' (first | refine And.intro rfl ?_ | refine And.intro (And.intro hix.1 (And.intro hix.2 rfl)) ?_ | fail)
   change drawnR _ _ _ _ _ _ _ _ _ _
   refine draw_end rfl rfl rfl ?_
   have hmore:=endE_more (n:=n) lc (el.take i) e (show t<n by omega) ht l
   rw [←htk] at hmore
   refine At.mk' [0,1,8,26,27,28] (i+1,fun s=>if s=t then l else lc s) ⟨⟨hlt,hok⟩,by show ne-(i+1)<ne-i;omega⟩ ⟨?_,rfl⟩ ?_ rfl (by simp) (by simp) (by simp)
   · rw [hup]
     first | done | rfl
   · show _=([_,_,_,.rows3 true 1 (endE n (fun s=>if s=t then l else lc s) (el.take (i+1)))]:List PO)
     rw [←hmore,show t=0+Int.toNat e.t by omega]
     first | done | rfl
 · have hlt:¬(i:Int)<(ne:Int):=oFa hlt
   obtain rfl:i=ne:=by omega
   have hok:endsN calls [] el=i:=by rw [hrun,List.drop_eq_nil_of_le (by omega)];rfl
   rw [List.take_of_length_le (show el.length≤i by omega)]
   refine SS.shut 3 [(1,cv (.slc 1 0 na none nn2)),(8,cv (.slc 3 0 n none true)),(11,cv .nilslc),(81,cv (.slc 0 0 n none nn1)),(82,i64 n),(83,i64 (0:Nat))] ((endL n el).map fun l=>l.map rowZ) rfl (by decide) (by rw [endE_len,List.length_map,endL,List.length_map,List.length_range]) (fun s rs hs=>?_) rfl (by repeat' (first | exact trivial | refine ⟨rfl,?_,?_⟩ | exact .inl rfl | exact .inr ⟨_,_,_,rfl⟩)) ?_
   · rw [List.getElem?_map,Option.map_eq_some_iff] at hs
     obtain ⟨a,ha,rfl⟩:=hs
     rw [endL,List.getElem?_map,Option.map_eq_some_iff] at ha
     obtain ⟨q,hq,rfl⟩:=ha
     obtain ⟨hqn,rfl⟩ : s<n∧q=s:=by
      obtain ⟨h1,h2⟩:=List.getElem?_eq_some_iff.1 hq
      rw [List.getElem_range] at h2
      rw [List.length_range] at h1
      exact ⟨h1,h2.symm⟩
     exact ⟨_,endE_get _ _ hqn⟩
   refine SS.nil 11 4 (by decide) rfl ?_
   refine SS.loop (fun s:Nat×List PtZ=>s.1≤n∧s.2++ptsFrom calls acts el s.1=allPts calls acts el) (fun s=>[(1,cv (.slc 1 0 na none nn2)),(8,cv (.slc 3 0 n none true)),(11,cv (.slc 4 0 s.2.length none false)),(81,cv (.slc 0 0 n none nn1)),(82,i64 n),(83,i64 s.1)])
    (fun s=>[.rows2 ro1 2 (calls.map fun l=>l.map rowCallZ),.rows ro2 6 (acts.map rowAct),.rows ro3 4 (el.map rowEv),.rows2 false 1 ((endL n el).map fun l=>l.map rowZ),.rows false 4 (s.2.map rowPt)]) (fun s=>n-s.1) [4,6]
    (At.mk' [1,8,11,81,82,83] (0,[]) ⟨Nat.zero_le _,rfl⟩ ⟨rfl,rfl⟩ rfl rfl (by simp) (by simp) (by simp)) ?_
   rintro ⟨t,out⟩ ⟨htn,hout⟩
   dsimp only at htn hout
   refine S_r ?_
   refine bZ (fun hlt=>?_) (fun hlt=>?_)
   · have hlt:t<n:=by
      have:=oTr hlt
      have:(t:Int)<(n:Int):=this
      omega
     obtain ⟨lt,hlt'⟩ : ∃ lt,calls[t]? = some lt:=⟨_,List.getElem?_eq_getElem (by omega)⟩
     have hcm:(calls.map fun l=>l.map rowCallZ)[0+Int.toNat (t:Int)]? = some (lt.map rowCallZ):=by rw [Int.toNat_natCast,Nat.zero_add,List.getElem?_map,hlt'];rfl
     refine at2 (a:=(0:Int)≤(t:Int)) (b:=(t:Int)<(n:Int)) (by omega) (by omega) ?_
     refine Exists.intro (lt.map rowCallZ) (And.intro hcm ?_)
     have hlm:(lt.map rowCallZ).length=lt.length:=List.length_map ..
     have hltm:lt.length≤9223372036854775807:=hc lt (List.mem_of_getElem? hlt')
     have hem:((endL n el).map fun l=>l.map rowZ)[0+Int.toNat (t:Int)]? = some ((endT t el).map rowZ):=by
      rw [Int.toNat_natCast,Nat.zero_add,List.getElem?_map,endL,List.getElem?_map,List.getElem?_range hlt]
      rfl
     have hrm:((endT t el).map rowZ).length=(endT t el).length:=List.length_map ..
     have hall:=allPts_len calls acts el
     rw [ptsFrom_step acts el hlt'] at hout
     refine SS.loop (fun s:Nat×Int×List PtZ=>s.1≤lt.length∧s.1≤(endT t el).length∧s.2.2++(thrPts t acts (lt.drop s.1) s.1 s.2.1 ((endT t el).drop s.1)++ptsFrom calls acts el (t+1))=allPts calls acts el)
      (fun s=>[(1,cv (.slc 1 0 na none nn2)),(8,cv (.slc 3 0 n none true)),(11,cv (.slc 4 0 s.2.2.length none false)),(12,i64 t),(14,i64 s.2.1),(81,cv (.slc 0 0 n none nn1)),(82,i64 n),(83,i64 t),(88,cv (.islc 0 (0+Int.toNat (t:Int)) 0 (lt.map rowCallZ).length none false)),(89,i64 (lt.map rowCallZ).length),(90,i64 s.1)])
      (fun s=>[.rows2 ro1 2 (calls.map fun l=>l.map rowCallZ),.rows ro2 6 (acts.map rowAct),.rows ro3 4 (el.map rowEv),.rows2 false 1 ((endL n el).map fun l=>l.map rowZ),.rows false 4 (s.2.2.map rowPt)]) (fun s=>lt.length-s.1) [4,6]
      (At.mk' [1,8,11,12,14,81,82,83,88,89,90] (0,0,out) ⟨Nat.zero_le _,Nat.zero_le _,hout⟩ ⟨rfl,rfl⟩ rfl rfl (by simp) (by simp) (by simp)) ?_
     rintro ⟨k,frm,o⟩ ⟨hk,hkw,ho⟩
     dsimp only at hk hkw ho
     refine S_r ?_
     refine bZ (fun hlt2=>?_) (fun hlt2=>?_)
     · have hkl:k<lt.length:=by
        have:=oTr hlt2
        have:(k:Int)<((lt.map rowCallZ).length:Int):=this
        omega
       obtain ⟨c,hck⟩ : ∃ c,lt[k]? = some c:=⟨_,List.getElem?_eq_getElem hkl⟩
       have hkm:(lt.map rowCallZ)[0+Int.toNat (k:Int)]? = some (rowCallZ c):=by rw [Int.toNat_natCast,Nat.zero_add,List.getElem?_map,hck];rfl
       have hdr:lt.drop k=c::lt.drop (k+1):=by
        rw [List.drop_eq_getElem_cons hkl]
        congr 1
        exact (List.getElem?_eq_some_iff.1 hck).2
       have i0:0+Int.toNat (t:Int)<(calls.map fun l=>l.map rowCallZ).length:=by rw [List.length_map,Int.toNat_natCast];omega
       have i1:(0:Int)≤(k:Int):=by omega
       have i2:(k:Int)<((lt.map rowCallZ).length:Int):=by omega
       have j0:(0:Int)≤(t:Int):=by omega
       have j1:(t:Int)<(n:Int):=by omega
       refine SS.inlR ?_
       refine And.intro i0 (And.intro i1 (And.intro i2 (Exists.intro (lt.map rowCallZ) (Exists.intro (rowCallZ c) (And.intro hcm (And.intro hkm ?_))))))
       refine at2 j0 j1 ?_
       refine Exists.intro ((endT t el).map rowZ) (And.intro hem ?_)
       have hlb:=allPts_len calls acts el
       refine bZ (fun hd=>?_) (fun hd=>?_)
       · have hkd:k<(endT t el).length:=by
          have:=oTr hd
          have:(k:Int)<(((endT t el).map rowZ).length:Int):=this
          omega
         obtain ⟨w,hw⟩ : ∃ w,(endT t el)[k]? = some w:=⟨_,List.getElem?_eq_getElem hkd⟩
         have hwm:((endT t el).map rowZ)[0+Int.toNat (k:Int)]? = some (rowZ w):=by rw [Int.toNat_natCast,Nat.zero_add,List.getElem?_map,hw];rfl
         have hwr:(endT t el).drop k=w::(endT t el).drop (k+1):=by
          rw [List.drop_eq_getElem_cons hkd]
          congr 1
          exact (List.getElem?_eq_some_iff.1 hw).2
         rw [hdr,hwr,thrPts] at ho
         have i3:0+Int.toNat (t:Int)<((endL n el).map fun l=>l.map rowZ).length:=by rw [List.length_map,endL,List.length_map,List.length_range,Int.toNat_natCast];omega
         have i4:(k:Int)<(((endT t el).map rowZ).length:Int):=by omega
         refine at2 j0 j1 ?_
         refine Exists.intro ((endT t el).map rowZ) (And.intro hem ?_)
         refine And.intro i3 (And.intro i1 (And.intro i4 (Exists.intro ((endT t el).map rowZ) (Exists.intro (rowZ w) (Exists.intro _ (And.intro hem (And.intro hwm (And.intro rfl ?_))))))))
         change Does Tryz.prog 185 _ _ _
         refine Does.on 6 [1] _ _ (effects (t:Int) (k:Int) c.w c.n frm w _ hna (by omega) (fun he=>?_) (fun x he=>?_) (fun x y he=>?_))
         · rw [hd] at he
           rw [he] at ho
           have hol:o.length+0≤80032:=by
            have:=congrArg List.length ho
            simp only [List.length_append,List.length_nil] at this
            omega
           refine Or.inl (And.intro rfl (And.intro (by simp) (And.intro (by show (o.length+0)*32≤_;omega) (And.intro (by show o.length+0≤_;omega) ?_))))
           refine bZ (fun hz=>?_) (fun hz=>?_)
           · have hz:(!decide ((k:Int)<(((endT t el).map rowZ).length:Int)))=true:=hz
             rw [hd] at hz
             cases hz
           · refine At.mk' [1,8,11,12,14,81,82,83,88,89,90] (k+1,w,o) ⟨⟨hkl,hkd,by simpa using ho⟩,by show lt.length-(k+1)<lt.length-k;omega⟩ ⟨?_,rfl⟩ ?_ rfl (by simp) (by simp) (by decide)
             · rw [wrap_i64 ((k:Int)+1) (by omega) (by omega)]
               first | done | rfl
             · simp only [List.append_nil]
               first | done | rfl
         · rw [hd] at he
           rw [he] at ho
           have hol:o.length+1≤80032:=by
            have:=congrArg List.length ho
            simp only [List.length_append,List.length_cons,List.length_nil] at this
            omega
           refine And.intro (by simp) (Or.inl (And.intro rfl (And.intro (by simp) (And.intro (by show (o.length+1)*32≤_;omega) (And.intro (by show o.length+1≤_;omega) ?_)))))
           refine bZ (fun hz=>?_) (fun hz=>?_)
           · have hz:(!decide ((k:Int)<(((endT t el).map rowZ).length:Int)))=true:=hz
             rw [hd] at hz
             cases hz
           · refine At.mk' [1,8,11,12,14,81,82,83,88,89,90] (k+1,w,o++[x]) ⟨⟨hkl,hkd,by simpa [List.append_assoc] using ho⟩,by show lt.length-(k+1)<lt.length-k;omega⟩ ⟨?_,rfl⟩ ?_ rfl (by simp) (by simp) (by decide)
             · rw [wrap_i64 ((k:Int)+1) (by omega) (by omega)]
               simp only [List.length_append,List.length_cons,List.length_nil]
               first | done | rfl
             · simp only [List.map_append,List.map_cons,List.map_nil]
               first | done | rfl
         · rw [hd] at he
           rw [he] at ho
           have hol:o.length+2≤80032:=by
            have:=congrArg List.length ho
            simp only [List.length_append,List.length_cons,List.length_nil] at this
            omega
           refine And.intro (by simp) (Or.inl (And.intro rfl (And.intro (by simp) (And.intro (by show (o.length+2)*32≤_;omega) (And.intro (by show o.length+2≤_;omega) ?_)))))
           refine bZ (fun hz=>?_) (fun hz=>?_)
           · have hz:(!decide ((k:Int)<(((endT t el).map rowZ).length:Int)))=true:=hz
             rw [hd] at hz
             cases hz
           · refine At.mk' [1,8,11,12,14,81,82,83,88,89,90] (k+1,w,o++[x,y]) ⟨⟨hkl,hkd,by simpa [List.append_assoc] using ho⟩,by show lt.length-(k+1)<lt.length-k;omega⟩ ⟨?_,rfl⟩ ?_ rfl (by simp) (by simp) (by decide)
             · rw [wrap_i64 ((k:Int)+1) (by omega) (by omega)]
               simp only [List.length_append,List.length_cons,List.length_nil]
               first | done | rfl
             · simp only [List.map_append,List.map_cons,List.map_nil]
               first | done | rfl
       · have hkd:¬k<(endT t el).length:=by
          have:=oFa hd
          have:¬(k:Int)<(((endT t el).map rowZ).length:Int):=this
          omega
         have hke:k=(endT t el).length:=by omega
         have hwr:(endT t el).drop k=[]:=by rw [hke];exact List.drop_length
         rw [hdr,hwr,thrPts] at ho
         change Does Tryz.prog 185 _ _ _
         refine Does.on 6 [1] _ _ (effects (t:Int) (k:Int) c.w c.n frm 9223372036854775807 _ hna (by omega) (fun he=>?_) (fun x he=>?_) (fun x y he=>?_))
         · rw [hd] at he
           rw [he] at ho
           have hol:o.length+0≤80032:=by
            have:=congrArg List.length ho
            simp only [List.length_append,List.length_nil] at this
            omega
           refine Or.inl (And.intro rfl (And.intro (by simp) (And.intro (by show (o.length+0)*32≤_;omega) (And.intro (by show o.length+0≤_;omega) ?_))))
           refine bZ (fun hz=>?_) (fun hz=>?_)
           · refine At.mk' [1,8,11,81,82,83] (t+1,o) ⟨⟨hlt,by simpa using ho⟩,by show n-(t+1)<n-t;omega⟩ ⟨?_,rfl⟩ ?_ rfl (by simp) (by simp) (by decide)
             · rw [wrap_i64 ((t:Int)+1) (by omega) (by omega)]
               first | done | rfl
             · simp only [List.append_nil]
               first | done | rfl
           · have hz:(!decide ((k:Int)<(((endT t el).map rowZ).length:Int)))=false:=hz
             rw [hd] at hz
             cases hz
         · rw [hd] at he
           rw [he] at ho
           have hol:o.length+1≤80032:=by
            have:=congrArg List.length ho
            simp only [List.length_append,List.length_cons,List.length_nil] at this
            omega
           refine And.intro (by simp) (Or.inl (And.intro rfl (And.intro (by simp) (And.intro (by show (o.length+1)*32≤_;omega) (And.intro (by show o.length+1≤_;omega) ?_)))))
           refine bZ (fun hz=>?_) (fun hz=>?_)
           · refine At.mk' [1,8,11,81,82,83] (t+1,o++[x]) ⟨⟨hlt,by simpa [List.append_assoc] using ho⟩,by show n-(t+1)<n-t;omega⟩ ⟨?_,rfl⟩ ?_ rfl (by simp) (by simp) (by decide)
             · rw [wrap_i64 ((t:Int)+1) (by omega) (by omega)]
               simp only [List.length_append,List.length_cons,List.length_nil]
               first | done | rfl
             · simp only [List.map_append,List.map_cons,List.map_nil]
               first | done | rfl
           · have hz:(!decide ((k:Int)<(((endT t el).map rowZ).length:Int)))=false:=hz
             rw [hd] at hz
             cases hz
         · rw [hd] at he
           rw [he] at ho
           have hol:o.length+2≤80032:=by
            have:=congrArg List.length ho
            simp only [List.length_append,List.length_cons,List.length_nil] at this
            omega
           refine And.intro (by simp) (Or.inl (And.intro rfl (And.intro (by simp) (And.intro (by show (o.length+2)*32≤_;omega) (And.intro (by show o.length+2≤_;omega) ?_)))))
           refine bZ (fun hz=>?_) (fun hz=>?_)
           · refine At.mk' [1,8,11,81,82,83] (t+1,o++[x,y]) ⟨⟨hlt,by simpa [List.append_assoc] using ho⟩,by show n-(t+1)<n-t;omega⟩ ⟨?_,rfl⟩ ?_ rfl (by simp) (by simp) (by decide)
             · rw [wrap_i64 ((t:Int)+1) (by omega) (by omega)]
               simp only [List.length_append,List.length_cons,List.length_nil]
               first | done | rfl
             · simp only [List.map_append,List.map_cons,List.map_nil]
               first | done | rfl
           · have hz:(!decide ((k:Int)<(((endT t el).map rowZ).length:Int)))=false:=hz
             rw [hd] at hz
             cases hz
     · have hkl:¬k<lt.length:=by
        have:=oFa hlt2
        have:¬(k:Int)<((lt.map rowCallZ).length:Int):=this
        omega
       have hdr:lt.drop k=[]:=List.drop_eq_nil_of_le (by omega)
       rw [hdr,thrPts] at ho
       refine At.mk' [1,8,11,81,82,83] (t+1,o) ⟨⟨hlt,by simpa using ho⟩,by show n-(t+1)<n-t;omega⟩ ⟨?_,rfl⟩ ?_ rfl (by simp) (by simp) (by decide)
       · rw [wrap_i64 ((t:Int)+1) (by omega) (by omega)]
         first | done | rfl
       · rfl
   · have hlt:¬t<n:=by
      have:=oFa hlt
      have:¬(t:Int)<(n:Int):=this
      omega
     rw [ptsFrom_end _ _ _ (by omega),List.append_nil] at hout
     have hall:=allPts_len calls acts el
     rw [←hout] at hall
     change Does Tryz.prog 186 _ _ _
     refine Does.on 5 [4] _ _ (sortStable (l:=out) (n:=out.length) (nn:=false) rfl (by omega) fun l' hl'=>?_)
     have hll:l'.length=out.length:=hl'.2.len
     have h1:=h1 hok l' (by rw [←hout];exact hl')
     rw [hll] at h1
     exact ⟨5,[0,1,2,4],_,_,rfl,rfl,by decide,by decide,rfl,rfl,rfl,rfl,rfl,h1⟩

end
end
end Go.Mac
end
section
open Go Go.Proofs Go.Mac

namespace Go.Mac

theorem srt_uniq:∀ {a b:List PtZ},Srt a→Srt b→(∀ k:Int,a.filter (fun x=>x.w == k)=b.filter (fun x=>x.w == k))→a=b
 | [],[],_,_,_=>rfl
 | [],y::b,_,_,h=>by
   have:=h y.w
   simp at this
 | x::a,[],_,_,h=>by
   have:=h x.w
   simp at this
 | x::a,y::b,ha,hb,h=>by
   have hxb:x∈y::b:=by
    have h1:x∈(x::a).filter (fun z=>z.w == x.w):=List.mem_filter.2 ⟨by simp,by simp⟩
    rw [h] at h1
    exact (List.mem_filter.1 h1).1
   have hya:y∈x::a:=by
    have h1:y∈(y::b).filter (fun z=>z.w == y.w):=List.mem_filter.2 ⟨by simp,by simp⟩
    rw [←h] at h1
    exact (List.mem_filter.1 h1).1
   have hyx:y.w≤x.w:=by
    rcases List.mem_cons.1 hxb with e | e
    · rw [e];exact Int.le_refl _
    · exact (List.pairwise_cons.1 hb).1 x e
   have hxy:x.w≤y.w:=by
    rcases List.mem_cons.1 hya with e | e
    · rw [e];exact Int.le_refl _
    · exact (List.pairwise_cons.1 ha).1 y e
   have hw:y.w=x.w:=Int.le_antisymm hyx hxy
   have h0:=h x.w
   rw [List.filter_cons_of_pos (by simp),List.filter_cons_of_pos (by simp [hw])] at h0
   obtain ⟨e1,e2⟩:=List.cons.inj h0
   subst e1
   rw [srt_uniq (List.pairwise_cons.1 ha).2 (List.pairwise_cons.1 hb).2 fun k=>?_]
   by_cases hk:x.w=k
   · subst hk;exact e2
   · have:=h k
     rw [List.filter_cons_of_neg (by simpa using hk),List.filter_cons_of_neg (by simpa using hk)] at this
     exact this

theorem St.uniq {l a b:List PtZ} (ha:St l a) (hb:St l b):a=b :=
 srt_uniq ha.1 hb.1 fun k=>(ha.2.flt k).trans (hb.2.flt k).symm

end Go.Mac
end

section
open Go Go.Proofs Go.Mac
set_option maxRecDepth 100000
namespace Go.Mac
section
section

variable {K:KP} {m:MZ} {v:VZ}

theorem coreActs (hal:m.al.length<1000000) (h:K (cv (.slc 9 0 m.al.length none false)) [] (machH m v++[.rows false 6 (m.al.map rowAct)])) :
  Does Tryz.prog 134 [cv (.ptr 0 0)] (machH m v) K:=by
 refine does Tryz.func134 rfl (by decide) ?_
 have e:(List.take m.al.length (List.drop 0 (m.al.map rowAct)))=m.al.map rowAct:=by rw [List.drop_zero,List.take_of_length_le];simp
 have e2:(m.al.map rowAct).length=m.al.length:=by simp
 refine And.intro (by simp) (And.intro ?_ (And.intro ?_ ?_))
 · rw [e,e2]
   show m.al.length*48≤_
   omega
 · rw [e,e2];omega
 · rw [e,e2]
   exact h

end
end
section
open Classical in
noncomputable def sortZ (l:List PtZ):List PtZ:=if h:∃ p,St l p then Classical.choose h else []

theorem sortZ_eq {l p:List PtZ} (h:St l p):sortZ l=p:=by
 rw [sortZ,dif_pos ⟨p,h⟩]
 exact St.uniq (Classical.choose_spec (⟨p,h⟩ : ∃ p,St l p)) h

def lateT (b:Bool):List UInt8:=if b=true then [33] else []
def pointsT (l:List PtZ):List UInt8:=(l.map fun p=>threeT p.w p.t p.k++lateT p.l).flatten

theorem pointsT_len (l:List PtZ) (hr:∀ e∈l,B64 e.w∧B64 e.t∧B64 e.k):(pointsT l).length≤64*l.length:=by
 induction l with
 | nil=>simp [pointsT]
 | cons x l ih =>
   have h1:=ih fun y hy=>hr y (by simp [hy])
   have h2:=hr x (by simp)
   have h3:=three_len h2.1 h2.2.1 h2.2.2
   have h4:(lateT x.l).length≤1:=by unfold lateT;split <;> decide
   rw [pointsT] at h1 ⊢
   rw [List.map_cons,List.flatten_cons,List.length_append,List.length_append,List.length_cons]
   omega

noncomputable def pointsD (d:DZ):AnsZ :=
 (d,if d.ph=true then
   if endsN d.cs [] d.m.el=d.m.el.length then .ok (pointsT (sortZ (allPts d.cs d.m.al d.m.el))) else .error (.pl 13 (endsN d.cs [] d.m.el:Nat))
 else .error (.no 6))

section

variable {K:KP} {J:KJ}

theorem mustPts {n:Nat} {ro nn:Bool} {c:Option Nat} {rs:List (List FC)} (h:K (cv (.slc 0 0 n c nn)) [] [.rows ro 4 rs]):DoesX Tryz.prog 132 [cv (.slc 0 0 n c nn),cv .niliface] [.rows ro 4 rs] K J:=by
 refine doesX Tryz.func132 rfl (by decide) ?_
 exact h

theorem mustPts_bad {e p:Int} (h:J (.ifs 89 (.iface 108 (.ptr 0 0))) [] [.one [.f (.int .i64 e),.f (.int .i64 p)]]):DoesX Tryz.prog 132 [cv .nilslc,cv (.iface 108 (.ptr 0 0))] [.one [.f (.int .i64 e),.f (.int .i64 p)]] K J:=by
 refine doesX Tryz.func132 rfl (by decide) ?_
 exact ⟨_,rfl,h⟩

theorem saidPoints (d:DZ) (w:List UInt8) (hcs:d.cs.length≤16) (hcl:∀ l∈d.cs,l.length≤9223372036854775807) (he:∀ x∈allPts d.cs d.m.al d.m.el,B64 x.w∧B64 x.t∧B64 x.k):SaidX 65 d [w] (pointsD d):=by
 intro K J v hv hw hK hJ
 refine DoesX.keepB 17 moL rfl ?_
 refine doesX Tryz.func65 rfl (by decide) ?_
 have hel:=hw.el
 have hal:=hw.al
 have hk:=hw.k
 change DoesX Tryz.prog 131 _ _ _ _
 refine asksX (fun hp=>?_) fun hp=>?_
 · refine SX.drawR follows (by decide) ?_
   change DoesX Tryz.prog 134 _ _ _ _
   refine DoesX.on 17 [6,7,8,9,10,11,12,13,14] _ _ (DoesX.of (coreActs (m:=d.m) (v:=v) (by omega) ?_))
   repeat' (first | refine And.intro rfl ?_ | fail)
   change DoesX Tryz.prog 116 _ _ _ _
   refine DoesX.on 18 [6,7,8,9,10,11,12,13,14] _ _ (DoesX.of (coreEvents (m:=d.m) (v:=v) (by omega) ?_))
   repeat' (first | refine And.intro rfl ?_ | fail)
   change DoesX Tryz.prog 133 _ _ _ _
   refine DoesX.on 19 [15,17,18] _ _ (DoesX.of (linPointsN (calls:=d.cs) (acts:=d.m.al) (el:=d.m.el) rfl hcs rfl (by omega) rfl (by omega) hcl (fun i hi hlt=>?_) fun hi pts hpts=>?_))
   · have hr:pointsD d=(d,.error (.pl 13 i)):=by
      rw [pointsD,if_pos hp,if_neg (by omega),hi]
     rw [hr] at hJ
     repeat' (first | refine And.intro rfl ?_ | fail)
     change DoesX Tryz.prog 132 _ _ _ _
     refine DoesX.on 20 [19] _ _ (mustPts_bad ?_)
     refine ⟨_,rfl,?_⟩
     refine ⟨20,[0,1,2,3,4,5,6,7,8,9,10,11,12,13,14,15,16,19],_,_,rfl,by decide,by decide,by decide,by decide,by decide,rfl,rfl,rfl,rfl,rfl,_,rfl,hJ _ v rfl hv hw⟩
   · have hr:pointsD d=(d,.ok (pointsT pts)):=by
      rw [pointsD,if_pos hp,if_pos hi,sortZ_eq hpts]
     rw [hr] at hK
     have hpb:∀ x∈pts,B64 x.w∧B64 x.t∧B64 x.k:=fun x hx=>he x (hpts.mem.1 hx)
     have hpl:=allPts_len d.cs d.m.al d.m.el
     rw [←hpts.len] at hpl
     repeat' (first | refine And.intro rfl ?_ | fail)
     change DoesX Tryz.prog 132 _ _ _ _
     refine DoesX.on 20 [19] _ _ (mustPts ?_)
     repeat' (first | refine And.intro rfl ?_ | fail)
     refine SX.loop (fun i:Nat=>i≤pts.length) (fun i=>[(5,st (pointsT (pts.take i))),(27,cv (.slc 19 0 pts.length none false)),(28,i64 pts.length),(29,i64 i)]) (fun _=>saidH d v [w]++[.rows false 6 (d.m.al.map rowAct),.rows false 4 (d.m.el.map rowEv),.rows false 4 (pts.map rowPt)]) (fun i=>pts.length-i) []
      (At.mk' [5,27,28,29] 0 (by simp) ⟨rfl,rfl⟩ rfl rfl (by simp) (by simp) (by simp)) ?_
     intro i hi
     change i≤pts.length at hi
     refine S_rX ?_
     refine bZ (fun hlt=>?_) (fun hlt=>?_)
     · have hlt:i<pts.length:=by
        have:=oTr hlt
        have:(i:Int)<(pts.length:Int):=this
        omega
       obtain ⟨x,hx⟩ : ∃ x,pts[i]? = some x:=⟨_,List.getElem?_eq_getElem hlt⟩
       obtain ⟨ha,ht,hvv⟩:=hpb x (List.mem_of_getElem? hx)
       have hcl:=pointsT_len (pts.take i) fun y hy=>hpb y (List.mem_of_mem_take hy)
       have hle:(pts.take i).length≤i:=by simp;omega
       have h1:=itoa_len ha.1 ha.2
       have h2:=itoa_len ht.1 ht.2
       have h3:=itoa_len hvv.1 hvv.2
       have h4:=three_len ha ht hvv
       have step:∀ b,x.l=b→pointsT (pts.take (i+1))=pointsT (pts.take i)++threeT x.w x.t x.k++lateT b:=fun b hb=>by
        rw [List.take_add_one,hx,pointsT,pointsT,←hb]
        simp
       refine SX.inlR ?_
       refine at2 (a:=(0:Int)≤(i:Int)) (b:=(i:Int)<(pts.length:Int)) (by omega) (by omega) (rdA (rowPt x) (by simp [hx]) ?_)
       refine SX.drawR follows (by decide) ?_
       change DoesX Tryz.prog 51 _ _ _ _
       refine DoesX.on 21 [1] _ _ (DoesX.of (strItoa x.w ha.1 ha.2 ?_))
       repeat' (first | refine And.intro rfl ?_ | refine And.intro (And.intro (by simp only [List.length_append,List.length_singleton];omega) rfl) ?_ | refine And.intro (by simp only [List.length_append,List.length_singleton];omega) ?_ | refine And.intro (Exists.intro _ (Exists.intro _ (And.intro rfl (And.intro rfl rfl)))) ?_ | fail)
       change DoesX Tryz.prog 51 _ _ _ _
       refine DoesX.on 21 [1] _ _ (DoesX.of (strItoa x.t ht.1 ht.2 ?_))
       repeat' (first | refine And.intro rfl ?_ | refine And.intro (And.intro (by simp only [List.length_append,List.length_singleton];omega) rfl) ?_ | refine And.intro (by simp only [List.length_append,List.length_singleton];omega) ?_ | refine And.intro (Exists.intro _ (Exists.intro _ (And.intro rfl (And.intro rfl rfl)))) ?_ | fail)
       change DoesX Tryz.prog 51 _ _ _ _
       refine DoesX.on 21 [1] _ _ (DoesX.of (strItoa x.k hvv.1 hvv.2 ?_))
       repeat' (first | refine And.intro rfl ?_ | refine And.intro (And.intro (by simp only [List.length_append,List.length_singleton];omega) rfl) ?_ | refine And.intro (by simp only [List.length_append,List.length_singleton];omega) ?_ | refine And.intro (Exists.intro _ (Exists.intro _ (And.intro rfl (And.intro rfl rfl)))) ?_ | fail)
       refine bZ (fun hb=>?_) (fun hb=>?_)
       · refine And.intro (show (pointsT (pts.take i)++threeT x.w x.t x.k).length+1≤9223372036854775807 by rw [List.length_append];omega) ?_
         refine At.mk' [5,27,28,29] (i+1) ⟨hlt,by omega⟩ ⟨?_,rfl⟩ rfl rfl (by simp) (by simp) (by decide)
         rw [wrap_i64 (i+1) (by omega) (by omega),step true hb]
         rfl
       · refine At.mk' [5,27,28,29] (i+1) ⟨hlt,by omega⟩ ⟨?_,rfl⟩ rfl rfl (by simp) (by simp) (by decide)
         rw [wrap_i64 (i+1) (by omega) (by omega),step false hb,show lateT false=[] from rfl,List.append_nil]
         rfl
     · have hlt:¬(i:Int)<(pts.length:Int):=oFa hlt
       obtain rfl:i=pts.length:=by omega
       rw [List.take_length]
       refine ⟨17,[0,1,2,3,4,5,6,7,8,9,10,11,12,13,14,15,16],_,_,rfl,by decide,by decide,by decide,by decide,by decide,rfl,rfl,rfl,rfl,rfl,hK _ v rfl hv hw⟩
 · have hr:pointsD d=(d,.error (.no 6)):=by rw [pointsD,if_neg (by rw [hp];decide)]
   rw [hr] at hJ
   refine ⟨_,rfl,?_⟩
   refine ⟨17,[0,1,2,3,4,5,6,7,8,9,10,11,12,13,14,15,16],_,_,rfl,by decide,by decide,by decide,by decide,by decide,rfl,rfl,rfl,rfl,rfl,_,rfl,hJ _ v rfl hv hw⟩

end
end
end Go.Mac
end
