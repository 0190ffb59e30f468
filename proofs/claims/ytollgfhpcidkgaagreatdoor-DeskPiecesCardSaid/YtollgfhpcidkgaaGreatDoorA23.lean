/- Texts that belong together; the first of them:  -/
import Derived.Test.YtollgfhpcidkgaaGreatDoorA22
import Derived.Test.YtollgfhpcidkgaaGreatDoorA12
import Derived.Test.YtollgfhpcidkgaaGreatDoorA9
import Derived.Test.YtollgfhpcidkgaaGreatDoorA20

section
open Go Go.Proofs Go.Mac
set_option maxRecDepth 100000
namespace Go.Mac
section
def endT (t:Nat) (el:List EvZ):List Int:=(el.filter fun e=>e.t == (t:Int)).map (·.w)

def thrPts (t:Nat) (acts:List ActZ):List CallZ→Nat→Int→List Int→List PtZ
 | [],_,_,_=>[]
 | c::cs,k,frm,w::ws=>effZ t k c.w acts frm w true++thrPts t acts cs (k+1) w ws
 | c::_,k,frm,[]=>effZ t k c.w acts frm 9223372036854775807 false

def allPts (calls:List (List CallZ)) (acts:List ActZ) (el:List EvZ):List PtZ :=
 ((List.range calls.length).map fun t=>thrPts t acts (calls.getD t []) 0 0 (endT t el)).flatten

theorem endT_snoc (t:Nat) (el:List EvZ) (e:EvZ):endT t (el++[e])=if e.t=(t:Int) then endT t el++[e.w] else endT t el:=by
 rw [endT,List.filter_append,List.map_append]
 by_cases h:e.t=(t:Int)
 · rw [if_pos h]
   simp [endT,h]
 · rw [if_neg h]
   have:(e.t == (t:Int))=false:=by simpa using h
   simp [endT,this]

theorem endT_len (t:Nat) (el:List EvZ):(endT t el).length≤el.length:=by
 rw [endT,List.length_map]
 exact List.length_filter_le _ _

def endE (n:Nat) (lc:Nat→ILoc) (el:List EvZ):List (Option (ILoc×List (List FC))):=(List.range n).map fun t=>some (lc t,(endT t el).map rowZ)

theorem endE_get {n t:Nat} (lc:Nat→ILoc) (el:List EvZ) (h:t<n):(endE n lc el)[t]? = some (some (lc t,(endT t el).map rowZ)):=by
 rw [endE,List.getElem?_map,List.getElem?_range h]
 rfl

theorem endE_len (n:Nat) (lc:Nat→ILoc) (el:List EvZ):(endE n lc el).length=n:=by simp [endE]

theorem endE_more {n t:Nat} (lc:Nat→ILoc) (el:List EvZ) (e:EvZ) (ht:t<n) (he:e.t=t) (l:ILoc) :
  ((endE n lc el).set t none).set t (some (l,(endT t el).map rowZ++[rowZ e.w]))=endE n (fun s=>if s=t then l else lc s) (el++[e]):=by
 refine List.ext_getElem? fun s=>?_
 rcases Nat.lt_or_ge s n with hs | hs
 · rw [endE_get _ _ hs]
   by_cases hst:s=t
   · subst hst
     rw [List.getElem?_set_self (by rw [List.length_set,endE_len];exact hs),if_pos rfl,endT_snoc,if_pos he,List.map_append]
     rfl
   · rw [List.getElem?_set_ne (Ne.symm hst),List.getElem?_set_ne (Ne.symm hst),endE_get _ _ hs,if_neg hst,endT_snoc,if_neg fun h=>hst (by omega)]
 · rw [List.getElem?_eq_none (by rw [List.length_set,List.length_set,endE_len];exact hs),List.getElem?_eq_none (by rw [endE_len];exact hs)]

theorem endE_nil (n:Nat):List.replicate (n:Int).toNat (some ((⟨0,0,0,1⟩ : ILoc),([]:List (List FC))))=endE n (fun _=>⟨0,0,0,1⟩) []:=by
 rw [Int.toNat_natCast]
 refine List.ext_getElem? fun s=>?_
 rcases Nat.lt_or_ge s n with hs | hs
 · rw [endE_get _ _ hs,List.getElem?_replicate,if_pos hs]
   rfl
 · rw [List.getElem?_eq_none (by simpa using hs),List.getElem?_eq_none (by rw [endE_len];exact hs)]

def endL (n:Nat) (el:List EvZ):List (List Int):=(List.range n).map fun t=>endT t el

def ptsFrom (calls:List (List CallZ)) (acts:List ActZ) (el:List EvZ) (t:Nat):List PtZ :=
 (((List.range calls.length).drop t).map fun t=>thrPts t acts (calls.getD t []) 0 0 (endT t el)).flatten

theorem ptsFrom_end (calls:List (List CallZ)) (acts:List ActZ) (el:List EvZ) {t:Nat} (h:calls.length≤t):ptsFrom calls acts el t=[]:=by
 rw [ptsFrom,List.drop_eq_nil_of_le (by simpa using h)]
 rfl

theorem ptsFrom_step {calls:List (List CallZ)} (acts:List ActZ) (el:List EvZ) {t:Nat} {lt:List CallZ} (h:calls[t]? = some lt):ptsFrom calls acts el t=thrPts t acts lt 0 0 (endT t el)++ptsFrom calls acts el (t+1):=by
 have hl:=(List.getElem?_eq_some_iff.1 h).1
 rw [ptsFrom,List.drop_eq_getElem_cons (by simpa using hl),List.map_cons,List.flatten_cons,List.getElem_range,List.getD_eq_getElem?_getD,h]
 rfl

theorem effZ_len (t k w:Int) (acts:List ActZ) (frm tz:Int) (done:Bool):(effZ t k w acts frm tz done).length≤2:=by
 rw [effZ]
 cases efRun t frm tz done acts <;> simp only [efPts] <;> (try split) <;> simp

theorem thrPts_len (t:Nat) (acts:List ActZ):∀ (cs:List CallZ) (k:Nat) (frm:Int) (ws:List Int),(thrPts t acts cs k frm ws).length≤2*ws.length+2
 | [],_,_,ws=>by simp [thrPts]
 | c::cs,k,frm,w::ws=>by
   have h1:=effZ_len t k c.w acts frm w true
   have h2:=thrPts_len t acts cs (k+1) w ws
   rw [thrPts,List.length_append,List.length_cons]
   omega
 | c::_,k,frm,[]=>by
   have h1:=effZ_len t k c.w acts frm 9223372036854775807 false
   rw [thrPts]
   simp only [List.length_nil]
   omega

theorem filt_sum (el:List EvZ):∀ n:Nat,((List.range n).map fun t=>(endT t el).length).sum≤el.length:=by
 have key:∀ n:Nat,((List.range n).map fun t=>(endT t el).length).sum=(el.filter fun e=>decide (0≤e.t∧e.t<(n:Int))).length:=by
  intro n
  induction n with
  | zero =>
    rw [List.filter_eq_nil_iff.2]
    · rfl
    · intro e _
      simp
  | succ n ih =>
    rw [List.range_succ,List.map_append,List.sum_append,ih]
    have:∀ l:List EvZ,(l.filter fun e=>decide (0≤e.t∧e.t<((n+1:Nat):Int))).length=(l.filter fun e=>decide (0≤e.t∧e.t<(n:Int))).length+(endT n l).length:=by
     intro l
     induction l with
     | nil=>rfl
     | cons e l ih2 =>
       rw [endT,List.length_map] at ih2 ⊢
       rw [List.filter_cons,List.filter_cons,List.filter_cons]
       by_cases h1:e.t=(n:Int)
       · rw [if_pos (by rw [decide_eq_true_iff];omega),if_neg (by rw [decide_eq_true_iff];omega),if_pos (by simpa using h1),List.length_cons,List.length_cons,ih2]
         omega
       · rw [if_neg (c:=(e.t == (n:Int))=true) (by simpa using h1)]
         by_cases h2:0≤e.t∧e.t<(n:Int)
         · rw [if_pos (by rw [decide_eq_true_iff];omega),if_pos (by rw [decide_eq_true_iff];exact h2),List.length_cons,List.length_cons,ih2]
           omega
         · rw [if_neg (by rw [decide_eq_true_iff];omega),if_neg (by rw [decide_eq_true_iff];exact h2),ih2]
    rw [this]
    simp
 intro n
 rw [key]
 exact List.length_filter_le _ _

theorem allPts_len (calls:List (List CallZ)) (acts:List ActZ) (el:List EvZ):(allPts calls acts el).length≤2*el.length+2*calls.length:=by
 have h:∀ l:List Nat,((l.map fun t=>thrPts t acts (calls.getD t []) 0 0 (endT t el)).flatten).length≤2*(l.map fun t=>(endT t el).length).sum+2*l.length:=by
  intro l
  induction l with
  | nil=>simp
  | cons t l ih =>
    have:=thrPts_len t acts (calls.getD t []) 0 0 (endT t el)
    rw [List.map_cons,List.flatten_cons,List.length_append,List.map_cons,List.sum_cons,List.length_cons]
    omega
 have h1:=h (List.range calls.length)
 have h2:=filt_sum el calls.length
 rw [List.length_range] at h1
 rw [allPts]
 omega
end
section
abbrev efCh:EfS→AV
 | .s0=>cv .nilslc
 | .s1 _=>cv .nilslc
 | .s2 _=>cv (.slc 2 0 1 none true)
 | .s3 _ _=>cv (.slc 2 0 1 none true)

abbrev efLa:EfS→AV
 | .s0=>cv .nilslc
 | .s1 _=>cv (.slc 2 0 1 none true)
 | .s2 _=>cv (.slc 2 0 1 none true)
 | .s3 _ _=>cv (.slc 3 0 1 none true)

abbrev efH:EfS→List PO
 | .s0=>[]
 | .s1 v=>[.rows false 1 [rowZ v]]
 | .s2 v=>[.rows false 1 [rowZ v]]
 | .s3 c v=>[.rows false 1 [rowZ c],.rows false 1 [rowZ v]]

section

variable {K:KP}

set_option maxHeartbeats 4000000 in
theorem effects {acts:List ActZ} {n:Nat} {ro nn:Bool} (t k w cn:Int) (frm tz:Int) (done:Bool) (hn:acts.length=n) (hnb:n≤1000000)
  (hnil:effZ t k w acts frm tz done=[]→K (cv .nilslc) [] [.rows ro 6 (acts.map rowAct)])
  (hone:∀ x,effZ t k w acts frm tz done=[x]→K (cv (.slc 1 0 1 none true)) [] [.rows ro 6 (acts.map rowAct),.rows false 4 [rowPt x]])
  (htwo:∀ x y,effZ t k w acts frm tz done=[x,y]→K (cv (.slc 1 0 2 none true)) [] [.rows ro 6 (acts.map rowAct),.rows false 4 [rowPt x,rowPt y]]) :
  Does Tryz.prog 185 [i64 t,i64 k,.p (callG w cn),cv (.slc 0 0 n none nn),i64 frm,i64 tz,bl done] [.rows ro 6 (acts.map rowAct)] K:=by
 refine Does.keep 1 rfl ?_
 refine does Tryz.func185 rfl (by decide) ?_
 refine SS.loopR (fun s:Nat×EfS=>s.1≤n∧s.2=efRun t frm tz done (acts.take s.1))
  (fun s=>[(0,i64 t),(1,i64 k),(4,i64 frm),(5,i64 tz),(6,bl done),(9,cv (.ptr 1 0)),(15,efCh s.2),(16,efLa s.2),(21,cv (.slc 0 0 n none nn)),(22,i64 n),(23,i64 s.1)])
  (fun s=>[.rows ro 6 (acts.map rowAct),.one [.f (.int .i64 w),.f (.int .i64 cn)]]++efH s.2) (fun s=>n-s.1) []
  (At.mk' [0,1,4,5,6,9,15,16,21,22,23] (0,.s0) ⟨Nat.zero_le _,rfl⟩ ⟨rfl,rfl⟩ rfl rfl (by simp) (by simp) (by simp)) ?_
 rintro ⟨i,s⟩ ⟨hi,hs⟩
 dsimp only at hi hs
 have wr:IntKind.i64.wrap ((i:Int)+1)=((i+1:Nat):Int)∨n≤i:=by
  by_cases h:i<n
  · exact .inl (wrap_i64 _ (by omega) (by omega))
  · exact .inr (by omega)
 cases s with
 | s0 =>
   refine S_r ?_
   refine bZ (fun hlt=>?_) (fun hlt=>?_)
   · have hlt:i<n:=by
      have:=oTr hlt
      have:(i:Int)<(n:Int):=this
      omega
     have wr:IntKind.i64.wrap ((i:Int)+1)=((i+1:Nat):Int):=by omega
     obtain ⟨x,hx⟩ : ∃ x,acts[i]? = some x:=⟨_,List.getElem?_eq_getElem (by omega)⟩
     have hxa:(acts.map rowAct)[0+Int.toNat (i:Int)]? = some (rowAct x):=by rw [Nat.zero_add,Int.toNat_natCast,List.getElem?_map,hx];rfl
     have hs1:=efRun_take (t:=t) (frm:=frm) (tz:=tz) (done:=done) hx
     rw [←hs] at hs1
     have hs1n:hitB t frm tz done x=false→.s0=efRun t frm tz done (acts.take (i+1)):=fun h=>by rw [hs1,h];rfl
     have hs1y:hitB t frm tz done x=true→efRun t frm tz done (acts.take (i+1))=efStep .s0 x:=fun h=>by rw [hs1,h];rfl
     refine SS.inlR ?_
     refine at2 (a:=(0:Int)≤(i:Int)) (b:=(i:Int)<(n:Int)) (by omega) (by omega) (rdA (rowAct x) hxa ?_)
     refine bZ (fun q1=>?_) (fun q1=>?_)
     · have q1:(x.t == t)=false:=by
        have q1:(x.t != t)=true:=q1
        rw [bne,Bool.not_eq_true'] at q1
        exact q1
       refine AtR.mk' [0,1] 3 (i+1,_) ⟨⟨hlt,hs1n (by rw [hitB,q1];rfl)⟩,by dsimp only;omega⟩ rfl ⟨rfl,rfl,rfl,rfl,rfl,rfl,rfl,rfl,rfl,rfl,congrArg (fun z:Int=>(i64 z:AV)) wr,trivial⟩ rfl (by decide) (by decide) rfl rfl rfl rfl (by simp)
     have q1:(x.t == t)=true:=by
      have q1:(x.t != t)=false:=q1
      rw [bne,Bool.not_eq_false'] at q1
      exact q1
     refine bZ (fun q2=>?_) (fun q2=>?_)
     · have q2:(x.c == 0)=false:=by
        have q2:(x.c != 0)=true:=q2
        rw [bne,Bool.not_eq_true'] at q2
        exact q2
       refine AtR.mk' [0,1] 3 (i+1,_) ⟨⟨hlt,hs1n (by rw [hitB,q1,q2];rfl)⟩,by dsimp only;omega⟩ rfl ⟨rfl,rfl,rfl,rfl,rfl,rfl,rfl,rfl,rfl,rfl,congrArg (fun z:Int=>(i64 z:AV)) wr,trivial⟩ rfl (by decide) (by decide) rfl rfl rfl rfl (by simp)
     have q2:(x.c == 0)=true:=by
      have q2:(x.c != 0)=false:=q2
      rw [bne,Bool.not_eq_false'] at q2
      exact q2
     refine bZ (fun q3=>?_) (fun q3=>?_)
     · have q3:decide (frm<x.w)=false:=by
        have q3:=oTr q3
        have q3:x.w≤frm:=q3
        exact decide_eq_false (by omega)
       refine AtR.mk' [0,1] 3 (i+1,_) ⟨⟨hlt,hs1n (by rw [hitB,q1,q2,q3];rfl)⟩,by dsimp only;omega⟩ rfl ⟨rfl,rfl,rfl,rfl,rfl,rfl,rfl,rfl,rfl,rfl,congrArg (fun z:Int=>(i64 z:AV)) wr,trivial⟩ rfl (by decide) (by decide) rfl rfl rfl rfl (by simp)
     have q3:decide (frm<x.w)=true:=by
      have q3:=oFa q3
      have q3:¬x.w≤frm:=q3
      exact decide_eq_true (by omega)
     refine bZ (fun q4=>?_) (fun q4=>?_)
     · have q4:done=true:=q4
       refine bZ (fun q5=>?_) (fun q5=>?_)
       · have q5:decide (x.w≥tz)=true:=q5
         refine AtR.mk' [0,1] 3 (i+1,_) ⟨⟨hlt,hs1n (by rw [hitB,q1,q2,q3,q4,q5];rfl)⟩,by dsimp only;omega⟩ rfl ⟨rfl,rfl,rfl,rfl,rfl,rfl,rfl,rfl,rfl,rfl,congrArg (fun z:Int=>(i64 z:AV)) wr,trivial⟩ rfl (by decide) (by decide) rfl rfl rfl rfl (by simp)
       · have q5:decide (x.w≥tz)=false:=q5
         have hs2:=hs1y (by rw [hitB,q1,q2,q3,q4,q5];rfl)
         refine bZ (fun h9=>?_) (fun h9=>?_)
         · have h9:x.o=9:=by simpa using h9
           refine bZ (fun hne=>?_) (fun hne=>?_)
           · have hne:x.x≠x.y:=by
              have hne:(x.x != x.y)=true:=hne
              simpa using hne
             refine AtR.mk' [0,1,3] 4 (i+1,.s2 x.w) ⟨⟨hlt,by rw [hs2,efStep,if_pos ⟨h9,hne⟩]⟩,by dsimp only;omega⟩ rfl ⟨rfl,rfl,rfl,rfl,rfl,rfl,rfl,rfl,rfl,rfl,congrArg (fun z:Int=>(i64 z:AV)) wr,trivial⟩ rfl (by decide) (by decide) rfl rfl rfl rfl (by simp)
           · have hne:x.x=x.y:=by
              have hne:(x.x != x.y)=false:=hne
              simpa using hne
             refine AtR.mk' [0,1,3] 4 (i+1,.s1 x.w) ⟨⟨hlt,by rw [hs2,efStep,if_neg fun h=>h.2 hne]⟩,by dsimp only;omega⟩ rfl ⟨rfl,rfl,rfl,rfl,rfl,rfl,rfl,rfl,rfl,rfl,congrArg (fun z:Int=>(i64 z:AV)) wr,trivial⟩ rfl (by decide) (by decide) rfl rfl rfl rfl (by simp)
         · have h9:x.o≠9:=by simpa using h9
           refine AtR.mk' [0,1,3] 4 (i+1,.s1 x.w) ⟨⟨hlt,by rw [hs2,efStep,if_neg fun h=>h9 h.1]⟩,by dsimp only;omega⟩ rfl ⟨rfl,rfl,rfl,rfl,rfl,rfl,rfl,rfl,rfl,rfl,congrArg (fun z:Int=>(i64 z:AV)) wr,trivial⟩ rfl (by decide) (by decide) rfl rfl rfl rfl (by simp)
     · have q4:done=false:=q4
       have hs2:=hs1y (by rw [hitB,q1,q2,q3,q4];rfl)
       refine bZ (fun h9=>?_) (fun h9=>?_)
       · have h9:x.o=9:=by simpa using h9
         refine bZ (fun hne=>?_) (fun hne=>?_)
         · have hne:x.x≠x.y:=by
            have hne:(x.x != x.y)=true:=hne
            simpa using hne
           refine AtR.mk' [0,1,3] 4 (i+1,.s2 x.w) ⟨⟨hlt,by rw [hs2,efStep,if_pos ⟨h9,hne⟩]⟩,by dsimp only;omega⟩ rfl ⟨rfl,rfl,rfl,rfl,rfl,rfl,rfl,rfl,rfl,rfl,congrArg (fun z:Int=>(i64 z:AV)) wr,trivial⟩ rfl (by decide) (by decide) rfl rfl rfl rfl (by simp)
         · have hne:x.x=x.y:=by
            have hne:(x.x != x.y)=false:=hne
            simpa using hne
           refine AtR.mk' [0,1,3] 4 (i+1,.s1 x.w) ⟨⟨hlt,by rw [hs2,efStep,if_neg fun h=>h.2 hne]⟩,by dsimp only;omega⟩ rfl ⟨rfl,rfl,rfl,rfl,rfl,rfl,rfl,rfl,rfl,rfl,congrArg (fun z:Int=>(i64 z:AV)) wr,trivial⟩ rfl (by decide) (by decide) rfl rfl rfl rfl (by simp)
       · have h9:x.o≠9:=by simpa using h9
         refine AtR.mk' [0,1,3] 4 (i+1,.s1 x.w) ⟨⟨hlt,by rw [hs2,efStep,if_neg fun h=>h9 h.1]⟩,by dsimp only;omega⟩ rfl ⟨rfl,rfl,rfl,rfl,rfl,rfl,rfl,rfl,rfl,rfl,congrArg (fun z:Int=>(i64 z:AV)) wr,trivial⟩ rfl (by decide) (by decide) rfl rfl rfl rfl (by simp)
   · have hlt:¬i<n:=by
      have:=oFa hlt
      have:¬(i:Int)<(n:Int):=this
      omega
     obtain rfl:i=n:=by omega
     rw [List.take_of_length_le (by omega)] at hs
     have he:effZ t k w acts frm tz done=efPts t k w done (efRun t frm tz done acts):=rfl
     rw [←hs] at he
     refine SS.inlR ?_
     refine bZ (fun _=>?_) (fun _=>?_)
     · exact ⟨1,[0],_,_,rfl,rfl,by decide,by decide,rfl,rfl,rfl,rfl,rfl,hnil he⟩
     · exact ⟨1,[0],_,_,rfl,rfl,by decide,by decide,rfl,rfl,rfl,rfl,rfl,hnil he⟩
 | s1 v =>
   refine S_r ?_
   refine bZ (fun hlt=>?_) (fun hlt=>?_)
   · have hlt:i<n:=by
      have:=oTr hlt
      have:(i:Int)<(n:Int):=this
      omega
     have wr:IntKind.i64.wrap ((i:Int)+1)=((i+1:Nat):Int):=by omega
     obtain ⟨x,hx⟩ : ∃ x,acts[i]? = some x:=⟨_,List.getElem?_eq_getElem (by omega)⟩
     have hxa:(acts.map rowAct)[0+Int.toNat (i:Int)]? = some (rowAct x):=by rw [Nat.zero_add,Int.toNat_natCast,List.getElem?_map,hx];rfl
     have hs1:=efRun_take (t:=t) (frm:=frm) (tz:=tz) (done:=done) hx
     rw [←hs] at hs1
     have hs1n:hitB t frm tz done x=false→(.s1 v)=efRun t frm tz done (acts.take (i+1)):=fun h=>by rw [hs1,h];rfl
     have hs1y:hitB t frm tz done x=true→efRun t frm tz done (acts.take (i+1))=efStep (.s1 v) x:=fun h=>by rw [hs1,h];rfl
     refine SS.inlR ?_
     refine at2 (a:=(0:Int)≤(i:Int)) (b:=(i:Int)<(n:Int)) (by omega) (by omega) (rdA (rowAct x) hxa ?_)
     refine bZ (fun q1=>?_) (fun q1=>?_)
     · have q1:(x.t == t)=false:=by
        have q1:(x.t != t)=true:=q1
        rw [bne,Bool.not_eq_true'] at q1
        exact q1
       refine AtR.mk' [0,1,2] 4 (i+1,_) ⟨⟨hlt,hs1n (by rw [hitB,q1];rfl)⟩,by dsimp only;omega⟩ rfl ⟨rfl,rfl,rfl,rfl,rfl,rfl,rfl,rfl,rfl,rfl,congrArg (fun z:Int=>(i64 z:AV)) wr,trivial⟩ rfl (by decide) (by decide) rfl rfl rfl rfl (by simp)
     have q1:(x.t == t)=true:=by
      have q1:(x.t != t)=false:=q1
      rw [bne,Bool.not_eq_false'] at q1
      exact q1
     refine bZ (fun q2=>?_) (fun q2=>?_)
     · have q2:(x.c == 0)=false:=by
        have q2:(x.c != 0)=true:=q2
        rw [bne,Bool.not_eq_true'] at q2
        exact q2
       refine AtR.mk' [0,1,2] 4 (i+1,_) ⟨⟨hlt,hs1n (by rw [hitB,q1,q2];rfl)⟩,by dsimp only;omega⟩ rfl ⟨rfl,rfl,rfl,rfl,rfl,rfl,rfl,rfl,rfl,rfl,congrArg (fun z:Int=>(i64 z:AV)) wr,trivial⟩ rfl (by decide) (by decide) rfl rfl rfl rfl (by simp)
     have q2:(x.c == 0)=true:=by
      have q2:(x.c != 0)=false:=q2
      rw [bne,Bool.not_eq_false'] at q2
      exact q2
     refine bZ (fun q3=>?_) (fun q3=>?_)
     · have q3:decide (frm<x.w)=false:=by
        have q3:=oTr q3
        have q3:x.w≤frm:=q3
        exact decide_eq_false (by omega)
       refine AtR.mk' [0,1,2] 4 (i+1,_) ⟨⟨hlt,hs1n (by rw [hitB,q1,q2,q3];rfl)⟩,by dsimp only;omega⟩ rfl ⟨rfl,rfl,rfl,rfl,rfl,rfl,rfl,rfl,rfl,rfl,congrArg (fun z:Int=>(i64 z:AV)) wr,trivial⟩ rfl (by decide) (by decide) rfl rfl rfl rfl (by simp)
     have q3:decide (frm<x.w)=true:=by
      have q3:=oFa q3
      have q3:¬x.w≤frm:=q3
      exact decide_eq_true (by omega)
     refine bZ (fun q4=>?_) (fun q4=>?_)
     · have q4:done=true:=q4
       refine bZ (fun q5=>?_) (fun q5=>?_)
       · have q5:decide (x.w≥tz)=true:=q5
         refine AtR.mk' [0,1,2] 4 (i+1,_) ⟨⟨hlt,hs1n (by rw [hitB,q1,q2,q3,q4,q5];rfl)⟩,by dsimp only;omega⟩ rfl ⟨rfl,rfl,rfl,rfl,rfl,rfl,rfl,rfl,rfl,rfl,congrArg (fun z:Int=>(i64 z:AV)) wr,trivial⟩ rfl (by decide) (by decide) rfl rfl rfl rfl (by simp)
       · have q5:decide (x.w≥tz)=false:=q5
         have hs2:=hs1y (by rw [hitB,q1,q2,q3,q4,q5];rfl)
         refine bZ (fun h9=>?_) (fun h9=>?_)
         · have h9:x.o=9:=by simpa using h9
           refine bZ (fun hne=>?_) (fun hne=>?_)
           · have hne:x.x≠x.y:=by
              have hne:(x.x != x.y)=true:=hne
              simpa using hne
             refine AtR.mk' [0,1,4] 5 (i+1,.s2 x.w) ⟨⟨hlt,by rw [hs2,efStep,if_pos ⟨h9,hne⟩]⟩,by dsimp only;omega⟩ rfl ⟨rfl,rfl,rfl,rfl,rfl,rfl,rfl,rfl,rfl,rfl,congrArg (fun z:Int=>(i64 z:AV)) wr,trivial⟩ rfl (by decide) (by decide) rfl rfl rfl rfl (by simp)
           · have hne:x.x=x.y:=by
              have hne:(x.x != x.y)=false:=hne
              simpa using hne
             refine AtR.mk' [0,1,4] 5 (i+1,.s1 x.w) ⟨⟨hlt,by rw [hs2,efStep,if_neg fun h=>h.2 hne]⟩,by dsimp only;omega⟩ rfl ⟨rfl,rfl,rfl,rfl,rfl,rfl,rfl,rfl,rfl,rfl,congrArg (fun z:Int=>(i64 z:AV)) wr,trivial⟩ rfl (by decide) (by decide) rfl rfl rfl rfl (by simp)
         · have h9:x.o≠9:=by simpa using h9
           refine AtR.mk' [0,1,4] 5 (i+1,.s1 x.w) ⟨⟨hlt,by rw [hs2,efStep,if_neg fun h=>h9 h.1]⟩,by dsimp only;omega⟩ rfl ⟨rfl,rfl,rfl,rfl,rfl,rfl,rfl,rfl,rfl,rfl,congrArg (fun z:Int=>(i64 z:AV)) wr,trivial⟩ rfl (by decide) (by decide) rfl rfl rfl rfl (by simp)
     · have q4:done=false:=q4
       have hs2:=hs1y (by rw [hitB,q1,q2,q3,q4];rfl)
       refine bZ (fun h9=>?_) (fun h9=>?_)
       · have h9:x.o=9:=by simpa using h9
         refine bZ (fun hne=>?_) (fun hne=>?_)
         · have hne:x.x≠x.y:=by
            have hne:(x.x != x.y)=true:=hne
            simpa using hne
           refine AtR.mk' [0,1,4] 5 (i+1,.s2 x.w) ⟨⟨hlt,by rw [hs2,efStep,if_pos ⟨h9,hne⟩]⟩,by dsimp only;omega⟩ rfl ⟨rfl,rfl,rfl,rfl,rfl,rfl,rfl,rfl,rfl,rfl,congrArg (fun z:Int=>(i64 z:AV)) wr,trivial⟩ rfl (by decide) (by decide) rfl rfl rfl rfl (by simp)
         · have hne:x.x=x.y:=by
            have hne:(x.x != x.y)=false:=hne
            simpa using hne
           refine AtR.mk' [0,1,4] 5 (i+1,.s1 x.w) ⟨⟨hlt,by rw [hs2,efStep,if_neg fun h=>h.2 hne]⟩,by dsimp only;omega⟩ rfl ⟨rfl,rfl,rfl,rfl,rfl,rfl,rfl,rfl,rfl,rfl,congrArg (fun z:Int=>(i64 z:AV)) wr,trivial⟩ rfl (by decide) (by decide) rfl rfl rfl rfl (by simp)
       · have h9:x.o≠9:=by simpa using h9
         refine AtR.mk' [0,1,4] 5 (i+1,.s1 x.w) ⟨⟨hlt,by rw [hs2,efStep,if_neg fun h=>h9 h.1]⟩,by dsimp only;omega⟩ rfl ⟨rfl,rfl,rfl,rfl,rfl,rfl,rfl,rfl,rfl,rfl,congrArg (fun z:Int=>(i64 z:AV)) wr,trivial⟩ rfl (by decide) (by decide) rfl rfl rfl rfl (by simp)
   · have hlt:¬i<n:=by
      have:=oFa hlt
      have:¬(i:Int)<(n:Int):=this
      omega
     obtain rfl:i=n:=by omega
     rw [List.take_of_length_le (by omega)] at hs
     have he:effZ t k w acts frm tz done=efPts t k w done (efRun t frm tz done acts):=rfl
     rw [←hs] at he
     refine SS.inlR ?_
     refine bZ (fun hd=>?_) (fun hd=>?_)
     · have hd:done=true:=hd
       refine at2 (by decide) (by decide) (rd1 (rowZ v) (.int .i64 v) rfl rfl ?_)
       exact ⟨5,[0,4],_,_,rfl,rfl,by decide,by decide,rfl,rfl,rfl,rfl,rfl,hone ⟨v,t,k,false⟩ (by rw [he,efPts];rw [if_pos hd])⟩

     · have hd:¬done=true:=by
        have hd:done=false:=hd
        rw [hd];decide
       exact ⟨1,[0],_,_,rfl,rfl,by decide,by decide,rfl,rfl,rfl,rfl,rfl,hnil (by rw [he,efPts,if_neg hd])⟩
 | s2 v =>
   refine S_r ?_
   refine bZ (fun hlt=>?_) (fun hlt=>?_)
   · have hlt:i<n:=by
      have:=oTr hlt
      have:(i:Int)<(n:Int):=this
      omega
     have wr:IntKind.i64.wrap ((i:Int)+1)=((i+1:Nat):Int):=by omega
     obtain ⟨x,hx⟩ : ∃ x,acts[i]? = some x:=⟨_,List.getElem?_eq_getElem (by omega)⟩
     have hxa:(acts.map rowAct)[0+Int.toNat (i:Int)]? = some (rowAct x):=by rw [Nat.zero_add,Int.toNat_natCast,List.getElem?_map,hx];rfl
     have hs1:=efRun_take (t:=t) (frm:=frm) (tz:=tz) (done:=done) hx
     rw [←hs] at hs1
     have hs1n:hitB t frm tz done x=false→(.s2 v)=efRun t frm tz done (acts.take (i+1)):=fun h=>by rw [hs1,h];rfl
     have hs1y:hitB t frm tz done x=true→efRun t frm tz done (acts.take (i+1))=efStep (.s2 v) x:=fun h=>by rw [hs1,h];rfl
     refine SS.inlR ?_
     refine at2 (a:=(0:Int)≤(i:Int)) (b:=(i:Int)<(n:Int)) (by omega) (by omega) (rdA (rowAct x) hxa ?_)
     refine bZ (fun q1=>?_) (fun q1=>?_)
     · have q1:(x.t == t)=false:=by
        have q1:(x.t != t)=true:=q1
        rw [bne,Bool.not_eq_true'] at q1
        exact q1
       refine AtR.mk' [0,1,2] 4 (i+1,_) ⟨⟨hlt,hs1n (by rw [hitB,q1];rfl)⟩,by dsimp only;omega⟩ rfl ⟨rfl,rfl,rfl,rfl,rfl,rfl,rfl,rfl,rfl,rfl,congrArg (fun z:Int=>(i64 z:AV)) wr,trivial⟩ rfl (by decide) (by decide) rfl rfl rfl rfl (by simp)
     have q1:(x.t == t)=true:=by
      have q1:(x.t != t)=false:=q1
      rw [bne,Bool.not_eq_false'] at q1
      exact q1
     refine bZ (fun q2=>?_) (fun q2=>?_)
     · have q2:(x.c == 0)=false:=by
        have q2:(x.c != 0)=true:=q2
        rw [bne,Bool.not_eq_true'] at q2
        exact q2
       refine AtR.mk' [0,1,2] 4 (i+1,_) ⟨⟨hlt,hs1n (by rw [hitB,q1,q2];rfl)⟩,by dsimp only;omega⟩ rfl ⟨rfl,rfl,rfl,rfl,rfl,rfl,rfl,rfl,rfl,rfl,congrArg (fun z:Int=>(i64 z:AV)) wr,trivial⟩ rfl (by decide) (by decide) rfl rfl rfl rfl (by simp)
     have q2:(x.c == 0)=true:=by
      have q2:(x.c != 0)=false:=q2
      rw [bne,Bool.not_eq_false'] at q2
      exact q2
     refine bZ (fun q3=>?_) (fun q3=>?_)
     · have q3:decide (frm<x.w)=false:=by
        have q3:=oTr q3
        have q3:x.w≤frm:=q3
        exact decide_eq_false (by omega)
       refine AtR.mk' [0,1,2] 4 (i+1,_) ⟨⟨hlt,hs1n (by rw [hitB,q1,q2,q3];rfl)⟩,by dsimp only;omega⟩ rfl ⟨rfl,rfl,rfl,rfl,rfl,rfl,rfl,rfl,rfl,rfl,congrArg (fun z:Int=>(i64 z:AV)) wr,trivial⟩ rfl (by decide) (by decide) rfl rfl rfl rfl (by simp)
     have q3:decide (frm<x.w)=true:=by
      have q3:=oFa q3
      have q3:¬x.w≤frm:=q3
      exact decide_eq_true (by omega)
     refine bZ (fun q4=>?_) (fun q4=>?_)
     · have q4:done=true:=q4
       refine bZ (fun q5=>?_) (fun q5=>?_)
       · have q5:decide (x.w≥tz)=true:=q5
         refine AtR.mk' [0,1,2] 4 (i+1,_) ⟨⟨hlt,hs1n (by rw [hitB,q1,q2,q3,q4,q5];rfl)⟩,by dsimp only;omega⟩ rfl ⟨rfl,rfl,rfl,rfl,rfl,rfl,rfl,rfl,rfl,rfl,congrArg (fun z:Int=>(i64 z:AV)) wr,trivial⟩ rfl (by decide) (by decide) rfl rfl rfl rfl (by simp)
       · have q5:decide (x.w≥tz)=false:=q5
         have hs2:=hs1y (by rw [hitB,q1,q2,q3,q4,q5];rfl)
         refine bZ (fun h9=>?_) (fun h9=>?_)
         · have h9:x.o=9:=by simpa using h9
           refine bZ (fun hne=>?_) (fun hne=>?_)
           · have hne:x.x≠x.y:=by
              have hne:(x.x != x.y)=true:=hne
              simpa using hne
             refine AtR.mk' [0,1,4] 5 (i+1,.s2 x.w) ⟨⟨hlt,by rw [hs2,efStep,if_pos ⟨h9,hne⟩]⟩,by dsimp only;omega⟩ rfl ⟨rfl,rfl,rfl,rfl,rfl,rfl,rfl,rfl,rfl,rfl,congrArg (fun z:Int=>(i64 z:AV)) wr,trivial⟩ rfl (by decide) (by decide) rfl rfl rfl rfl (by simp)
           · have hne:x.x=x.y:=by
              have hne:(x.x != x.y)=false:=hne
              simpa using hne
             refine AtR.mk' [0,1,2,4] 5 (i+1,.s3 v x.w) ⟨⟨hlt,by rw [hs2,efStep,if_neg fun h=>h.2 hne]⟩,by dsimp only;omega⟩ rfl ⟨rfl,rfl,rfl,rfl,rfl,rfl,rfl,rfl,rfl,rfl,congrArg (fun z:Int=>(i64 z:AV)) wr,trivial⟩ rfl (by decide) (by decide) rfl rfl rfl rfl (by simp)
         · have h9:x.o≠9:=by simpa using h9
           refine AtR.mk' [0,1,2,4] 5 (i+1,.s3 v x.w) ⟨⟨hlt,by rw [hs2,efStep,if_neg fun h=>h9 h.1]⟩,by dsimp only;omega⟩ rfl ⟨rfl,rfl,rfl,rfl,rfl,rfl,rfl,rfl,rfl,rfl,congrArg (fun z:Int=>(i64 z:AV)) wr,trivial⟩ rfl (by decide) (by decide) rfl rfl rfl rfl (by simp)
     · have q4:done=false:=q4
       have hs2:=hs1y (by rw [hitB,q1,q2,q3,q4];rfl)
       refine bZ (fun h9=>?_) (fun h9=>?_)
       · have h9:x.o=9:=by simpa using h9
         refine bZ (fun hne=>?_) (fun hne=>?_)
         · have hne:x.x≠x.y:=by
            have hne:(x.x != x.y)=true:=hne
            simpa using hne
           refine AtR.mk' [0,1,4] 5 (i+1,.s2 x.w) ⟨⟨hlt,by rw [hs2,efStep,if_pos ⟨h9,hne⟩]⟩,by dsimp only;omega⟩ rfl ⟨rfl,rfl,rfl,rfl,rfl,rfl,rfl,rfl,rfl,rfl,congrArg (fun z:Int=>(i64 z:AV)) wr,trivial⟩ rfl (by decide) (by decide) rfl rfl rfl rfl (by simp)
         · have hne:x.x=x.y:=by
            have hne:(x.x != x.y)=false:=hne
            simpa using hne
           refine AtR.mk' [0,1,2,4] 5 (i+1,.s3 v x.w) ⟨⟨hlt,by rw [hs2,efStep,if_neg fun h=>h.2 hne]⟩,by dsimp only;omega⟩ rfl ⟨rfl,rfl,rfl,rfl,rfl,rfl,rfl,rfl,rfl,rfl,congrArg (fun z:Int=>(i64 z:AV)) wr,trivial⟩ rfl (by decide) (by decide) rfl rfl rfl rfl (by simp)
       · have h9:x.o≠9:=by simpa using h9
         refine AtR.mk' [0,1,2,4] 5 (i+1,.s3 v x.w) ⟨⟨hlt,by rw [hs2,efStep,if_neg fun h=>h9 h.1]⟩,by dsimp only;omega⟩ rfl ⟨rfl,rfl,rfl,rfl,rfl,rfl,rfl,rfl,rfl,rfl,congrArg (fun z:Int=>(i64 z:AV)) wr,trivial⟩ rfl (by decide) (by decide) rfl rfl rfl rfl (by simp)
   · have hlt:¬i<n:=by
      have:=oFa hlt
      have:¬(i:Int)<(n:Int):=this
      omega
     obtain rfl:i=n:=by omega
     rw [List.take_of_length_le (by omega)] at hs
     have he:effZ t k w acts frm tz done=efPts t k w done (efRun t frm tz done acts):=rfl
     rw [←hs] at he
     refine SS.inlR ?_
     refine bZ (fun h9=>?_) (fun h9=>?_)
     · have h9:w=9:=by simpa using h9
       refine bZ (fun hd=>?_) (fun hd=>?_)
       · have hd:done=true:=hd
         refine SS.drawR follows (by decide) ?_
         refine at2 (by decide) (by decide) (rd1 (rowZ v) (.int .i64 v) rfl rfl ?_)
         refine at2 (by decide) (by decide) (rd1 (rowZ v) (.int .i64 v) rfl rfl ?_)
         repeat' (first | refine And.intro rfl ?_ | refine And.intro (And.intro (Int.le_refl 0) (And.intro Int.zero_lt_one rfl)) ?_ | refine And.intro (Exists.intro _ (Exists.intro _ (And.intro rfl (And.intro rfl rfl)))) ?_ | fail)
         exact ⟨6,[0,5],_,_,rfl,rfl,by decide,by decide,rfl,rfl,rfl,rfl,rfl,htwo ⟨v,t,k,false⟩ ⟨v,t,k,true⟩ (by rw [he,efPts,if_pos ⟨h9,hd⟩])⟩
       · have hd:¬(w=9∧done=true):=fun h=>by
          have hd:done=false:=hd
          rw [hd] at h
          cases h.2
         refine at2 (by decide) (by decide) (rd1 (rowZ v) (.int .i64 v) rfl rfl ?_)
         exact ⟨5,[0,4],_,_,rfl,rfl,by decide,by decide,rfl,rfl,rfl,rfl,rfl,hone ⟨v,t,k,false⟩ (by rw [he,efPts];rw [if_neg hd])⟩

     · have hd:¬(w=9∧done=true):=fun h=>by
        have h9:¬w=9:=by simpa using h9
        exact h9 h.1
       refine at2 (by decide) (by decide) (rd1 (rowZ v) (.int .i64 v) rfl rfl ?_)
       exact ⟨5,[0,4],_,_,rfl,rfl,by decide,by decide,rfl,rfl,rfl,rfl,rfl,hone ⟨v,t,k,false⟩ (by rw [he,efPts];rw [if_neg hd])⟩
 | s3 c v =>
   refine S_r ?_
   refine bZ (fun hlt=>?_) (fun hlt=>?_)
   · have hlt:i<n:=by
      have:=oTr hlt
      have:(i:Int)<(n:Int):=this
      omega
     have wr:IntKind.i64.wrap ((i:Int)+1)=((i+1:Nat):Int):=by omega
     obtain ⟨x,hx⟩ : ∃ x,acts[i]? = some x:=⟨_,List.getElem?_eq_getElem (by omega)⟩
     have hxa:(acts.map rowAct)[0+Int.toNat (i:Int)]? = some (rowAct x):=by rw [Nat.zero_add,Int.toNat_natCast,List.getElem?_map,hx];rfl
     have hs1:=efRun_take (t:=t) (frm:=frm) (tz:=tz) (done:=done) hx
     rw [←hs] at hs1
     have hs1n:hitB t frm tz done x=false→(.s3 c v)=efRun t frm tz done (acts.take (i+1)):=fun h=>by rw [hs1,h];rfl
     have hs1y:hitB t frm tz done x=true→efRun t frm tz done (acts.take (i+1))=efStep (.s3 c v) x:=fun h=>by rw [hs1,h];rfl
     refine SS.inlR ?_
     refine at2 (a:=(0:Int)≤(i:Int)) (b:=(i:Int)<(n:Int)) (by omega) (by omega) (rdA (rowAct x) hxa ?_)
     refine bZ (fun q1=>?_) (fun q1=>?_)
     · have q1:(x.t == t)=false:=by
        have q1:(x.t != t)=true:=q1
        rw [bne,Bool.not_eq_true'] at q1
        exact q1
       refine AtR.mk' [0,1,2,3] 5 (i+1,_) ⟨⟨hlt,hs1n (by rw [hitB,q1];rfl)⟩,by dsimp only;omega⟩ rfl ⟨rfl,rfl,rfl,rfl,rfl,rfl,rfl,rfl,rfl,rfl,congrArg (fun z:Int=>(i64 z:AV)) wr,trivial⟩ rfl (by decide) (by decide) rfl rfl rfl rfl (by simp)
     have q1:(x.t == t)=true:=by
      have q1:(x.t != t)=false:=q1
      rw [bne,Bool.not_eq_false'] at q1
      exact q1
     refine bZ (fun q2=>?_) (fun q2=>?_)
     · have q2:(x.c == 0)=false:=by
        have q2:(x.c != 0)=true:=q2
        rw [bne,Bool.not_eq_true'] at q2
        exact q2
       refine AtR.mk' [0,1,2,3] 5 (i+1,_) ⟨⟨hlt,hs1n (by rw [hitB,q1,q2];rfl)⟩,by dsimp only;omega⟩ rfl ⟨rfl,rfl,rfl,rfl,rfl,rfl,rfl,rfl,rfl,rfl,congrArg (fun z:Int=>(i64 z:AV)) wr,trivial⟩ rfl (by decide) (by decide) rfl rfl rfl rfl (by simp)
     have q2:(x.c == 0)=true:=by
      have q2:(x.c != 0)=false:=q2
      rw [bne,Bool.not_eq_false'] at q2
      exact q2
     refine bZ (fun q3=>?_) (fun q3=>?_)
     · have q3:decide (frm<x.w)=false:=by
        have q3:=oTr q3
        have q3:x.w≤frm:=q3
        exact decide_eq_false (by omega)
       refine AtR.mk' [0,1,2,3] 5 (i+1,_) ⟨⟨hlt,hs1n (by rw [hitB,q1,q2,q3];rfl)⟩,by dsimp only;omega⟩ rfl ⟨rfl,rfl,rfl,rfl,rfl,rfl,rfl,rfl,rfl,rfl,congrArg (fun z:Int=>(i64 z:AV)) wr,trivial⟩ rfl (by decide) (by decide) rfl rfl rfl rfl (by simp)
     have q3:decide (frm<x.w)=true:=by
      have q3:=oFa q3
      have q3:¬x.w≤frm:=q3
      exact decide_eq_true (by omega)
     refine bZ (fun q4=>?_) (fun q4=>?_)
     · have q4:done=true:=q4
       refine bZ (fun q5=>?_) (fun q5=>?_)
       · have q5:decide (x.w≥tz)=true:=q5
         refine AtR.mk' [0,1,2,3] 5 (i+1,_) ⟨⟨hlt,hs1n (by rw [hitB,q1,q2,q3,q4,q5];rfl)⟩,by dsimp only;omega⟩ rfl ⟨rfl,rfl,rfl,rfl,rfl,rfl,rfl,rfl,rfl,rfl,congrArg (fun z:Int=>(i64 z:AV)) wr,trivial⟩ rfl (by decide) (by decide) rfl rfl rfl rfl (by simp)
       · have q5:decide (x.w≥tz)=false:=q5
         have hs2:=hs1y (by rw [hitB,q1,q2,q3,q4,q5];rfl)
         refine bZ (fun h9=>?_) (fun h9=>?_)
         · have h9:x.o=9:=by simpa using h9
           refine bZ (fun hne=>?_) (fun hne=>?_)
           · have hne:x.x≠x.y:=by
              have hne:(x.x != x.y)=true:=hne
              simpa using hne
             refine AtR.mk' [0,1,5] 6 (i+1,.s2 x.w) ⟨⟨hlt,by rw [hs2,efStep,if_pos ⟨h9,hne⟩]⟩,by dsimp only;omega⟩ rfl ⟨rfl,rfl,rfl,rfl,rfl,rfl,rfl,rfl,rfl,rfl,congrArg (fun z:Int=>(i64 z:AV)) wr,trivial⟩ rfl (by decide) (by decide) rfl rfl rfl rfl (by simp)
           · have hne:x.x=x.y:=by
              have hne:(x.x != x.y)=false:=hne
              simpa using hne
             refine AtR.mk' [0,1,2,5] 6 (i+1,.s3 c x.w) ⟨⟨hlt,by rw [hs2,efStep,if_neg fun h=>h.2 hne]⟩,by dsimp only;omega⟩ rfl ⟨rfl,rfl,rfl,rfl,rfl,rfl,rfl,rfl,rfl,rfl,congrArg (fun z:Int=>(i64 z:AV)) wr,trivial⟩ rfl (by decide) (by decide) rfl rfl rfl rfl (by simp)
         · have h9:x.o≠9:=by simpa using h9
           refine AtR.mk' [0,1,2,5] 6 (i+1,.s3 c x.w) ⟨⟨hlt,by rw [hs2,efStep,if_neg fun h=>h9 h.1]⟩,by dsimp only;omega⟩ rfl ⟨rfl,rfl,rfl,rfl,rfl,rfl,rfl,rfl,rfl,rfl,congrArg (fun z:Int=>(i64 z:AV)) wr,trivial⟩ rfl (by decide) (by decide) rfl rfl rfl rfl (by simp)
     · have q4:done=false:=q4
       have hs2:=hs1y (by rw [hitB,q1,q2,q3,q4];rfl)
       refine bZ (fun h9=>?_) (fun h9=>?_)
       · have h9:x.o=9:=by simpa using h9
         refine bZ (fun hne=>?_) (fun hne=>?_)
         · have hne:x.x≠x.y:=by
            have hne:(x.x != x.y)=true:=hne
            simpa using hne
           refine AtR.mk' [0,1,5] 6 (i+1,.s2 x.w) ⟨⟨hlt,by rw [hs2,efStep,if_pos ⟨h9,hne⟩]⟩,by dsimp only;omega⟩ rfl ⟨rfl,rfl,rfl,rfl,rfl,rfl,rfl,rfl,rfl,rfl,congrArg (fun z:Int=>(i64 z:AV)) wr,trivial⟩ rfl (by decide) (by decide) rfl rfl rfl rfl (by simp)
         · have hne:x.x=x.y:=by
            have hne:(x.x != x.y)=false:=hne
            simpa using hne
           refine AtR.mk' [0,1,2,5] 6 (i+1,.s3 c x.w) ⟨⟨hlt,by rw [hs2,efStep,if_neg fun h=>h.2 hne]⟩,by dsimp only;omega⟩ rfl ⟨rfl,rfl,rfl,rfl,rfl,rfl,rfl,rfl,rfl,rfl,congrArg (fun z:Int=>(i64 z:AV)) wr,trivial⟩ rfl (by decide) (by decide) rfl rfl rfl rfl (by simp)
       · have h9:x.o≠9:=by simpa using h9
         refine AtR.mk' [0,1,2,5] 6 (i+1,.s3 c x.w) ⟨⟨hlt,by rw [hs2,efStep,if_neg fun h=>h9 h.1]⟩,by dsimp only;omega⟩ rfl ⟨rfl,rfl,rfl,rfl,rfl,rfl,rfl,rfl,rfl,rfl,congrArg (fun z:Int=>(i64 z:AV)) wr,trivial⟩ rfl (by decide) (by decide) rfl rfl rfl rfl (by simp)
   · have hlt:¬i<n:=by
      have:=oFa hlt
      have:¬(i:Int)<(n:Int):=this
      omega
     obtain rfl:i=n:=by omega
     rw [List.take_of_length_le (by omega)] at hs
     have he:effZ t k w acts frm tz done=efPts t k w done (efRun t frm tz done acts):=rfl
     rw [←hs] at he
     refine SS.inlR ?_
     refine bZ (fun h9=>?_) (fun h9=>?_)
     · have h9:w=9:=by simpa using h9
       refine bZ (fun hd=>?_) (fun hd=>?_)
       · have hd:done=true:=hd
         refine SS.drawR follows (by decide) ?_
         refine at2 (by decide) (by decide) (rd1 (rowZ c) (.int .i64 c) rfl rfl ?_)
         refine at2 (by decide) (by decide) (rd1 (rowZ v) (.int .i64 v) rfl rfl ?_)
         repeat' (first | refine And.intro rfl ?_ | refine And.intro (And.intro (Int.le_refl 0) (And.intro Int.zero_lt_one rfl)) ?_ | refine And.intro (Exists.intro _ (Exists.intro _ (And.intro rfl (And.intro rfl rfl)))) ?_ | fail)
         exact ⟨7,[0,6],_,_,rfl,rfl,by decide,by decide,rfl,rfl,rfl,rfl,rfl,htwo ⟨c,t,k,false⟩ ⟨v,t,k,true⟩ (by rw [he,efPts,if_pos ⟨h9,hd⟩])⟩
       · have hd:¬(w=9∧done=true):=fun h=>by
          have hd:done=false:=hd
          rw [hd] at h
          cases h.2
         refine at2 (by decide) (by decide) (rd1 (rowZ c) (.int .i64 c) rfl rfl ?_)
         exact ⟨6,[0,5],_,_,rfl,rfl,by decide,by decide,rfl,rfl,rfl,rfl,rfl,hone ⟨c,t,k,false⟩ (by rw [he,efPts];rw [if_neg hd])⟩

     · have hd:¬(w=9∧done=true):=fun h=>by
        have h9:¬w=9:=by simpa using h9
        exact h9 h.1
       refine at2 (by decide) (by decide) (rd1 (rowZ c) (.int .i64 c) rfl rfl ?_)
       exact ⟨6,[0,5],_,_,rfl,rfl,by decide,by decide,rfl,rfl,rfl,rfl,rfl,hone ⟨c,t,k,false⟩ (by rw [he,efPts];rw [if_neg hd])⟩

end
end
end Go.Mac
end
