/- Texts that belong together; the first of them:  -/
import Derived.Test.YtollgfhpcidkgaaGreatDoorA11
import Derived.Test.YtollgfhpcidkgaaGreatDoorA3
import Derived.Test.YtollgfhpcidkgaaGreatDoorA7
import Derived.Test.YtollgfhpcidkgaaGreatDoorA9

section
open Go Go.Proofs Go.Mac
set_option maxRecDepth 100000
namespace Go.Mac
section
def sweepS (p:MZ×Bool) (t:Nat):MZ×Bool:=if canZ p.1 (t:Int)=true∧p.1.k<20000 then ((stepZ p.1 (t:Int)).2,true) else p
def sweepN (m:MZ) (n:Nat):MZ×Bool:=(List.range n).foldl sweepS (m,false)

theorem sweepN_succ (m:MZ) (n:Nat):sweepN m (n+1)=sweepS (sweepN m n) n:=by
 rw [sweepN,List.range_succ,List.foldl_append]
 rfl

def finZ:Nat→MZ→MZ
 | 0,m=>m
 | f+1,m=>if (sweepN m m.ts.length).2=true then finZ f (sweepN m m.ts.length).1 else (sweepN m m.ts.length).1

theorem can_step {m:MZ} {t:Nat} (h:canZ m (t:Int)=true) (hk:m.k<20000):(stepZ m (t:Int)).2.k=m.k+1:=by
 simp only [canZ,Bool.and_eq_true,decide_eq_true_eq,Bool.not_eq_true',Int.toNat_natCast] at h
 have e:stepZ m (t:Int)=goZ m (t:Int).toNat:=(if_neg (by omega)).trans ((if_neg (by rw [Int.toNat_natCast,h.1.2];decide)).trans ((if_neg (by rw [h.2];decide)).trans (if_neg (by omega))))
 rw [e,goZ,doZ]
 split
 · rfl
 · split
   · rename_i m' hf
     have:∀ (m m':MZ) (t:Nat) (x:ThZ) (i:InsZ),farZ m t x i=some m'→m'.k=m.k:=by
      intro m m' t x i hf
      unfold farZ at hf
      repeat' (split at hf)
      all_goals first | (obtain rfl:=Option.some.inj hf;first | rfl | (split <;> rfl)) | cases hf
     rw [this _ _ _ _ _ hf]
     rfl
   · rfl

structure Swept (m m':MZ) (b:Bool):Prop where
 wf:WF m'
 n:m'.ts.length=m.ts.length
 ps:m'.ps=m.ps
 nc:m'.nc=m.nc
 k:m.k≤m'.k
 up:b=true→m.k<m'.k

theorem step_ts (m:MZ) (t:Int):(stepZ m t).2.ts.length=m.ts.length:=by
 have far:∀ (m m':MZ) (t:Nat) (x:ThZ) (i:InsZ),farZ m t x i=some m'→m'.ts.length=m.ts.length:=by
  intro m m' t x i hf
  unfold farZ at hf
  repeat' (split at hf)
  all_goals first | (obtain rfl:=Option.some.inj hf;first | rfl | (split <;> rfl) | simp [MZ.act,MZ.th]) | cases hf
 unfold stepZ
 repeat (split;· rfl)
 rw [goZ,doZ]
 split
 · simp [MZ.th,onZ]
 · split
   · rename_i m' hf
     have:=far _ _ _ _ _ hf
     dsimp only
     rw [this]
     simp [onZ,MZ.th]
   · simp [MZ.th,onZ]

theorem sweepN_ok {m:MZ} (hw:WF m):∀ n,Swept m (sweepN m n).1 (sweepN m n).2
 | 0=>⟨hw,rfl,rfl,rfl,Nat.le_refl _,fun h=>by cases h⟩
 | n+1=>by
   have ih:=sweepN_ok hw n
   rw [sweepN_succ,sweepS]
   split
   · rename_i h
     have hk:=can_step h.1 h.2
     have hle:=ih.k
     exact ⟨ih.wf.step _,(step_ts _ _).trans ih.n,(step_ps _ _).1.trans ih.ps,(step_ps _ _).2.trans ih.nc,by dsimp only;omega,fun _=>by dsimp only;omega⟩
   · exact ih

theorem finZ_fuel:∀ (f g:Nat) (m:MZ),WF m→20001≤f+m.k→20001≤g+m.k→finZ f m=finZ g m
 | 0,_,m,hw,h,_=>by have:=hw.k;omega
 | _+1,0,m,hw,_,h=>by have:=hw.k;omega
 | f+1,g+1,m,hw,h1,h2=>by
   have hs:=sweepN_ok hw m.ts.length
   rw [finZ,finZ]
   by_cases hb:(sweepN m m.ts.length).2=true
   · rw [if_pos hb,if_pos hb]
     have:=hs.up hb
     exact finZ_fuel f g _ hs.wf (by omega) (by omega)
   · rw [if_neg hb,if_neg hb]

def finish (m:MZ):MZ:=finZ 20001 m

theorem finish_step {m:MZ} (hw:WF m):finish m=if (sweepN m m.ts.length).2=true then finish (sweepN m m.ts.length).1 else (sweepN m m.ts.length).1:=by
 have hs:=sweepN_ok hw m.ts.length
 rw [finish,finZ]
 split
 · rename_i hb
   have:=hs.up hb
   exact finZ_fuel _ _ _ hs.wf (by omega) (by omega)
 · rfl

def fin2:Nat→MZ→Option MZ
 | 0,_=>none
 | f+1,m=>if (sweepN m m.ts.length).2=true then fin2 f (sweepN m m.ts.length).1 else some (sweepN m m.ts.length).1

theorem finish_of:∀ (f:Nat) (m m':MZ),WF m→fin2 f m=some m'→finish m=m'
 | 0,_,_,_,h=>by cases h
 | f+1,m,m',hw,h=>by
   have hs:=sweepN_ok hw m.ts.length
   rw [finish_step hw]
   rw [fin2] at h
   by_cases hb:(sweepN m m.ts.length).2=true
   · rw [if_pos hb] at h ⊢
     exact finish_of f _ _ hs.wf h
   · rw [if_neg hb] at h ⊢
     exact Option.some.inj h

def finB (f:Nat) (m:MZ) (p:MZ→Bool):Bool:=match fin2 f m with
 | some m'=>p m'
 | none=>false

theorem finB_ok {f:Nat} {m:MZ} {p:MZ→Bool} (hw:WF m) (h:finB f m p=true):p (finish m)=true:=by
 rw [finB] at h
 split at h
 · rename_i m' e
   rw [finish_of f m m' hw e]
   exact h
 · cases h

section

variable {K:KP} {m:MZ} {v:VZ}

theorem coreThreads (h:K (i64 m.ps.length) [] (machH m v)):Does Tryz.prog 121 [cv (.ptr 0 0)] (machH m v) K:=by
 refine does Tryz.func121 rfl (by decide) ?_
 exact h

theorem coreSteps2 (h:∀ x:Int,x=m.k→K (i64 x) [] (machH m v)):Does Tryz.prog 144 [cv (.ptr 0 0)] (machH m v) K:=coreSteps (h _ rfl)

theorem fairFinishN (hw:WF m) (hv:okV v) (h:∀ (v':VZ) (n:Int),okV v'→WF (finish m)→n=IntKind.i64.wrap (((finish m).k:Int)-m.k)→K (i64 n) [6,7,8] (machH (finish m) v')):Does Tryz.prog 117 [cv (.ptr 0 0)] (machH m v) K:=by
 refine does Tryz.func117 rfl (by decide) ?_
 change Does Tryz.prog 144 _ _ _
 refine coreSteps ?_
 refine SS.loop (fun p:MZ×Bool×VZ=>WF p.1∧okV p.2.2∧(p.2.1=true→finish p.1=finish m)∧(p.2.1=false→p.1=finish m)) (fun p=>[(0,cv (.ptr 0 0)),(3,i64 m.k),(4,bl p.2.1)]) (fun p=>machH p.1 p.2.2) (fun p=>2*(20000-p.1.k)+if p.2.1=true then 1 else 0) [6,7,8]
  (At.mk' [0,3,4] (m,true,v) ⟨hw,hv,fun _=>rfl,fun h=>by cases h⟩ ⟨rfl,rfl⟩ rfl rfl (by simp) (by simp) (by simp)) ?_
 rintro ⟨m1,b,v1⟩ ⟨hw1,hv1,hb1,hb2⟩
 change WF m1 at hw1
 change okV v1 at hv1
 change b=true→finish m1=finish m at hb1
 change b=false→m1=finish m at hb2
 refine S_r ?_
 refine bZ (fun hb=>?_) (fun hb=>?_)
 · have hfin:=hb1 hb
   subst hb
   rw [finish_step hw1] at hfin
   have hps:=hw1.ps
   change Does Tryz.prog 121 _ _ _
   refine coreThreads ?_
   refine SS.loop (fun p:Nat×MZ×Bool×VZ=>p.1≤m1.ts.length∧okV p.2.2.2∧sweepN m1 p.1=(p.2.1,p.2.2.1)) (fun p=>[(0,cv (.ptr 0 0)),(3,i64 m.k),(4,bl p.2.2.1),(10,i64 m1.ps.length),(11,i64 p.1)]) (fun p=>machH p.2.1 p.2.2.2) (fun p=>m1.ts.length-p.1) [6,7,8]
    (At.mk' [0,3,4,10,11] (0,m1,false,v1) ⟨by simp,hv1,rfl⟩ ⟨rfl,rfl⟩ rfl rfl (by simp) (by simp) (by simp)) ?_
   rintro ⟨i,m2,b2,v2⟩ ⟨hi,hv2,heq⟩
   change i≤m1.ts.length at hi
   change okV v2 at hv2
   change sweepN m1 i=(m2,b2) at heq
   have hs:=sweepN_ok hw1 i
   have hsu:=sweepN_succ m1 i
   rw [heq] at hs hsu
   have hn:=hw1.n
   have hw2:WF m2:=hs.wf
   refine S_r ?_
   refine bZ (fun hlt=>?_) (fun hlt=>?_)
   · have hlt:i<m1.ts.length:=by
      have:=oTr hlt
      have:(i:Int)<(m1.ps.length:Int):=this
      omega
     refine SS.inlR ?_
     change Does Tryz.prog 171 _ _ _
     refine coreCan hw2 i ?_
     refine bZ (fun hc=>?_) (fun hc=>?_)
     · change Does Tryz.prog 144 _ _ _
       refine coreSteps2 fun kx hkx=>?_
       refine bZ (fun hk=>?_) (fun hk=>?_)
       · have hk:m2.k<20000:=by
          have:kx<20000:=oTr hk
          omega
         have hnew:sweepN m1 (i+1)=((stepZ m2 i).2,true):=by rw [hsu,sweepS,if_pos ⟨hc,hk⟩]
         change Does Tryz.prog 143 _ _ _
         refine coreStep hw2 hv2 i (fun _ v3 hv3=>?_) fun _ v3 hv3=>?_
         all_goals
          generalize (stepZ m2 i).2=m3 at hnew ⊢
          refine At.mk' [0,3,4,10,11] (i+1,m3,true,v3) ⟨⟨by show i+1≤m1.ts.length;omega,hv3,hnew⟩,by show m1.ts.length-(i+1)<m1.ts.length-i;omega⟩ ⟨?_,rfl⟩ rfl rfl (by simp) (by simp) (by decide)
          rw [wrap_i64 (i+1) (by omega) (by omega)]
          rfl
       · have hk:¬m2.k<20000:=by
          have:¬kx<20000:=oFa hk
          omega
         refine At.mk' [0,3,4,10,11] (i+1,m2,b2,v2) ⟨⟨by show i+1≤m1.ts.length;omega,hv2,by show sweepN m1 (i+1)=(m2,b2);rw [hsu,sweepS,if_neg (fun h=>hk h.2)]⟩,by show m1.ts.length-(i+1)<m1.ts.length-i;omega⟩ ⟨?_,rfl⟩ rfl rfl (by simp) (by simp) (by decide)
         rw [wrap_i64 (i+1) (by omega) (by omega)]
         rfl
     · refine At.mk' [0,3,4,10,11] (i+1,m2,b2,v2) ⟨⟨by show i+1≤m1.ts.length;omega,hv2,by show sweepN m1 (i+1)=(m2,b2);rw [hsu,sweepS,if_neg (fun h=>by rw [show canZ m2 (i:Int)=true from h.1] at hc;cases hc)]⟩,by show m1.ts.length-(i+1)<m1.ts.length-i;omega⟩ ⟨?_,rfl⟩ rfl rfl (by simp) (by simp) (by decide)
       rw [wrap_i64 (i+1) (by omega) (by omega)]
       rfl
   · have hlt:¬(i:Int)<(m1.ps.length:Int):=oFa hlt
     obtain rfl:i=m1.ts.length:=by omega
     rw [heq] at hfin
     dsimp only at hfin
     have hk1:b2=true→m1.k<m2.k:=hs.up
     have hk2:m1.k≤m2.k:=hs.k
     have hk3:=hw2.k
     refine At.mk' [0,3,4] (m2,b2,v2) ⟨⟨hw2,hv2,fun h=>?_,fun h=>?_⟩,?_⟩ ⟨rfl,rfl⟩ rfl rfl (by simp) (by simp) (by decide)
     · change b2=true at h
       rw [if_pos h] at hfin
       exact hfin
     · change b2=false at h
       rw [if_neg (by rw [h];decide)] at hfin
       exact hfin
     · show 2*(20000-m2.k)+(if b2=true then 1 else 0)<2*(20000-m1.k)+(if true=true then 1 else 0)
       rw [if_pos rfl]
       split
       · rename_i h
         have:=hk1 h
         omega
       · omega
 · have hm:=hb2 hb
   change Does Tryz.prog 144 _ _ _
   refine coreSteps ?_
   have:=h v1 (IntKind.i64.wrap ((m1.k:Int)-m.k)) hv1 (hm ▸ hw1) (by rw [hm])
   rw [←hm] at this
   exact this

end
end
section
def pokeZ (m:MZ) (t:Int):MZ:={ m with ss:=m.ss.filter fun s=>s.t != t }
def moveZ (m:MZ) (x:MoveZ):MZ:=if x.pk=true then pokeZ m x.th else (stepZ m x.th).2
def movesZ (m:MZ) (l:List MoveZ):MZ:=l.foldl moveZ m

theorem filter_noT {ss:List Slp} {t:Int} (h:noT ss t):ss.filter (fun s=>s.t != t)=ss:=List.filter_eq_self.2 fun s hs=>by simpa using h s hs

theorem WF.poke {m:MZ} (hw:WF m) (t:Int):WF (pokeZ m t) :=
 hw.sleepers (hw.ss.1.sublist (List.filter_sublist.map _)) (fun s hs=>hw.ss.2 s (List.mem_filter.1 hs).1) (Nat.le_trans (List.length_filter_le _ _) hw.sl)

section

variable {K:KP} {m:MZ} {v:VZ}

theorem coreCellsL (hw:WF m) {l:List Int} (hl:m.ws=l) (h:K (cv (.slc 9 0 l.length none false)) [] (machH m v++[.rows false 1 (l.map rowU)])) :
 Does Tryz.prog 114 [cv (.ptr 0 0)] (machH m v) K:=by
 subst hl
 have hnc:=hw.nc
 refine coreCells hnc (by have:=hw.ws.1;omega) ?_
 rw [←hnc]
 exact h

end
end
end Go.Mac
end
section
namespace Go.Mac

structure CallZ where
 w:Int
 n:Int

abbrev rowCallZ (x:CallZ):List FC:=[.int .i64 x.w,.int .i64 x.n]

end Go.Mac
end

section
open Go Go.Proofs Go.Mac
set_option maxRecDepth 100000
namespace Go.Mac
section
def last (l:List Int) (t:Nat):Nat→Int
 | 0=>-1
 | i+1=>if l[i]? = some (t:Int) then (i:Int) else last l t i

section

variable {K:KP}

end
end
section
def roundsL (n k:Nat):List Int:=(List.range k).map fun j=>((j % n:Nat):Int)

theorem roundsL_length (n k:Nat):(roundsL n k).length=k:=by simp [roundsL]

theorem roundsL_succ (n k:Nat):roundsL n (k+1)=roundsL n k++[((k % n:Nat):Int)]:=by simp [roundsL,List.range_succ]

section

variable {K:KP}

theorem roundsF (n times:Nat) (hn:n≤16) (ht:times≤1000) (hK:K (.tup [.c (.slc 0 0 (n*times) none false),.c .niliface]) [] [.rows false 1 ((roundsL n (n*times)).map rowZ)]) :
 Does Tryz.prog 138 [i64 n,i64 times] [] K:=by
 refine does Tryz.func138 rfl (by decide) ?_
 refine bZ (fun h=>?_) (fun h=>?_)
 · have:=oTr h;omega
 refine bZ (fun h=>?_) (fun h=>?_)
 · have:=oTr h;omega
 refine SS.nil 6 1 (by decide) rfl ?_
 refine SS.loop (fun i:Nat=>i≤times) (fun i=>[(0,i64 n),(1,i64 times),(6,cv (.slc 0 0 (n*i) none false)),(23,i64 times),(24,i64 i)])
  (fun i=>[.rows false 1 ((roundsL n (n*i)).map rowZ)]) (fun i=>times-i) [0]
  (At.mk' [0,1,6,23,24] 0 (by simp) ⟨rfl,rfl⟩ rfl rfl (by simp) (by simp) (by simp)) ?_
 intro i hi
 refine S_r ?_
 refine bZ (fun h=>?_) (fun h=>?_)
 · have hlt:i<times:=by have:=oTr h;omega
   refine SS.loop (fun k:Nat=>k≤n) (fun k=>[(0,i64 n),(1,i64 times),(6,cv (.slc 0 0 (n*i+k) none false)),(23,i64 times),(24,i64 i),(26,i64 n),(27,i64 k)])
    (fun k=>[.rows false 1 ((roundsL n (n*i+k)).map rowZ)]) (fun k=>n-k) [0]
    (At.mk' [0,1,6,23,24,26,27] 0 (by simp) ⟨rfl,rfl⟩ rfl rfl (by simp) (by simp) (by simp)) ?_
   intro k hk
   have hmul:n*i≤16*1000:=Nat.mul_le_mul hn (by omega)
   refine S_r ?_
   refine bZ (fun h=>?_) (fun h=>?_)
   · have hlt:k<n:=by have:=oTr h;omega
     refine And.intro (by simp) (Or.inl (And.intro rfl (And.intro ?_ (And.intro ?_ (And.intro ?_ ?_)))))
     · simp [roundsL_length]
     · show (n*i+k+1)*8≤_
       omega
     · show n*i+k+1≤_
       omega
     · have e:(roundsL n (n*i+(k+1))).map rowZ=(roundsL n (n*i+k)).map rowZ++[rowZ k]:=by
        rw [show n*i+(k+1)=n*i+k+1 by omega,roundsL_succ,Nat.mul_add_mod,Nat.mod_eq_of_lt hlt]
        simp
       refine At.mk' [0,1,6,23,24,26,27] (k+1) ⟨hlt,by omega⟩ ⟨?_,rfl⟩ (congrArg (fun r=>([.rows false 1 r]:List PO)) e.symm) rfl (by simp) (by simp) (by simp)
       rw [wrap_i64 _ (by omega) (by omega)]
       rfl
   · have h:=oFa h
     obtain rfl:n=k:=by omega
     refine At.mk' [0,1,6,23,24] (i+1) ⟨hlt,by omega⟩ ⟨?_,rfl⟩ rfl rfl (by simp) (by simp) (by simp)
     rw [wrap_i64 _ (by omega) (by omega)]
     rfl
 · have h:=oFa h
   obtain rfl:times=i:=by omega
   exact hK

end
end
section
def goneStep (g:List Int) (e:EvZ):List Int:=if e.a=2 then g.set e.t.toNat (g.getD e.t.toNat 0+1) else g
def anyStep (m:Int) (e:EvZ):Int:=if e.v > m then e.v else m
def allStep (m g:Int):Int:=if g<m then g else m

def goneR (n:Nat) (l:List EvZ):List Int:=l.foldl goneStep (noughts n)
def anyR (l:List EvZ):Int:=l.foldl anyStep 0
def allG (n:Nat) (l:List EvZ):Int:=(goneR n l).foldl allStep ((goneR n l).getD 0 0)

theorem take_snoc {α : Type} {l:List α} {i:Nat} {x : α} (h:l[i]? = some x):l.take (i+1)=l.take i++[x]:=by rw [List.take_add_one,h];rfl

theorem fold_take {α β : Type} {f : β→α→β} {b : β} {l:List α} {i:Nat} {x : α} (h:l[i]? = some x):(l.take (i+1)).foldl f b=f ((l.take i).foldl f b) x:=by
 rw [take_snoc h,List.foldl_append]
 rfl

theorem goneStep_len (g:List Int) (e:EvZ):(goneStep g e).length=g.length:=by
 unfold goneStep
 split <;> simp

theorem goneR_len (n:Nat) (l:List EvZ):(goneR n l).length=n:=by
 have:∀ (l:List EvZ) (g:List Int),(l.foldl goneStep g).length=g.length:=by
  intro l
  induction l with
  | nil=>exact fun g=>rfl
  | cons x l ih=>exact fun g=>(ih _).trans (goneStep_len g x)
 rw [goneR,this,noughts,List.length_replicate]

theorem goneStep_small {b:Int} (hb:0≤b) {g:List Int} (h:smallL b g) (e:EvZ):smallL (b+1) (goneStep g e):=by
 have:=small_getD hb h e.t.toNat
 unfold goneStep
 split
 · exact small_set h (by omega)
 · exact small_more h

theorem goneR_small (n:Nat) (l:List EvZ):∀ i:Nat,smallL i (goneR n (l.take i))
 | 0=>by simpa [goneR] using noughts_small n
 | i+1=>by
   by_cases hi:i<l.length
   · unfold goneR
     rw [fold_take (List.getElem?_eq_getElem hi)]
     exact goneStep_small (by omega) (goneR_small n l i) _
   · have h:=goneR_small n l i
     rw [List.take_of_length_le (by omega)] at h ⊢
     exact small_more h

theorem runZ_all:∀ (l:List EvZ) (i:Nat) (c g:List Int),runZ l i c g=none→∀ x∈l,(x.a=1∨x.a=2)∧0≤x.t∧x.t<c.length
 | [],_,_,_,_,x,hx=>by simp at hx
 | e::l,i,c,g,h,x,hx=>by
   rw [runZ] at h
   split at h
   · rename_i h0
     rcases List.mem_cons.1 hx with rfl | hx
     · unfold oneZ at h0
       split at h0
       · simp at h0
       split at h0
       · simp at h0
       · omega
     · have:=runZ_all l (i+1) _ _ h x hx
       rwa [(oneZ_len e c g).1] at this
   · cases h

theorem check_all {n:Nat} {l:List EvZ} (h:checkZ n l=none) {i:Nat} {x:EvZ} (hx:l[i]? = some x):(x.a=1∨x.a=2)∧0≤x.t∧x.t<n:=by
 have:=runZ_all l 0 _ _ h x (List.mem_iff_getElem?.2 ⟨i,hx⟩)
 simpa [noughts] using this

section

variable {K:KP}

theorem rounds {all l:List EvZ} {k n:Nat} {ro nn:Bool} {c:Option Nat} (hk:l.length=k) (hall:∀ i,i<k→all[i]? = l[i]?) (hn:1≤n∧n≤16) (hkb:k<1000000)
 (h0:checkZ n l=none→K (.tup [.c (.f (.int .i64 (allG n l))),.c (.f (.int .i64 (anyR l))),.c .niliface]) [] [.rows ro 4 (all.map rowEv)])
 (h1:∀ (e:Int) (i:Nat),checkZ n l=some (e,i)→K (.tup [.c (.f (.int .i64 0)),.c (.f (.int .i64 0)),.c (.iface 108 (.ptr 1 0))]) [] [.rows ro 4 (all.map rowEv),.one [.f (.int .i64 e),.f (.int .i64 i)]]) :
 Does Tryz.prog 120 [cv (.slc 0 0 k c nn),i64 n] [.rows ro 4 (all.map rowEv)] K:=by
 refine does Tryz.func120 rfl (by decide) ?_
 change Does Tryz.prog 173 _ _ _
 refine check hk hall hn hkb (fun hok=>?_) fun e i he=>?_
 · have b1:(0:Int)≤(n:Int):=by omega
   have b2:(n:Int)≤(n:Int):=by omega
   have b3:((8:Nat):Int)*(n:Int)≤281474976710656:=by omega
   have b4:(n:Int)≤9223372036854775807:=by omega
   have hR:=h0 hok
   clear h0 h1
   refine And.intro b1 (And.intro b2 (And.intro b3 (And.intro b4 ?_)))
   refine SS.loop (fun i:Nat=>i≤k) (fun i=>[(5,i64 (anyR (l.take i))),(8,cv (.slc 1 0 n none true)),(21,cv (.slc 0 0 k c nn)),(22,i64 k),(23,i64 i)]) (fun i=>[.rows ro 4 (all.map rowEv),.rows false 1 ((goneR n (l.take i)).map rowZ)]) (fun i=>k-i) []
    (At.mk' [5,8,21,22,23] 0 (by simp) ⟨rfl,rfl⟩ (by
      show [PO.rows ro 4 (all.map rowEv),PO.rows false 1 (List.replicate n [.int .i64 0])]=_
      rw [←noughts_rows n]
      rfl) rfl (by simp) (by simp) (by simp)) ?_
   intro i hi
   refine S_r ?_
   refine bZ (fun hlt=>?_) (fun hlt=>?_)
   · have hlt:i<k:=by have:=oTr hlt;omega
     obtain ⟨x,hx⟩ : ∃ x,l[i]? = some x:=⟨_,List.getElem?_eq_getElem (by omega)⟩
     have hax:=(hall i hlt).trans hx
     have hxa:=check_all hok hx
     have hga:goneR n (l.take (i+1))=goneStep (goneR n (l.take i)) x:=fold_take hx
     have han:anyR (l.take (i+1))=anyStep (anyR (l.take i)) x:=fold_take hx
     have hgl:=goneR_len n (l.take i)
     have hgs:=goneR_small n l i
     refine SS.inlR ?_
     refine at2 (by omega) (by omega) (rdA (rowEv x) (gev hax) ?_)
     refine bZ (fun h2=>?_) (fun h2=>?_)
     · have h2:x.a=2:=by simpa using h2
       rw [goneStep,if_pos h2] at hga
       generalize goneR n (l.take i)=G at *
       obtain ⟨g,hgv⟩ : ∃ g,G[x.t.toNat]? = some g:=⟨_,List.getElem?_eq_getElem (by omega)⟩
       have e2:G.getD x.t.toNat 0=g:=by rw [List.getD_eq_getElem?_getD,hgv];rfl
       have hgb:=hgs g (List.mem_iff_getElem?.2 ⟨_,hgv⟩)
       rw [e2] at hga
       refine at2 (by omega) (by omega) (rd1 (rowZ g) (.int .i64 g) (gx hgv) rfl ?_)
       refine at2 (by omega) (by omega) (wr1 (rowZ g) (gx hgv) ?_)
       refine At.mk' [5,8,21,22,23] (i+1) ⟨hlt,by omega⟩ ⟨?_,rfl⟩ ?_ rfl (by simp) (by simp) (by simp)
       · rw [wrap_i64 (i+1) (by omega) (by omega),han]
         rfl
       · rw [hga,wrap_i64 (g+1) (by omega) (by omega),Nat.zero_add x.t.toNat,List.map_set]
         rfl
     · have h2:x.a≠2:=by simpa using h2
       rw [goneStep,if_neg h2] at hga
       refine At.mk' [5,8,21,22,23] (i+1) ⟨hlt,by omega⟩ ⟨?_,rfl⟩ ?_ rfl (by simp) (by simp) (by simp)
       · rw [wrap_i64 (i+1) (by omega) (by omega),han]
         rfl
       · rw [hga]
         rfl
   · have hlt:¬(i:Int)<(k:Int):=oFa hlt
     have e:l.take i=l:=List.take_of_length_le (by omega)
     simp only [e]
     have hgl:=goneR_len n l
     unfold allG at hR
     generalize goneR n l=G at *
     obtain ⟨g,hgv⟩ : ∃ g,G[0]? = some g:=⟨_,List.getElem?_eq_getElem (by omega)⟩
     have e2:G.getD 0 0=g:=by rw [List.getD_eq_getElem?_getD,hgv];rfl
     rw [e2] at hR
     refine at2 (by omega) (by omega) (rd1 (rowZ g) (.int .i64 g) (by simp [hgv]) rfl ?_)
     refine SS.loop (fun j:Nat=>j≤n) (fun j=>[(4,i64 ((G.take j).foldl allStep g)),(5,i64 (anyR l)),(45,cv (.slc 1 0 n none true)),(46,i64 n),(47,i64 j)]) (fun _=>[.rows ro 4 (all.map rowEv),.rows false 1 (G.map rowZ)]) (fun j=>n-j) []
      (At.mk' [4,5,45,46,47] 0 (by simp) ⟨rfl,rfl⟩ rfl rfl (by simp) (by simp) (by simp)) ?_
     intro j hj
     refine S_r ?_
     refine bZ (fun hlt'=>?_) (fun hlt'=>?_)
     · have hlt':j<n:=by have:=oTr hlt';omega
       obtain ⟨x,hx⟩ : ∃ x,G[j]? = some x:=⟨_,List.getElem?_eq_getElem (by omega)⟩
       refine at2 (by omega) (by omega) (rd1 (rowZ x) (.int .i64 x) (by simp [hx]) rfl ?_)
       refine At.mk' [4,5,45,46,47] (j+1) ⟨hlt',by omega⟩ ⟨?_,rfl⟩ rfl rfl (by simp) (by simp) (by simp)
       rw [wrap_i64 (j+1) (by omega) (by omega),fold_take hx]
       rfl
     · have hlt':¬(j:Int)<(n:Int):=oFa hlt'
       have e':G.take j=G:=List.take_of_length_le (by omega)
       rw [←e'] at hR
       exact hR
 · exact h1 e i he

end
end
section
theorem getD_setZ (l:List Int) (i j:Nat) (x:Int) (hi:i<l.length):(l.set i x).getD j 0=if i=j then x else l.getD j 0:=by
 rw [List.getD_eq_getElem?_getD,List.getD_eq_getElem?_getD]
 by_cases h:i=j
 · subst h
   rw [if_pos rfl,List.getElem?_set_self hi]
   rfl
 · rw [if_neg h,List.getElem?_set_ne h]

structure JInv (n:Nat) (c g:List Int) (a:Int):Prop where
 lc:c.length=n
 lg:g.length=n
 pos:∀ t,t<n→0≤g.getD t 0
 low:∀ t,t<n→g.getD t 0≤c.getD t 0
 up:∀ t,t<n→c.getD t 0≤g.getD t 0+1
 all:∀ t u,t<n→u<n→g.getD t 0≤c.getD u 0
 le:∀ u,u<n→c.getD u 0≤a
 top:a=0∨∃ u,u<n∧c.getD u 0=a

theorem noughts_getD (n t:Nat):(noughts n).getD t 0=0:=by
 rw [List.getD_eq_getElem?_getD,noughts,List.getElem?_replicate]
 split <;> rfl

theorem JInv.begin (n:Nat):JInv n (noughts n) (noughts n) 0 :=
 ⟨by simp [noughts],by simp [noughts],fun t _=>by rw [noughts_getD];omega,fun t _=>by rw [noughts_getD];omega,fun t _=>by rw [noughts_getD];omega,fun t u _ _=>by rw [noughts_getD,noughts_getD];omega,fun t _=>by rw [noughts_getD];omega,.inl rfl⟩

theorem oneZ_ok {e:EvZ} {c g:List Int} (he:(oneZ e c g).1=0):(0≤e.t∧e.t<c.length) ∧
 ((e.a=1∧c.getD e.t.toNat 0=g.getD e.t.toNat 0∧e.v=c.getD e.t.toNat 0+1∧oneZ e c g=(0,c.set e.t.toNat (c.getD e.t.toNat 0+1),g)) ∨
  (e.a=2∧c.getD e.t.toNat 0≠g.getD e.t.toNat 0∧e.v=c.getD e.t.toNat 0∧(∀ x∈c,e.v≤x)∧oneZ e c g=(0,c,g.set e.t.toNat (g.getD e.t.toNat 0+1)))):=by
 unfold oneZ at he ⊢
 split at he
 · simp at he
 rename_i h1
 rw [if_neg h1]
 split at he
 · simp at he
 rename_i h2
 rw [if_neg h2]
 refine ⟨by omega,?_⟩
 split at he
 · rename_i h3
   rw [if_pos h3]
   split at he
   · simp at he
   rename_i h4
   rw [if_neg h4]
   exact .inl ⟨h3,by omega,by omega,rfl⟩
 · rename_i h3
   rw [if_neg h3]
   split at he
   · simp at he
   rename_i h4
   rw [if_neg h4]
   split at he
   · simp at he
   rename_i h6
   rw [if_neg h6]
   refine .inr ⟨by omega,by omega,by omega,fun x hx=>?_,rfl⟩
   have h6:(c.any fun c=>decide (c<e.v))=false:=by simpa using h6
   rw [List.any_eq_false] at h6
   have:=h6 x hx
   simpa using this

theorem JInv.step {n:Nat} {c g:List Int} {a:Int} (h:JInv n c g a) (e:EvZ) (he:(oneZ e c g).1=0):JInv n (oneZ e c g).2.1 (oneZ e c g).2.2 (anyStep a e)∧(oneZ e c g).2.2=goneStep g e:=by
 obtain ⟨lc,lg,pos,low,up,all,le,top⟩:=h
 obtain ⟨⟨ht0,ht1⟩,h⟩:=oneZ_ok he
 have ht:e.t.toNat<n:=by omega
 have l1:=low _ ht
 have u1:=up _ ht
 have g1:=le _ ht
 have p1:=pos _ ht
 rcases h with ⟨ha,h1,h2,hz⟩ | ⟨ha,h1,h2,h7,hz⟩
 · rw [hz]
   dsimp only
   refine ⟨⟨by simp [lc],lg,pos,fun t h=>?_,fun t h=>?_,fun t u h h'=>?_,fun t h=>?_,?_⟩,?_⟩
   · rw [getD_setZ _ _ _ _ (by omega)]
     have:=low t h
     split
     · rename_i e;subst e;omega
     · exact this
   · rw [getD_setZ _ _ _ _ (by omega)]
     have:=up t h
     split
     · rename_i e;subst e;omega
     · exact this
   · rw [getD_setZ _ _ _ _ (by omega)]
     have:=all t u h h'
     split
     · rename_i e;subst e;omega
     · exact this
   · rw [getD_setZ _ _ _ _ (by omega)]
     have:=le t h
     unfold anyStep
     split <;> split <;> omega
   · unfold anyStep
     split
     · exact .inr ⟨_,ht,by rw [getD_setZ _ _ _ _ (by omega),if_pos rfl];omega⟩
     · rcases top with h | ⟨u,hu,h⟩
       · exact .inl h
       · refine .inr ⟨u,hu,?_⟩
         rw [getD_setZ _ _ _ _ (by omega),if_neg (fun e=>by subst e;omega)]
         exact h
   · rw [goneStep,if_neg (by omega)]
 · have h7:∀ u,u<n→e.v≤c.getD u 0:=fun u hu=>by
    have hg:c[u]? = some c[u]:=List.getElem?_eq_getElem (by omega)
    rw [List.getD_eq_getElem?_getD,hg]
    exact h7 _ (List.getElem_mem _)
   rw [hz]
   dsimp only
   refine ⟨⟨lc,by simp [lg],fun t h=>?_,fun t h=>?_,fun t h=>?_,fun t u h h'=>?_,fun t h=>?_,?_⟩,?_⟩
   · rw [getD_setZ _ _ _ _ (by omega)]
     have:=pos t h
     split <;> omega
   · rw [getD_setZ _ _ _ _ (by omega)]
     have:=low t h
     split
     · rename_i e;subst e;omega
     · exact this
   · rw [getD_setZ _ _ _ _ (by omega)]
     have:=up t h
     split
     · rename_i e;subst e;omega
     · exact this
   · rw [getD_setZ _ _ _ _ (by omega)]
     have:=all t u h h'
     have:=h7 u h'
     split <;> omega
   · have:=le t h
     unfold anyStep
     split <;> omega
   · have:anyStep a e=a:=by
      unfold anyStep
      rw [if_neg (by omega)]
     rw [this]
     exact top
   · rw [goneStep,if_pos ha]

theorem JInv.run {n:Nat}:∀ (l:List EvZ) (i:Nat) (c g:List Int) (a:Int),JInv n c g a→runZ l i c g=none→∃ c',JInv n c' (l.foldl goneStep g) (l.foldl anyStep a)
 | [],_,c,g,a,h,_=>⟨c,h⟩
 | e::l,i,c,g,a,h,hr=>by
   rw [runZ] at hr
   split at hr
   · rename_i h0
     obtain ⟨h1,h2⟩:=h.step e h0
     rw [List.foldl_cons,List.foldl_cons,←h2]
     exact JInv.run l (i+1) _ _ _ h1 hr
   · cases hr

theorem min_fold:∀ (l:List Int) (m:Int),l.foldl allStep m≤m∧(∀ x∈l,l.foldl allStep m≤x)∧(l.foldl allStep m=m∨l.foldl allStep m∈l)
 | [],m=>⟨Int.le_refl _,by simp,.inl rfl⟩
 | x::l,m=>by
   obtain ⟨h1,h2,h3⟩:=min_fold l (allStep m x)
   rw [List.foldl_cons]
   have hm:allStep m x≤m∧allStep m x≤x∧(allStep m x=m∨allStep m x=x):=by
    unfold allStep
    split <;> omega
   refine ⟨by omega,fun y hy=>?_,?_⟩
   · rcases List.mem_cons.1 hy with rfl | hy
     · omega
     · exact h2 y hy
   · rcases h3 with h3 | h3
     · rcases hm.2.2 with e | e
       · exact .inl (h3.trans e)
       · exact .inr (by rw [h3,e];exact List.mem_cons_self)
     · exact .inr (List.mem_cons_of_mem _ h3)

theorem allG_min {n:Nat} (hn:1≤n) (l:List EvZ):(∀ u,u<n→allG n l≤(goneR n l).getD u 0)∧∃ u,u<n∧allG n l=(goneR n l).getD u 0:=by
 have hl:=goneR_len n l
 unfold allG
 generalize goneR n l=G at *
 obtain ⟨h1,h2,h3⟩:=min_fold G (G.getD 0 0)
 have hget:∀ u,u<n→G[u]? = some (G.getD u 0):=fun u hu=>by
  rw [List.getD_eq_getElem?_getD,List.getElem?_eq_getElem (by omega)]
  rfl
 refine ⟨fun u hu=>h2 _ (List.mem_iff_getElem?.2 ⟨u,hget u hu⟩),?_⟩
 rcases h3 with h3 | h3
 · exact ⟨0,by omega,h3⟩
 · obtain ⟨u,hu⟩:=List.mem_iff_getElem?.1 h3
   have hul:=(List.getElem?_eq_some_iff.1 hu).1
   have:=(hget u (by omega)).symm.trans hu
   exact ⟨u,by omega,(Option.some.inj this).symm⟩

theorem rounds_apart {n:Nat} (hn:1≤n) {l:List EvZ} (h:checkZ n l=none):allG n l≤anyR l∧anyR l≤allG n l+2∧0≤allG n l:=by
 obtain ⟨c,h⟩:=(JInv.begin n).run l 0 _ _ _ h
 obtain ⟨h1,u,hu,h2⟩:=allG_min hn l
 change JInv n c (goneR n l) (anyR l) at h
 have a1:=h.low u hu
 have a2:=h.le u hu
 have a3:=h.pos u hu
 refine ⟨by omega,?_,by omega⟩
 rcases h.top with h0 | ⟨v,hv,h0⟩
 · omega
 · have:=h.up v hv
   have:=h.all v u hv hu
   have:=h.up u hu
   omega
end
end Go.Mac
end
