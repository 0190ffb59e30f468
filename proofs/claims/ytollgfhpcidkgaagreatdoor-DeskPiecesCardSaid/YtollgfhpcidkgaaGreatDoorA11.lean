/- Texts that belong together; the first of them:  -/
import Derived.Test.YtollgfhpcidkgaaGreatDoorA10

section
open Go Go.Proofs Go.Mac
set_option maxRecDepth 100000
namespace Go.Mac
section
section

variable {K:KP} {m:MZ} {v:VZ}

abbrev errC (n:Int):AV:=cv (.iface 68 (.f (.int .i64 n)))

theorem rowT_dn {x:ThZ} (hr:x.rg.length=8) {f:Nat} (hf:f=9):(rowT x)[f]? = some (.bool x.dn):=by
 subst hf
 rw [rowT,List.getElem?_cons_succ,List.getElem?_append_right (by simp [hr])]
 simp [hr]

theorem thZ_get {t:Nat} {x:ThZ} (h:m.ts[t]? = some x):thZ m t=x:=by
 rw [thZ,List.getD_eq_getElem?_getD,h];rfl

theorem insZ_get {t pc:Nat} {p:List InsZ} {i:InsZ} (h:m.ps[t]? = some p) (hi:p[pc]? = some i):insZ m t pc=i:=by
 rw [insZ,List.getD_eq_getElem?_getD,List.getD_eq_getElem?_getD,h]
 show p[pc]?.getD _=i
 rw [hi];rfl

theorem asleep_of {t:Nat} {i:Nat} {s:Slp} (h:hasT m.ss t i s):asleepZ m t=true:=List.any_eq_true.2 ⟨s,List.mem_iff_getElem?.2 ⟨i,h.1⟩,by simpa using h.2.1⟩

theorem asleep_no {t:Int} (h:noT m.ss t):asleepZ m t=false:=by
 rw [asleepZ,List.any_eq_false]
 exact fun s hs=>by simpa using h s hs

theorem WF.okI {m:MZ} (hw:WF m) {p:List InsZ} {i:InsZ} (hp:p∈m.ps) (hi:i∈p):okI m.nc p.length i=true:=by
 have:=hw.right p hp
 simp only [rightZ,Bool.and_eq_true,List.all_eq_true] at this
 exact this.1.2 i hi

theorem WF.len_ss {m:MZ} (hw:WF m):m.ss.length≤20000:=Nat.le_trans hw.sl hw.k

set_option maxHeartbeats 2000000 in
theorem coreStep (hw:WF m) (hv:okV v) (t:Int) (h0:(stepZ m t).1=0→∀ v',okV v'→K (cv .niliface) [6,7,8] (machH (stepZ m t).2 v')) (h1:(stepZ m t).1≠0→∀ v',okV v'→K (errC (stepZ m t).1) [6,7,8] (machH (stepZ m t).2 v')) :
 Does Tryz.prog 143 [cv (.ptr 0 0),i64 t] (machH m v) K:=by
 have hps:=hw.ps
 have hnc:=hw.nc
 have hn:=hw.n
 have hk20:=hw.k
 refine Does.moved [6,7,8] ?_
 refine does Tryz.func143 rfl (by decide) ?_
 have hbad:∀ n:Int,n≠0→stepZ m t=(n,m)→K (errC n) [6,7,8] (machH m v):=fun n hn e=>by
  have:=h1 (by rw [e];exact hn) v hv
  rw [e] at this
  exact this
 refine SS.inlR ?_
 refine bZ (fun h=>?_) (fun h=>?_)
 · have h:=oTr h
   exact ⟨noM',hbad 2 (by decide) (by rw [stepZ,if_pos (.inl h)])⟩
 have ht0:=oFa h
 refine bZ (fun h=>?_) (fun h=>?_)
 · have h:=oTr h
   exact ⟨noM',hbad 2 (by decide) (by rw [stepZ,if_pos (.inr (by omega))])⟩
 have ht1:=oFa h
 obtain ⟨k,rfl⟩:=Int.eq_ofNat_of_zero_le (show 0≤t by omega)
 have htk:k<m.ts.length:=by omega
 obtain ⟨x,hx⟩ : ∃ x,m.ts[k]? = some x:=⟨_,List.getElem?_eq_getElem htk⟩
 obtain ⟨p,hp⟩ : ∃ p,m.ps[k]? = some p:=⟨_,List.getElem?_eq_getElem (by omega)⟩
 have hg:=ts_get hx
 obtain ⟨hr,hrv⟩:=hw.rg x (List.mem_of_getElem? hx)
 have hth:thZ m k=x:=thZ_get hx
 have e0:0+Int.toNat (k:Int)=k:=by omega
 have step1:stepZ m k=if x.dn then (6,m) else if asleepZ m k then (8,m) else if m.k=20000 then (4,m) else goZ m k:=by
  rw [stepZ,if_neg (by omega),Int.toNat_natCast,hth]
 refine at2 (a:=(0:Int)≤(k:Int)) (b:=(k:Int)<(m.ps.length:Int)) (by omega) (by omega) (rd1 (rowT x) (.bool x.dn) (by rw [e0];exact hg) (rowT_dn hr rfl) ?_)
 refine bZ (fun hdn=>?_) (fun hdn=>?_)
 · exact ⟨noM',hbad 6 (by decide) (by rw [step1,if_pos hdn])⟩
 rw [if_neg (by rw [hdn];decide)] at step1
 change Does Tryz.prog 164 _ _ _
 refine Does.on 9 [5,6] _ _ (lotCell (n:=m.ps.length) (k:=m.ss.length) (nn:=v.nl) (ss:=m.ss) (ex:=v.ex) k rfl (by have:=hw.len_ss;omega) (fun i s hs=>?_) fun hno=>?_)
 · have hsc:=hw.ss.2 s (List.mem_iff_getElem?.2 ⟨i,hs.1⟩)
   refine bZ (fun _=>?_) (fun h=>absurd (oFa h) (by omega))
   exact ⟨noM',hbad 8 (by decide) (by rw [step1,if_pos (asleep_of hs)])⟩
 rw [if_neg (by rw [asleep_no hno];decide)] at step1
 refine bZ (fun h=>?_) (fun h=>?_)
 · have h:m.k=20000:=by
    have:=beq_iff_eq.1 h
    omega
   exact ⟨noM',hbad 4 (by decide) (by rw [step1,if_pos h])⟩
 have hk2:m.k≠20000:=by
  have:=beq_eq_false_iff_ne.1 h
  omega
 rw [if_neg hk2] at step1
 obtain ⟨hpc1,hpc2⟩:=hw.pc k x p hx hp
 have hpc:=hpc2 hdn
 obtain ⟨⟨op,a,b,c,d⟩,hi⟩ : ∃ i,p[x.pc]? = some i:=⟨_,List.getElem?_eq_getElem hpc⟩
 have ew:IntKind.i64.wrap ((m.k:Int)+1)=((m.k+1:Nat):Int):=by rw [wrap_i64 _ (by omega) (by omega)];omega
 have ep:IntKind.i64.wrap ((x.pc:Int)+1)=((x.pc+1:Nat):Int):=by rw [wrap_i64 _ (by have:=hw.right p (List.mem_of_getElem? hp);simp [rightZ] at this;omega) (by have:=hw.right p (List.mem_of_getElem? hp);simp [rightZ] at this;omega)];omega
 have hpm:(m.ps.map fun p=>p.map rowIns)[0+Int.toNat (k:Int)]? = some (p.map rowIns):=by rw [e0];simp [hp]
 have him:(p.map rowIns)[0+Int.toNat (x.pc:Int)]? = some (rowIns ⟨op,a,b,c,d⟩):=gIns hi
 have hplt:0+Int.toNat (k:Int)<(m.ps.map fun p=>p.map rowIns).length:=by rw [e0];simp;omega
 have hpl:((x.pc:Nat):Int)<((p.map rowIns).length:Int):=by simp;omega
 refine at2 (a:=(0:Int)≤(k:Int)) (b:=(k:Int)<(m.ps.length:Int)) (by omega) (by omega) ?_
 change SS Tryz.prog _ _ _ _ _ _ _
 rw [e0,ew]
 refine SS.drawR follows (by decide) ?_
 refine at2 (a:=(0:Int)≤(k:Int)) (b:=(k:Int)<(m.ps.length:Int)) (by omega) (by omega) ?_
 refine Exists.intro (p.map rowIns) (And.intro hpm ?_)
 refine rd1 (rowT x) (.int .i64 x.pc) hg rfl ?_
 refine And.intro hplt (at2 (a:=(0:Int)≤(x.pc:Int)) (b:=(x.pc:Int)<((p.map rowIns).length:Int)) (by omega) hpl ?_)
 refine Exists.intro (p.map rowIns) (Exists.intro (rowIns ⟨op,a,b,c,d⟩) (And.intro hpm (And.intro him ?_)))
 repeat' (first | refine And.intro rfl ?_ | refine And.intro (And.intro (by omega) (And.intro (by omega) rfl)) ?_ | refine And.intro (Exists.intro (p.map rowIns) (And.intro hpm rfl)) ?_ | refine And.intro (Exists.intro (rowT x) (Exists.intro (.int .i64 x.pc) (And.intro hg (And.intro rfl rfl)))) ?_ | refine And.intro (And.intro hplt (And.intro (by omega) (And.intro hpl rfl))) ?_ | refine And.intro (Exists.intro (p.map rowIns) (Exists.intro (rowIns ⟨op,a,b,c,d⟩) (And.intro hpm (And.intro him rfl)))) ?_ | fail)
 refine rd1 (rowT x) (.int .i64 x.pc) hg rfl ?_
 refine wrF (rowT x) (.int .i64 (IntKind.i64.wrap ((x.pc:Int)+1))) hg rfl (by rw [rowT_len hr];decide) ?_
 rw [pc_set ep ?_]
 rotate_left
 · rfl
 have hins:insZ m k x.pc = ⟨op,a,b,c,d⟩:=insZ_get hp hi
 have hx2:(m.ts.set k { x with pc:=x.pc+1 })[k]? = some { x with pc:=x.pc+1 }:=List.getElem?_set_self htk
 have hon:onZ m k = { m with k:=m.k+1 }.th k { x with pc:=x.pc+1 }:=by rw [onZ,hth]
 rw [goZ,hth,hins,hon] at step1
 have hok:=hw.okI (List.mem_of_getElem? hp) (List.mem_of_getElem? hi)
 have hgood:∀ m',stepZ m k=(0,m')→∀ v',okV v'→K (cv .niliface) [6,7,8] (machH m' v'):=fun m' e v' hv'=>by
  have:=h0 (by rw [e]) v' hv'
  rw [e] at this
  exact this
 have hend:∀ m',stepZ m k=(13,m')→∀ v',okV v'→K (errC 13) [6,7,8] (machH m' v'):=fun m' e v' hv'=>by
  have:=h1 (by rw [e];exact (show (13:Int)≠0 by decide)) v' hv'
  rw [e] at this
  exact this
 have hal:=hw.al
 have hel:=hw.el
 have hsl:=hw.sl
 have hws:=hw.ws.1
 change Does Tryz.prog 194 _ _ _
 refine Does.on 10 [0,1,2,3,4,5,6,7,8] _ _ (coreLocal (m:={ m with k:=m.k+1 }.th k { x with pc:=x.pc+1 }) (v:=v) k { x with pc:=x.pc+1 } op a b c d hx2 hr hok (fun x' hl=>?_) fun hl=>?_)
 · exact ⟨noM',hgood _ (by rw [step1,doZ,hl]) v hv⟩
 · change Does Tryz.prog 195 _ _ _
   refine Does.on 10 [0,1,2,3,4,5,6,7,8] _ _ (coreFar (m:={ m with k:=m.k+1 }.th k { x with pc:=x.pc+1 }) (v:=v) k { x with pc:=x.pc+1 } op a b c d hx2 hr hrv hnc (by show m.ps.length=(m.ts.set k _).length;rw [List.length_set];exact hps) hok hl
    (by show m.al.length<_;omega) (by show m.el.length<_;omega) (by show m.nc≤300;omega) (by show (m.ts.set k _).length≤16;rw [List.length_set];exact hn) (by show m.ss.length<_;omega) hno hv (fun m' hf v' hv'=>?_) fun hf=>?_)
   · exact ⟨by decide,hgood _ (by rw [step1,doZ,hl];dsimp only;rw [hf]) v' hv'⟩
   · refine wrF (rowT { x with pc:=x.pc+1 }) (.bool true) (ts_get hx2) rfl (by rw [rowT_len (x:={ x with pc:=x.pc+1 }) hr];decide) ?_
     rw [dn_set (x:={ x with pc:=x.pc+1 }) hr ?_]
     rotate_left
     · rfl
     have hlast:=hend (({ m with k:=m.k+1 }.th k { x with pc:=x.pc+1 }).th k { x with pc:=x.pc+1,dn:=true }) (by rw [step1,doZ,hl];dsimp only;rw [hf]) v hv
     exact ⟨by decide,hlast⟩

end
end
section
abbrev machS (s:Nat) (m:MZ) (v:VZ):List PO :=
 [.one [.slc (s+1) 0 m.ps.length none v.np,.slc (s+2) 0 m.ps.length none true,.ptr (s+3) 0,.ptr (s+5) 0,.slc (s+7) 0 m.al.length none v.na,.slc (s+8) 0 m.el.length none v.ne,.f (.int .i64 m.k)],
  .rows2 false 5 (m.ps.map fun p=>p.map rowIns),.rows false 10 (m.ts.map rowT),.one [.slc (s+4) 0 m.nc none v.nm],.rows false 1 (m.ws.map rowU),
  .one [.f (.int .i64 m.ps.length),.slc (s+6) 0 m.ss.length none v.nl],.rows false 2 ((m.ss++v.ex).map rowS),.rows false 6 (m.al.map rowAct),.rows false 4 (m.el.map rowEv)]

def canZ (m:MZ) (t:Int):Bool:=decide (0≤t∧t<(m.ts.length:Int)) && !(thZ m t.toNat).dn && !asleepZ m t

def allZ (m:MZ):Bool:=m.ts.all (·.dn)
def stuckZ (m:MZ):Bool:=(List.range m.ts.length).all (fun t=>!canZ m (t:Int)) && !allZ m

section

variable {K:KP} {m:MZ} {v:VZ}

theorem coreEvents (hel:m.el.length<1000000) (h:K (cv (.slc 9 0 m.el.length none false)) [] (machH m v++[.rows false 4 (m.el.map rowEv)])) :
 Does Tryz.prog 116 [cv (.ptr 0 0)] (machH m v) K:=by
 refine does Tryz.func116 rfl (by decide) ?_
 have e:(List.take m.el.length (List.drop 0 (m.el.map rowEv)))=m.el.map rowEv:=by rw [List.drop_zero,List.take_of_length_le];simp
 have e2:(m.el.map rowEv).length=m.el.length:=by simp
 refine And.intro (by simp) (And.intro ?_ (And.intro ?_ ?_))
 · rw [e,e2]
   show m.el.length*32≤_
   omega
 · rw [e,e2];omega
 · rw [e,e2]
   exact h

theorem coreCells (hnc:m.ws.length=m.nc) (hws:m.nc≤300) (h:K (cv (.slc 9 0 m.nc none false)) [] (machH m v++[.rows false 1 (m.ws.map rowU)])) :
 Does Tryz.prog 114 [cv (.ptr 0 0)] (machH m v) K:=by
 refine does Tryz.func114 rfl (by decide) ?_
 change Does Tryz.prog 169 _ _ _
 refine Does.on 9 [3,4] _ _ (memWords (n:=m.nc) (nn:=v.nm) (ws:=m.ws) hnc hws ?_)
 exact h

theorem coreCan (hw:WF m) (t:Int) (h:K (bl (canZ m t)) [] (machH m v)):Does Tryz.prog 171 [cv (.ptr 0 0),i64 t] (machH m v) K:=by
 have hps:=hw.ps
 refine does Tryz.func171 rfl (by decide) ?_
 have fin0:∀ b:Bool,b=canZ m t→K (bl b) [] (machH m v):=fun b e=>e ▸ h
 refine bZ (fun h1=>?_) (fun h1=>?_)
 · have h1:=oTr h1
   refine bZ (fun h2=>?_) (fun h2=>?_)
   · have h2:=oTr h2
     obtain ⟨k,rfl⟩:=Int.eq_ofNat_of_zero_le h1
     obtain ⟨x,hx⟩ : ∃ x,m.ts[k]? = some x:=⟨_,List.getElem?_eq_getElem (by omega)⟩
     have hg:=ts_get hx
     obtain ⟨hr,_⟩:=hw.rg x (List.mem_of_getElem? hx)
     have e0:0+Int.toNat (k:Int)=k:=by omega
     have hc:canZ m k=(!x.dn && !asleepZ m k):=by
      rw [canZ,Int.toNat_natCast,thZ_get hx,show decide (0≤(k:Int)∧(k:Int)<(m.ts.length:Int))=true from decide_eq_true (by omega)]
      simp
     refine at2 (a:=(0:Int)≤(k:Int)) (b:=(k:Int)<(m.ps.length:Int)) (by omega) (by omega) (rd1 (rowT x) (.bool x.dn) (by rw [e0];exact hg) (rowT_dn hr rfl) ?_)
     refine bZ (fun h3=>?_) (fun h3=>?_)
     · have h3:=notT h3
       change Does Tryz.prog 164 _ _ _
       refine Does.on 9 [5,6] _ _ (lotCell (n:=m.ps.length) (k:=m.ss.length) (nn:=v.nl) (ss:=m.ss) (ex:=v.ex) k rfl (by have:=hw.len_ss;omega) (fun i s hs=>?_) fun hno=>?_)
       · have hsc:=hw.ss.2 s (List.mem_iff_getElem?.2 ⟨i,hs.1⟩)
         refine fin0 (decide (s.c<0)) ?_
         rw [hc,asleep_of hs]
         simp;omega
       · refine fin0 true ?_
         rw [hc,asleep_no hno,h3]
         rfl
     · refine fin0 false ?_
       rw [hc,notF h3]
       rfl
   · have h2:=oFa h2
     refine fin0 false ?_
     rw [canZ,show decide (0≤t∧t<(m.ts.length:Int))=false from decide_eq_false (by omega)]
     rfl
 · have h1:=oFa h1
   refine fin0 false ?_
   rw [canZ,show decide (0≤t∧t<(m.ts.length:Int))=false from decide_eq_false (by omega)]
   rfl

theorem coreEnds (hw:WF m) (h:K (.tup [.c (.f (.bool (allZ m))),.c (.f (.bool (stuckZ m)))]) [] (machH m v)):Does Tryz.prog 118 [cv (.ptr 0 0)] (machH m v) K:=by
 have hps:=hw.ps
 have hn:=hw.n
 refine does Tryz.func118 rfl (by decide) ?_
 refine SS.loop (fun i:Nat=>i≤m.ts.length) (fun i=>[(0,cv (.ptr 0 0)),(2,bl ((m.ts.take i).all (·.dn))),(3,bl ((List.range i).all (fun t=>!canZ m (t:Int)))),(9,i64 m.ps.length),(10,i64 i)]) (fun _=>machH m v) (fun i=>m.ts.length-i) []
  (At.mk' [0,2,3,9,10] 0 (by simp) ⟨rfl,rfl⟩ rfl rfl (by simp) (by simp) (by simp)) ?_
 intro i hi
 change i≤m.ts.length at hi
 refine S_r ?_
 refine bZ (fun hlt=>?_) (fun hlt=>?_)
 · have hlt:i<m.ts.length:=by
    have:=oTr hlt
    have:(i:Int)<(m.ps.length:Int):=this
    omega
   obtain ⟨x,hx⟩ : ∃ x,m.ts[i]? = some x:=⟨_,List.getElem?_eq_getElem hlt⟩
   have hg:=ts_get hx
   obtain ⟨hr,_⟩:=hw.rg x (List.mem_of_getElem? hx)
   have e0:0+Int.toNat (i:Int)=i:=by omega
   have e1:(m.ts.take (i+1)).all (·.dn)=((m.ts.take i).all (·.dn) && x.dn):=by rw [List.take_add_one,hx];simp
   have e2:(List.range (i+1)).all (fun t=>!canZ m (t:Int))=((List.range i).all (fun t=>!canZ m (t:Int)) && !canZ m (i:Int)):=by rw [List.range_succ];simp
   refine bZ (fun ha=>?_) (fun ha=>?_)
   · refine at2 (a:=(0:Int)≤(i:Int)) (b:=(i:Int)<(m.ps.length:Int)) (by omega) (by omega) (rd1 (rowT x) (.bool x.dn) (by rw [e0];exact hg) (rowT_dn hr rfl) ?_)
     refine bZ (fun hs=>?_) (fun hs=>?_)
     · change Does Tryz.prog 171 _ _ _
       refine coreCan hw i ?_
       refine At.mk' [0,2,3,9,10] (i+1) ⟨hlt,by omega⟩ ⟨?_,rfl⟩ rfl rfl (by simp) (by simp) (by simp)
       rw [wrap_i64 (i+1) (by omega) (by omega),e1,e2,ha,hs]
       rfl
     · refine At.mk' [0,2,3,9,10] (i+1) ⟨hlt,by omega⟩ ⟨?_,rfl⟩ rfl rfl (by simp) (by simp) (by simp)
       rw [wrap_i64 (i+1) (by omega) (by omega),e1,e2,ha,hs]
       rfl
   · refine bZ (fun hs=>?_) (fun hs=>?_)
     · change Does Tryz.prog 171 _ _ _
       refine coreCan hw i ?_
       refine At.mk' [0,2,3,9,10] (i+1) ⟨hlt,by omega⟩ ⟨?_,rfl⟩ rfl rfl (by simp) (by simp) (by simp)
       rw [wrap_i64 (i+1) (by omega) (by omega),e1,e2,ha,hs]
       rfl
     · refine At.mk' [0,2,3,9,10] (i+1) ⟨hlt,by omega⟩ ⟨?_,rfl⟩ rfl rfl (by simp) (by simp) (by simp)
       rw [wrap_i64 (i+1) (by omega) (by omega),e1,e2,ha,hs]
       rfl
 · have hlt:¬(i:Int)<(m.ps.length:Int):=oFa hlt
   obtain rfl:i=m.ts.length:=by omega
   have e:m.ts.take m.ts.length=m.ts:=List.take_length
   rw [e]
   refine bZ (fun hs=>?_) (fun hs=>?_)
   · refine eqb (K:=fun b=>K (.tup [.c (.f (.bool (allZ m))),.c (.f (.bool b))]) [] (machH m v)) h ?_
     rw [stuckZ,hs]
     rfl
   · refine eqb (K:=fun b=>K (.tup [.c (.f (.bool (allZ m))),.c (.f (.bool b))]) [] (machH m v)) h ?_
     rw [stuckZ,hs]
     rfl

theorem coreSteps (h:K (i64 m.k) [] (machH m v)):Does Tryz.prog 144 [cv (.ptr 0 0)] (machH m v) K:=by
 refine does Tryz.func144 rfl (by decide) ?_
 exact h

def cellZ (m:MZ) (t:Int):Int:=((m.ss.find? fun s=>s.t == t).map (·.c)).getD (-1)

theorem cellZ_has {t:Int} {i:Nat} {s:Slp} (h:hasT m.ss t i s):cellZ m t=s.c:=by
 obtain ⟨h1,h2,h3⟩:=h
 have:m.ss.find? (fun s=>s.t == t)=some s:=by
  rw [List.find?_eq_some_iff_getElem]
  have hi:=(List.getElem?_eq_some_iff.1 h1).1
  refine ⟨by simpa using h2,i,hi,(List.getElem?_eq_some_iff.1 h1).2,fun j hj=>?_⟩
  have:=h3 j m.ss[j] hj (List.getElem?_eq_getElem _)
  simpa using this
 rw [cellZ,this];rfl

theorem cellZ_no {t:Int} (h:noT m.ss t):cellZ m t = -1:=by
 have:m.ss.find? (fun s=>s.t == t)=none:=by
  rw [List.find?_eq_none]
  exact fun s hs=>by simpa using h s hs
 rw [cellZ,this];rfl

theorem coreAt (hw:WF m) (t:Int) (h2:¬(0≤t∧t<m.ts.length)→K (.tup [.c (.f (.int .i64 0)),.c (.f (.int .i64 0)),.c (.iface 68 (.f (.int .i64 2)))]) [] (machH m v))
 (h6:0≤t∧t<m.ts.length→(thZ m t.toNat).dn=true→K (.tup [.c (.f (.int .i64 0)),.c (.f (.int .i64 0)),.c (.iface 68 (.f (.int .i64 6)))]) [] (machH m v))
 (h:0≤t∧t<m.ts.length→(thZ m t.toNat).dn=false→K (.tup [.c (.f (.int .i64 (thZ m t.toNat).pc)),.c (.f (.int .i64 (cellZ m t))),.c .niliface]) [] (machH m v)) :
 Does Tryz.prog 108 [cv (.ptr 0 0),i64 t] (machH m v) K:=by
 have hps:=hw.ps
 refine does Tryz.func108 rfl (by decide) ?_
 refine SS.inlR ?_
 refine bZ (fun h1=>?_) (fun h1=>?_)
 · have:=oTr h1
   exact h2 (by omega)
 have h1:=oFa h1
 refine bZ (fun h3=>?_) (fun h3=>?_)
 · have:=oTr h3
   exact h2 (by omega)
 have h3:=oFa h3
 obtain ⟨k,rfl⟩:=Int.eq_ofNat_of_zero_le (show 0≤t by omega)
 obtain ⟨x,hx⟩ : ∃ x,m.ts[k]? = some x:=⟨_,List.getElem?_eq_getElem (by omega)⟩
 have hg:=ts_get hx
 obtain ⟨hr,_⟩:=hw.rg x (List.mem_of_getElem? hx)
 have e0:0+Int.toNat (k:Int)=k:=by omega
 rw [Int.toNat_natCast,thZ_get hx] at h h6
 refine at2 (a:=(0:Int)≤(k:Int)) (b:=(k:Int)<(m.ps.length:Int)) (by omega) (by omega) (rd1 (rowT x) (.bool x.dn) (by rw [e0];exact hg) (rowT_dn hr rfl) ?_)
 refine bZ (fun h4=>h6 (by omega) h4) (fun h4=>?_)
 have h:=h (by omega) h4
 refine SS.drawR follows (by decide) ?_
 refine at2 (a:=(0:Int)≤(k:Int)) (b:=(k:Int)<(m.ps.length:Int)) (by omega) (by omega) (rd1 (rowT x) (.int .i64 x.pc) (by rw [e0];exact hg) rfl ?_)
 change Does Tryz.prog 164 _ _ _
 refine Does.on 9 [5,6] _ _ (lotCell (n:=m.ps.length) (k:=m.ss.length) (nn:=v.nl) (ss:=m.ss) (ex:=v.ex) k rfl (by have:=hw.len_ss;omega) (fun i s hs=>?_) fun hno=>?_)
 · rw [cellZ_has hs] at h
   have hg0:(m.ts.map rowT)[0+Int.toNat (k:Int)]? = some (rowT x):=by rw [e0];exact hg
   repeat' (first | refine And.intro rfl ?_ | refine And.intro (And.intro (by omega) (And.intro (by omega) rfl)) ?_ | refine And.intro (Exists.intro (rowT x) (Exists.intro (.int .i64 x.pc) (And.intro hg0 (And.intro rfl rfl)))) ?_ | fail)
   exact h
 · rw [cellZ_no hno] at h
   have hg0:(m.ts.map rowT)[0+Int.toNat (k:Int)]? = some (rowT x):=by rw [e0];exact hg
   repeat' (first | refine And.intro rfl ?_ | refine And.intro (And.intro (by omega) (And.intro (by omega) rfl)) ?_ | refine And.intro (Exists.intro (rowT x) (Exists.intro (.int .i64 x.pc) (And.intro hg0 (And.intro rfl rfl)))) ?_ | fail)
   exact h

end
end
end Go.Mac
end
section
open Go Go.Proofs Go.Mac

namespace Go.Mac

def rgok (r:List Int):Prop:=r.length=8∧∀ v∈r,0≤v∧v<18446744073709551616

theorem u64m_lt (x:Int):0≤u64m x∧u64m x<18446744073709551616:=by
 rw [u64m,wrap_u64_mod]
 exact ⟨Int.emod_nonneg _ (by decide),Int.emod_lt_of_pos _ (by decide)⟩

theorem rgZ_ok {r:List Int} (h:∀ v∈r,0≤v∧v<18446744073709551616) (j:Int):0≤rgZ r j∧rgZ r j<18446744073709551616:=by
 rw [rgZ,List.getD_eq_getElem?_getD]
 cases h':r[j.toNat]? with
 | none=>decide
 | some y=>exact h y (List.mem_of_getElem? h')

theorem rgS_ok {r:List Int} (h:∀ v∈r,0≤v∧v<18446744073709551616) {j w:Int} (hw:0≤w∧w<18446744073709551616):∀ v∈rgS r j w,0≤v∧v<18446744073709551616:=fun v hv=>by
 rcases List.mem_or_eq_of_mem_set hv with hv | rfl
 · exact h v hv
 · exact hw

theorem rgok_set {r:List Int} (h:rgok r) {j w:Int} (hw:0≤w∧w<18446744073709551616):rgok (rgS r j w):=⟨rgS_len.trans h.1,rgS_ok h.2 hw⟩

def thok (size:Nat) (x:ThZ):Prop:=rgok x.rg∧x.pc≤size∧(x.dn=false→x.pc<size)

theorem loc_ok {nc size:Int} {n:Nat} {x x':ThZ} {i:InsZ} (hs:size=n) (hi:okI nc size i=true) (hr:rgok x.rg) (hl:localZ x i=some x') (hpc:x.pc≤n) (hnx:i.op≠0→i.op≠10→x.pc<n):thok n x':=by
 obtain ⟨op,a,b,c,d⟩:=i
 obtain ⟨hop,f0,f1,f2,f3⟩:=okI_cut hi
 dsimp only at hnx
 have key:op=0∨op=1∨op=2∨op=3∨op=4∨op=5∨op=10∨op=11∨op=12∨op=13∨(op=6∨op=7∨op=8∨op=9∨op=14∨op=15∨op=16):=by omega
 rcases key with rfl | rfl | rfl | rfl | rfl | rfl | rfl | rfl | rfl | rfl | h
 · obtain rfl:=Option.some.inj hl
   exact ⟨hr,hpc,fun h=>by cases h⟩
 · obtain rfl:=Option.some.inj hl
   exact ⟨rgok_set hr (u64m_lt _),hpc,fun _=>hnx (by decide) (by decide)⟩
 · obtain rfl:=Option.some.inj hl
   exact ⟨rgok_set hr (rgZ_ok hr.2 _),hpc,fun _=>hnx (by decide) (by decide)⟩
 · obtain rfl:=Option.some.inj hl
   exact ⟨rgok_set hr (u64m_lt _),hpc,fun _=>hnx (by decide) (by decide)⟩
 · obtain rfl:=Option.some.inj hl
   exact ⟨rgok_set hr (u64m_lt _),hpc,fun _=>hnx (by decide) (by decide)⟩
 · obtain rfl:=Option.some.inj hl
   exact ⟨rgok_set hr (u64m_lt _),hpc,fun _=>hnx (by decide) (by decide)⟩
 · obtain rfl:=Option.some.inj hl
   have:=fit4 f0
   exact ⟨hr,by show a.toNat≤n;omega,fun _=>by show a.toNat<n;omega⟩
 · have:=fit4 f2
   have hx:(if rgZ x.rg a=u64m b then ({ x with pc:=c.toNat }:ThZ) else x)=x':=Option.some.inj hl
   subst hx
   split
   · exact ⟨hr,by show c.toNat≤n;omega,fun _=>by show c.toNat<n;omega⟩
   · exact ⟨hr,hpc,fun _=>hnx (by decide) (by decide)⟩
 · have:=fit4 f2
   have hx:(if rgZ x.rg a<rgZ x.rg b then ({ x with pc:=c.toNat }:ThZ) else x)=x':=Option.some.inj hl
   subst hx
   split
   · exact ⟨hr,by show c.toNat≤n;omega,fun _=>by show c.toNat<n;omega⟩
   · exact ⟨hr,hpc,fun _=>hnx (by decide) (by decide)⟩
 · have:=fit4 f2
   have hx:(if rgZ x.rg a=rgZ x.rg b then ({ x with pc:=c.toNat }:ThZ) else x)=x':=Option.some.inj hl
   subst hx
   split
   · exact ⟨hr,by show c.toNat≤n;omega,fun _=>by show c.toNat<n;omega⟩
   · exact ⟨hr,hpc,fun _=>hnx (by decide) (by decide)⟩
 · exfalso
   rcases h with rfl | rfl | rfl | rfl | rfl | rfl | rfl <;> simp [localZ] at hl

variable {m:MZ}

theorem WF.th (hw:WF m) {t:Nat} {x:ThZ} {p:List InsZ} (hp:m.ps[t]? = some p) (hx:thok p.length x):WF (m.th t x):=by
 have hlen:(m.th t x).ts.length=m.ts.length:=List.length_set
 refine ⟨hw.ps.trans hlen.symm,by rw [hlen];exact hw.n,hw.right,fun y hy=>?_,fun j y q hj hq=>?_,hw.nc,hw.ws,⟨hw.ss.1,fun s hs=>by rw [hlen];exact hw.ss.2 s hs⟩,hw.al,hw.el,hw.k,hw.sl⟩
 · rcases List.mem_or_eq_of_mem_set hy with hy | rfl
   · exact hw.rg y hy
   · exact hx.1
 · by_cases e:t=j
   · subst e
     have hlt:t<m.ts.length:=by have:=(List.getElem?_eq_some_iff.1 hp).1;have:=hw.ps;omega
     have:y=x:=by
      have h1:(m.ts.set t x)[t]? = some y:=hj
      rw [List.getElem?_set_self hlt] at h1
      exact (Option.some.inj h1).symm
     subst this
     rw [show m.ps[t]? = some q from hq] at hp
     obtain rfl:=Option.some.inj hp
     exact hx.2
   · have h1:(m.ts.set t x)[j]? = some y:=hj
     rw [List.getElem?_set_ne e] at h1
     exact hw.pc j y q h1 hq

theorem WF.act (hw:WF m) (hal:m.al.length<m.k) (t o c x y:Int):WF (m.act t o c x y) :=
 ⟨hw.ps,hw.n,hw.right,hw.rg,hw.pc,hw.nc,hw.ws,hw.ss,by show (m.al++[_]).length≤m.k;simp;omega,hw.el,hw.k,hw.sl⟩

theorem WF.cell (hw:WF m) {c w:Int} (hv:0≤w∧w<18446744073709551616):WF { m with ws:=rgS m.ws c w } :=
 ⟨hw.ps,hw.n,hw.right,hw.rg,hw.pc,rgS_len.trans hw.nc,⟨by show (rgS m.ws c w).length≤300;rw [rgS_len];exact hw.ws.1,rgS_ok hw.ws.2 hv⟩,hw.ss,hw.al,hw.el,hw.k,hw.sl⟩

theorem wakeL_mem (c n:Int):∀ (l:List Slp) (k:Nat),(wakeL c n k l).2.Sublist l
 | [],_=>List.Sublist.slnil
 | x::xs,k=>by
   rw [wakeL]
   split
   · exact (wakeL_mem c n xs (k+1)).cons _
   · exact (wakeL_mem c n xs k).cons_cons _

theorem WF.sleepers (hw:WF m) {ss:List Slp} (h1:(ss.map (·.t)).Nodup) (h2:∀ s∈ss,0≤s.t∧s.t<m.ts.length∧0≤s.c∧s.c<m.nc) (h3:ss.length≤m.k):WF { m with ss:=ss } :=
 ⟨hw.ps,hw.n,hw.right,hw.rg,hw.pc,hw.nc,hw.ws,⟨h1,h2⟩,hw.al,hw.el,hw.k,h3⟩

theorem far_ok (hw:WF m) (hal:m.al.length<m.k) (hel:m.el.length<m.k) (hsl:m.ss.length<m.k) {t:Nat} {x:ThZ} {i:InsZ} {p:List InsZ} {size:Int} (hx:m.ts[t]? = some x) (hd:x.dn=false) (hp:m.ps[t]? = some p) (hi:okI m.nc size i=true) (hno:noT m.ss t)
 {m':MZ} (hf:farZ m t x i=some m') (hl:localZ x i=none):WF m':=by
 obtain ⟨op,a,b,c,d⟩:=i
 obtain ⟨hop,f0,f1,f2,f3⟩:=okI_cut hi
 have hr:rgok x.rg:=hw.rg x (List.mem_of_getElem? hx)
 have htl:=(List.getElem?_eq_some_iff.1 hx).1
 obtain ⟨hpc1,hpc2⟩:=hw.pc t x p hx hp
 have hth:∀ (j w:Int),0≤w∧w<18446744073709551616→WF (m.th t { x with rg:=rgS x.rg j w }):=fun j w hv=>hw.th hp ⟨rgok_set hr hv,hpc1,fun _=>hpc2 hd⟩
 have hwz:∀ j,0≤rgZ m.ws j∧rgZ m.ws j<18446744073709551616:=fun j=>rgZ_ok hw.ws.2 j
 have key:op=6∨op=8∨op=9∨op=14∨op=16∨op=7∨op=15:=by
  by_cases o6:op=6
  · omega
  by_cases o8:op=8
  · omega
  by_cases o9:op=9
  · omega
  by_cases o14:op=14
  · omega
  by_cases o16:op=16
  · omega
  have:=far_op hop hl o6 o8 o9 o14 o16
  omega
 rcases key with rfl | rfl | rfl | rfl | rfl | ho
 · obtain rfl:=Option.some.inj hf
   exact (hth a _ (hwz b)).act hal _ _ _ _ _
 · obtain rfl:=Option.some.inj hf
   exact ((hth a _ (hwz b)).cell (u64m_lt _)).act hal _ _ _ _ _
 · by_cases hs:rgZ m.ws b=rgZ x.rg c
   · have:farZ m t x ⟨9,a,b,c,d⟩ = some _:=if_pos hs
     rw [this] at hf
     obtain rfl:=Option.some.inj hf
     exact ((hth a 1 (by decide)).cell (rgZ_ok hr.2 d)).act hal _ _ _ _ _
   · have:farZ m t x ⟨9,a,b,c,d⟩ = some _:=if_neg hs
     rw [this] at hf
     obtain rfl:=Option.some.inj hf
     exact (hth a 0 (by decide)).act hal _ _ _ _ _
 · have hf':(if rgZ m.ws a=rgZ x.rg b then ({ m with ss:=m.ss++[⟨t,a⟩] }:MZ) else m)=m':=Option.some.inj hf
   subst hf'
   split
   · have hb:=fit2 f0
     refine hw.sleepers ?_ (fun s hs=>?_) (by simp;omega)
     · rw [List.map_append,List.nodup_append]
       refine ⟨hw.ss.1,by simp,fun y hy z hz=>?_⟩
       simp at hz
       subst hz
       obtain ⟨s,hs,rfl⟩:=List.mem_map.1 hy
       exact hno s hs
     · rcases List.mem_append.1 hs with hs | hs
       · exact hw.ss.2 s hs
       · simp at hs
         subst hs
         exact ⟨by show (0:Int)≤(t:Int);omega,by show (t:Int)<_;omega,hb.1,hb.2⟩
   · exact hw
 · obtain rfl:=Option.some.inj hf
   exact ⟨hw.ps,hw.n,hw.right,hw.rg,hw.pc,hw.nc,hw.ws,hw.ss,hw.al,by show (m.el++[_]).length≤m.k;simp;omega,hw.k,hw.sl⟩
 · have hfar:farZ m t x ⟨op,a,b,c,d⟩ = match offZ x ⟨op,a,b,c,d⟩ with
    | none=>none
    | some c=>if c<m.nc then
       if op=15 then some { m with ss:=(wakeL c b 0 m.ss).2 }
       else some ({ m with ws:=rgS m.ws c (rgZ x.rg b) }.act t op c (rgZ m.ws c) (rgZ x.rg b))
      else none:=by rcases ho with rfl | rfl <;> rfl
   rw [hfar] at hf
   cases hoff:offZ x ⟨op,a,b,c,d⟩ with
   | none=>rw [hoff] at hf;cases hf
   | some z =>
     rw [hoff] at hf
     dsimp only at hf
     by_cases h1:z<m.nc
     · rw [if_pos h1] at hf
       by_cases h2:op=15
       · rw [if_pos h2] at hf
         obtain rfl:=Option.some.inj hf
         have hsub:=wakeL_mem z b m.ss 0
         exact hw.sleepers ((hsub.map _).nodup hw.ss.1) (fun s hs=>hw.ss.2 s (hsub.subset hs)) (by have:=hsub.length_le;omega)
       · rw [if_neg h2] at hf
         obtain rfl:=Option.some.inj hf
         exact (hw.cell (rgZ_ok hr.2 b)).act hal _ _ _ _ _
     · rw [if_neg h1] at hf;cases hf

theorem lastOp_at {p:List InsZ} {i:InsZ} {k:Nat} (hi:p[k]? = some i) (hk:k+1=p.length):lastOp p=i.op:=by
 rw [lastOp,List.getLast?_eq_getElem?,show p.length-1=k by omega,hi]
 rfl

theorem not_asleep {t:Int} (h:asleepZ m t=false):noT m.ss t:=fun s hs e=>by
 have:=List.any_eq_false.1 h s hs
 simp [e] at this

theorem WF.go (hw:WF m) {t:Nat} (ht:t<m.ts.length) (hd:(thZ m t).dn=false) (hs:asleepZ m t=false) (hk:m.k<20000):WF (goZ m t).2:=by
 obtain ⟨x,hx⟩ : ∃ x,m.ts[t]? = some x:=⟨_,List.getElem?_eq_getElem ht⟩
 obtain ⟨p,hp⟩ : ∃ p,m.ps[t]? = some p:=⟨_,List.getElem?_eq_getElem (by have:=hw.ps;omega)⟩
 have hth:thZ m t=x:=thZ_get hx
 rw [hth] at hd
 obtain ⟨hpc1,hpc2⟩:=hw.pc t x p hx hp
 have hpc:=hpc2 hd
 obtain ⟨i,hi⟩ : ∃ i,p[x.pc]? = some i:=⟨_,List.getElem?_eq_getElem hpc⟩
 have hr:rgok x.rg:=hw.rg x (List.mem_of_getElem? hx)
 have hok:=hw.okI (List.mem_of_getElem? hp) (List.mem_of_getElem? hi)
 have hnx:i.op≠0→i.op≠10→x.pc+1<p.length:=fun h0 h10=>by
  refine Classical.byContradiction fun hn=>?_
  have h1:=lastOp_at hi (by omega)
  have h2:=hw.right p (List.mem_of_getElem? hp)
  simp only [rightZ,h1,Bool.and_eq_true,Bool.or_eq_true,beq_iff_eq] at h2
  rcases h2.2 with h | h
  · exact h0 h
  · exact h10 h
 have hw1:WF { m with k:=m.k+1 }:=⟨hw.ps,hw.n,hw.right,hw.rg,hw.pc,hw.nc,hw.ws,hw.ss,by have:=hw.al;show m.al.length≤m.k+1;omega,by have:=hw.el;show m.el.length≤m.k+1;omega,by show m.k+1≤20000;omega,by have:=hw.sl;show m.ss.length≤m.k+1;omega⟩
 have hset:∀ y:ThZ,(onZ m t).th t y = { m with k:=m.k+1 }.th t y:=fun y=>by
  show ({ ps:=m.ps,ts:=(m.ts.set t _).set t y,ws:=m.ws,ss:=m.ss,al:=m.al,el:=m.el,k:=m.k+1,nc:=m.nc }:MZ)=_
  rw [List.set_set]
  rfl
 rw [goZ,doZ,hth,insZ_get hp hi]
 cases hl:localZ { x with pc:=x.pc+1 } i with
 | some x' =>
   dsimp only
   rw [hset]
   exact hw1.th hp (loc_ok (x:={ x with pc:=x.pc+1 }) rfl hok hr hl (by show x.pc+1≤_;omega) hnx)
 | none =>
   dsimp only
   have ho:i.op≠0∧i.op≠10:=by
    constructor
    · intro e
      rw [localZ,if_pos e] at hl
      cases hl
    · intro e
      simp [localZ,e] at hl
   have hw2:WF (onZ m t):=by
    rw [onZ,hth]
    exact hw1.th hp ⟨hr,by show x.pc+1≤_;omega,fun _=>hnx ho.1 ho.2⟩
   cases hf:farZ (onZ m t) t { x with pc:=x.pc+1 } i with
   | some m' =>
     dsimp only
     have hal:=hw.al
     have hel:=hw.el
     have hsl:=hw.sl
     exact far_ok hw2 (by show m.al.length<m.k+1;omega) (by show m.el.length<m.k+1;omega) (by show m.ss.length<m.k+1;omega) (x:={ x with pc:=x.pc+1 }) (p:=p) (by rw [onZ,hth];exact List.getElem?_set_self ht) hd hp hok (not_asleep hs) hf hl
   | none =>
     dsimp only
     rw [hset]
     exact hw1.th hp ⟨hr,by show x.pc+1≤_;omega,fun h=>by cases h⟩

theorem WF.step (hw:WF m) (t:Int):WF (stepZ m t).2:=by
 unfold stepZ
 split
 · exact hw
 · rename_i h1
   split
   · exact hw
   · rename_i h2
     split
     · exact hw
     · rename_i h3
       split
       · exact hw
       · rename_i h4
         have:=hw.k
         exact hw.go (by omega) (by simpa using h2) (by rw [show ((t.toNat:Nat):Int)=t by omega];simpa using h3) (by omega)

end Go.Mac
end

section
open Go Go.Proofs Go.Mac
set_option maxRecDepth 100000
namespace Go.Mac
section
def runS (p:Nat×MZ) (t:Int):Nat×MZ:=(p.1+(if (stepZ p.2 t).1=0∨p.2.k<(stepZ p.2 t).2.k then 1 else 0),(stepZ p.2 t).2)
def runM (m:MZ) (l:List Int):Nat×MZ:=l.foldl runS (0,m)

theorem runM_take (m:MZ) (l:List Int) (i:Nat) (x:Int) (h:l[i]? = some x):runM m (l.take (i+1))=runS (runM m (l.take i)) x:=by
 rw [runM,List.take_add_one,h,List.foldl_append]
 rfl

theorem runM_wf {m:MZ} (hw:WF m) (l:List Int):WF (runM m l).2:=by
 have:∀ (l:List Int) (p:Nat×MZ),WF p.2→WF (l.foldl runS p).2:=by
  intro l
  induction l with
  | nil=>exact fun p h=>h
  | cons x l ih=>exact fun p h=>ih _ (h.step x)
 exact this l (0,m) hw

theorem runM_le (m:MZ) (l:List Int):(runM m l).1≤l.length:=by
 have:∀ (l:List Int) (p:Nat×MZ),(l.foldl runS p).1≤p.1+l.length:=by
  intro l
  induction l with
  | nil=>exact fun p=>Nat.le_refl _
  | cons x l ih =>
    intro p
    have:=ih (runS p x)
    have h2:(runS p x).1≤p.1+1:=by
     rw [runS];dsimp only;split <;> omega
    rw [List.foldl_cons,List.length_cons]
    omega
 have:=this l (0,m)
 rw [runM]
 simpa using this

section

variable {K:KP} {m:MZ} {v:VZ}

theorem stepZ_k (m:MZ) (t:Int):(stepZ m t).2.k=m.k∨(stepZ m t).2.k=m.k+1:=by
 unfold stepZ
 repeat (split;· exact .inl rfl)
 rw [goZ,doZ]
 split
 · exact .inr rfl
 · split
   · rename_i m' hf
     right
     have:∀ (m m':MZ) (t:Nat) (x:ThZ) (i:InsZ),farZ m t x i=some m'→m'.k=m.k:=by
      intro m m' t x i hf
      unfold farZ at hf
      repeat' (split at hf)
      all_goals first | (obtain rfl:=Option.some.inj hf;first | rfl | (split <;> rfl)) | cases hf
     rw [this _ _ _ _ _ hf]
     rfl
   · exact .inr rfl

theorem coreRun {l:List Int} {n:Nat} {ro nn:Bool} {c:Option Nat} (hw:WF m) (hv:okV v) (hl:l.length=n) (hn:n<1000000)
 (h:∀ v',okV v'→K (i64 (runM m l).1) [6,7,8] (machH (runM m l).2 v'++[.rows ro 1 (l.map rowZ)])) :
 Does Tryz.prog 136 [cv (.ptr 0 0),cv (.slc 9 0 n c nn)] (machH m v++[.rows ro 1 (l.map rowZ)]) K:=by
 refine does Tryz.func136 rfl (by decide) ?_
 refine SS.loop (fun p:Nat×VZ=>p.1≤n∧okV p.2) (fun p=>[(0,cv (.ptr 0 0)),(5,i64 (runM m (l.take p.1)).1),(9,cv (.slc 9 0 n c nn)),(10,i64 n),(11,i64 p.1)]) (fun p=>machH (runM m (l.take p.1)).2 p.2++[.rows ro 1 (l.map rowZ)]) (fun p=>n-p.1) [6,7,8]
  (At.mk' [0,5,9,10,11] (0,v) ⟨by simp,hv⟩ ⟨rfl,rfl⟩ rfl rfl (by simp) (by simp) (by simp)) ?_
 rintro ⟨i,v1⟩ ⟨hi,hv1⟩
 change i≤n at hi
 have hw1:=runM_wf hw (l.take i)
 have hle:(runM m (l.take i)).1≤i:=Nat.le_trans (runM_le m (l.take i)) (by simp;omega)
 refine S_r ?_
 refine bZ (fun hlt=>?_) (fun hlt=>?_)
 · have hlt:i<n:=by
    have:=oTr hlt
    have:(i:Int)<(n:Int):=this
    omega
   obtain ⟨x,hx⟩ : ∃ x,l[i]? = some x:=⟨_,List.getElem?_eq_getElem (by omega)⟩
   have ht:=runM_take m l i x hx
   generalize hm1:runM m (l.take i)=r at *
   obtain ⟨n1,m1⟩:=r
   have hk:=stepZ_k m1 x
   change n1≤i at hle
   refine SS.inlR ?_
   refine at2 (a:=(0:Int)≤(i:Int)) (b:=(i:Int)<(n:Int)) (by omega) (by omega) (rd1 (rowZ x) (.int .i64 x) (by simp [hx]) rfl ?_)
   change Does Tryz.prog 143 _ _ _
   refine Does.on 10 [0,1,2,3,4,5,6,7,8] _ _ (coreStep (m:=m1) (v:=v1) hw1 hv1 x (fun h0 v' hv'=>?_) fun h0 v' hv'=>?_)
   · refine At.mk' [0,5,9,10,11] (i+1,v') ⟨⟨by show i+1≤n;omega,hv'⟩,by show n-(i+1)<n-i;omega⟩ ⟨?_,rfl⟩ ?_ rfl (by simp) (by simp) (by decide)
     · rw [ht,runS,if_pos (.inl h0),wrap_i64 (i+1) (by omega) (by omega),wrap_i64 (n1+1) (by omega) (by omega)]
       rfl
     · rw [ht]
       rfl
   · refine bZ (fun hgt=>?_) (fun hgt=>?_)
     · refine At.mk' [0,5,9,10,11] (i+1,v') ⟨⟨by show i+1≤n;omega,hv'⟩,by show n-(i+1)<n-i;omega⟩ ⟨?_,rfl⟩ ?_ rfl (by simp) (by simp) (by decide)
       · rw [ht,runS,if_pos (.inr (by have h9:((stepZ m1 x).2.k:Int) > (m1.k:Int):=oTr hgt;show m1.k<(stepZ m1 x).2.k;omega)),wrap_i64 (i+1) (by omega) (by omega),wrap_i64 (n1+1) (by omega) (by omega)]
         rfl
       · rw [ht]
         rfl
     · refine At.mk' [0,5,9,10,11] (i+1,v') ⟨⟨by show i+1≤n;omega,hv'⟩,by show n-(i+1)<n-i;omega⟩ ⟨?_,rfl⟩ ?_ rfl (by simp) (by simp) (by decide)
       · rw [ht,runS,if_neg (by
          have h9:¬((stepZ m1 x).2.k:Int) > (m1.k:Int):=oFa hgt
          rintro (h | h)
          · exact h0 h
          · have h8:m1.k<(stepZ m1 x).2.k:=h
            omega),wrap_i64 (i+1) (by omega) (by omega)]
         rfl
       · rw [ht]
         rfl
 · have hlt:¬(i:Int)<(n:Int):=oFa hlt
   obtain rfl:i=n:=by omega
   rw [List.take_of_length_le (by omega)]
   exact h v1 hv1

end
end
end Go.Mac
end
section
open Go Go.Proofs Go.Mac

namespace Go.Mac

abbrev Cfg:Type:=List (Nat×List Int×Bool)×List Int×List (Int×Int)×List (Int×Int×Int)

def enc (m:MZ):Cfg:=(m.ts.map fun x=>(x.pc,x.rg,x.dn),m.ws,m.ss.map fun s=>(s.t,s.c),m.el.map fun e=>(e.a,e.t,e.v))
def dec (ps:List (List InsZ)) (nc:Nat) (c:Cfg):MZ:=⟨ps,c.1.map fun x=>⟨x.1,x.2.1,x.2.2⟩,c.2.1,c.2.2.1.map fun s=>⟨s.1,s.2⟩,[],c.2.2.2.map fun e=>⟨0,e.1,e.2.1,e.2.2⟩,0,nc⟩
def stepC (ps:List (List InsZ)) (nc:Nat) (c:Cfg) (t:Int):Cfg:=enc (stepZ (dec ps nc c) t).2

theorem far_ps {m m':MZ} {t:Nat} {x:ThZ} {i:InsZ} (h:farZ m t x i=some m'):m'.ps=m.ps∧m'.nc=m.nc:=by
 unfold farZ at h
 repeat' (split at h)
 all_goals first | (obtain rfl:=Option.some.inj h;first | exact ⟨rfl,rfl⟩ | (split <;> exact ⟨rfl,rfl⟩)) | cases h

theorem step_ps (m:MZ) (t:Int):(stepZ m t).2.ps=m.ps∧(stepZ m t).2.nc=m.nc:=by
 unfold stepZ
 repeat (split;· exact ⟨rfl,rfl⟩)
 rw [goZ,doZ]
 split
 · exact ⟨rfl,rfl⟩
 · split
   · rename_i m' hf
     have:=far_ps hf
     exact this
   · exact ⟨rfl,rfl⟩

end Go.Mac
end
