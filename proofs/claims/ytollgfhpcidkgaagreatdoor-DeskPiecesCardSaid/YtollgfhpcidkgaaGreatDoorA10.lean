/- Texts that belong together; the first of them:  -/
import Derived.Test.YtollgfhpcidkgaaGreatDoorA9

section
open Go Go.Proofs Go.Mac
set_option maxRecDepth 100000
namespace Go.Mac
section
theorem setsK_one {row:List FC} {f:Nat} {y:FC} {k:List FC→Prop} (hf:f<row.length) (h:k (row.set f y)):setsK row f [y] k:=by
 induction row generalizing f k with
 | nil=>simp at hf
 | cons x xs ih =>
   cases f with
   | zero=>cases xs <;> exact h
   | succ f=>exact ih (k:=fun l=>k (x::l)) (by simpa using hf) h

theorem wrF {rs:List (List FC)} {i f s:Nat} {K:List FC→Prop} (row:List FC) (y:FC) (h1:rs[i]? = some row) (hs:s=1) (hf:f<row.length) (h:K (row.set f y)) :
 ∃ row,rs[i]? = some row∧(bif Nat.ble (f+s) row.length then setsK row f [y] K else False):=by
 refine ⟨row,h1,?_⟩
 subst hs
 rw [show Nat.ble (f+1) row.length=true from Nat.ble_eq_true_of_le hf]
 exact setsK_one hf h

theorem rowT_len {x:ThZ} (hr:x.rg.length=8):(rowT x).length=10:=by simp [hr]

theorem rowT_reg {x:ThZ} (hr:x.rg.length=8) {b:Int} {f:Nat} (hb:0≤b∧b<8) (hf:f=1+b.toNat):(rowT x)[f]? = some (.int .u64 (rgZ x.rg b)):=by
 subst hf
 rw [show 1+b.toNat=b.toNat+1 by omega,rowT,List.getElem?_cons_succ,List.getElem?_append_left (by simp;omega),List.getElem?_map,List.getElem?_eq_getElem (by omega),rgZ,List.getD_eq_getElem?_getD,List.getElem?_eq_getElem (by omega)]
 rfl

theorem ts_get {ts:List ThZ} {t:Nat} {x:ThZ} (h:ts[t]? = some x):(ts.map rowT)[t]? = some (rowT x):=by simp [h]

theorem regs_set {ts:List ThZ} {t f:Nat} {x:ThZ} {a w:Int} (hr:x.rg.length=8) (ha:0≤a∧a<8) (hf:f=1+a.toNat) :
 (ts.map rowT).set t ((rowT x).set f (.int .u64 w))=(ts.set t { x with rg:=rgS x.rg a w }).map rowT:=by
 subst hf
 rw [List.map_set]
 congr 1
 rw [show 1+a.toNat=a.toNat+1 by omega,rowT,List.set_cons_succ,List.set_append_left _ _ (by simp;omega)]
 simp [rgS,List.map_set]

theorem pc_set {ts:List ThZ} {t f:Nat} {x:ThZ} {w:Nat} {wi:Int} (hw:wi=w) (hf:f=0):(ts.map rowT).set t ((rowT x).set f (.int .i64 wi))=(ts.set t { x with pc:=w }).map rowT:=by
 subst hf
 subst hw
 rw [List.map_set]
 rfl

theorem dn_set {ts:List ThZ} {t f:Nat} {x:ThZ} {b:Bool} (hr:x.rg.length=8) (hf:f=9):(ts.map rowT).set t ((rowT x).set f (.bool b))=(ts.set t { x with dn:=b }).map rowT:=by
 subst hf
 rw [List.map_set]
 congr 1
 rw [rowT,List.set_cons_succ,List.set_append_right _ _ (by simp [hr])]
 simp [hr]

section

variable {K:KP} {m:MZ} {v:VZ}

theorem coreAct (t o c x y:Int) (hk:m.al.length<1000000) (h:K (.tup []) [7] (machH (m.act t o c x y) v)) :
 Does Tryz.prog 233 [cv (.ptr 0 0),i64 t,i64 o,i64 c,u64 x,u64 y] (machH m v) K:=by
 refine does Tryz.func233 rfl (by decide) ?_
 refine SS.drawR follows (by decide) ?_
 repeat' (first | refine And.intro rfl ?_ | fail)
 refine And.intro (by simp) (Or.inl (And.intro rfl (And.intro (by simp) (And.intro ?_ (And.intro ?_ ?_)))))
 · show (m.al.length+1)*48≤_
   omega
 · show m.al.length+1≤_
   omega
 repeat' (first | refine And.intro rfl ?_ | fail)
 dsimp only [machH,MZ.act] at h
 rw [List.length_append,List.map_append (f:=rowAct)] at h
 exact h

theorem set_same {ts:List ThZ} {t:Nat} {x:ThZ} (h:ts[t]? = some x):ts.set t x=ts:=by
 refine List.ext_getElem? fun j=>?_
 by_cases hj:t=j
 · subst hj
   rw [List.getElem?_set_self (List.getElem?_eq_some_iff.1 h).1,h]
 · rw [List.getElem?_set_ne hj]

theorem okI_cut {cells size op a b c d:Int} (h:okI cells size ⟨op,a,b,c,d⟩ = true):(0≤op∧op<17)∧fitsZ (fo op 0) a cells size=true∧fitsZ (fo op 1) b cells size=true∧fitsZ (fo op 2) c cells size=true∧fitsZ (fo op 3) d cells size=true:=by
 simpa [okI,and_assoc] using h

theorem fit1 {x cells size:Int} (h:fitsZ 1 x cells size=true):0≤x∧x<8:=by simpa [fitsZ] using h
theorem fit2 {x cells size:Int} (h:fitsZ 2 x cells size=true):0≤x∧x<cells:=by simpa [fitsZ] using h
theorem fit4 {x cells size:Int} (h:fitsZ 4 x cells size=true):0≤x∧x<size:=by simpa [fitsZ] using h
theorem fit5 {x cells size:Int} (h:fitsZ 5 x cells size=true) : -1≤x∧x<8:=by simpa [fitsZ] using h
theorem fit6 {x cells size:Int} (h:fitsZ 6 x cells size=true):0≤x∧x≤63:=by simpa [fitsZ] using h
theorem fit7 {x cells size:Int} (h:fitsZ 7 x cells size=true):1≤x∧x≤63:=by simpa [fitsZ] using h

theorem coreLocal (t:Nat) (x:ThZ) (op a b c d:Int) {cells size:Int} (hx:m.ts[t]? = some x) (hr:x.rg.length=8) (hi:okI cells size ⟨op,a,b,c,d⟩ = true)
 (h1:∀ x',localZ x ⟨op,a,b,c,d⟩ = some x'→K (bl true) [] (machH (m.th t x') v)) (h0:localZ x ⟨op,a,b,c,d⟩ = none→K (bl false) [] (machH m v)) :
 Does Tryz.prog 194 [cv (.ptr 0 0),cv (.rptr 2 t 0),.p (.agg [.f (.int .i64 op),.f (.int .i64 a),.f (.int .i64 b),.f (.int .i64 c),.f (.int .i64 d)])] (machH m v) K:=by
 have hg:=ts_get hx
 obtain ⟨_,f0,f1,f2,f3⟩:=okI_cut hi
 have h1':∀ (x':ThZ),localZ x ⟨op,a,b,c,d⟩ = some x'→∀ R,R=(m.ts.set t x').map rowT→K (bl true) [] [.one [.slc 1 0 m.ps.length none v.np,.slc 2 0 m.ps.length none true,.ptr 3 0,.ptr 5 0,.slc 7 0 m.al.length none v.na,.slc 8 0 m.el.length none v.ne,.f (.int .i64 m.k)],
  .rows2 false 5 (m.ps.map fun p=>p.map rowIns),.rows false 10 R,.one [.slc 4 0 m.nc none v.nm],.rows false 1 (m.ws.map rowU),
  .one [.f (.int .i64 m.ps.length),.slc 6 0 m.ss.length none v.nl],.rows false 2 ((m.ss++v.ex).map rowS),.rows false 6 (m.al.map rowAct),.rows false 4 (m.el.map rowEv)]:=fun x' hx' R hR=>by
   subst hR
   have:=h1 x' hx'
   dsimp only [machH,MZ.th] at this
   exact this
 refine does Tryz.func194 rfl (by decide) ?_
 refine bZ (fun ho=>?_) (fun o0=>?_)
 · obtain rfl:op=0:=by simpa using ho
   refine wrF (rowT x) (.bool true) hg rfl (by rw [rowT_len hr];decide) ?_
   refine h1' _ rfl _ (dn_set hr rfl)
 refine bZ (fun ho=>?_) (fun o1=>?_)
 · obtain rfl:op=1:=by simpa using ho
   have ha:=fit1 f0
   refine SS.drawR follows (by decide) ?_
   refine at2 (by omega) (by omega) (wrF (rowT x) (.int .u64 (u64m b)) hg rfl (by rw [rowT_len hr];show 0+1+a.toNat*1<10;omega) ?_)
   repeat' (first | refine And.intro rfl ?_ | refine And.intro (And.intro (by omega) (And.intro (by omega) rfl)) ?_ | fail)
   refine h1' _ rfl _ (regs_set (a:=a) hr ha (show 0+1+a.toNat*1=_ by omega))
 refine bZ (fun ho=>?_) (fun o2=>?_)
 · obtain rfl:op=2:=by simpa using ho
   have ha:=fit1 f0
   have hb:=fit1 f1
   refine SS.drawR follows (by decide) ?_
   refine at2 (a:=(0:Int)≤b) (b:=b<(8:Nat)) (by omega) (by omega) (rd1 (rowT x) (.int .u64 (rgZ x.rg b)) hg (rowT_reg hr hb (show 0+1+b.toNat*1=_ by omega)) ?_)
   refine at2 (a:=(0:Int)≤a) (b:=a<(8:Nat)) (by omega) (by omega) (wrF (rowT x) (.int .u64 (rgZ x.rg b)) hg rfl (by rw [rowT_len hr];show 0+1+a.toNat*1<10;omega) ?_)
   repeat' (first | refine And.intro rfl ?_ | refine And.intro (And.intro (by omega) (And.intro (by omega) rfl)) ?_ | fail)
   refine h1' _ rfl _ (regs_set (a:=a) hr ha (show 0+1+a.toNat*1=_ by omega))
 refine bZ (fun ho=>?_) (fun o3=>?_)
 · obtain rfl:op=3:=by simpa using ho
   have ha:=fit1 f0
   have hb:=fit1 f1
   refine SS.drawR follows (by decide) ?_
   refine at2 (a:=(0:Int)≤b) (b:=b<(8:Nat)) (by omega) (by omega) (rd1 (rowT x) (.int .u64 (rgZ x.rg b)) hg (rowT_reg hr hb (show 0+1+b.toNat*1=_ by omega)) ?_)
   refine at2 (a:=(0:Int)≤a) (b:=a<(8:Nat)) (by omega) (by omega) (wrF (rowT x) (.int .u64 (u64m (rgZ x.rg b+u64m c))) hg rfl (by rw [rowT_len hr];show 0+1+a.toNat*1<10;omega) ?_)
   repeat' (first | refine And.intro rfl ?_ | refine And.intro (And.intro (by omega) (And.intro (by omega) rfl)) ?_ | fail)
   refine h1' _ rfl _ (regs_set (a:=a) hr ha (show 0+1+a.toNat*1=_ by omega))
 refine bZ (fun ho=>?_) (fun o4=>?_)
 · obtain rfl:op=4:=by simpa using ho
   have ha:=fit1 f0
   have hb:=fit1 f1
   have hc:=fit1 f2
   refine SS.drawR follows (by decide) ?_
   refine at2 (a:=(0:Int)≤b) (b:=b<(8:Nat)) (by omega) (by omega) (rd1 (rowT x) (.int .u64 (rgZ x.rg b)) hg (rowT_reg hr hb (show 0+1+b.toNat*1=_ by omega)) ?_)
   refine at2 (a:=(0:Int)≤c) (b:=c<(8:Nat)) (by omega) (by omega) (rd1 (rowT x) (.int .u64 (rgZ x.rg c)) hg (rowT_reg hr hc (show 0+1+c.toNat*1=_ by omega)) ?_)
   refine at2 (a:=(0:Int)≤a) (b:=a<(8:Nat)) (by omega) (by omega) (wrF (rowT x) (.int .u64 (u64m (rgZ x.rg b+rgZ x.rg c))) hg rfl (by rw [rowT_len hr];show 0+1+a.toNat*1<10;omega) ?_)
   repeat' (first | refine And.intro rfl ?_ | refine And.intro (And.intro (by omega) (And.intro (by omega) rfl)) ?_ | fail)
   refine h1' _ rfl _ (regs_set (a:=a) hr ha (show 0+1+a.toNat*1=_ by omega))
 refine bZ (fun ho=>?_) (fun o5=>?_)
 · obtain rfl:op=5:=by simpa using ho
   have ha:=fit1 f0
   have hb:=fit1 f1
   have hc:=fit6 f2
   have hd:=fit7 f3
   refine SS.drawR follows (by decide) ?_
   refine at2 (a:=(0:Int)≤b) (b:=b<(8:Nat)) (by omega) (by omega) (rd1 (rowT x) (.int .u64 (rgZ x.rg b)) hg (rowT_reg hr hb (show 0+1+b.toNat*1=_ by omega)) ?_)
   refine nonneg_intro hc.1 (nonneg_intro (by omega) ?_)
   refine at2 (a:=(0:Int)≤a) (b:=a<(8:Nat)) (by omega) (by omega) (wrF (rowT x) (.int .u64 (bitsZ (rgZ x.rg b) c d)) hg rfl (by rw [rowT_len hr];show 0+1+a.toNat*1<10;omega) ?_)
   repeat' (first | refine And.intro rfl ?_ | refine And.intro (And.intro (by omega) (And.intro (by omega) rfl)) ?_ | fail)
   refine h1' _ rfl _ (regs_set (a:=a) hr ha (show 0+1+a.toNat*1=_ by omega))
 refine bZ (fun ho=>?_) (fun o10=>?_)
 · obtain rfl:op=10:=by simpa using ho
   have ha:=fit4 f0
   refine bZ (fun _=>?_) (fun h=>absurd (oFa h) (by omega))
   refine wrF (rowT x) (.int .i64 a) hg rfl (by rw [rowT_len hr];decide) ?_
   refine h1' _ rfl _ (pc_set (w:=a.toNat) (wi:=a) (by omega) rfl)
 refine bZ (fun ho=>?_) (fun o11=>?_)
 · obtain rfl:op=11:=by simpa using ho
   have ha:=fit1 f0
   have hc:=fit4 f2
   refine SS.drawR follows (by decide) ?_
   refine at2 (a:=(0:Int)≤a) (b:=a<(8:Nat)) (by omega) (by omega) (rd1 (rowT x) (.int .u64 (rgZ x.rg a)) hg (rowT_reg hr ha (show 0+1+a.toNat*1=_ by omega)) ?_)
   refine bZ (fun h=>?_) (fun h=>?_)
   · refine bZ (fun _=>?_) (fun h=>absurd (oFa h) (by omega))
     refine wrF (rowT x) (.int .i64 c) hg rfl (by rw [rowT_len hr];decide) ?_
     refine h1' _ (congrArg some (if_pos (beq_iff_eq.1 h))) _ (pc_set (w:=c.toNat) (wi:=c) (by omega) rfl)
   · refine h1' _ (congrArg some (if_neg (fun e=>by rw [beq_eq_false_iff_ne] at h;exact h e))) _ (by rw [set_same hx])
 refine bZ (fun ho=>?_) (fun o12=>?_)
 · obtain rfl:op=12:=by simpa using ho
   have ha:=fit1 f0
   have hb:=fit1 f1
   have hc:=fit4 f2
   refine SS.drawR follows (by decide) ?_
   refine at2 (a:=(0:Int)≤a) (b:=a<(8:Nat)) (by omega) (by omega) (rd1 (rowT x) (.int .u64 (rgZ x.rg a)) hg (rowT_reg hr ha (show 0+1+a.toNat*1=_ by omega)) ?_)
   refine at2 (a:=(0:Int)≤b) (b:=b<(8:Nat)) (by omega) (by omega) (rd1 (rowT x) (.int .u64 (rgZ x.rg b)) hg (rowT_reg hr hb (show 0+1+b.toNat*1=_ by omega)) ?_)
   refine bZ (fun h=>?_) (fun h=>?_)
   · refine bZ (fun _=>?_) (fun h=>absurd (oFa h) (by omega))
     refine wrF (rowT x) (.int .i64 c) hg rfl (by rw [rowT_len hr];decide) ?_
     refine h1' _ (congrArg some (if_pos (oTr h))) _ (pc_set (w:=c.toNat) (wi:=c) (by omega) rfl)
   · refine h1' _ (congrArg some (if_neg (oFa h))) _ (by rw [set_same hx])
 refine bZ (fun ho=>?_) (fun o13=>?_)
 · obtain rfl:op=13:=by simpa using ho
   have ha:=fit1 f0
   have hb:=fit1 f1
   have hc:=fit4 f2
   refine SS.drawR follows (by decide) ?_
   refine at2 (a:=(0:Int)≤a) (b:=a<(8:Nat)) (by omega) (by omega) (rd1 (rowT x) (.int .u64 (rgZ x.rg a)) hg (rowT_reg hr ha (show 0+1+a.toNat*1=_ by omega)) ?_)
   refine at2 (a:=(0:Int)≤b) (b:=b<(8:Nat)) (by omega) (by omega) (rd1 (rowT x) (.int .u64 (rgZ x.rg b)) hg (rowT_reg hr hb (show 0+1+b.toNat*1=_ by omega)) ?_)
   refine bZ (fun h=>?_) (fun h=>?_)
   · refine bZ (fun _=>?_) (fun h=>absurd (oFa h) (by omega))
     refine wrF (rowT x) (.int .i64 c) hg rfl (by rw [rowT_len hr];decide) ?_
     refine h1' _ (congrArg some (if_pos (beq_iff_eq.1 h))) _ (pc_set (w:=c.toNat) (wi:=c) (by omega) rfl)
   · refine h1' _ (congrArg some (if_neg (fun e=>by rw [beq_eq_false_iff_ne] at h;exact h e))) _ (by rw [set_same hx])
 refine h0 ?_
 simp only [beq_eq_false_iff_ne] at o0 o1 o2 o3 o4 o5 o10 o11 o12 o13
 simp [localZ, *]

end
end
section
section

variable {K:KP} {m:MZ} {v:VZ}

theorem rgZ_get {ws:List Int} {b:Int} {k:Nat} {y:Int} (hk:b=k) (hy:ws[k]? = some y):rgZ ws b=y:=by
 subst hk
 simp [rgZ,hy]

theorem memLoad2 {nn:Bool} {n:Nat} {ws:List Int} (hn:ws.length=n) {b:Int} (hb:0≤b∧b<n) (h:K (.tup [wordC (rgZ ws b),okC']) [] (memH nn n ws)) :
 Does Tryz.prog 232 [cv (.ptr 0 0),i64 b] (memH nn n ws) K :=
 memLoad hn b (fun k y hk hy=>by rw [←rgZ_get hk hy];exact h) fun h=>absurd hb h

theorem memFetch2 {nn:Bool} {n:Nat} {ws:List Int} (hn:ws.length=n) {b:Int} (d:Int) (hb:0≤b∧b<n) (h:K (.tup [wordC (rgZ ws b),okC']) [] (memH nn n (rgS ws b (u64m (rgZ ws b+d))))) :
 Does Tryz.prog 234 [cv (.ptr 0 0),i64 b,u64 d] (memH nn n ws) K :=
 memFetch hn b d (fun k y hk hy=>by
  have e:rgS ws b=ws.set k:=by subst hk;rfl
  rw [e,rgZ_get hk hy] at h;exact h) fun h=>absurd hb h

theorem memSwap2 {nn:Bool} {n:Nat} {ws:List Int} (hn:ws.length=n) {b:Int} (was is:Int) (hb:0≤b∧b<n) (h1:rgZ ws b=was→K (.tup [.c (.f (.bool true)),okC']) [] (memH nn n (rgS ws b is)))
 (h2:rgZ ws b≠was→K (.tup [.c (.f (.bool false)),okC']) [] (memH nn n ws)) :
 Does Tryz.prog 235 [cv (.ptr 0 0),i64 b,u64 was,u64 is] (memH nn n ws) K :=
 memSwap hn b was is (fun k y hk hy hw=>by
  have e:rgS ws b=ws.set k:=by subst hk;rfl
  rw [←e]
  exact h1 ((rgZ_get hk hy).trans hw)) (fun k y hk hy hw=>h2 (by rw [rgZ_get hk hy];exact hw)) fun h=>absurd hb h

theorem memStore2 {nn:Bool} {n:Nat} {ws:List Int} (hn:ws.length=n) {b:Int} (x:Int) (hb:0≤b∧b<n) (h:K (cv .niliface) [] (memH nn n (rgS ws b x))) :
 Does Tryz.prog 268 [cv (.ptr 0 0),i64 b,u64 x] (memH nn n ws) K :=
 memStore hn b x (fun k hk _=>by
  have e:rgS ws b=ws.set k:=by subst hk;rfl
  rw [←e]
  exact h) fun h=>absurd hb h

theorem rgS_len {r:List Int} {a w:Int}:(rgS r a w).length=r.length:=by simp [rgS]

theorem rgS_get {r:List Int} {a w:Int} (ha:0≤a∧a<r.length):rgZ (rgS r a w) a=w:=by
 rw [rgZ,rgS,List.getD_eq_getElem?_getD,List.getElem?_set_self (by omega)]
 rfl

theorem noM' {M0:List Nat}:∀ i∈([]:List Nat),i∈M0:=fun _ h=>by simp at h

theorem coreOffset (t:Nat) (x:ThZ) (op a b c d:Int) {size:Int} (hx:m.ts[t]? = some x) (hr:x.rg.length=8) (hrv:∀ w∈x.rg,0≤w∧w<18446744073709551616) (hnc:m.ws.length=m.nc) (hi:okI m.nc size ⟨op,a,b,c,d⟩ = true) (ho:op=7∨op=15)
 (hal:m.al.length<100000) (hws:m.nc≤300) (hss:m.ss.length<100000) (hv:okV v)
 (h1:∀ m',farZ m t x ⟨op,a,b,c,d⟩ = some m'→∀ v',okV v'→K (bl true) [6,7,8] (machH m' v')) (h0:farZ m t x ⟨op,a,b,c,d⟩ = none→K (bl false) [6,7,8] (machH m v)) :
 Does Tryz.prog 237 [cv (.ptr 0 0),i64 t,cv (.rptr 2 t 1),.p (.agg [.f (.int .i64 op),.f (.int .i64 a),.f (.int .i64 b),.f (.int .i64 c),.f (.int .i64 d)])] (machH m v) K:=by
 have hg:=ts_get hx
 obtain ⟨_,f0,f1,f2,f3⟩:=okI_cut hi
 have hfar:farZ m t x ⟨op,a,b,c,d⟩ = match offZ x ⟨op,a,b,c,d⟩ with
  | none=>none
  | some c=>if c<m.nc then
     if op=15 then some { m with ss:=(wakeL c b 0 m.ss).2 }
     else some ({ m with ws:=rgS m.ws c (rgZ x.rg b) }.act t op c (rgZ m.ws c) (rgZ x.rg b))
    else none:=by rcases ho with rfl | rfl <;> rfl
 have ha:0≤a∧a<m.nc:=by rcases ho with rfl | rfl <;> exact fit2 f0
 have hc : -1≤c∧c<8:=by rcases ho with rfl | rfl <;> exact fit5 f2
 refine Does.moved [6,7,8] ?_
 refine does Tryz.func237 rfl (by decide) ?_
 refine bZ (fun h=>?_) (fun h=>?_)
 · have h:=oTr h
   have hc8:0≤c∧c<8:=by omega
   have hrc:0≤rgZ x.rg c∧rgZ x.rg c<18446744073709551616:=by
    refine hrv _ ?_
    rw [rgZ,List.getD_eq_getElem?_getD,List.getElem?_eq_getElem (by omega)]
    exact List.getElem_mem _
   refine SS.drawR follows (by decide) ?_
   refine at2 (a:=(0:Int)≤c) (b:=c<(8:Nat)) (by omega) (by omega) (rd1 (rowT x) (.int .u64 (rgZ x.rg c)) hg (rowT_reg hr hc8 (show 1+c.toNat*1=_ by omega)) ?_)
   refine bZ (fun h3=>?_) (fun h3=>?_)
   · have h3:=oTr h3
     refine ⟨noM',h0 ?_⟩
     rw [hfar,offZ,if_neg (by show ¬c<0;omega),if_pos (by show 300≤rgZ x.rg c;omega)]
   · have h3:=oFa h3
     have hoff:offZ x ⟨op,a,b,c,d⟩ = some (a+rgZ x.rg c):=by
      rw [offZ,if_neg (by show ¬c<0;omega),if_neg (by show ¬ 300≤rgZ x.rg c;omega)]
     have h2:0≤a+rgZ x.rg c∧a+rgZ x.rg c<600:=by omega
     rw [hoff] at hfar
     dsimp only at hfar
     change Does Tryz.prog 232 _ _ _
     rw [wrap_i64 (rgZ x.rg c) (by omega) (by omega),wrap_i64 (a+rgZ x.rg c) (by omega) (by omega)]
     generalize a+rgZ x.rg c=at' at *
     refine Does.on 10 [3,4] _ _ (memLoad (n:=m.nc) (nn:=v.nm) (ws:=m.ws) hnc at' (fun k y hk hy=>?_) fun hout=>?_)
     · have hkl:=(List.getElem?_eq_some_iff.1 hy).1
       have hy':=rgZ_get hk hy
       rw [if_pos (by omega)] at hfar
       refine bZ (fun h15=>?_) (fun h15=>?_)
       · rw [if_pos (beq_iff_eq.1 h15)] at hfar
         obtain ⟨⟨out,kept⟩,hw⟩ : ∃ r,wakeL at' b 0 m.ss=r:=⟨_,rfl⟩
         rw [hw] at hfar
         refine SS.drawR follows (by decide) ?_
         change Does Tryz.prog 267 _ _ _
         refine Does.on 10 [5,6] _ _ (lotWake (n:=m.ps.length) (k:=m.ss.length) (nn:=v.nl) (ss:=m.ss) (ex:=v.ex) at' b hw rfl (by omega) hv fun nn' b' ex' hex'=>?_)
         refine ⟨noM',?_⟩
         exact h1 _ hfar ⟨v.np,v.na,v.ne,v.nm,nn',ex'⟩ hex'
       · have o7:op=7:=by
          have:=beq_eq_false_iff_ne.1 h15
          omega
         subst o7
         have hb:=fit1 f1
         rw [if_neg (by decide),hy'] at hfar
         refine SS.drawR follows (by decide) ?_
         refine at2 (a:=(0:Int)≤b) (b:=b<(8:Nat)) (by omega) (by omega) (rd1 (rowT x) (.int .u64 (rgZ x.rg b)) hg (rowT_reg hr hb (show 1+b.toNat*1=_ by omega)) ?_)
         change Does Tryz.prog 268 _ _ _
         refine Does.on 10 [3,4] _ _ (memStore2 (n:=m.nc) (nn:=v.nm) (ws:=m.ws) hnc (b:=at') (rgZ x.rg b) (by omega) ?_)
         repeat' (first | refine And.intro rfl ?_ | refine And.intro (And.intro (by omega) (And.intro (by omega) rfl)) ?_ | fail)
         refine SS.drawR follows (by decide) ?_
         refine at2 (a:=(0:Int)≤b) (b:=b<(8:Nat)) (by omega) (by omega) (rd1 (rowT x) (.int .u64 (rgZ x.rg b)) hg (rowT_reg hr hb (show 1+b.toNat*1=_ by omega)) ?_)
         change Does Tryz.prog 233 _ _ _
         refine Does.on 10 [0,1,2,3,4,5,6,7,8] _ _ (coreAct (m:={ m with ws:=rgS m.ws at' (rgZ x.rg b) }) (v:=v) t 7 at' y (rgZ x.rg b) (by show m.al.length<_;omega) ?_)
         refine ⟨by decide,?_⟩
         exact h1 _ hfar v hv
     · refine ⟨noM',h0 ?_⟩
       rw [hfar,if_neg (by omega)]
 · have h:=oFa h
   have hoff:offZ x ⟨op,a,b,c,d⟩ = some a:=by
    rw [offZ,if_pos (by show c<0;omega)]
   rw [hoff] at hfar
   dsimp only at hfar
   change Does Tryz.prog 232 _ _ _
   refine Does.on 10 [3,4] _ _ (memLoad (n:=m.nc) (nn:=v.nm) (ws:=m.ws) hnc a (fun k y hk hy=>?_) fun hout=>absurd ha hout)
   · have hkl:=(List.getElem?_eq_some_iff.1 hy).1
     have hy':=rgZ_get hk hy
     rw [if_pos (by omega)] at hfar
     refine bZ (fun h15=>?_) (fun h15=>?_)
     · rw [if_pos (beq_iff_eq.1 h15)] at hfar
       obtain ⟨⟨out,kept⟩,hw⟩ : ∃ r,wakeL a b 0 m.ss=r:=⟨_,rfl⟩
       rw [hw] at hfar
       refine SS.drawR follows (by decide) ?_
       change Does Tryz.prog 267 _ _ _
       refine Does.on 10 [5,6] _ _ (lotWake (n:=m.ps.length) (k:=m.ss.length) (nn:=v.nl) (ss:=m.ss) (ex:=v.ex) a b hw rfl (by omega) hv fun nn' b' ex' hex'=>?_)
       refine ⟨noM',?_⟩
       exact h1 _ hfar ⟨v.np,v.na,v.ne,v.nm,nn',ex'⟩ hex'
     · have o7:op=7:=by
        have:=beq_eq_false_iff_ne.1 h15
        omega
       subst o7
       have hb:=fit1 f1
       rw [if_neg (by decide),hy'] at hfar
       refine SS.drawR follows (by decide) ?_
       refine at2 (a:=(0:Int)≤b) (b:=b<(8:Nat)) (by omega) (by omega) (rd1 (rowT x) (.int .u64 (rgZ x.rg b)) hg (rowT_reg hr hb (show 1+b.toNat*1=_ by omega)) ?_)
       change Does Tryz.prog 268 _ _ _
       refine Does.on 10 [3,4] _ _ (memStore2 (n:=m.nc) (nn:=v.nm) (ws:=m.ws) hnc (b:=a) (rgZ x.rg b) (by omega) ?_)
       repeat' (first | refine And.intro rfl ?_ | refine And.intro (And.intro (by omega) (And.intro (by omega) rfl)) ?_ | fail)
       refine SS.drawR follows (by decide) ?_
       refine at2 (a:=(0:Int)≤b) (b:=b<(8:Nat)) (by omega) (by omega) (rd1 (rowT x) (.int .u64 (rgZ x.rg b)) hg (rowT_reg hr hb (show 1+b.toNat*1=_ by omega)) ?_)
       change Does Tryz.prog 233 _ _ _
       refine Does.on 10 [0,1,2,3,4,5,6,7,8] _ _ (coreAct (m:={ m with ws:=rgS m.ws a (rgZ x.rg b) }) (v:=v) t 7 a y (rgZ x.rg b) (by show m.al.length<_;omega) ?_)
       refine ⟨by decide,?_⟩
       exact h1 _ hfar v hv

theorem th_twice {ts:List ThZ} {t:Nat} {x:ThZ} {a w w':Int}:(ts.set t { x with rg:=rgS x.rg a w }).set t { x with rg:=rgS (rgS x.rg a w) a w' }=ts.set t { x with rg:=rgS x.rg a w' }:=by
 rw [List.set_set,rgS,rgS,List.set_set,rgS]

theorem far_op {x:ThZ} {op a b c d:Int} (h:0≤op∧op<17) (hl:localZ x ⟨op,a,b,c,d⟩ = none) (o6:op≠6) (o8:op≠8) (o9:op≠9) (o14:op≠14) (o16:op≠16):op=7∨op=15:=by
 refine Classical.byContradiction fun hn=>?_
 have:op=0∨op=1∨op=2∨op=3∨op=4∨op=5∨op=10∨op=11∨op=12∨op=13:=by omega
 rcases this with rfl | rfl | rfl | rfl | rfl | rfl | rfl | rfl | rfl | rfl <;> exact absurd hl (by simp [localZ])

set_option maxHeartbeats 2000000 in
theorem coreFar (t:Nat) (x:ThZ) (op a b c d:Int) {size:Int} (hx:m.ts[t]? = some x) (hr:x.rg.length=8) (hrv:∀ w∈x.rg,0≤w∧w<18446744073709551616) (hnc:m.ws.length=m.nc) (hps:m.ps.length=m.ts.length) (hi:okI m.nc size ⟨op,a,b,c,d⟩ = true) (hl:localZ x ⟨op,a,b,c,d⟩ = none)
 (hal:m.al.length<100000) (hel:m.el.length<100000) (hws:m.nc≤300) (_hts:m.ts.length≤16) (hss:m.ss.length<100000) (hno:noT m.ss t) (hv:okV v)
 (h1:∀ m',farZ m t x ⟨op,a,b,c,d⟩ = some m'→∀ v',okV v'→K (bl true) [6,7,8] (machH m' v')) (h0:farZ m t x ⟨op,a,b,c,d⟩ = none→K (bl false) [6,7,8] (machH m v)) :
 Does Tryz.prog 195 [cv (.ptr 0 0),i64 t,cv (.rptr 2 t 0),.p (.agg [.f (.int .i64 op),.f (.int .i64 a),.f (.int .i64 b),.f (.int .i64 c),.f (.int .i64 d)])] (machH m v) K:=by
 have hg:=ts_get hx
 have htl:=(List.getElem?_eq_some_iff.1 hx).1
 obtain ⟨hop,f0,f1,f2,f3⟩:=okI_cut hi
 refine Does.moved [6,7,8] ?_
 refine does Tryz.func195 rfl (by decide) ?_
 refine bZ (fun ho=>?_) (fun o6=>?_)
 · obtain rfl:op=6:=by simpa using ho
   have ha:=fit1 f0
   have hb:=fit2 f1
   refine SS.drawR follows (by decide) ?_
   change Does Tryz.prog 232 _ _ _
   refine Does.on 10 [3,4] _ _ (memLoad2 (n:=m.nc) (nn:=v.nm) (ws:=m.ws) hnc (b:=b) hb ?_)
   repeat' (first | refine And.intro rfl ?_ | refine And.intro (And.intro (by omega) (And.intro (by omega) rfl)) ?_ | fail)
   refine at2 (a:=(0:Int)≤a) (b:=a<(8:Nat)) (by omega) (by omega) (wrF (rowT x) (.int .u64 (rgZ m.ws b)) hg rfl (by rw [rowT_len hr];show 0+1+a.toNat*1<10;omega) ?_)
   rw [regs_set (a:=a) hr ha ?_]
   rotate_left
   · show 0+1+a.toNat*1=1+a.toNat
     omega
   repeat' (first | refine And.intro rfl ?_ | refine And.intro (And.intro (by omega) (And.intro (by omega) rfl)) ?_ | fail)
   have hx1:(m.ts.set t { x with rg:=rgS x.rg a (rgZ m.ws b) })[t]? = some { x with rg:=rgS x.rg a (rgZ m.ws b) }:=List.getElem?_set_self htl
   have hr1:(rgS x.rg a (rgZ m.ws b)).length=8:=rgS_len.trans hr
   refine SS.drawR follows (by decide) ?_
   refine at2 (a:=(0:Int)≤a) (b:=a<(8:Nat)) (by omega) (by omega) (rd1 (rowT { x with rg:=rgS x.rg a (rgZ m.ws b) }) (.int .u64 (rgZ m.ws b)) (ts_get hx1) ((rowT_reg hr1 ha (show 0+1+a.toNat*1=_ by omega)).trans (by rw [rgS_get (by omega)])) ?_)
   refine at2 (a:=(0:Int)≤a) (b:=a<(8:Nat)) (by omega) (by omega) (rd1 (rowT { x with rg:=rgS x.rg a (rgZ m.ws b) }) (.int .u64 (rgZ m.ws b)) (ts_get hx1) ((rowT_reg hr1 ha (show 0+1+a.toNat*1=_ by omega)).trans (by rw [rgS_get (by omega)])) ?_)
   change Does Tryz.prog 233 _ _ _
   refine Does.on 10 [0,1,2,3,4,5,6,7,8] _ _ (coreAct (m:=m.th t { x with rg:=rgS x.rg a (rgZ m.ws b) }) (v:=v) t 6 b (rgZ m.ws b) (rgZ m.ws b) (by show m.al.length<_;omega) ?_)
   refine And.intro (by decide) ?_
   exact h1 _ rfl v hv
 refine bZ (fun ho=>?_) (fun o8=>?_)
 · obtain rfl:op=8:=by simpa using ho
   have ha:=fit1 f0
   have hb:=fit2 f1
   refine SS.drawR follows (by decide) ?_
   change Does Tryz.prog 234 _ _ _
   refine Does.on 10 [3,4] _ _ (memFetch2 (n:=m.nc) (nn:=v.nm) (ws:=m.ws) hnc (b:=b) (u64m c) hb ?_)
   repeat' (first | refine And.intro rfl ?_ | refine And.intro (And.intro (by omega) (And.intro (by omega) rfl)) ?_ | fail)
   refine SS.drawR follows (by decide) ?_
   refine at2 (a:=(0:Int)≤a) (b:=a<(8:Nat)) (by omega) (by omega) (wrF (rowT x) (.int .u64 (rgZ m.ws b)) hg rfl (by rw [rowT_len hr];show 0+1+a.toNat*1<10;omega) ?_)
   rw [regs_set (a:=a) hr ha ?_]
   rotate_left
   · show 0+1+a.toNat*1=1+a.toNat
     omega
   repeat' (first | refine And.intro rfl ?_ | refine And.intro (And.intro (by omega) (And.intro (by omega) rfl)) ?_ | fail)
   change Does Tryz.prog 233 _ _ _
   refine Does.on 10 [0,1,2,3,4,5,6,7,8] _ _ (coreAct (m:={ m.th t { x with rg:=rgS x.rg a (rgZ m.ws b) } with ws:=rgS m.ws b (u64m (rgZ m.ws b+u64m c)) }) (v:=v) t 8 b (rgZ m.ws b) (u64m (rgZ m.ws b+u64m c)) (by show m.al.length<_;omega) ?_)
   refine And.intro (by decide) ?_
   exact h1 _ rfl v hv
 refine bZ (fun ho=>?_) (fun o9=>?_)
 · obtain rfl:op=9:=by simpa using ho
   have ha:=fit1 f0
   have hb:=fit2 f1
   have hc:=fit1 f2
   have hd:=fit1 f3
   refine SS.drawR follows (by decide) ?_
   change Does Tryz.prog 232 _ _ _
   refine Does.on 10 [3,4] _ _ (memLoad2 (n:=m.nc) (nn:=v.nm) (ws:=m.ws) hnc (b:=b) hb ?_)
   repeat' (first | refine And.intro rfl ?_ | refine And.intro (And.intro (by omega) (And.intro (by omega) rfl)) ?_ | fail)
   refine SS.drawR follows (by decide) ?_
   refine at2 (a:=(0:Int)≤c) (b:=c<(8:Nat)) (by omega) (by omega) (rd1 (rowT x) (.int .u64 (rgZ x.rg c)) hg (rowT_reg hr hc (show 0+1+c.toNat*1=_ by omega)) ?_)
   refine at2 (a:=(0:Int)≤d) (b:=d<(8:Nat)) (by omega) (by omega) (rd1 (rowT x) (.int .u64 (rgZ x.rg d)) hg (rowT_reg hr hd (show 0+1+d.toNat*1=_ by omega)) ?_)
   change Does Tryz.prog 235 _ _ _
   refine Does.on 10 [3,4] _ _ (memSwap2 (n:=m.nc) (nn:=v.nm) (ws:=m.ws) hnc (b:=b) (rgZ x.rg c) (rgZ x.rg d) hb (fun hs=>?_) fun hs=>?_)
   · repeat' (first | refine And.intro rfl ?_ | refine And.intro (And.intro (by omega) (And.intro (by omega) rfl)) ?_ | fail)
     refine SS.drawR follows (by decide) ?_
     change Does Tryz.prog 232 _ _ _
     refine Does.on 10 [3,4] _ _ (memLoad2 (n:=m.nc) (nn:=v.nm) (ws:=rgS m.ws b (rgZ x.rg d)) (rgS_len.trans hnc) (b:=b) hb ?_)
     rw [rgS_get (by omega)]
     repeat' (first | refine And.intro rfl ?_ | refine And.intro (And.intro (by omega) (And.intro (by omega) rfl)) ?_ | fail)
     refine SS.drawR follows (by decide) ?_
     refine at2 (a:=(0:Int)≤a) (b:=a<(8:Nat)) (by omega) (by omega) (wrF (rowT x) (.int .u64 0) hg rfl (by rw [rowT_len hr];show 0+1+a.toNat*1<10;omega) ?_)
     rw [regs_set (a:=a) hr ha ?_]
     rotate_left
     · show 0+1+a.toNat*1=1+a.toNat
       omega
     repeat' (first | refine And.intro rfl ?_ | refine And.intro (And.intro (by omega) (And.intro (by omega) rfl)) ?_ | fail)
     refine SS.drawR follows (by decide) ?_
     have hx1:(m.ts.set t { x with rg:=rgS x.rg a 0 })[t]? = some { x with rg:=rgS x.rg a 0 }:=List.getElem?_set_self htl
     have hr1:(rgS x.rg a 0).length=8:=rgS_len.trans hr
     refine at2 (a:=(0:Int)≤a) (b:=a<(8:Nat)) (by omega) (by omega) (wrF (rowT { x with rg:=rgS x.rg a 0 }) (.int .u64 1) (ts_get hx1) rfl (by rw [rowT_len hr1];show 0+1+a.toNat*1<10;omega) ?_)
     rw [regs_set (a:=a) (x:={ x with rg:=rgS x.rg a 0 }) hr1 ha ?_,th_twice]
     rotate_left
     · show 0+1+a.toNat*1=1+a.toNat
       omega
     repeat' (first | refine And.intro rfl ?_ | refine And.intro (And.intro (by omega) (And.intro (by omega) rfl)) ?_ | fail)
     change Does Tryz.prog 233 _ _ _
     refine Does.on 10 [0,1,2,3,4,5,6,7,8] _ _ (coreAct (m:={ m.th t { x with rg:=rgS x.rg a 1 } with ws:=rgS m.ws b (rgZ x.rg d) }) (v:=v) t 9 b (rgZ m.ws b) (rgZ x.rg d) (by show m.al.length<_;omega) ?_)
     refine And.intro (by decide) ?_
     exact h1 _ (if_pos hs) v hv
   · repeat' (first | refine And.intro rfl ?_ | refine And.intro (And.intro (by omega) (And.intro (by omega) rfl)) ?_ | fail)
     refine SS.drawR follows (by decide) ?_
     change Does Tryz.prog 232 _ _ _
     refine Does.on 10 [3,4] _ _ (memLoad2 (n:=m.nc) (nn:=v.nm) (ws:=m.ws) hnc (b:=b) hb ?_)
     repeat' (first | refine And.intro rfl ?_ | refine And.intro (And.intro (by omega) (And.intro (by omega) rfl)) ?_ | fail)
     refine SS.drawR follows (by decide) ?_
     refine at2 (a:=(0:Int)≤a) (b:=a<(8:Nat)) (by omega) (by omega) (wrF (rowT x) (.int .u64 0) hg rfl (by rw [rowT_len hr];show 0+1+a.toNat*1<10;omega) ?_)
     rw [regs_set (a:=a) hr ha ?_]
     rotate_left
     · show 0+1+a.toNat*1=1+a.toNat
       omega
     repeat' (first | refine And.intro rfl ?_ | refine And.intro (And.intro (by omega) (And.intro (by omega) rfl)) ?_ | fail)
     change Does Tryz.prog 233 _ _ _
     refine Does.on 10 [0,1,2,3,4,5,6,7,8] _ _ (coreAct (m:=m.th t { x with rg:=rgS x.rg a 0 }) (v:=v) t 9 b (rgZ m.ws b) (rgZ m.ws b) (by show m.al.length<_;omega) ?_)
     refine And.intro (by decide) ?_
     exact h1 _ (if_neg hs) v hv
 refine bZ (fun ho=>?_) (fun o14=>?_)
 · obtain rfl:op=14:=by simpa using ho
   have ha:=fit2 f0
   have hb:=fit1 f1
   refine SS.drawR follows (by decide) ?_
   change Does Tryz.prog 232 _ _ _
   refine Does.on 10 [3,4] _ _ (memLoad2 (n:=m.nc) (nn:=v.nm) (ws:=m.ws) hnc (b:=a) ha ?_)
   repeat' (first | refine And.intro rfl ?_ | refine And.intro (And.intro (by omega) (And.intro (by omega) rfl)) ?_ | fail)
   refine SS.drawR follows (by decide) ?_
   refine at2 (a:=(0:Int)≤b) (b:=b<(8:Nat)) (by omega) (by omega) (rd1 (rowT x) (.int .u64 (rgZ x.rg b)) hg (rowT_reg hr hb (show 0+1+b.toNat*1=_ by omega)) ?_)
   refine bZ (fun h=>?_) (fun h=>?_)
   · have h:=beq_iff_eq.1 h
     refine SS.drawR follows (by decide) ?_
     change Does Tryz.prog 236 _ _ _
     refine Does.on 10 [5,6] _ _ (lotSleep (n:=m.ps.length) (k:=m.ss.length) (nn:=v.nl) (ss:=m.ss) (ex:=v.ex) t a (by omega) (by omega) rfl (by omega) hv (fun _ nn' ex' hex'=>?_) fun j y hy=>absurd hy.2.1 (hno y (List.mem_iff_getElem?.2 ⟨j,hy.1⟩)))
     refine ⟨by decide,?_⟩
     have hf:farZ m t x ⟨14,a,b,c,d⟩ = some { m with ss:=m.ss++[⟨t,a⟩] }:=congrArg some (if_pos h)
     have:=h1 _ hf ⟨v.np,v.na,v.ne,v.nm,nn',ex'⟩ hex'
     dsimp only [machH] at this
     rw [List.length_append] at this
     exact this
   · have h:=beq_eq_false_iff_ne.1 h
     refine ⟨noM',?_⟩
     exact h1 _ (congrArg some (if_neg h)) v hv
 refine bZ (fun ho=>?_) (fun o16=>?_)
 · obtain rfl:op=16:=by simpa using ho
   have hb:=fit1 f1
   refine SS.drawR follows (by decide) ?_
   refine at2 (a:=(0:Int)≤b) (b:=b<(8:Nat)) (by omega) (by omega) (rd1 (rowT x) (.int .u64 (rgZ x.rg b)) hg (rowT_reg hr hb (show 0+1+b.toNat*1=_ by omega)) ?_)
   repeat' (first | refine And.intro rfl ?_ | refine And.intro (And.intro (by omega) (And.intro (by omega) rfl)) ?_ | fail)
   refine And.intro (by simp) (Or.inl (And.intro rfl (And.intro (by simp) (And.intro ?_ (And.intro ?_ ?_)))))
   · show (m.el.length+1)*32≤_
     omega
   · show m.el.length+1≤_
     omega
   repeat' (first | refine And.intro rfl ?_ | refine And.intro (And.intro (by omega) (And.intro (by omega) rfl)) ?_ | fail)
   refine And.intro (by decide) ?_
   have:=h1 _ rfl v hv
   dsimp only [machH] at this
   rw [List.length_append,List.map_append (f:=rowEv)] at this
   exact this
 have o7:op=7∨op=15:=far_op hop hl (beq_eq_false_iff_ne.1 o6) (beq_eq_false_iff_ne.1 o8) (beq_eq_false_iff_ne.1 o9) (beq_eq_false_iff_ne.1 o14) (beq_eq_false_iff_ne.1 o16)
 change Does Tryz.prog 237 _ _ _
 refine Does.on 10 [0,1,2,3,4,5,6,7,8] _ _ (coreOffset (m:=m) (v:=v) t x op a b c d hx hr hrv hnc hi o7 hal hws hss hv (fun m' hm' v' hv'=>?_) fun hn=>?_)
 · exact ⟨by decide,h1 m' hm' v' hv'⟩
 · exact ⟨by decide,h0 hn⟩

end
end
end Go.Mac
end
