/- Texts that belong together; the first of them:  -/
import Derived.Test.YtollgfhpcidkgaaGreatDoorA21
import Derived.Test.YtollgfhpcidkgaaGreatDoorA26
import Derived.Test.YtollgfhpcidkgaaGreatDoorA14
import Derived.Test.YtollgfhpcidkgaaGreatDoorA15
import Derived.Test.YtollgfhpcidkgaaGreatDoorA19
import Derived.Test.YtollgfhpcidkgaaGreatDoorMacR

section
open Go Go.Proofs Go.Mac
set_option maxRecDepth 100000
namespace Go.Mac
section
structure EvOk (m:MZ):Prop where
 wf:WF m
 ps:∀ p∈m.ps,SayB p
 el:∀ e∈m.el,B64 e.a∧B64 e.t∧B64 e.v
 al:∀ a∈m.al,B64 a.w

theorem far_ev {m m':MZ} {t:Nat} {x:ThZ} {i:InsZ} (h:farZ m t x i=some m') :
  m'.ps=m.ps∧(∀ e∈m'.el,e∈m.el∨(i.op=16∧e = ⟨m.k,i.a,t,IntKind.i64.wrap (rgZ x.rg i.b)⟩))∧∀ a∈m'.al,a∈m.al∨a.w=m.k:=by
 have hact:∀ (m0:MZ) (q o c y z:Int),m0.al=m.al→m0.k=m.k→∀ a∈(m0.act q o c y z).al,a∈m.al∨a.w=m.k:=fun m0 q o c y z h1 h2 a ha=>by
  simp only [MZ.act,List.mem_append,List.mem_singleton,h1,h2] at ha
  rcases ha with ha | rfl
  · exact .inl ha
  · exact .inr rfl
 have hev:∀ (m0:MZ),m0.el=m.el→∀ e∈m0.el,e∈m.el∨(i.op=16∧e = ⟨m.k,i.a,t,IntKind.i64.wrap (rgZ x.rg i.b)⟩):=fun m0 h1 e he=>.inl (h1 ▸ he)
 unfold farZ at h
 by_cases h16:i.op=16
 · rw [h16] at h
   simp only [reduceIte,show ¬((16:Int)=6) by decide,show ¬((16:Int)=8) by decide,show ¬((16:Int)=9) by decide,show ¬((16:Int)=14) by decide] at h
   obtain rfl:=Option.some.inj h
   refine ⟨rfl,fun e he=>?_,fun a ha=>.inl ha⟩
   rcases List.mem_append.1 he with he | he
   · exact .inl he
   · exact .inr ⟨h16,List.mem_singleton.1 he⟩
 · repeat' split at h
   all_goals first
    | (cases h;done)
    | (exact absurd ‹i.op=16› h16)
    | (obtain rfl:=Option.some.inj h;exact ⟨rfl,hev _ rfl,fun a ha=>.inl ha⟩)
    | (obtain rfl:=Option.some.inj h;exact ⟨rfl,hev _ rfl,hact _ _ _ _ _ _ rfl rfl⟩)

theorem EvOk.go {m:MZ} (h:EvOk m) {t:Nat} (ht:t<m.ts.length) (hd:(thZ m t).dn=false) (hs:asleepZ m t=false) (hk:m.k<20000):EvOk (goZ m t).2:=by
 have hwf:=h.wf.go ht hd hs hk
 have hn:=h.wf.n
 unfold goZ doZ at hwf ⊢
 split at hwf
 · exact ⟨hwf,h.ps,h.el,h.al⟩
 · split at hwf
   · rename_i m' hf
     obtain ⟨e1,e2,e3⟩:=far_ev hf
     refine ⟨hwf,by rw [e1];exact h.ps,fun e he=>?_,fun a ha=>?_⟩
     · rcases e2 e he with he | ⟨h16,rfl⟩
       · exact h.el e he
       · have hm:insZ m t (thZ m t).pc∈m.ps.getD t []:=by
          unfold insZ at h16 ⊢
          generalize m.ps.getD t []=p at h16 ⊢
          rw [List.getD_eq_getElem?_getD] at h16 ⊢
          cases hg:p[(thZ m t).pc]? with
          | none=>rw [hg] at h16;exact absurd h16 (by decide)
          | some i=>exact List.mem_of_getElem? hg
         have hp:m.ps.getD t []∈m.ps:=by
          rw [List.getD_eq_getElem?_getD] at hm ⊢
          cases hg:m.ps[t]? with
          | none=>rw [hg] at hm;simp at hm
          | some p=>exact List.mem_of_getElem? hg
         have ha:=h.ps _ hp _ hm h16
         refine ⟨?_,?_,i64_bounds _⟩
         · show -9223372036854775808≤(insZ m t (thZ m t).pc).a∧(insZ m t (thZ m t).pc).a≤9223372036854775807
           omega
         · show -9223372036854775808≤(t:Int)∧(t:Int)≤9223372036854775807
           omega
     · rcases e3 a ha with ha | ha
       · exact h.al a ha
       · rw [B64,ha,show (onZ m t).k=m.k+1 from rfl]
         omega
   · exact ⟨hwf,h.ps,h.el,h.al⟩

theorem EvOk.step {m:MZ} (h:EvOk m) (t:Int):EvOk (stepZ m t).2:=by
 unfold stepZ
 repeat' split
 all_goals first
  | exact h
  | (rename_i h1 h2 h3 h4
     have hk:=h.wf.k
     exact h.go (by omega) (by simpa using h2) (by rw [Int.toNat_of_nonneg (by omega)];simpa using h3) (by omega))

theorem EvOk.poke {m:MZ} (h:EvOk m) (t:Int):EvOk (pokeZ m t):=⟨h.wf.poke t,h.ps,h.el,h.al⟩

theorem EvOk.run {m:MZ} (h:EvOk m) (l:List Int):EvOk (runM m l).2:=by
 have:∀ (l:List Int) (p:Nat×MZ),EvOk p.2→EvOk (l.foldl runS p).2:=by
  intro l
  induction l with
  | nil=>exact fun p hp=>hp
  | cons x l ih=>exact fun p hp=>ih _ (hp.step x)
 exact this l (0,m) h

theorem EvOk.sweep {m:MZ} (h:EvOk m):∀ n,EvOk (sweepN m n).1
 | 0=>h
 | n+1=>by
   have ih:=EvOk.sweep h n
   rw [sweepN_succ,sweepS]
   split
   · exact ih.step _
   · exact ih

theorem EvOk.fin {m:MZ} (h:EvOk m):EvOk (finish m):=by
 have:∀ (f:Nat) (m:MZ),EvOk m→EvOk (finZ f m):=by
  intro f
  induction f with
  | zero=>exact fun m h=>h
  | succ f ih =>
    intro m h
    rw [finZ]
    split
    · exact ih _ (h.sweep _)
    · exact h.sweep _
 exact this _ m h

theorem EvOk.new {ps:List (List InsZ)} {ws:List Int} (hw:WF (mz0 ps ws)) (hs:∀ p∈ps,SayB p):EvOk (mz0 ps ws):=⟨hw,hs,fun e he=>absurd he (by simp [mz0]),fun a ha=>absurd ha (by simp [mz0])⟩

def efOk (Q:Int→Prop):EfS→Prop
 | .s0=>True
 | .s1 v=>Q v
 | .s2 v=>Q v
 | .s3 c v=>Q c∧Q v

theorem efPts_ok {t k w:Int} {done:Bool} {s:EfS} {Q:Int→Prop} (hs:efOk Q s):∀ x∈efPts t k w done s,Q x.w∧x.t=t∧x.k=k:=by
 intro x hx
 cases s with
 | s0=>simp [efPts] at hx
 | s1 v =>
   simp only [efPts] at hx
   split at hx
   · simp at hx;subst hx;exact ⟨hs,rfl,rfl⟩
   · simp at hx
 | s2 v =>
   simp only [efPts] at hx
   split at hx
   · simp at hx;rcases hx with rfl | rfl <;> exact ⟨hs,rfl,rfl⟩
   · simp at hx;subst hx;exact ⟨hs,rfl,rfl⟩
 | s3 c v =>
   simp only [efPts] at hx
   split at hx
   · simp at hx
     rcases hx with rfl | rfl
     · exact ⟨hs.1,rfl,rfl⟩
     · exact ⟨hs.2,rfl,rfl⟩
   · simp at hx;subst hx;exact ⟨hs.1,rfl,rfl⟩

theorem efStep_ok {Q:Int→Prop} {s:EfS} {a:ActZ} (hs:efOk Q s) (hq:Q a.w):efOk Q (efStep s a):=by
 unfold efStep
 split
 · exact hq
 · cases s with
   | s0=>exact hq
   | s1 v=>exact hq
   | s2 v=>exact ⟨hs,hq⟩
   | s3 c v=>exact ⟨hs.1,hq⟩

theorem effZ_ok {t k w:Int} {acts:List ActZ} {frm tt:Int} {done:Bool} {Q:Int→Prop} (ha:∀ a∈acts,Q a.w):∀ x∈effZ t k w acts frm tt done,Q x.w∧x.t=t∧x.k=k:=by
 refine efPts_ok ?_
 have key:∀ (l:List ActZ) (s:EfS),(∀ a∈l,Q a.w)→efOk Q s→efOk Q (l.foldl (fun s a=>if hitB t frm tt done a=true then efStep s a else s) s):=by
  intro l
  induction l with
  | nil=>exact fun s _ h=>h
  | cons a l ih =>
    intro s hl hs
    refine ih _ (fun b hb=>hl b (by simp [hb])) ?_
    show efOk Q (if hitB t frm tt done a=true then efStep s a else s)
    split
    · exact efStep_ok hs (hl a (by simp))
    · exact hs
 exact key acts .s0 ha trivial

theorem thrPts_ok {t:Nat} {acts:List ActZ} {Q:Int→Prop} (ha:∀ a∈acts,Q a.w):∀ (cs:List CallZ) (k:Nat) (frm:Int) (ws:List Int),∀ x∈thrPts t acts cs k frm ws,Q x.w∧x.t=(t:Int)∧0≤x.k∧x.k<k+cs.length
 | [],_,_,_,x,hx=>by simp [thrPts] at hx
 | c::cs,k,frm,w::ws,x,hx=>by
   rw [thrPts,List.mem_append] at hx
   rcases hx with hx | hx
   · obtain ⟨h1,h2,h3⟩:=effZ_ok ha x hx
     refine ⟨h1,h2,?_,?_⟩
     · omega
     · rw [List.length_cons];omega
   · obtain ⟨h1,h2,h3,h4⟩:=thrPts_ok ha cs (k+1) w ws x hx
     refine ⟨h1,h2,h3,?_⟩
     rw [List.length_cons];omega
 | c::cs,k,frm,[],x,hx=>by
   rw [thrPts] at hx
   obtain ⟨h1,h2,h3⟩:=effZ_ok ha x hx
   refine ⟨h1,h2,?_,?_⟩
   · omega
   · rw [List.length_cons];omega

theorem allPts_ok {calls:List (List CallZ)} {acts:List ActZ} {el:List EvZ} (hn:calls.length≤16) (hl:∀ l∈calls,l.length≤1000000001) (ha:∀ a∈acts,B64 a.w):∀ x∈allPts calls acts el,B64 x.w∧B64 x.t∧B64 x.k:=by
 intro x hx
 simp only [allPts,List.mem_flatten,List.mem_map,List.mem_range] at hx
 obtain ⟨_,⟨t,ht,rfl⟩,hx⟩:=hx
 obtain ⟨h1,h2,h3,h4⟩:=thrPts_ok ha _ _ _ _ x hx
 have h5:(calls.getD t []).length≤1000000001:=by
  rw [List.getD_eq_getElem?_getD,List.getElem?_eq_getElem ht]
  exact hl _ (List.getElem_mem ht)
 refine ⟨h1,?_,?_⟩
 · rw [B64,h2];omega
 · rw [B64];omega
end
section
structure InvD (d:DZ):Prop where
 ev:EvOk d.m
 ph:d.ph=true→d.m.ws≠[]
 cs:d.cs.length≤16
 cl:∀ l∈d.cs,l.length≤1000000001

structure OpOk (r:AnsZ):Prop where
 inv:InvD r.1
 len:∀ t,r.2=.ok t→t.length≤10000000
 err:∀ e,r.2=.error e→okEZ e

theorem okNo {e:Int} (h : -1≤e∧e≤100):okEZ (.no e):=by
 show -9223372036854775808≤e∧e≤9223372036854775807
 omega

theorem OpOk.no {d:DZ} (h:InvD d) {e:Int} (he : -1≤e∧e≤100):OpOk (d,.error (.no e)):=⟨h,(fun t ht=>by cases ht),(fun e' he'=>by cases he';exact okNo he)⟩

theorem OpOk.ok {d:DZ} (h:InvD d) {t:List UInt8} (ht:t.length≤10000000):OpOk (d,.ok t):=⟨h,(fun t' ht'=>by cases ht';exact ht),(fun e he=>by cases he)⟩

theorem nums_ok {l:List Int} (hl:l.length≤1000) (hr:∀ x∈l,-9223372036854775808≤x∧x≤9223372036854775807):(numsZ l).length≤21000:=by
 have:=numsZ_len l hr
 omega

theorem InvD.with {d:DZ} (h:InvD d) {m:MZ} (hm:EvOk m) (hws:m.ws.length=d.m.ws.length):InvD { d with m:=m } :=
 ⟨hm,fun hp hn=>h.ph hp (List.eq_nil_of_length_eq_zero (by rw [←hws,show m.ws=[] from hn];rfl)),h.cs,h.cl⟩

theorem far_ws {m m':MZ} {t:Nat} {x:ThZ} {i:InsZ} (h:farZ m t x i=some m'):m'.ws.length=m.ws.length:=by
 unfold farZ at h
 repeat' split at h
 all_goals first
  | (cases h;done)
  | (obtain rfl:=Option.some.inj h;first | rfl | exact List.length_set .. | (split <;> rfl))

theorem step_ws (m:MZ) (t:Int):(stepZ m t).2.ws.length=m.ws.length:=by
 unfold stepZ
 repeat' split
 all_goals first
  | rfl
  | (unfold goZ doZ
     split
     · rfl
     · split
       · rename_i hf
         have h1:=far_ws hf
         exact h1
       · rfl)

theorem run_ws (m:MZ) (l:List Int):(runM m l).2.ws.length=m.ws.length:=by
 have:∀ (l:List Int) (p:Nat×MZ),(l.foldl runS p).2.ws.length=p.2.ws.length:=by
  intro l
  induction l with
  | nil=>exact fun p=>rfl
  | cons x l ih=>exact fun p=>(ih _).trans (step_ws p.2 x)
 exact this l (0,m)

theorem sweep_ws (m:MZ):∀ n,(sweepN m n).1.ws.length=m.ws.length
 | 0=>rfl
 | n+1=>by
   rw [sweepN_succ,sweepS]
   split
   · exact (step_ws _ _).trans (sweep_ws m n)
   · exact sweep_ws m n

theorem fin_ws (m:MZ):(finish m).ws.length=m.ws.length:=by
 have:∀ (f:Nat) (m:MZ),(finZ f m).ws.length=m.ws.length:=by
  intro f
  induction f with
  | zero=>exact fun m=>rfl
  | succ f ih =>
    intro m
    rw [finZ]
    split
    · exact (ih _).trans (sweep_ws m _)
    · exact sweep_ws m _
 exact this _ m

variable {d:DZ}

theorem ok_at (h:InvD d) (t:List UInt8):OpOk (atD d t):=by
 unfold atD
 split
 · exact .no h (by decide)
 · rename_i n _
   split
   · split
     · exact .no h (by decide)
     · refine .ok h ?_
       have h1:=cellZ_bounds h.ev.wf n
       have h2:=pc_bound h.ev.wf n.toNat
       exact Nat.le_trans (nums_ok (by simp) (by simp;omega)) (by decide)
   · exact .no h (by decide)

theorem ok_cells (h:InvD d):OpOk (cellsD d):=by
 have h1:=h.ev.wf.ws
 have h2:=cellsT_len d.m.ws h1.2
 exact .ok h (by omega)

theorem ok_events (h:InvD d):OpOk (eventsD d):=by
 have h1:=h.ev.wf.el
 have h2:=h.ev.wf.k
 have h3:=eventsT_len d.m.el h.ev.el
 exact .ok h (by omega)

theorem ok_finish (h:InvD d):OpOk (finishD d):=by
 refine .ok (h.with h.ev.fin (fin_ws d.m)) ?_
 have h1:=nums_ok (l:=[IntKind.i64.wrap (((finish d.m).k:Int)-d.m.k)]) (by simp) (by simpa using i64_bounds _)
 have h2:=yesZ_len (allZ (finish d.m))
 have h3:=yesZ_len (stuckZ (finish d.m))
 rw [List.length_append,List.length_append]
 omega

theorem ok_step (h:InvD d) (t:List UInt8):OpOk (stepD d t):=by
 unfold stepD
 split
 · exact .no h (by decide)
 · rename_i n _
   have hi:=h.with (h.ev.step n) (step_ws d.m n)
   split
   · refine .ok hi ?_
     have:=(h.ev.step n).wf.k
     exact Nat.le_trans (nums_ok (by simp) (by simp;omega)) (by decide)
   · refine .no hi ?_
     unfold stepZ
     repeat' split
     all_goals first
      | (simp;done)
      | (unfold goZ doZ
         repeat' split
         all_goals simp)

theorem ok_poke (h:InvD d) (t:List UInt8):OpOk (pokeD d t):=by
 unfold pokeD
 split
 · exact .no h (by decide)
 · split
   · exact .ok (h.with (h.ev.poke _) rfl) (by decide)
   · refine .no h ?_
     unfold pokeE
     repeat' split
     all_goals decide

theorem ok_run (h:InvD d) (t s:List UInt8):OpOk (runD d t s):=by
 unfold runD
 split
 · exact .no h (by decide)
 · rename_i n _
   split
   · rename_i e he
     refine .no h ?_
     unfold countV at he
     repeat' split at he
     all_goals first
      | (cases he;decide)
      | cases he
   · rename_i k hk
     refine .ok (h.with (h.ev.run _) (run_ws _ _)) ?_
     have h1:=runM_le d.m (List.replicate k n)
     rw [List.length_replicate] at h1
     have h2:k≤1000:=by
      unfold countV at hk
      repeat' split at hk
      all_goals first
       | (cases hk;omega)
       | cases hk
     exact Nat.le_trans (nums_ok (by simp) (by simp;omega)) (by decide)

theorem ok_round (h:InvD d) (t:List UInt8):OpOk (roundD d t):=by
 unfold roundD
 split
 · exact .no h (by decide)
 · rename_i n _
   split
   · exact .no h (by decide)
   · rename_i hn
     refine .ok (h.with (h.ev.run _) (run_ws _ _)) ?_
     have h1:=runM_le d.m (roundsL d.m.ps.length (d.m.ps.length*n.toNat))
     rw [roundsL_length] at h1
     have h16:d.m.ps.length≤16:=by have:=h.ev.wf.ps;have:=h.ev.wf.n;omega
     have h2:d.m.ps.length*n.toNat≤16*1000:=Nat.mul_le_mul h16 (by omega)
     exact Nat.le_trans (nums_ok (by simp) (by simp;omega)) (by decide)

theorem run_err:∀ {l:List EvZ} {i:Nat} {c g:List Int} {e:Int} {j:Nat},runZ l i c g=some (e,j)→(0≤e∧e≤13)∧j<i+l.length
 | [],_,_,_,_,_,h=>by cases h
 | x::l,i,c,g,e,j,h=>by
   rw [runZ] at h
   split at h
   · have:=run_err h
     rw [List.length_cons]
     omega
   · cases h
     refine ⟨?_,by rw [List.length_cons];omega⟩
     unfold oneZ
     repeat' split
     all_goals simp

theorem ok_judge (h:InvD d):OpOk (judgeD d):=by
 unfold judgeD
 split
 · rename_i hn
   split
   · rename_i hc
     refine .ok h ?_
     have hb:=judge_bounds hn hc
     have h1:=h.ev.wf.el
     have h2:=h.ev.wf.k
     exact Nat.le_trans (nums_ok (by simp) (by simp;omega)) (by decide)
   · rename_i e i hc
     have h1:=run_err hc
     have h2:=h.ev.wf.el
     have h3:=h.ev.wf.k
     refine ⟨h,(fun t ht=>by cases ht),fun e' he'=>?_⟩
     cases he'
     show (-9223372036854775808≤e∧e≤9223372036854775807)∧(-9223372036854775808≤(i:Int)∧(i:Int)≤9223372036854775807)
     omega
 · exact .no h (by decide)

theorem ok_state (h:InvD d):OpOk (stateD d):=by
 unfold stateD
 split
 · rename_i hp
   split
   · refine .ok h ?_
     obtain ⟨u,us,hus⟩ : ∃ u us,d.m.ws=u::us:=by
      cases e:d.m.ws with
      | nil=>exact absurd e (h.ph hp)
      | cons u us=>exact ⟨u,us,rfl⟩
     have hu:=h.ev.wf.ws.2 u (by rw [hus];simp)
     have hhd:d.m.ws.headD 0=u:=by rw [hus];rfl
     rw [hhd,List.length_append]
     have h1:=yesZ_len (gO u)
     have e1:gPh u=u / 4294967296 % 2147483648:=rfl
     have e2:gPa u=u / 65536 % 65536:=rfl
     have e3:gWa u=u % 65536:=rfl
     have h2:=nums_ok (l:=[gPh u,gPa u,gWa u]) (by simp) (by simp;omega)
     omega
   · exact .no h (by decide)
 · exact .no h (by decide)

theorem ok_points (h:InvD d):OpOk (pointsD d):=by
 unfold pointsD
 have hel:=h.ev.wf.el
 have hk:=h.ev.wf.k
 have hle:∀ (l pre:List EvZ),endsN d.cs pre l≤l.length:=by
  intro l
  induction l with
  | nil=>exact fun _=>Nat.le_refl _
  | cons x l ih =>
    intro pre
    rw [endsN]
    split
    · have:=ih (pre++[x])
      rw [List.length_cons]
      omega
    · exact Nat.zero_le _
 split
 · split
   · refine .ok h ?_
     have hp:=allPts_ok (el:=d.m.el) h.cs h.cl h.ev.al
     have hl:=allPts_len d.cs d.m.al d.m.el
     have hcs:=h.cs
     unfold sortZ
     split
     · rename_i hs
       have hc:=Classical.choose_spec hs
       have:=pointsT_len (Classical.choose hs) fun x hx=>hp x (hc.mem.1 hx)
       rw [hc.len] at this
       omega
     · decide
   · refine ⟨h,(fun t ht=>by cases ht),fun e he=>?_⟩
     cases he
     have:=hle d.m.el []
     show (-9223372036854775808≤(13:Int)∧(13:Int)≤9223372036854775807)∧(-9223372036854775808≤((endsN d.cs [] d.m.el:Nat):Int)∧((endsN d.cs [] d.m.el:Nat):Int)≤9223372036854775807)
     omega
 · exact .no h (by decide)

theorem pc_say (q:Nat→Nat) (p:Nat) (x:Pc):∀ i∈pcI q p x,i.op≠16:=by
 intro i hi
 cases x <;> simp [pcI,awI,tlI] at hi <;> rcases hi with rfl | rfl | rfl | rfl | rfl | rfl | rfl | rfl <;> simp

theorem dance_say (R:Nat) (P:List Pc):SayB (danceP R P):=by
 have hb:∀ (xs:List Pc) (q:Nat→Nat) (p:Nat),∀ i∈bodyQ q p xs,i.op≠16:=by
  intro xs
  induction xs with
  | nil=>intro q p i hi;simp [bodyQ] at hi
  | cons x xs ih =>
    intro q p i hi
    rw [bodyQ,List.mem_append] at hi
    rcases hi with hi | hi
    · exact pc_say q p x i hi
    · exact ih q _ i hi
 intro i hi h16
 rw [danceP,wholeZ,List.mem_append,List.mem_append] at hi
 rcases hi with hi | hi | hi
 · simp at hi
   rcases hi with rfl | rfl | rfl | rfl | rfl
   all_goals first
    | decide
    | cases h16
 · exact absurd h16 (hb P _ _ i hi)
 · simp at hi
   rcases hi with rfl | rfl | rfl
   all_goals first
    | decide
    | cases h16

theorem ok_barrier (h:InvD d) (a b c:List UInt8):OpOk (barrierD d a b c):=by
 unfold barrierD
 split
 · exact .no h (by decide)
 · rename_i k hk
   have hk6:=kindV_range hk
   split
   · exact .no h (by decide)
   · rename_i n _
     split
     · exact .no h (by decide)
     · rename_i R _
       split
       · exact .no h (by decide)
       · rename_i hb
         obtain ⟨_,_,hlen,hnc,hright,_,_⟩:=kindAll (k:=k) (n:=n.toNat) (R:=R.toNat) hk6 (by omega) (by omega)
         have w0:WF (danceM k n.toNat R.toNat):=mz0_wf (by omega) (by rw [List.length_replicate];exact hnc) (by rw [List.length_replicate];exact hright) fun x hx=>by rw [(List.mem_replicate.1 hx).2];omega
         refine .ok ⟨.new w0 fun p hp=>?_,(fun hp=>by cases hp),Nat.zero_le _,(fun l hl=>by cases hl)⟩ ?_
         · simp only [kindPs,List.mem_map] at hp
           obtain ⟨id,_,rfl⟩:=hp
           exact dance_say _ _
         · exact Nat.le_trans (nums_ok (by simp) (by simp;omega)) (by decide)

theorem ok_opens {nc:Nat} {x:Int} {xs:List (List UInt8)} {codeV:Nat→List CallZ→Except EZ (List InsZ)} (h:InvD d) (hxs:∀ y∈xs,y.length≤1000000000) (hnc:1≤nc∧nc≤300) (hx:0≤x∧x<18446744073709551616)
  (hcode:∀ i l p,codeV i l=.ok p→rightZ p nc=true∧SayB p) (herr:∀ i l e,codeV i l=.error e→-1≤e.num∧e.num≤100):OpOk (opensD d nc x xs codeV)∧∀ s,(opensD d nc x xs codeV).2=.ok s→(opensD d nc x xs codeV).1.m.ws≠[]:=by
 unfold opensD
 split
 · exact ⟨.no h (by decide),(fun s hs=>by cases hs)⟩
 · rename_i cls hcls
   split
   · rename_i e he
     refine ⟨.no h ?_,(fun s hs=>by cases hs)⟩
     have:∀ {cls:List (List CallZ)} {i:Nat} {e:EZ},codesV codeV i cls=.error e→-1≤e.num∧e.num≤100:=by
      intro cls
      induction cls with
      | nil=>intro i e h;cases h
      | cons l ls ih =>
        intro i e h
        rw [codesV] at h
        split at h
        · rename_i e' he'
          cases h
          exact herr _ _ _ he'
        · split at h
          · rename_i e' he'
            cases h
            exact ih he'
          · cases h
     exact this he
   · rename_i ps hps
     split
     · exact ⟨.no h (by decide),(fun s hs=>by cases hs)⟩
     · rename_i h16
       have hall:=codes_all hps (R:=fun p=>rightZ p nc=true∧SayB p) fun i l p hp=>hcode i l p hp
       have hwl:(x::List.replicate (nc-1) 0).length=nc:=by simp;omega
       have hlen:=codesV_len hps
       refine ⟨.ok ⟨.new (mz0_wf (by omega) (by omega) (by rw [hwl];exact fun p hp=>(hall p hp).1) fun v hv=>?_) fun p hp=>(hall p hp).2,(fun hp=>by cases hp),(by show cls.length≤16;omega),words_len hxs hcls⟩ ?_,(fun s _ hn=>by cases hn)⟩
       · rcases List.mem_cons.1 hv with rfl | hv
         · exact hx
         · rw [(List.mem_replicate.1 hv).2];omega
       · exact Nat.le_trans (nums_ok (by simp) (by simp;omega)) (by decide)
end
section
theorem foldl_all {Q:InsZ→Bool} (ins:Nat→CallZ→List InsZ) (h:∀ p c,(ins p c).all Q=true):∀ (l:List CallZ) (out:List InsZ),out.all Q=true→(l.foldl (fun out c=>out++ins out.length c) out).all Q=true
 | [],_,ho=>ho
 | c::l,out,ho=>by
   rw [List.foldl_cons]
   exact foldl_all ins h l _ (by rw [List.all_append,ho,h];rfl)

theorem gath_say (p:Int) (c:CallZ):(gathI p c).all (fun i=>i.op != 16 || i.a == 3)=true:=by
 unfold gathI
 repeat' split
 all_goals rfl

theorem gather_say {l:List CallZ} {p:List InsZ} (h:gatherV l=.ok p):SayB p:=by
 unfold gatherV codeOf at h
 split at h
 · cases h
 split at h
 · cases h
 obtain rfl:=Except.ok.inj h
 intro i hi h16
 rw [gathP,List.mem_append] at hi
 rcases hi with hi | hi
 · have:=List.all_eq_true.1 (foldl_all (fun n c=>gathI (n:Int) c) (fun n c=>gath_say n c) l [] rfl) i hi
   rw [h16] at this
   have:i.a=3:=by simpa using this
   omega
 · obtain rfl:=List.mem_singleton.1 hi
   cases h16

theorem codeOf_err {fit:CallZ→Bool} {prog:List CallZ→List InsZ} {l:List CallZ} {e:EZ} (h:codeOf fit prog l=.error e) : -1≤e.num∧e.num≤100:=by
 unfold codeOf at h
 split at h
 · cases h;decide
 · split at h
   · cases h
     exact ⟨by show (-1:Int)≤1;decide,by show (1:Int)≤100;decide⟩
   · cases h

theorem count_err {s:List UInt8} {e:Int} (h:countV s=.error e) : -1≤e∧e≤100:=by
 unfold countV at h
 repeat' split at h
 all_goals first
  | (cases h;decide)
  | cases h

theorem count_ok2 {s:List UInt8} {k:Nat} (h:countV s=.ok k):k≤1000:=by
 unfold countV at h
 repeat' split at h
 all_goals first
  | (cases h;omega)
  | cases h

variable {d:DZ}

theorem ok_openN {a:List UInt8} {xs:List (List UInt8)} {codeV:List CallZ→Except EZ (List InsZ)} (h:InvD d) (hxs:∀ y∈xs,y.length≤1000000000)
  (hcode:∀ l p,codeV l=.ok p→rightZ p (1:Nat)=true∧SayB p) (herr:∀ l e,codeV l=.error e→-1≤e.num∧e.num≤100):OpOk (openN d a xs codeV):=by
 unfold openN
 split
 · rename_i e he
   exact .no h (count_err he)
 · rename_i n hn
   have:=count_ok2 hn
   exact (ok_opens h hxs (by decide) (by omega) (fun _ l p hp=>hcode l p hp) fun _ l e he=>herr l e he).1

theorem ok_phase (h:InvD d) (a:List UInt8) (xs:List (List UInt8)) (hxs:∀ y∈xs,y.length≤1000000000):OpOk (phaseD d a xs):=by
 unfold phaseD
 split
 · rename_i e he
   exact .no h (count_err he)
 · rename_i n hn
   have hn2:=count_ok2 hn
   obtain ⟨h1,h2⟩:=ok_opens (d:=d) (nc:=1) (x:=pkWordZ false 0 n n) (xs:=xs) (codeV:=fun _=>gatherV) h hxs (by decide) (by simp [pkWordZ];omega) (fun _ l p hp=>⟨gather_right hp,gather_say hp⟩) fun _ l e he=>codeOf_err he
   generalize opensD d 1 (pkWordZ false 0 n n) xs (fun _=>gatherV)=r at h1 h2
   obtain ⟨d1,r1⟩:=r
   cases r1 with
   | ok s=>exact ⟨⟨h1.inv.ev,fun _=>h2 s rfl,h1.inv.cs,h1.inv.cl⟩,h1.len,h1.err⟩
   | error e=>exact ⟨h,(fun t ht=>by cases ht),h1.err⟩

theorem ok_trade (h:InvD d) (xs:List (List UInt8)) (hxs:∀ y∈xs,y.length≤1000000000):OpOk (opensD d 17 0 xs tradeV) :=
 (ok_opens h hxs (by decide) (by decide) (fun _ l p hp=>trade_rt hp) fun i l e he=>by
   unfold tradeV at he
   split at he
   · cases he;decide
   · exact codeOf_err he).1
end
section
theorem spans_len (p:Nat→Bool) (s:ByteArray):∀ (f pos:Nat) (st:Option Nat) (acc:List (Nat×Nat)),(Lib.spansFromP p s f pos st acc).1.length≤acc.length+f
 | 0,_,_,_=>by simp [Lib.spansFromP]
 | f+1,pos,st,acc=>by
   unfold Lib.spansFromP
   split
   · split
     · cases st with
       | none=>exact Nat.le_trans (spans_len p s f _ _ _) (by omega)
       | some a=>exact Nat.le_trans (spans_len p s f _ _ _) (by simp;omega)
     · cases st with
       | none=>exact Nat.le_trans (spans_len p s f _ _ _) (by omega)
       | some a=>exact Nat.le_trans (spans_len p s f _ _ _) (by omega)
   · simp

theorem words_small {s:List UInt8} (hs:s.length≤1000000):(wordsF s).length≤1000001∧∀ w∈wordsF s,w.length≤1000000:=by
 have hsz:(⟨s.toArray⟩ : ByteArray).size=s.length:=rfl
 constructor
 · have h1:=spans_len blankP ⟨s.toArray⟩ (⟨s.toArray⟩ : ByteArray).size 0 none []
   rw [wordsF,List.length_map,Lib.goFieldsP,List.length_map,Lib.spansOfP]
   rw [hsz] at h1 ⊢
   generalize Lib.spansFromP blankP ⟨s.toArray⟩ s.length 0 none []=q at h1
   obtain ⟨acc,st⟩:=q
   cases st with
   | none=>simp [Lib.closeSpans] at h1 ⊢;omega
   | some a=>simp [Lib.closeSpans] at h1 ⊢;omega
 · intro w hw
   simp only [wordsF,Lib.goFieldsP,List.mem_map] at hw
   obtain ⟨_,⟨x,_,rfl⟩,rfl⟩:=hw
   have:((⟨s.toArray⟩ : ByteArray).extract x.1 x.2).size≤s.length:=by
    rw [ByteArray.size_extract,hsz]
    omega
   exact Nat.le_trans this hs

theorem smGet_no {ks:List (List UInt8)} {w:List UInt8} {z:CV}:∀ {cs:List CV},smHas ks w=false→smGet ks cs w z=z:=by
 induction ks with
 | nil=>intro cs _;cases cs <;> rfl
 | cons k ks ih =>
   intro cs h
   cases cs with
   | nil=>rfl
   | cons c cs =>
     simp only [smHas,cond_eq_ite] at h
     simp only [smGet,cond_eq_ite]
     split at h
     · cases h
     · rename_i hk
       rw [if_neg hk]
       exact ih h

theorem sameS_eq:∀ {a b:List UInt8},sameS a b=true→a=b
 | [],[],_=>rfl
 | x::xs,y::ys,h=>by
   simp only [sameS,cond_eq_ite] at h
   split at h
   · rename_i hx
     have:x=y:=UInt8.toNat_inj.1 (Nat.eq_of_beq_eq_true hx)
     rw [this,sameS_eq h]
   · cases h
 | [],_::_,h=>by cases h
 | _::_,[],h=>by cases h

theorem smHas_mem:∀ {ks:List (List UInt8)} {w:List UInt8},smHas ks w=true→w∈ks
 | [],_,h=>by cases h
 | k::ks,w,h=>by
   simp only [smHas,cond_eq_ite] at h
   split at h
   · rename_i hk
     rw [sameS_eq hk]
     simp
   · exact List.mem_cons_of_mem _ (smHas_mem h)

theorem errText_len {e:EZ} (h:okEZ e):(errText e).length≤100:=by
 cases e with
 | no e =>
   have:=itoa_len h.1 h.2
   simp only [errText,List.length_append]
   simp
   omega
 | pl e p =>
   have h1:=itoa_len h.1.1 h.1.2
   have h2:=itoa_len h.2.1 h.2.2
   simp only [errText,List.length_append]
   simp
   omega

def Told (d:DZ) (s:List UInt8):Prop:=∃ r,LineX d s r∧InvD r.1∧r.2.length≤100000000

theorem told_word {d:DZ} {s w0:List UInt8} {xs:List (List UInt8)} {n:Int} {f:FuncId} (hs:s.length≤1000000) (hd:InvD d) (hw:wordsF s=w0::xs) (hyes:smHas wrdL w0=true) (hz:smGet wrdL cntL w0 (.f (.int .i64 0))=.f (.int .i64 n)) (hf:∀ z,smGet wrdL doL w0 z=.bfn f 5)
  (hnb : -2≤n∧n≤3) (hwl:w0.length≤1000) (hh:w0≠[104,101,108,112]) (hgood:(0≤n→n=xs.length)→(n<0→-n≤xs.length+1)→∃ r,SaidX f d (w0::xs) r∧OpOk r):Told d s:=by
 have hx:xs.length≤1000000:=by
  have:=(words_small hs).1
  rw [hw,List.length_cons] at this
  omega
 by_cases hc:(0≤n→n=xs.length)∧(n<0→-n≤xs.length+1)
 · obtain ⟨r,hr,ho⟩:=hgood hc.1 hc.2
   refine ⟨tellD w0 r,line_yes s (by omega) d w0 xs n f r hw hyes hz hf hc.1 hc.2 hnb.1 (by omega) hwl hh hr (fun t ht=>?_) ho.err,ho.inv,?_⟩
   · have:=ho.len t ht
     omega
   · unfold tellD
     split
     · rename_i t ht
       have:=ho.len t ht
       rw [List.length_append]
       omega
     · rename_i e he
       exact Nat.le_trans (errText_len (ho.err e he)) (by decide)
 · exact ⟨(d,errText (.no 3)),line_bad s (by omega) d w0 xs n hw hyes hz hc hnb (by omega) hh,hd,Nat.le_trans (errText_len (okNo (by decide))) (by decide)⟩

theorem len_three:∀ {xs:List (List UInt8)},xs.length=3→∃ a b c,xs=[a,b,c]
 | [a,b,c],_=>⟨a,b,c,rfl⟩

theorem len_two:∀ {xs:List (List UInt8)},xs.length=2→∃ a b,xs=[a,b]
 | [a,b],_=>⟨a,b,rfl⟩

theorem line_all {d:DZ} (hd:InvD d) {s:List UInt8} (hs:s.length≤1000000):Told d s:=by
 obtain ⟨hwn,hwl⟩:=words_small hs
 cases hw:wordsF s with
 | nil=>exact ⟨_,line_ok s (by omega) d hw,hd,(show ([111,107]:List UInt8).length≤100000000 by decide)⟩
 | cons w0 xs =>
   rw [hw,List.length_cons] at hwn
   have hxl:xs.length≤1000000000:=by omega
   have hxs:∀ y∈xs,y.length≤1000000000:=fun y hy=>by
    have:=hwl y (by rw [hw];exact List.mem_cons_of_mem _ hy)
    omega
   cases hb:smHas wrdL w0 with
   | false =>
     by_cases hh:w0=[104,101,108,112]∧xs=[]
     · rw [hh.1,hh.2] at hw
       exact ⟨_,line_help s (by omega) d hw,hd,(show helpT.length≤100000000 by decide)⟩
     · exact ⟨_,line_no s (by omega) d w0 xs hw hb (smGet_no hb) (fun h1 h2=>hh ⟨h1,h2⟩),hd,Nat.le_trans (errText_len (okNo (by decide))) (by decide)⟩
   | true =>
     have e0:∀ {xs:List (List UInt8)},((0:Int)≤0→(0:Int)=xs.length)→xs=[]:=fun h=>List.eq_nil_of_length_eq_zero (by have:=h (by decide);omega)
     have e1:∀ {xs:List (List UInt8)},((0:Int)≤1→(1:Int)=xs.length)→∃ a,xs=[a]:=fun h=>List.length_eq_one_iff.1 (by have:=h (by decide);omega)
     have e2:∀ {xs:List (List UInt8)},((-2:Int)<0→-(-2:Int)≤xs.length+1)→∃ a ys,xs=a::ys:=fun {xs} h=>by
      cases xs with
      | nil=>exact absurd (h (by decide)) (by decide)
      | cons a ys=>exact ⟨a,ys,rfl⟩
     have hm:=smHas_mem hb
     simp only [wrdL,List.mem_cons,List.not_mem_nil,or_false] at hm
     rcases hm with rfl | rfl | rfl | rfl | rfl | rfl | rfl | rfl | rfl | rfl | rfl | rfl | rfl | rfl | rfl | rfl | rfl | rfl | rfl | rfl
     all_goals refine told_word hs hd hw hb rfl (fun _=>rfl) (by decide) (by decide) (by decide) fun h1 h2=>?_
     · obtain ⟨a,rfl⟩:=e1 h1
       exact ⟨_,saidAt d _ a (hxs a (by simp)),ok_at hd a⟩
     · obtain ⟨a,b,c,rfl⟩ : ∃ a b c,xs=[a,b,c]:=len_three (by have:=h1 (by decide);omega)
       exact ⟨_,saidBarrier d _ a b c (hxs b (by simp)) (hxs c (by simp)),ok_barrier hd a b c⟩
     · obtain rfl:=e0 h1
       exact ⟨_,saidCells d _,ok_cells hd⟩
     · obtain rfl:=e0 h1
       exact ⟨_,saidEvents d _ hd.ev.el,ok_events hd⟩
     · obtain rfl:=e0 h1
       exact ⟨_,saidFinish d _,ok_finish hd⟩
     · obtain rfl:=e0 h1
       exact ⟨_,saidJudge d _,ok_judge hd⟩
     · obtain ⟨a,ys,rfl⟩:=e2 h2
       exact ⟨_,saidN (.inl ⟨rfl,rfl⟩) latchMk (fun _ _ h=>(latch_rt h).1) d _ a ys (hxs a (by simp)) (fun y hy=>hxs y (by simp [hy])) (by simp at hxl;omega),ok_openN hd (fun y hy=>hxs y (by simp [hy])) (fun _ _ h=>latch_rt h) fun _ _ h=>codeOf_err h⟩
     · exact ⟨_,saidM (.inl ⟨rfl,rfl,rfl⟩) mutexMk (fun _ _ h=>(mutex_rt h).1) d _ xs hxs hxl,(ok_opens hd hxs (by decide) (by decide) (fun _ _ _ h=>mutex_rt h) fun _ _ _ h=>codeOf_err h).1⟩
     · exact ⟨_,saidM (.inr (.inr (.inr ⟨rfl,rfl,rfl⟩))) onceMk (fun _ _ h=>(once_rt h).1) d _ xs hxs hxl,(ok_opens hd hxs (by decide) (by decide) (fun _ _ _ h=>once_rt h) fun _ _ _ h=>codeOf_err h).1⟩
     · obtain ⟨a,ys,rfl⟩:=e2 h2
       exact ⟨_,saidPhase d _ a ys (hxs a (by simp)) (fun y hy=>hxs y (by simp [hy])) (by simp at hxl;omega),ok_phase hd a ys fun y hy=>hxs y (by simp [hy])⟩
     · obtain rfl:=e0 h1
       exact ⟨_,saidPoints d _ hd.cs (fun l hl=>Nat.le_trans (hd.cl l hl) (by decide)) (allPts_ok hd.cs hd.cl hd.ev.al),ok_points hd⟩
     · obtain ⟨a,rfl⟩:=e1 h1
       exact ⟨_,saidPoke d _ a (hxs a (by simp)),ok_poke hd a⟩
     · obtain ⟨a,rfl⟩:=e1 h1
       exact ⟨_,saidRound d _ a (hxs a (by simp)),ok_round hd a⟩
     · obtain ⟨a,b,rfl⟩ : ∃ a b,xs=[a,b]:=len_two (by have:=h1 (by decide);omega)
       exact ⟨_,saidRun d _ a b (hxs a (by simp)) (hxs b (by simp)),ok_run hd a b⟩
     · exact ⟨_,saidM (.inr (.inr (.inl ⟨rfl,rfl,rfl⟩))) rwMk (fun _ _ h=>(rw_rt h).1) d _ xs hxs hxl,(ok_opens hd hxs (by decide) (by decide) (fun _ _ _ h=>rw_rt h) fun _ _ _ h=>codeOf_err h).1⟩
     · obtain ⟨a,ys,rfl⟩:=e2 h2
       exact ⟨_,saidN (.inr ⟨rfl,rfl⟩) semaMk (fun _ _ h=>(sema_rt h).1) d _ a ys (hxs a (by simp)) (fun y hy=>hxs y (by simp [hy])) (by simp at hxl;omega),ok_openN hd (fun y hy=>hxs y (by simp [hy])) (fun _ _ h=>sema_rt h) fun _ _ h=>codeOf_err h⟩
     · obtain rfl:=e0 h1
       exact ⟨_,saidState d _ hd.ph,ok_state hd⟩
     · obtain ⟨a,rfl⟩:=e1 h1
       exact ⟨_,saidStep d _ a (hxs a (by simp)),ok_step hd a⟩
     · exact ⟨_,saidM (.inr (.inl ⟨rfl,rfl,rfl⟩)) ticketMk (fun _ _ h=>(ticket_rt h).1) d _ xs hxs hxl,(ok_opens hd hxs (by decide) (by decide) (fun _ _ _ h=>ticket_rt h) fun _ _ _ h=>codeOf_err h).1⟩
     · exact ⟨_,saidTrade d _ xs hxs hxl,ok_trade hd xs hxs⟩
end
section
theorem nilArgs2 {P:Program} {f:FuncId} {K:KP} {a b:Nat} (hb0:0<b) (h:Does P f [cv (.slc 0 0 0 none false),cv (.slc 1 0 0 none false)] [.rows2 true a [],.rows true b []] K):Does P f [cv .nilslc,cv .nilslc] [] K:=by
 refine ⟨h.fn,fun B R w0 L w vs hrel hvs=>?_⟩
 obtain ⟨_,_,rfl,rfl,_,_,rfl,rfl,rfl⟩:=hvs
 have hob:∀ (i:Nat) (o:PO),([.rows2 true a [],.rows true b []]:List PO)[i]? = some o→(i=0∧o=.rows2 true a [])∨(i=1∧o=.rows true b []):=by
  intro i o hi
  match i,hi with
  | 0,hi=>exact .inl ⟨rfl,(Option.some.inj hi).symm⟩
  | 1,hi=>exact .inr ⟨rfl,(Option.some.inj hi).symm⟩
  | i+2,hi=>simp at hi
 have hr2:Rel B R w0 (fun i=>⟨⟨0,0,0,if i=0 then 1 else b⟩,fun _=>⟨0,0,0,0⟩⟩) [.rows2 true a [],.rows true b []] w:=by
  refine ⟨hrel.below,hrel.start,fun i o hi=>?_,fun i o q hi hq=>?_,fun i o q hi hq=>?_,hrel.sub⟩
  · rcases hob i o hi with ⟨rfl,rfl⟩ | ⟨rfl,rfl⟩
    · exact ⟨rfl,Nat.le_refl _,fun hc=>by (cases hc),fun i rs hi=>by simp at hi,fun hc=>by cases hc⟩
    · exact ⟨rfl,hb0,Nat.le_refl _,fun hc=>(by cases hc),fun i rs hi=>by simp at hi⟩
  · rcases hob i o hi with ⟨rfl,rfl⟩ | ⟨rfl,rfl⟩ <;> exact hq.elim
  · rcases hob i o hi with ⟨rfl,rfl⟩ | ⟨rfl,rfl⟩
    · rcases hq with ⟨hc,_⟩ | ⟨i,hi,_⟩
      · exact absurd rfl hc
      · simp at hi
    · exact absurd rfl hq.1
 refine (h.run B R w0 _ w [.slice none 0 0,.slice none 0 0] hr2 ⟨_,_,rfl,⟨by simp,.inl ⟨rfl,rfl,rfl,fun c' hc'=>by cases hc'⟩⟩,_,_,rfl,⟨by simp,.inl ⟨rfl,rfl,rfl,fun c' hc'=>by cases hc'⟩⟩,rfl⟩).mono ?_
 rintro e w' ⟨v,he,L',x,M,H',h1,h2,h3,h4,h5⟩
 exact ⟨v,he,L',x,M,H',fun j hj=>absurd hj (by simp),Nat.zero_le _,h3,h4,h5⟩

section

variable {K:KP}

theorem coreNewNil (h:∀ v,okV v→WF (mz0 [] [])→K (.tup [.c (.ptr 0 0),okP]) [] (machS 0 (mz0 [] []) v)):Does Tryz.prog 27 [cv .nilslc,cv .nilslc] [] K:=by
 refine Does.keep 0 rfl ?_
 refine nilArgs2 (a:=5) (b:=1) (by decide) ?_
 refine coreNew (ps:=[]) (ws:=[]) (n:=0) (nc:=0) rfl rfl (by decide) (by decide) (fun p hp=>by simp at hp) fun v hv=>?_
 have hw:WF (mz0 [] []):=mz0_wf (by simp) (by simp) (fun p hp=>by simp at hp) (fun p hp=>by simp at hp)
 exact ⟨11,[2,3,4,5,6,7,8,9,10],_,_,rfl,rfl,by decide,by decide,rfl,rfl,rfl,rfl,rfl,h v hv hw⟩

end

theorem Conv.nil2 {H:List PO} (i f sz:Nat) {cs:List CV} (hi:H[i]? = some (.one cs)) (hf:cs[f]? = some .nilslc):Conv H ((H++[PO.rows2 false sz []]).set i (PO.one (cs.set f (CV.slc H.length 0 0 none false)))):=by
 intro B R X w0 L w h hfr
 obtain ⟨g1,g2⟩:=none2_sound h sz
 have hlt:=(List.getElem?_eq_some_iff.1 hi).1
 have hi2:(H++[PO.rows2 false sz []])[i]? = some (.one cs):=by rw [List.getElem?_append_left hlt];exact hi
 have g3:=g2.weaken (i:=i) (cs:=cs) (cs':=cs.set f (.slc H.length 0 0 none false)) hi2 (by simp) fun g x' hx'=>by
  by_cases hg:f=g
  · subst hg
    rw [List.getElem?_set_self (List.getElem?_eq_some_iff.1 hf).1] at hx'
    obtain rfl:=Option.some.inj hx'
    exact ⟨_,hf,fun v hv=>⟨by simp,.inl ⟨rfl,rfl,hv,fun c' hc'=>by cases hc'⟩⟩⟩
  · rw [List.getElem?_set_ne hg] at hx'
    exact ⟨x',hx',fun _ hv=>hv⟩
 refine ⟨_,g1,g3,fun b hb=>?_⟩
 obtain ⟨x1,x2,x3⟩:=hfr b hb
 refine ⟨x1,x2,fun j o hj ho=>?_⟩
 by_cases hji:i=j
 · subst hji
   rw [List.getElem?_set_self (by simp;omega)] at hj
   obtain rfl:=Option.some.inj hj
   rw [upd_ne (by omega)] at ho
   exact x3 i (.one cs) hi ho
 · rw [List.getElem?_set_ne hji] at hj
   rcases Nat.lt_or_ge j H.length with hlt2 | hge
   · rw [List.getElem?_append_left hlt2] at hj
     rw [upd_ne (by omega)] at ho
     exact x3 j o hj ho
   · obtain rfl:j=H.length:=by
      have:=(List.getElem?_eq_some_iff.1 hj).1
      simp at this
      omega
     simp at hj
     subst hj
     rw [upd_self] at ho
     rcases ho with ⟨hc,_⟩ | ⟨i,hi,_⟩
     · exact absurd rfl hc
     · simp at hi
end
end Go.Mac
end
