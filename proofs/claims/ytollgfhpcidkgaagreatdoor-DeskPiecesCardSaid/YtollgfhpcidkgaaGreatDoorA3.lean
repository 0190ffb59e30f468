/- Texts that belong together; the first of them:  -/
import Derived.Test.YtollgfhpcidkgaaGreatDoorA2
import Derived.Test.YtollgfhpcidkgaaGreatDoorProg
import Derived.Test.YtollgfhpcidkgaaGreatDoorA1
import Derived.Lib.Strings
import Derived.Lib.Slices
import Derived.Lib.Walk
import Derived.Lib.Bytealg

section
namespace Go.Mac
open Go

def aopD (P:Program) (T:Tm) (H:List PO) (K:KP) (J:KJ) (op:Op):Prop :=
 match op with
 | .call c =>
   match c.callee with
   | .value f =>
     match ev T f with
     | .p (.c (.func g caps))=>evs T c.args.toList fun az=>capsK caps fun cs=>addK az cs fun l=>DoesX P g l H K J
     | .p (.c (.bfn g r))=>evs T c.args.toList fun az=>DoesX P g (cv (.ptr r 0)::az) H K J
     | _=>False
   | _=>aop P T H K op
 | op=>aop P T H K op

def dsts:List Oper→List Nat
 | []=>[]
 | o::os=>match o.dst with
   | some d=>d::dsts os
   | none=>dsts os

theorem dsts_mem:∀ {os:List Oper} {j:Nat} {o:Oper} {d:Nat},os[j]? = some o→o.dst=some d→d∈dsts os
 | [],_,_,_,h,_=>by simp at h
 | x::os,0,o,d,h,hd=>by
   simp at h
   subst h
   rw [dsts,hd]
   exact List.mem_cons_self ..
 | x::os,j+1,o,d,h,hd=>by
   have:=dsts_mem (os:=os) (j:=j) (by simpa using h) hd
   rw [dsts]
   split
   · exact List.mem_cons_of_mem _ this
   · exact this

def dropT (ds:List Nat):Tm→Tm
 | []=>[]
 | e::T=>bif has ds e.1 then dropT ds T else e::dropT ds T

theorem lk_dropT (ds:List Nat) (t:Nat):∀ (T:Tm),lk (dropT ds T) t=if t∈ds then .u else lk T t
 | []=>by split <;> rfl
 | (j,x)::T=>by
   simp only [dropT,cond_eq_ite]
   by_cases hj:has ds j=true
   · rw [if_pos hj,lk_dropT ds t T,lk_cons]
     split
     · rfl
     · rename_i ht
       rw [if_neg fun e=>ht (by rw [←e];exact has_iff.1 hj)]
   · rw [if_neg hj,lk_cons,lk_cons,lk_dropT ds t T]
     by_cases e:j=t
     · subst e
       rw [if_pos rfl,if_pos rfl,if_neg fun hm=>hj (has_iff.2 hm)]
     · rw [if_neg e,if_neg e]

theorem put_defers {t:Array Value} {D E:List Deferred} {d:Option Tmp} {v:Value}:(({ tmps:=t,defers:=D }:Act).put d v) = { tmps:=(({ tmps:=t,defers:=E }:Act).put d v).tmps,defers:=D }:=by
 unfold Act.put
 cases d <;> rfl

section

variable {B R:Nat→Prop} {w0:World} {P:Program} {N:Nat} {L:Nat→Loc} {H:List PO} {w:World} {a:Act} {nt N0:Nat} {T:Tm} {M:List Nat} {L0:Nat→Loc} {all:List Oper} {E S:List Nat} {listed:Array Bool}

theorem aopD_sound {K:KP} {J:KJ} (hrel:Rel B R w0 L H w) (ht:TR H.length L nt T a) (o:Oper) (h:aopD P T H K J o.op):OutP P B R w0 H.length L K J w ((execOp a.eval o).run P w):=by
 by_cases hc:∃ c f,o.op=.call c∧c.callee=.value f
 · refine aopP_sound hrel ht o ?_
   obtain ⟨c,f,h1,h2⟩:=hc
   rw [h1] at h ⊢
   obtain ⟨callee,args,tys⟩:=c
   dsimp only at h2
   subst h2
   exact h
 · refine OutP.of (aop_sound hrel ht o ?_)
   cases ho:o.op with
   | call c =>
     rw [ho] at h
     obtain ⟨callee,args,tys⟩:=c
     cases callee with
     | value f=>exact absurd ⟨_,f,ho,rfl⟩ hc
     | builtin b=>exact h
     | invoke r m=>exact h
   | _=>rw [ho] at h;exact h

theorem opD_congr {U T:Tm} {o:Oper} {K:KP} {J:KJ} (h:∀ t∈o.looksAt all.toArray,lk U t=lk T t) (ha:aopD P U H K J o.op):aopD P T H K J o.op:=by
 by_cases hc:∃ c f,o.op=.call c∧c.callee=.value f
 · obtain ⟨c,f,h1,h2⟩:=hc
   have he:∀ x∈o.op.operands,ev U x=ev T x:=fun x hx=>ev_congr fun t ht=>h t (by
    unfold Oper.looksAt
    exact List.mem_append_left _ (List.mem_filterMap.2 ⟨x,by simpa using hx,by rw [ht]⟩))
   rw [h1] at ha he ⊢
   obtain ⟨callee,args,tys⟩:=c
   dsimp only at h2
   subst h2
   simp only [Op.operands,Call.operands] at he
   simp only [aopD] at ha ⊢
   rw [←he f (by simp)]
   split at ha <;> try exact ha.elim
   · exact evs_congr (fun x hx=>he x (by simp [Array.mem_def.2 hx])) ha
   · exact evs_congr (fun x hx=>he x (by simp [Array.mem_def.2 hx])) ha
 · have key:∀ T,aopD P T H K J o.op=aop P T H K o.op:=fun T=>by
    cases ho:o.op with
    | call c =>
      obtain ⟨callee,args,tys⟩:=c
      cases callee with
      | value f=>exact absurd ⟨_,f,ho,rfl⟩ hc
      | builtin b=>rfl
      | invoke r m=>rfl
    | _=>rfl
   rw [key] at ha ⊢
   exact op_congr h ha

theorem Inv.quiet_stepX {r:Option Nat} {D:List Deferred} {R0:Exit→Act→World→Prop} (hs:SSA all) (h:Inv P nt N0 L0 B R w0 all E S T M H listed L w a) {i:Nat} {o:Oper} (hi:all[i]? = some o) (hiE:i∈E) (hni:listed.getD i false=false) (hp:∀ p∈preds o,listed.getD p false=true)
 {k:Act→World→Prop} (hk:∀ a' w' L',Inv P nt N0 L0 B R w0 all E S T M H (listed.setIfInBounds i true) L' w' a'→k { tmps:=a'.tmps,defers:=D } w'):wpOpIn (FW r) 0 P all.toArray R0 i k { tmps:=a.tmps,defers:=D } w:=by
 have hq:quiet o.op=true:=by
  cases hq:quiet o.op with
  | true=>rfl
  | false=>rw [h.eff i o hiE hi hq] at hni;cases hni
 have hlt:i<listed.size:=by rw [h.size];exact (List.getElem?_eq_some_iff.1 hi).1
 have htr:=h.looks hs hi hp
 have hag:=h.pend i o hiE hni hi
 unfold again at hag
 -- what holds behind it
 have after:∀ (v:Value) (w':World) (L':Nat→Loc) (x:AV),valIs T o x→VA H.length L' x v→Agree H.length [] L L'→Rel B R w0 L' H w'→Inv P nt N0 L0 B R w0 all E S T M H (listed.setIfInBounds i true) L' w' (a.put o.dst v):=by
  intro v w' L' x hx hxv hL hrel
  refine ⟨by simpa using h.size,fun j hj=>?_,fun j o' hj ho' p hp'=>?_,h.edown,fun j o' hj ho' hq'=>?_,fun j hj=>?_,fun t=>?_,h.bound,?_,?_,fun j o' hj hjl ho'=>?_,h.hN,?_,hrel⟩
  · rw [getD_set hlt] at hj
    split at hj
    · rename_i e;rw [e];exact hiE
    · exact h.sub j hj
  · rw [getD_set hlt] at hj ⊢
    split
    · rfl
    · split at hj
      · rename_i e;subst e;rw [hi] at ho';cases ho';exact hp p hp'
      · exact h.down j o' hj ho' p hp'
  · rw [getD_set hlt];split
    · rfl
    · exact h.eff j o' hj ho' hq'
  · rw [getD_set hlt];split
    · rfl
    · exact h.sure j hj
  · by_cases ht:o.dst=some t
    · right
      unfold valIs at hx
      rw [ht] at hx
      dsimp only at hx
      rw [←hx,ht]
      have htl:t<a.tmps.size:=Nat.lt_of_lt_of_le (h.bound i o t hiE hi ht) h.room
      simpa [Act.put,Array.getD_eq_getD_getElem?,htl] using hxv
    · rcases h.tr t with ⟨j,oj,h1,h2,h3,h4⟩ | hv
      · left
        refine ⟨j,oj,h1,?_,h3,h4⟩
        rw [getD_set hlt,if_neg (fun e=>by subst e;rw [hi] at h3;cases h3;exact ht h4)]
        exact h2
      · right
        have:(a.put o.dst v).tmps.getD t undef=a.tmps.getD t undef:=by
         cases hd:o.dst with
         | none=>rfl
         | some d =>
           have hne:d≠t:=fun e=>ht (by rw [hd,e])
           simp [Act.put,Array.getElem?_setIfInBounds_ne hne]
        rw [this]
        have:=hv.mono (Nat.le_refl _) hL
        rwa [killA_nil] at this
  · cases o.dst <;> exact h.defers
  · cases hd:o.dst with
    | none=>exact h.room
    | some d=>have:=h.room;simpa [Act.put] using this
  · rw [getD_set hlt] at hjl
    split at hjl
    · cases hjl
    · exact h.pend j o' hj hjl ho'
  · have:=h.hag.trans h.hN hL;rwa [List.nil_append] at this
 have hag2:=guarded_congr (all:=all) (T':=(o.looksAt all.toArray).map fun t=>(t,lk T t)) (k':=fun U b=>match b with
  | true=>aop P U H (fun v _ _=>valIs T o v) o.op
  | false=>valIs T o undefA) (fun t ht=>by rw [lk_looks,if_pos ht]) (fun b U U' hU hU' hh=>by
  cases b with
  | true=>exact op_congr (all:=all) (fun t ht=>by rw [hU,hU',lk_looks,if_pos ht]) hh
  | false=>exact hh) hag
 obtain ⟨U,b,hU,hw,hb⟩:=guarded_wanted htr hag2
 have htU:TR H.length L nt U a:=⟨fun t=>by rw [hU];exact htr.get t,htr.defers,htr.room⟩
 have hio:(all.toArray)[i]? = some o:=by simpa using hi
 unfold wpOpIn
 simp only [hio,hw]
 cases b with
 | false =>
   rw [if_neg (by simp)]
   refine ⟨fun _ _=>trivial,?_⟩
   rw [put_defers]
   exact hk _ _ L (after undef w L undefA hb ⟨[],rfl,rfl⟩ (Agree.refl _ _ _) h.rel)
 | true =>
   rw [if_pos rfl]
   have hnd:∀ c,o.op≠.defer c:=fun c e=>by rw [e] at hb;exact hb
   have hout:=aop_sound h.rel htU o (quiet_aop hq hb)
   have next:∀ v w',Left B R w0 H.length L (fun v M H'=>M=[]∧H'=H∧valIs T o v) v w'→k (({ tmps:=a.tmps,defers:=D }:Act).put o.dst v) w':=by
    rintro v w' ⟨L',x,M',H',h1,h2,h3,h4,rfl,rfl,h5⟩
    rw [put_defers]
    exact hk _ _ L' (after v w' L' x h5 h3 h1 h4)
   refine ⟨fun _ _=>trivial,?_⟩
   rw [Oper.semAt_eq _ _ _ hnd]
   rcases hout with ⟨v,w',hr,hleft⟩ | ⟨f,args,hr,hcall⟩
   · rcases hr with hr | ⟨hr,rfl⟩
     · rw [show (execOp ({ tmps:=a.tmps,defers:=D }:Act).eval o).run P w=_ from hr];exact next v w' hleft
     · rw [show (execOp ({ tmps:=a.tmps,defers:=D }:Act).eval o).run P w=_ from hr];exact next undef w' hleft
   · rw [show (execOp ({ tmps:=a.tmps,defers:=D }:Act).eval o).run P w=_ from hr]
     refine ⟨fun hd=>(by cases r <;> cases hd),calls_FW r _ (hcall.mono ?_)⟩
     rintro e w' ⟨v,rfl,hleft⟩
     exact next v w' hleft

theorem Inv.eff_stepX {r:Option Nat} {Df:List Deferred} {R0:Exit→Act→World→Prop} {Z:CV→Tm→List Nat→List PO→Prop} {ds:List Nat} (hds:∀ (j:Nat) (o':Oper) (d:Nat),all[j]? = some o'→o'.dst=some d→d∈ds) (hs:SSA all) (h:Inv P nt N0 L0 B R w0 all E S T M H listed L w a) {i:Nat} {o:Oper} (hi:all[i]? = some o) (hq:quiet o.op=false) (hni:listed.getD i false=false) (hp:∀ p∈preds o,listed.getD p false=true)
 {D:Tm→List Nat→List PO→Prop}
 (hg:guarded all T o fun T' b=>match b with
     | true=>aopD P T' H (fun v M' H'=>killT M' T' fun T1=>putT nt T1 o.dst v fun T2=>addM M' M fun M2=>checks P all E (ahead all 1000 [i] S) T2 H' (D T2 M2 H') numbers all) (fun c M' H'=>killT M' (dropT ds T') fun T1=>addM M' M fun M2=>Z c T1 M2 H') o.op
     | false=>putT nt T' o.dst undefA fun T2=>checks P all E (ahead all 1000 [i] S) T2 H (D T2 M H) numbers all)
 {k:Act→World→Prop} (hk:∀ a' w' L' T' M' H',D T' M' H'→Inv P nt N0 L0 B R w0 all (i::E) (ahead all 1000 [i] S) T' M' H' (listed.setIfInBounds i true) L' w' a'→k { tmps:=a'.tmps,defers:=Df } w')
 (hZ:∀ c v L' T' M' H' w',N0≤H'.length→Agree N0 M' L0 L'→Rel B R w0 L' H' w'→TR H'.length L' nt T' a→VC H'.length L' c v→Z c T' M' H'→R0 (.panic [{ v,recovered:=false }]) { tmps:=a.tmps,defers:=Df } w'):wpOpIn (FW r) 0 P all.toArray R0 i k { tmps:=a.tmps,defers:=Df } w:=by
 have hlt:i<listed.size:=by rw [h.size];exact (List.getElem?_eq_some_iff.1 hi).1
 have htr:=h.looks hs hi hp
 have hiE:i∉E:=fun he=>by rw [h.eff i o he hi hq] at hni;cases hni
 have hlen:all.length≤100:=Nat.le_of_lt hs.small
 have hdown:∀ (j:Nat) (o':Oper),(listed.setIfInBounds i true).getD j false=true→all[j]? = some o'→∀ p∈preds o',(listed.setIfInBounds i true).getD p false=true:=by
  intro j o' hj ho' p hp'
  rw [getD_set hlt] at hj ⊢
  split
  · rfl
  · split at hj
    · rename_i e;subst e;rw [hi] at ho';cases ho';exact hp p hp'
    · exact h.down j o' hj ho' p hp'
 have hsure:∀ j∈ahead all 1000 [i] S,(listed.setIfInBounds i true).getD j false=true :=
  ahead_spec (D:=fun j=>(listed.setIfInBounds i true).getD j false=true) hdown 1000 [i] S (fun j hj=>by simp at hj;rw [hj,getD_set hlt,if_pos rfl]) (fun j hj=>by
   rw [getD_set hlt];split
   · rfl
   · exact h.sure j hj)
 have after:∀ (v:Value) (w':World) (L':Nat→Loc) (x:AV) (T2:Tm) (M1 M2:List Nat) (H':List PO),(∀ d0,o.dst=some d0→d0<nt)→(∀ t,lk T2 t=if o.dst=some t then x else killA M1 (lk T t))→VA H'.length L' x v→Agree H.length M1 L L'→H.length≤H'.length →
  Rel B R w0 L' H' w'→Agree N0 M2 L0 L'→checks P all E (ahead all 1000 [i] S) T2 H' (D T2 M2 H') numbers all →
  D T2 M2 H'∧Inv P nt N0 L0 B R w0 all (i::E) (ahead all 1000 [i] S) T2 M2 H' (listed.setIfInBounds i true) L' w' (a.put o.dst v):=by
  intro v w' L' x T2 M1 M2 H' hbd hT hxv hL hle hrel hag hch
  rw [numbers_eq] at hch
  obtain ⟨hD,hc⟩:=checks_spec hlen hch
  refine ⟨hD,by simpa using h.size,fun j hj=>?_,hdown,fun j o' hj ho' p hp'=>?_,fun j o' hj ho' hq'=>?_,hsure,fun t=>?_,fun j o' d hj ho' hd=>?_,?_,?_,fun j o' hj hjl ho'=>?_,by have:=h.hN;omega,hag,hrel⟩
  · rw [getD_set hlt] at hj
    split at hj
    · rename_i e;rw [e];simp
    · exact List.mem_cons_of_mem _ (h.sub j hj)
  · rcases List.mem_cons.1 hj with rfl | hj
    · rw [hi] at ho';cases ho';exact List.mem_cons_of_mem _ (h.sub p (hp p hp'))
    · exact List.mem_cons_of_mem _ (h.edown j o' hj ho' p hp')
  · rw [getD_set hlt];split
    · rfl
    · rename_i hne
      rcases List.mem_cons.1 hj with rfl | hj
      · exact absurd rfl hne
      · exact h.eff j o' hj ho' hq'
  · by_cases ht:o.dst=some t
    · right
      rw [hT,if_pos ht,ht]
      have htl:t<a.tmps.size:=Nat.lt_of_lt_of_le (hbd t ht) h.room
      simpa [Act.put,Array.getD_eq_getD_getElem?,htl] using hxv
    · rcases h.tr t with ⟨j,oj,h1,h2,h3,h4⟩ | hv
      · left
        refine ⟨j,oj,List.mem_cons_of_mem _ h1,?_,h3,h4⟩
        rw [getD_set hlt,if_neg (show ¬j=i from fun e=>hiE (by rw [←e];exact h1))]
        exact h2
      · right
        have:(a.put o.dst v).tmps.getD t undef=a.tmps.getD t undef:=by
         cases hd:o.dst with
         | none=>rfl
         | some d =>
           have hne:d≠t:=fun e=>ht (by rw [hd,e])
           simp [Act.put,Array.getElem?_setIfInBounds_ne hne]
        rw [this,hT,if_neg ht]
        exact hv.mono hle hL
  · rcases List.mem_cons.1 hj with rfl | hj
    · rw [hi] at ho';cases ho';exact hbd d hd
    · exact h.bound j o' d hj ho' hd
  · cases o.dst <;> exact h.defers
  · cases hd:o.dst with
    | none=>exact h.room
    | some d=>have:=h.room;simpa [Act.put] using this
  · have hjl':=hjl
    rw [getD_set hlt] at hjl
    split at hjl
    · cases hjl
    · rename_i hne
      rcases List.mem_cons.1 hj with rfl | hj
      · exact absurd rfl hne
      · have hqj:quiet o'.op=true:=by
         cases hqj:quiet o'.op with
         | true=>rfl
         | false=>rw [h.eff j o' hj ho' hqj] at hjl;cases hjl
        have:=hc j o' ho' hqj (by simpa using hj) (fun hS=>by rw [Nat.zero_add] at hS;rw [hsure j hS] at hjl';cases hjl')
        exact this
 obtain ⟨U0,b0,hU0,hk0,hall⟩:=guarded_det hg
 -- the same,with the operands alone
 have hg2:=guarded_congr (all:=all) (T':=(o.looksAt all.toArray).map fun t=>(t,lk T t)) (k':=fun U b=>b=b0) (fun t ht=>by rw [lk_looks,if_pos ht]) (fun b U U' hU hU' hh=>hh) (hall (fun U b=>b=b0) rfl)
 obtain ⟨U,b,hU,hw,rfl⟩:=guarded_wanted htr hg2
 have hio:(all.toArray)[i]? = some o:=by simpa using hi
 unfold wpOpIn
 simp only [hio,hw]
 cases b with
 | false =>
   rw [if_neg (by simp)]
   refine ⟨fun _ _=>trivial,?_⟩
   rw [put_defers]
   obtain ⟨T2,hc,hT,hbd⟩:=putT_at hk0
   obtain ⟨hD,hI⟩:=after undef w L undefA T2 [] M H hbd (fun t=>by rw [hT,hU0,killA_nil]) ⟨[],rfl,rfl⟩ (Agree.refl _ _ _) (Nat.le_refl _) h.rel h.hag hc
   exact hk _ _ L T2 M H hD hI
 | true =>
   rw [if_pos rfl]
   have haop:=opD_congr (all:=all) (T:=(o.looksAt all.toArray).map fun t=>(t,lk T t)) (fun t ht=>by rw [hU0,lk_looks,if_pos ht]) hk0
   have hnd:∀ c,o.op≠.defer c:=fun c e=>by rw [e] at haop;exact haop
   have hout:=aopD_sound h.rel htr o haop
   have next:∀ v w',Left B R w0 H.length L (fun v M' H'=>killT M' U0 fun T1=>putT nt T1 o.dst v fun T2=>addM M' M fun M2=>checks P all E (ahead all 1000 [i] S) T2 H' (D T2 M2 H') numbers all) v w'→k (({ tmps:=a.tmps,defers:=Df }:Act).put o.dst v) w':=by
    rintro v w' ⟨L',x,M',H',h1,h2,h3,h4,h5⟩
    obtain ⟨T1,h5,hT1⟩:=killT_at h5
    obtain ⟨T2,h5,hT2,hbd⟩:=putT_at h5
    rw [addM_eq] at h5
    obtain ⟨hD,hI⟩:=after v w' L' x T2 M' (M'++M) H' hbd (fun t=>by rw [hT2,hT1,hU0]) h3 h1 h2 h4 (h.hag.trans h.hN h1) h5
    rw [put_defers]
    exact hk _ _ L' T2 _ H' hD hI
   have hdrop:TR H.length L nt (dropT ds U0) a:=⟨fun t=>by
    rw [lk_dropT]
    split
    · trivial
    · rename_i ht
      rw [hU0]
      rcases h.tr t with ⟨j,oj,_,_,h3,h4⟩ | hv
      · exact absurd (hds j oj t h3 h4) ht
      · exact hv,h.defers,h.room⟩
   have pan:∀ v w',LeftP B R w0 H.length L (fun c M' H'=>killT M' (dropT ds U0) fun T1=>addM M' M fun M2=>Z c T1 M2 H') v w'→R0 (.panic [{ v,recovered:=false }]) { tmps:=a.tmps,defers:=Df } w':=by
    rintro v w' ⟨L',c,M',H',h1,h2,h3,h4,h5⟩
    obtain ⟨T1,h5,ht1⟩:=TR.kill h5 hdrop h2 h1
    rw [addM_eq] at h5
    exact hZ c v L' T1 _ H' w' (by have:=h.hN;omega) (h.hag.trans h.hN h1) h4 ht1 h3 h5
   refine ⟨fun _ _=>trivial,?_⟩
   rw [Oper.semAt_eq _ _ _ hnd]
   rcases hout with ⟨v,w',hr,hleft⟩ | ⟨f,args,hr,hcall⟩ | ⟨v,w',hr,hp⟩
   · rcases hr with hr | ⟨hr,rfl⟩
     · rw [show (execOp ({ tmps:=a.tmps,defers:=Df }:Act).eval o).run P w=_ from hr];exact next v w' hleft
     · rw [show (execOp ({ tmps:=a.tmps,defers:=Df }:Act).eval o).run P w=_ from hr];exact next undef w' hleft
   · rw [show (execOp ({ tmps:=a.tmps,defers:=Df }:Act).eval o).run P w=_ from hr]
     refine ⟨fun hd=>(by cases r <;> cases hd),calls_FW r _ (hcall.mono ?_)⟩
     rintro e w' (⟨v,rfl,hleft⟩ | ⟨v,rfl,hp⟩)
     · exact next v w' hleft
     · exact pan v w' hp
   · rw [show (execOp ({ tmps:=a.tmps,defers:=Df }:Act).eval o).run P w=_ from hr]
     exact pan v w' hp

def drawnP (P:Program) (nt:Nat) (all:List Oper) (Z:CV→Tm→List Nat→List PO→Prop):Nat→List Nat→List Nat→Tm→List Nat→List PO→KT→Prop
 | 0,_,_,_,_,_,_=>False
 | fuel+1,E,S,T,M,H,K =>
   match nextQ E numbers all with
   | some (i,o)=>guarded all T o fun T' b =>
     match b with
     | true=>aop P T' H (fun v _ _=>putT nt T' o.dst v fun T''=>drawnP P nt all Z fuel (i::E) S T'' M H K) o.op
     | false=>putT nt T' o.dst undefA fun T''=>drawnP P nt all Z fuel (i::E) S T'' M H K
   | none =>
     match effs E numbers all with
     | []=>bif hasAll E (numbers.take all.length) then K T M H else False
     | R=>allR (fun (x:Nat×Oper)=>guarded all T x.2 fun T' b =>
       match b with
       | true=>aopD P T' H (fun v M' H'=>killT M' T' fun T1=>putT nt T1 x.2.dst v fun T2=>addM M' M fun M2 =>
          checks P all E (ahead all 1000 [x.1] S) T2 H' (drawnP P nt all Z fuel (x.1::E) (ahead all 1000 [x.1] S) T2 M2 H' K) numbers all)
          (fun c M' H'=>killT M' (dropT (dsts all) T') fun T1=>addM M' M fun M2=>Z c T1 M2 H') x.2.op
       | false=>putT nt T' x.2.dst undefA fun T2 =>
          checks P all E (ahead all 1000 [x.1] S) T2 H (drawnP P nt all Z fuel (x.1::E) (ahead all 1000 [x.1] S) T2 M H K) numbers all) R

theorem drawnP_sound {r:Option Nat} {Df:List Deferred} {R0:Exit→Act→World→Prop} {Z:CV→Tm→List Nat→List PO→Prop} {K:KT} (hs:SSA all) (hQ:∀ L' T' M' H' w' a',N0≤H'.length→Agree N0 M' L0 L'→Rel B R w0 L' H' w'→TR H'.length L' nt T' a'→K T' M' H'→R0 .normal { tmps:=a'.tmps,defers:=Df } w')
 (hZ:∀ c v L' T' M' H' w' a',N0≤H'.length→Agree N0 M' L0 L'→Rel B R w0 L' H' w'→TR H'.length L' nt T' a'→VC H'.length L' c v→Z c T' M' H'→R0 (.panic [{ v,recovered:=false }]) { tmps:=a'.tmps,defers:=Df } w') :
 ∀ (fuel:Nat) (E S:List Nat) (T:Tm) (M:List Nat) (H:List PO),drawnP P nt all Z fuel E S T M H K→∀ (m:Nat) (listed:Array Bool) (L:Nat→Loc) (w:World) (a:Act),listed.toList.count false=m →
   Inv P nt N0 L0 B R w0 all E S T M H listed L w a→wpAnyIn (FW r) 0 P .any all.toArray R0 m listed { tmps:=a.tmps,defers:=Df } w:=by
 have hlen:all.length≤100:=Nat.le_of_lt hs.small
 intro fuel
 induction fuel with
 | zero=>intro E S T M H h;exact h.elim
 | succ fuel ih =>
   intro E S T M H h
   simp only [drawnP] at h
   split at h
   · rename_i i o hnx
     rw [numbers_eq] at hnx
     obtain ⟨_,hi,hq,hn,hp⟩:=nextQ_spec hnx
     simp only [Nat.sub_zero] at hi
     intro m listed L w a hm hI
     obtain ⟨T',hd,hI'⟩:=hI.extend hs hi hq hn hp h
     exact ih _ _ _ _ _ hd m listed L w a hm hI'
   · rename_i hnx
     rw [numbers_eq] at hnx
     have hclosed:=nextQ_none hlen hnx
     simp only [Nat.zero_add] at hclosed
     intro m
     induction m with
     | zero =>
       intro listed L w a hm hI
       have hready:Region.ready .any all.toArray listed=[]:=by
        cases hr:Region.ready .any all.toArray listed with
        | nil=>rfl
        | cons j js =>
          have hj:j∈Region.ready .any all.toArray listed:=by rw [hr];simp
          obtain ⟨h0,o,ho,_⟩:=mem_ready.1 hj
          have hjl:j<listed.size:=by rw [hI.size];simpa using (Array.getElem?_eq_some_iff.1 ho).1
          have:listed.toList[j]? = some false:=by simpa [hjl] using h0
          have:=List.count_pos_iff.2 (List.mem_of_getElem? this)
          omega
       refine ⟨hready,?_⟩
       obtain ⟨_,he,ht⟩:=hI.done hs hready
       rw [he] at h
       simp only [cond_eq_ite] at h
       split at h
       · exact hQ L T M H w a hI.hN hI.hag hI.rel ht h
       · exact h.elim
     | succ m ihm =>
       intro listed L w a hm hI
       refine ⟨fun hready=>?_,fun i hi=>?_⟩
       · obtain ⟨_,he,ht⟩:=hI.done hs hready
         rw [he] at h
         simp only [cond_eq_ite] at h
         split at h
         · exact hQ L T M H w a hI.hN hI.hag hI.rel ht h
         · exact h.elim
       · obtain ⟨h0,o,ho,hedge⟩:=mem_ready.1 hi
         have hio:all[i]? = some o:=by simpa using ho
         have hil:i<listed.size:=by rw [hI.size];exact (List.getElem?_eq_some_iff.1 hio).1
         have hni:listed.getD i false=false:=by simpa [hil] using h0
         have hp:∀ p∈preds o,listed.getD p false=true:=fun p hp=>by
          obtain ⟨e,he,hb,rfl⟩:=mem_preds.1 hp
          exact hedge e he hb
         have hcnt:(listed.setIfInBounds i true).toList.count false=m:=by
          have:=count_set (l:=listed.toList) (i:=i) (by simpa [hil] using h0)
          simp only [Array.toList_setIfInBounds]
          omega
         cases hq:quiet o.op with
         | true =>
           exact hI.quiet_stepX hs hio (hclosed i o hio hq fun p hp'=>hI.sub p (hp p hp')) hni hp fun a' w' L' hI'=>ihm _ L' w' a' hcnt hI'
         | false =>
           have hiE:i∉E:=fun he=>by rw [hI.eff i o he hio hq] at hni;cases hni
           have hmem:=effs_spec (E:=E) (s:=0) hlen i o hio hq (by simpa using hiE) fun p hp'=>hI.sub p (hp p hp')
           rw [←numbers_eq,Nat.zero_add] at hmem
           split at h
           · rename_i he;rw [he] at hmem;cases hmem
           · have hb:=allR_spec h _ hmem
             exact hI.eff_stepX (ds:=dsts all) (fun j o' d h1 h2=>dsts_mem h1 h2) hs hio hq hni hp hb (fun a' w' L' T' M' H' hD hI'=>ih _ _ _ _ _ hD m _ L' w' a' hcnt hI') fun c v L' T' M' H' w' g1 g2 g3 g4 g5 g6=>hZ c v L' T' M' H' w' a g1 g2 g3 g4 g5 g6

theorem SX.draw {Df:List Deferred} {id:Nat} {ops:Array Oper} {Q:QX} (hf:P.follows .mixedOrders=true) (hs:ssa ops.toList=true)
 (h:drawnP P nt ops.toList (fun c T' M' H'=>Q (.panic c) T' M' H') 400 [] [] T M H fun T' M' H'=>Q .normal T' M' H'):SX P nt N0 Df (.region id ops true) T M H Q:=by
 refine ⟨fun r B R w0 L0 L w a R0 h1 h2 h3 h4 h5=>wpIn_region_any hf ?_⟩
 have hc:(Array.replicate ops.size false).toList.count false=ops.size:=by simp
 obtain ⟨tm,df⟩:=a
 obtain ⟨ht,rfl⟩:=h4
 dsimp only at ht
 have:=drawnP_sound (P:=P) (B:=B) (R:=R) (w0:=w0) (nt:=nt) (N0:=N0) (L0:=L0) (r:=r) (Df:=df) (R0:=R0) (ssa_spec hs)
  (fun L' T' M' H' w' a' k1 k2 k3 k4 k5=>h5 .normal _ L' T' M' H' w' _ k1 k2 k3 ⟨⟨k4.get,rfl,k4.room⟩,rfl⟩ rfl k5)
  (fun c v L' T' M' H' w' a' k1 k2 k3 k4 kv k5=>h5 (.panic c) _ L' T' M' H' w' _ k1 k2 k3 ⟨⟨k4.get,rfl,k4.room⟩,rfl⟩ ⟨v,rfl,kv⟩ k5) 400 [] [] T M H h
  ops.size (Array.replicate ops.size false) L { w with drawn:=w.drawn+1 } { tmps:=tm,defers:=[] } hc
 have hop:ops.toList.toArray=ops:=by simp
 rw [hop] at this
 refine this ?_
 have hno:∀ i,(Array.replicate ops.size false).getD i false=false:=fun i=>by
  simp only [Array.getD_eq_getD_getElem?,Array.getElem?_replicate]
  split <;> rfl
 exact ⟨(by simp),fun i hi=>(by rw [hno] at hi;cases hi),fun i o hi=>(by rw [hno] at hi;cases hi),fun i o hi=>(by simp at hi),fun i o hi=>(by simp at hi),fun i hi=>(by simp at hi),fun t=>.inr (ht.get t),fun i o d hi=>(by simp at hi),
  rfl,ht.room,fun i o hi=>(by simp at hi),h1,h2,h3.drew⟩

abbrev DTP:=List Nat→List Nat→Tm→List Nat→List PO→KT→Prop

def drawStepP (P:Program) (nt:Nat) (all:List Oper) (Z:CV→Tm→List Nat→List PO→Prop) (ih:DTP):DTP:=fun E S T M H K =>
    match nextQ E numbers all with
    | some (i,o)=>guarded all T o fun T' b =>
      match b with
      | true=>aop P T' H (fun v _ _=>putT nt T' o.dst v fun T''=>ih (i::E) S T'' M H K) o.op
      | false=>putT nt T' o.dst undefA fun T''=>ih (i::E) S T'' M H K
    | none =>
      match effs E numbers all with
      | []=>bif hasAll E (numbers.take all.length) then K T M H else False
      | R=>allR (fun (x:Nat×Oper)=>guarded all T x.2 fun T' b =>
        match b with
        | true=>aopD P T' H (fun v M' H'=>killT M' T' fun T1=>putT nt T1 x.2.dst v fun T2=>addM M' M fun M2 =>
           checksR P all E (ahead all 1000 [x.1] S) T2 H' (ih (x.1::E) (ahead all 1000 [x.1] S) T2 M2 H' K) numbers all)
           (fun c M' H'=>killT M' (dropT (dsts all) T') fun T1=>addM M' M fun M2=>Z c T1 M2 H') x.2.op
        | false=>putT nt T' x.2.dst undefA fun T2 =>
           checksR P all E (ahead all 1000 [x.1] S) T2 H (ih (x.1::E) (ahead all 1000 [x.1] S) T2 M H K) numbers all) R

noncomputable def drawnPR (P:Program) (nt:Nat) (all:List Oper) (Z:CV→Tm→List Nat→List PO→Prop) (n:Nat):DTP :=
 @Nat.rec (fun _=>DTP) (fun _ _ _ _ _ _=>False) (fun _ ih=>drawStepP P nt all Z ih) n

theorem drawnPR_eq (P:Program) (nt:Nat) (all:List Oper) (Z:CV→Tm→List Nat→List PO→Prop):∀ (n:Nat),drawnPR P nt all Z n=drawnP P nt all Z n
 | 0=>by funext E S T M H K;rfl
 | n+1=>by
   have ih:=drawnPR_eq P nt all Z n
   funext E S T M H K
   show drawStepP P nt all Z (drawnPR P nt all Z n) E S T M H K=_
   rw [ih]
   unfold drawStepP
   simp only [checksR_eq]
   rfl

theorem SX.drawR {Df:List Deferred} {id:Nat} {ops:Array Oper} {Q:QX} (hf:P.follows .mixedOrders=true) (hs:ssa ops.toList=true)
 (h:drawnPR P nt ops.toList (fun c T' M' H'=>Q (.panic c) T' M' H') 400 [] [] T M H fun T' M' H'=>Q .normal T' M' H'):SX P nt N0 Df (.region id ops true) T M H Q :=
 SX.draw hf hs (by rw [drawnPR_eq] at h;exact h)

end

end Go.Mac
end

section
open Go Go.Proofs Go.Mac
set_option maxRecDepth 100000
namespace Go.Mac
section
section

variable {K:KP} {J:KJ}

theorem mustInt {x:Int} (h:K (i64 x) [] []):DoesX Tryz.prog 111 [i64 x,cv .niliface] [] K J:=by
 refine doesX Tryz.func111 rfl (by decide) ?_
 exact h

theorem mustInt_bad {x:Int} {t:TypeId} {e:FC} (h:J (.ifs 89 (.iface t (.f e))) [] []):DoesX Tryz.prog 111 [i64 x,cv (.iface t (.f e))] [] K J:=by
 refine doesX Tryz.func111 rfl (by decide) ?_
 exact ⟨_,rfl,h⟩

end
end
end Go.Mac
end
section
namespace Go.Mac
open Go

theorem VAs.mono {N N':Nat} {L L':Nat→Loc} {M:List Nat} (hN:N≤N') (hL:Agree N M L L'):∀ {xs:List AV} {vs:List Value},VAs N L xs vs→VAs N' L' (xs.map (killA M)) vs
 | [],_,h=>h
 | _::_,_,⟨y,ys,h1,h2,h3⟩=>⟨y,ys,h1,h2.mono hN hL,VAs.mono hN hL h3⟩

def noRo:List PO→Bool
 | []=>true
 | .rows true _ _::_=>false
 | .rows2 true _ _::_=>false
 | .rows2m _ _::_=>false
 | .hnd _ _ _ _::_=>false
 | .tab _ _::_=>false
 | .errv _::_=>false
 | _::os=>noRo os

theorem noRo_spec:∀ {H:List PO},noRo H=true→∀ (j:Nat) (o:PO) (l:Loc) (b:Nat),H[j]? = some o→¬Ro o l b
 | [],_,j,o,l,b,hj=>by simp at hj
 | x::H,h,j,o,l,b,hj=>by
   cases j with
   | zero =>
     simp at hj;subst hj
     intro hb
     cases x with
     | one _=>exact hb
     | gone=>exact hb
     | hnd _ _ _ _=>simp [noRo] at h
     | tab _ _=>simp [noRo] at h
     | errv _=>simp [noRo] at h
     | rows2m _ _=>simp [noRo] at h
     | mp _ _ _ _=>exact hb
     | smap _ _=>exact hb
     | it _ _ _ _ _=>exact hb
     | bld _ _ _ _=>exact hb
     | rows3 _ _ _=>exact hb
     | rows ro _ _=>cases ro <;> first | exact hb | simp [noRo] at h
     | rows2 ro _ _=>cases ro <;> first | exact hb | simp [noRo] at h
   | succ j =>
     refine noRo_spec (H:=H) ?_ j o l b (by simpa using hj)
     cases x with
     | one _=>exact h
     | gone=>exact h
     | hnd _ _ _ _=>simp [noRo] at h
     | tab _ _=>simp [noRo] at h
     | errv _=>simp [noRo] at h
     | rows2m _ _=>simp [noRo] at h
     | mp _ _ _ _=>exact h
     | smap _ _=>exact h
     | it _ _ _ _ _=>exact h
     | bld _ _ _ _=>exact h
     | rows3 _ _ _=>exact h
     | rows ro _ _=>cases ro <;> first | exact h | simp [noRo] at h
     | rows2 ro _ _=>cases ro <;> first | exact h | simp [noRo] at h

theorem Does.row {P:Program} {f:FuncId} {args:List AV} {Hl:List PO} {K:KP} {ro:Bool} {sz n i:Nat} {rss:List (List (List FC))} (rs:List (List FC)) (hi:rss[i]? = some rs) (_hn:rs.length=n)
 (h:Does P f (cv (.slc 0 0 n none false)::args.map (killA [0])) (.rows true sz rs::Hl.map (killO [0])) fun x M H'=>match H' with
   | _::Hl'=>(ro || noRo Hl')=true∧K (killA [0] x) M (.rows2 ro sz rss::Hl'.map (killO [0]))
   | _=>False):Does P f (cv (.islc 0 i 0 n none false)::args) (.rows2 ro sz rss::Hl) K:=by
 refine ⟨h.fn,fun B R w0 L w vs hrel hvs=>?_⟩
 obtain ⟨v,us,rfl,⟨hlt,hh⟩,hus⟩:=hvs
 have hO:=hrel.obj 0 _ rfl
 have hilt:=(List.getElem?_eq_some_iff.1 hi).1
 have hlen:(PO.rows true sz rs::Hl.map (killO [0])).length=(PO.rows2 ro sz rss::Hl).length:=by simp
 have hag:Agree (PO.rows2 ro sz rss::Hl).length [0] L (upd L 0 ⟨(L 0).inn i,(L 0).inn⟩):=fun j _ hm=>upd_ne (by simpa using hm)
 have hown0:∀ b,Own (.rows2 ro sz rss) (L 0) b∨Ro (.rows2 ro sz rss) (L 0) b→b<w.heap.size:=fun b hb=>by
  rcases hb with hb | hb
  · exact (hrel.own 0 _ b rfl hb).2.1
  · exact hrel.size _ (hrel.sub _ (hrel.ro 0 _ b rfl hb))
 have hrel1:Rel (fun b=>B b∨(Own (.rows2 ro sz rss) (L 0) b∨Ro (.rows2 ro sz rss) (L 0) b)) (fun b=>R b∨(Own (.rows2 ro sz rss) (L 0) b∨Ro (.rows2 ro sz rss) (L 0) b)) w (upd L 0 ⟨(L 0).inn i,(L 0).inn⟩) (PO.rows true sz rs::Hl.map (killO [0])) w:=by
  refine ⟨Bel.refl _ _,fun k hk=>?_,fun j o hj=>?_,fun j o b hj hb=>?_,fun j o b hj hb=>?_,fun b hb=>?_⟩
  · rcases hk with hk | hk
    · exact hrel.size k hk
    · exact hown0 k hk
  · cases j with
    | zero =>
      simp at hj;subst hj
      obtain ⟨⟨g1,g2,g3,_,g5⟩,_⟩:=hO.2.2.2.1 i rs hi
      rw [upd_self]
      exact ⟨g1,g2,g3,fun hh=>by simp at hh,g5⟩
    | succ j =>
      simp only [List.getElem?_cons_succ,List.getElem?_map,Option.map_eq_some_iff] at hj
      obtain ⟨o0,ho0,rfl⟩:=hj
      rw [upd_ne (by omega),hlen]
      exact (hrel.obj (j+1) o0 (by simpa using ho0)).mono (Nat.le_refl _) hag fun _ _=>rfl
  · cases j with
    | zero=>simp at hj;subst hj;exact hb.elim
    | succ j =>
      simp only [List.getElem?_cons_succ,List.getElem?_map,Option.map_eq_some_iff] at hj
      obtain ⟨o0,ho0,rfl⟩:=hj
      rw [upd_ne (by omega),Own_kill] at hb
      obtain ⟨g1,g2,g3⟩:=hrel.own (j+1) o0 b (by simpa using ho0) hb
      refine ⟨fun hB=>?_,g2,fun j' o' hj' hb'=>?_⟩
      · rcases hB with hB | hB | hB
        · exact g1 hB
        · have:=g3 0 _ rfl hB;omega
        · exact g1 (hrel.sub _ (hrel.ro 0 _ b rfl hB))
      · cases j' with
        | zero=>simp at hj';subst hj';exact hb'.elim
        | succ j' =>
          simp only [List.getElem?_cons_succ,List.getElem?_map,Option.map_eq_some_iff] at hj'
          obtain ⟨o1,ho1,rfl⟩:=hj'
          rw [upd_ne (by omega),Own_kill] at hb'
          exact g3 (j'+1) o1 (by simpa using ho1) hb'
  · cases j with
    | zero =>
      simp at hj;subst hj
      rw [upd_self] at hb
      right
      cases ro
      · exact .inl (.inr ⟨i,hilt,hb.1,hb.2⟩)
      · exact .inr (.inr ⟨i,hilt,hb.1,hb.2⟩)
    | succ j =>
      simp only [List.getElem?_cons_succ,List.getElem?_map,Option.map_eq_some_iff] at hj
      obtain ⟨o0,ho0,rfl⟩:=hj
      rw [upd_ne (by omega),Ro_kill] at hb
      exact .inl (hrel.ro (j+1) o0 b (by simpa using ho0) hb)
  · rcases hb with hb | hb
    · exact .inl (hrel.sub b hb)
    · exact .inr hb
 refine (h.run _ _ w _ w (v::us) hrel1 ⟨v,us,rfl,⟨by simp,by rw [upd_self];exact hh⟩,by rw [hlen];exact VAs.mono (Nat.le_refl _) hag hus⟩).mono ?_
 rintro e w' ⟨u,he,L2,x,M,H',k1,k2,k3,k4,k5⟩
 cases H' with
 | nil=>simp at k2
 | cons o' Hl' =>
 obtain ⟨hro,k5⟩:=k5
 have hag2:Agree (o'::Hl').length [0] L2 (upd L2 0 (L 0)):=fun j _ hm=>upd_ne (by simpa using hm)
 have hag3:Agree (PO.rows2 ro sz rss::Hl).length M L (upd L2 0 (L 0)):=fun j hj hm=>by
  by_cases h0:j=0
  · subst h0;rw [upd_self]
  · rw [upd_ne h0,k1 j (by rw [hlen];exact hj) hm,upd_ne h0]
 have hlen2:(PO.rows2 ro sz rss::Hl'.map (killO [0])).length=(o'::Hl').length:=by simp
 refine ⟨u,he,upd L2 0 (L 0),killA [0] x,M,_,hag3,by rw [hlen] at k2;rw [hlen2];exact k2,by rw [hlen2];exact k3.mono (Nat.le_refl _) hag2,?_,k5⟩
 have hbel:Bel B w w':=⟨k4.below.os,k4.below.tape,k4.below.output,k4.below.size,fun k hk=>k4.below.block k (.inl hk)⟩
 refine ⟨hrel.below.trans hbel,hrel.start,fun j o hj=>?_,fun j o b hj hb=>?_,fun j o b hj hb=>?_,hrel.sub⟩
 · cases j with
   | zero =>
     simp at hj;subst hj
     rw [upd_self]
     exact (hrel.obj 0 _ rfl).mono (M:=M) (by rw [hlen] at k2;rw [hlen2];exact k2) hag3 fun b hb=>k4.below.block b (.inr hb)
   | succ j =>
     simp only [List.getElem?_cons_succ,List.getElem?_map,Option.map_eq_some_iff] at hj
     obtain ⟨o0,ho0,rfl⟩:=hj
     rw [upd_ne (by omega),hlen2]
     exact (k4.obj (j+1) o0 (by simpa using ho0)).mono (Nat.le_refl _) hag2 fun _ _=>rfl
 · cases j with
   | zero =>
     simp at hj;subst hj
     rw [upd_self] at hb
     obtain ⟨g1,g2,_⟩:=hrel.own 0 _ b rfl hb
     refine ⟨g1,Nat.lt_of_lt_of_le g2 hbel.size,fun j' o1 hj' hb'=>?_⟩
     cases j' with
     | zero=>rfl
     | succ j' =>
       simp only [List.getElem?_cons_succ,List.getElem?_map,Option.map_eq_some_iff] at hj'
       obtain ⟨o0,ho0,rfl⟩:=hj'
       rw [upd_ne (by omega),Own_kill] at hb'
       exact absurd (.inr (.inl hb)) (k4.own (j'+1) o0 b (by simpa using ho0) hb').1
   | succ j =>
     simp only [List.getElem?_cons_succ,List.getElem?_map,Option.map_eq_some_iff] at hj
     obtain ⟨o0,ho0,rfl⟩:=hj
     rw [upd_ne (by omega),Own_kill] at hb
     obtain ⟨g1,g2,g3⟩:=k4.own (j+1) o0 b (by simpa using ho0) hb
     refine ⟨fun hB=>g1 (.inl hB),g2,fun j' o1 hj' hb'=>?_⟩
     cases j' with
     | zero =>
       simp at hj';subst hj'
       rw [upd_self] at hb'
       exact absurd (.inr (.inl hb')) g1
     | succ j' =>
       simp only [List.getElem?_cons_succ,List.getElem?_map,Option.map_eq_some_iff] at hj'
       obtain ⟨o2,ho2,rfl⟩:=hj'
       rw [upd_ne (by omega),Own_kill] at hb'
       exact g3 (j'+1) o2 (by simpa using ho2) hb'
 · cases j with
   | zero =>
     simp at hj;subst hj
     rw [upd_self] at hb
     exact hrel.ro 0 _ b rfl hb
   | succ j =>
     simp only [List.getElem?_cons_succ,List.getElem?_map,Option.map_eq_some_iff] at hj
     obtain ⟨o0,ho0,rfl⟩:=hj
     rw [upd_ne (by omega),Ro_kill] at hb
     cases ro with
     | false =>
       simp only [Bool.false_or] at hro
       exact absurd hb (noRo_spec hro j o0 _ b ho0)
     | true =>
       rcases k4.ro (j+1) o0 b (by simpa using ho0) hb with hb | hb | hb
       · exact hb
       · exact hb.elim
       · exact hrel.ro 0 _ b rfl hb

end Go.Mac
end

section
namespace Go.Mac
open Go

theorem bv_toNat (a:Nat) (h:a<18446744073709551616):(BitVec.ofInt 64 (a:Int)).toNat=a:=by
 simp
 omega

theorem or_z (k:Nat) (a b:Int) (ha:0≤a) (ha':a<2 ^ k) (hb:0≤b) (hc:b*2 ^ k<18446744073709551616) (ha2:a<18446744073709551616) :
 (((BitVec.ofInt 64 a ||| BitVec.ofInt 64 (b*2 ^ k)).toNat:Nat):Int)=a+b*2 ^ k:=by
 obtain ⟨a,rfl⟩:=Int.eq_ofNat_of_zero_le ha
 obtain ⟨b,rfl⟩:=Int.eq_ofNat_of_zero_le hb
 have e:((b:Int)*2 ^ k)=((b*2 ^ k:Nat):Int):=by rw [Int.natCast_mul,Int.natCast_pow];rfl
 rw [e] at hc ⊢
 rw [BitVec.toNat_or,bv_toNat a (by omega),bv_toNat _ (by omega)]
 have ha'':a<2 ^ k:=by exact_mod_cast ha'
 have:=Nat.shiftLeft_add_eq_or_of_lt ha'' b
 rw [Nat.shiftLeft_eq] at this
 rw [Nat.or_comm,←this]
 omega

theorem and_z (k:Nat) (a m:Int) (ha:0≤a) (ha':a<18446744073709551616) (hm:m=2 ^ k-1) (hk:m<18446744073709551616) :
 (((BitVec.ofInt 64 a &&& BitVec.ofInt 64 m).toNat:Nat):Int)=a % 2 ^ k:=by
 obtain ⟨a,rfl⟩:=Int.eq_ofNat_of_zero_le ha
 have h1:1≤2 ^ k:=Nat.one_le_two_pow
 have e:m=((2 ^ k-1:Nat):Int):=by rw [hm,Int.ofNat_sub h1,Int.natCast_pow];rfl
 rw [e] at hk ⊢
 rw [BitVec.toNat_and,bv_toNat a (by omega),bv_toNat _ (by omega),Nat.and_two_pow_sub_one_eq_mod,Int.natCast_emod,Int.natCast_pow]
 rfl

end Go.Mac
end

section
open Go Go.Proofs Go.Mac

namespace Go.Mac

structure InsZ where
 op:Int
 a:Int
 b:Int
 c:Int
 d:Int

structure MoveZ where
 th:Int
 pk:Bool

abbrev rowZ (x:Int):List FC:=[.int .i64 x]
abbrev rowU (x:Int):List FC:=[.int .u64 x]
abbrev rowB (x:Int):List FC:=[.int .u8 x]
abbrev rowIns (x:InsZ):List FC:=[.int .i64 x.op,.int .i64 x.a,.int .i64 x.b,.int .i64 x.c,.int .i64 x.d]
abbrev rowMove (x:MoveZ):List FC:=[.int .i64 x.th,.bool x.pk]

theorem follows:Tryz.prog.follows .mixedOrders=true:=by decide +kernel

theorem fin {b:Bool} (h:b=true):(bl b:AV)=bl true:=congrArg bl h

end Go.Mac
end

section
open Go Go.Proofs Go.Mac

namespace Go.Mac.StrsKit

set_option maxHeartbeats 1000000 in
set_option maxRecDepth 100000 in
theorem indexByte (s:ByteArray) (c:Int) (w:World) :
 Calls Tryz.prog 199 #[.string s,.int .u8 c] w fun e w'=>e=.returned (.int .i64 (Lib.indexByte s.data.toList c.toNat.toUInt8))∧w'=w:=by
 go_enter Tryz.func199,Tryz.ntmps199
 go_wp2
 rw [run_callFunc_extern Tryz.func238 (by kernel_rfl) (by kernel_rfl) (by kernel_rfl) (e:=Extern.BytealgIndexByte.indexByte) (by kernel_rfl),Lib.run_indexByteString]
 simp only [Result.andThen]
 rw [Oper.upon_value]
 go_wp2
 go_ret
 exact ⟨rfl,rfl⟩

set_option maxHeartbeats 2000000 in
set_option maxRecDepth 100000 in
theorem index (s:ByteArray) (c:UInt8) (w:World) :
 Calls Tryz.prog 154 #[.string s,.string ⟨#[c]⟩] w fun e w'=>e=.returned (.int .i64 (Lib.indexByte s.data.toList c))∧w'=w:=by
 go_enter Tryz.func154,Tryz.ntmps154
 go_wp2_with (go_at_call 199;refine (indexByte _ _ _).mono ?_;rintro e w' ⟨rfl,rfl⟩)
 · have h:([c] == s.toList)=true:=by assumption
   go_ret
   refine ⟨?_,rfl⟩
   have e:s.data.toList=[c]:=by rw [←Lib.toList_data];exact (beq_iff_eq.1 h).symm
   rw [e]
   simp [Lib.indexByte]
 · go_ret
   exact ⟨rfl,rfl⟩

set_option maxHeartbeats 1000000 in
set_option maxRecDepth 100000 in
theorem count (s:ByteArray) (c:UInt8) (w:World) :
 Calls Tryz.prog 94 #[.string s,.string ⟨#[c]⟩] w fun e w'=>e=.returned (.int .i64 (Lib.countByte s.data.toList c))∧w'=w:=by
 go_enter Tryz.func94,Tryz.ntmps94
 go_wp2
 rw [run_callFunc_extern Tryz.func153 (by kernel_rfl) (by kernel_rfl) (by kernel_rfl) (e:=Extern.BytealgCount.count) (by kernel_rfl),Lib.run_countString]
 simp only [Result.andThen]
 rw [Oper.upon_value]
 go_wp2
 go_ret
 exact ⟨rfl,rfl⟩

end Go.Mac.StrsKit

set_option maxRecDepth 100000

namespace Go.Mac

section

variable {K:KP}

theorem strIndex (s:List UInt8) (c:UInt8) (h:K (i64 (Lib.indexByte s c)) [] []):Does Tryz.prog 154 [st s,st [c]] [] K:=by
 refine ⟨⟨_,Tryz.func154,by decide,rfl⟩,fun B R w0 L w vs hrel hvs=>?_⟩
 obtain ⟨_,_,rfl,rfl,_,_,rfl,rfl,rfl⟩:=hvs
 refine (StrsKit.index ⟨s.toArray⟩ c w).mono ?_
 rintro e w' ⟨rfl,rfl⟩
 exact ⟨_,rfl,L,i64 _,[],[],Agree.refl _ _ _,Nat.le_refl 0,rfl,hrel,h⟩

end

end Go.Mac
end
